/- text.shown -/
import Derived.Test.YtfgjepfmcmppaaaText
import Derived.Test.YtfgjepfmcmppaaaConv
namespace Go.Proofs.Ytfgjepfmcmppaaa
open Go.RowKit Pl Go.Agg
theorem ret_str {a b : List UInt8} (h : a = b) : Ending.returned (.string ⟨a.toArray⟩) = .returned (.string ⟨b.toArray⟩) := by rw [h]
def hexA : List UInt8 := [48, 49, 50, 51, 52, 53, 54, 55, 56, 57, 97, 98, 99, 100, 101, 102]
theorem hexA_get : ∀ n, n < 16 → hexA[n]? = some (hexd n) := by decide
theorem hex_index (n : Nat) (hn : n < 16) (W : World) : (Instr.index 9 (.string ⟨#[48, 49, 50, 51, 52, 53, 54, 55, 56, 57, 97, 98, 99, 100, 101, 102]⟩) (.int .u8 (n : Int))).run Try.prog W = .ok (.int .u8 ((hexd n).toNat : Int)) W :=
  Agg.run_index_str (s := hexA) W Try.underlying9 (hexA_get n hn)
theorem and15 : ∀ n : Nat, n < 256 → bits .and .u8 (n : Int) 15 = ((n % 16 : Nat) : Int) := by decide +kernel
set_option maxRecDepth 100000 in
set_option maxHeartbeats 2000000 in
theorem shown_any (v : Value) (b : List UInt8) (hl : b.length ≤ 1048576) (w : World) (hb : BytesAt w v b) :
    Calls Try.prog 43 #[v] w fun e w' => e = .returned (.string ⟨(digs16 b).toArray⟩) ∧ Below w.heap.size w w' := by
  have hlb := bytes_len hb
  have HB := Lib.hid hb
  clear hb
  by_cases h0 : b = []
  · subst h0
    go_enter Try.func43, Try.ntmps43
    go_wp2_with fail
    go_ret
    exact ⟨rfl, Below.refl _ _⟩
  · have hq : ((b.length : Int) == 0) = false := by
      rw [beq_eq_false_iff_ne]
      have := List.length_pos_iff.2 h0
      omega
    have HD : Hid (digs16 b = hexs b) := Lib.hid (by rw [digs16, if_neg h0])
    clear h0
    go_enter Try.func43, Try.ntmps43
    go_wp2_with (first | (with_reducible refine Agg.wpList_make0 (base := w.heap.size) EB rfl .i64 .i64 _ (2 * b.length) rfl rfl (by omega) (by decide) (Nat.le_refl _) ?_; intro v1 w1 ho1 hx1))
    go_loopw [3, 15] (fun out i wr => ∃ k : Nat, k ≤ b.length ∧ i = .int .i64 k ∧ Own EB w.heap.size wr out (hexs (b.take k)) ∧ Below w.heap.size w wr) (fun _ i _ => b.length - (intOf i).toNat)
    case atStart => exact ⟨0, by omega, rfl, ho1, hx1⟩
    case round =>
      clear ho1 hx1
      obtain ⟨w2, rfl⟩ : ∃ w2 : World, w2 = wr := ⟨_, rfl⟩
      obtain ⟨k, hk, rfl, hown, hw⟩ := hrel
      have HOWN := Lib.hid hown
      clear hown
      by_cases hlt : k < b.length
      · obtain ⟨c, hck⟩ : ∃ c, b[k]? = some c := ⟨_, List.getElem?_eq_getElem hlt⟩
        obtain ⟨p, hadr, hld⟩ := byte_at (HB.out.below hw) k c hck
        have HL := Lib.hid hld
        have HS := Lib.hid (hexs_succ hck)
        have hc0 := c.toNat_lt
        have hhl := hexs_length (b.take k)
        have hkl : (b.take k).length ≤ k := List.length_take_le _ _
        clear hld hck
        go_wp2_with (first | (with_reducible refine Agg.wpList_loadL HL.out (by kernel_rfl) _ rfl rfl ?_))
        try simp only [Act.put, List.setIfInBounds_toArray, List.set_cons_succ, List.set_cons_zero]
        have hi1 : ∀ W, (Instr.index 9 (.string ⟨#[48, 49, 50, 51, 52, 53, 54, 55, 56, 57, 97, 98, 99, 100, 101, 102]⟩) (.int .u8 ((c.toNat : Int) / 16))).run Try.prog W = .ok (.int .u8 ((hexd (c.toNat / 16)).toNat : Int)) W := fun W => hex_index (c.toNat / 16) (by omega) W
        have hi2 : ∀ W, (Instr.index 9 (.string ⟨#[48, 49, 50, 51, 52, 53, 54, 55, 56, 57, 97, 98, 99, 100, 101, 102]⟩) (.int .u8 (bits .and .u8 (c.toNat : Int) 15))).run Try.prog W = .ok (.int .u8 ((hexd (c.toNat % 16)).toNat : Int)) W := fun W => by rw [and15 _ hc0]; exact hex_index (c.toNat % 16) (by omega) W
        have hbs : ∀ W, (Instr.buildSlice 23 2 #[(0, .int .u8 ((hexd (c.toNat / 16)).toNat : Int)), (1, .int .u8 ((hexd (c.toNat % 16)).toNat : Int))]).run Try.prog W = _ := fun W => Agg.run_slice_two (E := EB) (hexd (c.toNat / 16)) (hexd (c.toNat % 16)) W
        have hx2 : Below w2.heap.size w2 (w2.drew.alloc (.cells ((EB.val (hexd (c.toNat / 16))).cells ++ (EB.val (hexd (c.toNat % 16))).cells) 5)) := ((Below.refl w2.heap.size w2).drew).alloc (Nat.le_refl _) _
        have HO2 := Lib.hid (HOWN.out.below hx2)
        have HM2 : Hid (SliceOf EB (w2.drew.alloc (.cells ((EB.val (hexd (c.toNat / 16))).cells ++ (EB.val (hexd (c.toNat % 16))).cells) 5)) (.slice (some ⟨w2.heap.size, 0, none⟩) 2 2) [hexd (c.toNat / 16), hexd (c.toNat % 16)]) := Lib.hid (slice_of_block2 (Blk.new w2.drew 5 _))
        have hbase : w.heap.size ≤ (w2.drew.alloc (.cells ((EB.val (hexd (c.toNat / 16))).cells ++ (EB.val (hexd (c.toNat % 16))).cells) 5)).heap.size := Nat.le_trans hw.size hx2.size
        have h63 : (hexs (b.take k)).length + [hexd (c.toNat / 16), hexd (c.toNat % 16)].length ≤ 1099511627776 / 8 := by rw [hhl]; simp; omega
        have HX2 := Lib.hid hx2
        clear hx2
        go_region_law ((refine Agg.step_appendS (E := EB) (base := w.heap.size) rfl _ _ rfl _ rfl rfl [hexd (c.toNat / 16), hexd (c.toNat % 16)] HO2.out HM2.out h63 (by decide) hbase ?_; intro v3 w3 ho3 hp3))
        all_goals
          have hP := hp3.below w.heap.size (Nat.le_refl _) hbase
          go_wp2_with fail
          go_roundw
          case rel => exact ⟨k + 1, by omega, by go_num, by rw [HS.out]; exact ho3, (hw.trans (HX2.out.mono hw.size)).trans hP⟩
          case measure => simp [intOf]; omega
      · obtain rfl : k = b.length := by omega
        have ho := HOWN.out
        rw [List.take_length] at ho
        have HO := Lib.hid ho.slice
        clear ho
        go_wp2_with (first | (with_reducible refine wpList_toStr HO.out _ rfl (by kernel_rfl) rfl ?_))
        go_ret
        exact ⟨ret_str HD.out.symm, hw⟩
end Go.Proofs.Ytfgjepfmcmppaaa
