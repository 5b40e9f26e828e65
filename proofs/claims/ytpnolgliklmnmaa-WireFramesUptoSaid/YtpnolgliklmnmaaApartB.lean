/- spencekit.ApartBytes. -/
import Derived.Test.YtpnolgliklmnmaaBag
import Derived.Test.YtpnolgliklmnmaaAgg3
namespace Go.Proofs.Ytpnolgliklmnmaa
open Go.RowKit Pl Go.Agg
set_option maxRecDepth 100000 in
set_option maxHeartbeats 1000000 in
theorem apartBytes_any (v0 : Value) (vs : List SV) (f : Nat → List UInt8) (w : World) (he : BBAt w v0 vs) (hr : RoomsOf EB w vs f) (hd : Dist vs) (hn : vs.length ≤ 4194304) (hf : ∀ j, (f j).length ≤ 8388608) :
    Calls Try.prog 17 #[v0] w fun e w' => e = .returned (.bool true) ∧ Only (SS vs) w w' := by
  have hlv := fun W => bb_len he W
  have HE := Lib.hid he
  have HR := Lib.hid hr
  have HD := Lib.hid hd
  clear he hr hd
  have hbld : ∀ W, (Instr.build 102 #[]).run Try.prog W = .ok (.agg (bagC (.slice none 0 0))) W := fun W => by kernel_rfl
  have HBLD := Lib.hid hbld
  clear hbld
  go_enter Try.func17, Try.ntmps17
  go_wp2_with (first | (with_reducible refine Agg.wpList_build0 102 rfl rfl (.agg (bagC (.slice none 0 0))) HBLD.out ?_) | (with_reducible refine Agg.wpList_box rfl 102 _ rfl (bagC (.slice none 0 0)) rfl ?_; intro g w1 hb1 hx1 hlt1))
  go_loopw [4] (fun i wr => ∃ k : Nat, k ≤ vs.length ∧ i = .int .i64 k ∧ ∃ u, Blk wr g 102 (bagC u) ∧ Own EBB (g + 1) wr u (vs.take k) ∧ Below w.heap.size w wr) (fun i _ => vs.length - (intOf i).toNat)
  case atStart => exact ⟨0, by omega, rfl, _, hb1, Own.nil _ _ _, hx1⟩
  case round =>
    clear hb1 hx1
    obtain ⟨w2, rfl⟩ : ∃ w2 : World, w2 = wr := ⟨_, rfl⟩
    obtain ⟨k, hk, rfl, u, hb, ho, hw⟩ := hrel
    have HB := Lib.hid hb
    have HO := Lib.hid ho
    have HW := Lib.hid hw
    clear hb ho hw
    by_cases hlt : k < vs.length
    · obtain ⟨v, hvk⟩ : ∃ v, vs[k]? = some v := ⟨_, List.getElem?_eq_getElem hlt⟩
      have HV := Lib.hid hvk
      obtain ⟨q, hadr, hld⟩ := bb_at (SliceOf.below HE.out HW.out) k v hvk
      have HL := Lib.hid hld
      have hkl : (vs.take k).length ≤ k := List.length_take_le _ _
      clear hvk hld
      go_wp2_with (first | (with_reducible refine Agg.wpList_loadL HL.out rfl _ rfl rfl ?_))
      refine (putBytes_any g u (vs.take k) v w2 HB.out HO.out (by omega)).mono ?_
      rintro e w3 ⟨⟨r, rfl⟩, u3, hb3, ho3, hw3⟩
      have ht : vs.take k ++ [v] = vs.take (k + 1) := by rw [List.take_add_one, HV.out]; rfl
      rw [ht] at ho3
      go_wp2_with fail
      go_roundw
      case rel => exact ⟨k + 1, by omega, by go_num, _, hb3, ho3, HW.out.trans (hw3.mono hlt1)⟩
      case measure => simp [intOf]; omega
    · obtain rfl : k = vs.length := by omega
      have ho := HO.out
      rw [List.take_length] at ho
      have hss : ∀ b, SS vs b → b < w.heap.size := HR.out.lt
      have hsep : ∀ b, u.ownBlock = some b → ¬ SS vs b := fun b hb h => by
        have h1 := (ho.block b hb).1
        have h2 := hss b h
        omega
      have hgS : ¬ SS vs g := fun h => by have := hss g h; omega
      have HA := Lib.hid (apart_any g u vs f w2 HB.out hgS ho.slice (HR.out.below HW.out) HD.out hsep hn hf)
      clear ho hss hsep hgS
      go_wp2_with fail
      refine HA.out.mono ?_
      rintro e w3 ⟨rfl, h3, _⟩
      go_wp2_with fail
      go_ret
      exact ⟨rfl, (Only.of_below HW.out).trans h3 (fun _ _ h => h)⟩
end Go.Proofs.Ytpnolgliklmnmaa
