/- spenceref01.Number, spenceref28.Frame. -/
import Derived.Test.YtpnolgliklmnmaaMaker
import Derived.Test.YtpnolgliklmnmaaWire
import Derived.Deep.RegionHeld3
namespace Go.Proofs.Ytpnolgliklmnmaa
open Go.RowKit Pl Go.Agg
set_option maxRecDepth 100000 in
set_option maxHeartbeats 1000000 in
theorem refNumber_any (n : Nat) (w : World) (hn : n ≤ 1099511627776) :
    Calls Try.prog 39 #[.int .i64 (n : Int)] w fun e w' => ∃ v, e = .returned v ∧ Own EB w.heap.size w' v (encN n) ∧ Below w.heap.size w w' := by
  go_enter Try.func39, Try.ntmps39
  go_wp2_with fail
  go_loopw [0, 3] (fun x out wr => ∃ k : Nat, x = .int .i64 (k : Int) ∧ k ≤ 1099511627776 ∧ ∃ bs, Own EB w.heap.size wr out bs ∧ bs ++ encN k = encN n ∧ Below w.heap.size w wr) (fun x _ _ => (intOf x).toNat)
  case atStart => exact ⟨n, rfl, hn, [], Own.nil _ _ _, rfl, Below.refl _ _⟩
  case round =>
    obtain ⟨w1, rfl⟩ : ∃ w1 : World, w1 = wr := ⟨_, rfl⟩
    obtain ⟨k, rfl, hk, bs, ho, heq, hw⟩ := hrel
    have hbs : bs.length ≤ 6 := by
      have h1 := congrArg List.length heq
      have h2 := encN_len hn
      simp only [List.length_append] at h1
      omega
    have h63 : bs.length + 1 ≤ 1099511627776 / 8 := by omega
    have hsz := hw.size
    have HO := Lib.hid ho
    have HEQ := Lib.hid heq
    have HW := Lib.hid hw
    clear ho heq hw
    by_cases hlt : 128 ≤ k
    · have hI : (128 : Int) ≤ (k : Int) := by omega
      obtain ⟨c, hc⟩ : ∃ c : UInt8, c.toNat = k % 128 + 128 := ⟨UInt8.ofNat (k % 128 + 128), by simp; omega⟩
      have hcc : (k : Int) % 128 + 128 = (c.toNat : Int) := by omega
      have HE : Hid (bs ++ [c] ++ encN (k / 128) = encN n) := Lib.hid (by
        have e : UInt8.ofNat (k % 128 + 128) = c := by rw [← hc]; simp
        rw [← HEQ.out, encN_ge hlt, e, List.append_assoc]; rfl)
      clear hlt hc
      go_wp2_with (first | (refine Agg.wpList_push (E := EB) (base := w.heap.size) rfl rfl 11 rfl _ rfl _ rfl (c) rfl (fun _ => rfl) (by simp) HO.out h63 (by decide) hsz ?_; intro u5 v5 w5 ho5 hp5; have HO5 := Lib.hid ho5; have HP5 := Lib.hid (HW.out.trans (hp5.below w.heap.size (Nat.le_refl _) hsz)); clear ho5 hp5))
      go_roundw
      case rel => exact ⟨k / 128, by go_num, by omega, _, HO5.out, HE.out, HP5.out⟩
      case measure => simp [intOf]; omega
    · obtain ⟨c, rfl⟩ : ∃ c : UInt8, k = c.toNat := ⟨UInt8.ofNat k, by simp; omega⟩
      have hI : ¬ (128 : Int) ≤ (c.toNat : Int) := by omega
      have HE : Hid (bs ++ [c] = encN n) := Lib.hid (by rw [← HEQ.out, encN_lt (by omega), UInt8.ofNat_toNat])
      clear hlt
      go_wp2_with (first | (refine Agg.wpList_push (E := EB) (base := w.heap.size) rfl rfl 18 rfl _ rfl _ rfl (c) rfl (fun _ => rfl) (by simp) HO.out h63 (by decide) hsz ?_; intro u5 v5 w5 ho5 hp5; have HO5 := Lib.hid ho5; have HP5 := Lib.hid (HW.out.trans (hp5.below w.heap.size (Nat.le_refl _) hsz)); clear ho5 hp5))
      go_ret
      exact ⟨_, rfl, by rw [← HE.out]; exact HO5.out, HP5.out⟩
theorem bb_cell {w : World} {v : Value} {l : List SV} (h : BBAt w v l) (k : Nat) (x : SV) (hx : l[k]? = some x) :
    ∃ p : Addr, (∀ W, (Instr.indexAt 22 v (.int .i64 (k : Int))).run Try.prog W = .ok (.pointer (some p)) W) ∧ p.block < w.heap.size ∧ w.cell? p = some x.1 ∧ LoadsL Try.prog w 23 (some p) x.1 := by
  obtain ⟨p, h1, h2, h3, h4⟩ := h.at_ k x hx
  refine ⟨p, h1, h2, ?_, h4⟩
  have hc : (EBB.val x).cells = #[x.1] := sv_cells x
  have := h3 0 x.1 (by rw [hc]; rfl)
  rwa [show p.add 0 = p from rfl] at this
set_option maxRecDepth 100000 in
set_option maxHeartbeats 2000000 in
theorem refFrame_any (x : Value) (vs : List SV) (ls : List (List UInt8)) (w : World) (hx : BBAt w x vs) (hr : RowsIn w vs ls) (hall : ∀ l ∈ ls, l.length ≤ 65536) (hf : (framed ls).length ≤ 2097152) (hll : ls.length ≤ 1048576) :
    Calls Try.prog 12 #[x] w fun e w' => ∃ v', e = .returned (.tuple #[v', .int .i64 0]) ∧ Own EB w.heap.size w' v' (framed ls) ∧ Below w.heap.size w w' := by
  have hlx := fun W => bb_len hx W
  have HX := Lib.hid hx
  have HR := Lib.hid hr
  have hvl := hr.len
  clear hx hr
  rw [hvl] at hlx
  go_enter Try.func12, Try.ntmps12
  go_wp2_with fail
  go_loopw [4, 5] (fun out i wr => ∃ k : Nat, k ≤ ls.length ∧ i = .int .i64 (k : Int) ∧ Own EB w.heap.size wr out (framed (ls.take k)) ∧ Below w.heap.size w wr) (fun _ i _ => ls.length - (intOf i).toNat)
  case atStart => exact ⟨0, by omega, rfl, by simpa [framed] using Own.nil EB w.heap.size w, Below.refl _ _⟩
  case round =>
    obtain ⟨w1, rfl⟩ : ∃ w1 : World, w1 = wr := ⟨_, rfl⟩
    obtain ⟨k, hk, rfl, ho, hw⟩ := hrel
    have HO := Lib.hid ho
    have HW := Lib.hid hw
    clear ho
    by_cases hlt : k < ls.length
    · obtain ⟨l, hlk⟩ : ∃ l, ls[k]? = some l := ⟨_, List.getElem?_eq_getElem hlt⟩
      obtain ⟨s, hsk⟩ : ∃ s, vs[k]? = some s := ⟨_, List.getElem?_eq_getElem (by omega)⟩
      have hl := hall l (List.mem_of_getElem? hlk)
      have HSW := Lib.hid (HR.out.row k s l hsk hlk)
      have hls := fun W => bytes_len HSW.out W
      obtain ⟨q, hadr, hqw, hqc, hld⟩ := bb_cell HX.out k s hsk
      have HQB := Lib.hid hqw
      have hqc := (hw.cell hqw).trans hqc
      have HL := Lib.hid (hld.below hw)
      have HFT := Lib.hid (framed_take hlk)
      have hfl := framed_le ls (k + 1)
      rw [← HFT.out] at hfl
      have hI : ¬ (65536 : Int) < (l.length : Int) := by omega
      clear hlk hsk hld hw
      have hqb := block_lt_of_cell hqc
      have h63 : (framed (ls.take k)).length + (encN l.length).length ≤ 1099511627776 / 8 := by simp only [List.length_append] at hfl; omega
      have h63b : (framed (ls.take k) ++ encN l.length).length + l.length ≤ 1099511627776 / 8 := by simp only [List.length_append] at hfl ⊢; omega
      go_wp2_with (first | (with_reducible refine Agg.wpList_loadL HL.out rfl _ rfl rfl ?_))
      go_region_held3 (fun w' => w'.cell? q = some s.1) (first | assumption | go_keep)
        (first
          | (go_at_call 39; refine (refNumber_any l.length _ (by omega)).mono ?_; rintro e w2 ⟨v2, rfl, ho2, hx2⟩; have hx12 := ((Below.refl w1.heap.size w1).drew).trans (hx2.mono (Nat.le_refl _)); have hc2 : w2.cell? q = some s.1 := (hx12.cell hqb).trans hqc; have HO2 := Lib.hid (HO.out.below hx12); have HN2 := Lib.hid ho2.slice; have HX12 := Lib.hid hx12; have hsz2 := Nat.le_trans HW.out.size hx12.size; clear ho2 hx2 hx12)
          | (refine Agg.step_appendS (E := EB) (base := w.heap.size) rfl _ _ rfl v2 rfl rfl (encN l.length) HO2.out HN2.out h63 (by decide) hsz2 ?_; intro v3 w3 ho3 hp3; have hc3 : w3.cell? q = some s.1 := (World.cell?_of_block (hp3.other q.block (Nat.lt_of_lt_of_le hqb HX12.out.size) (fun e => by have h1 := (HO2.out.block q.block e.symm).1; have h2 := HQB.out; omega))).trans hc2; have hw3 := (Agg.belowThen HW.out (Nat.le_refl _) HX12.out).trans (hp3.below w.heap.size (Nat.le_refl _) hsz2); have HO3 := Lib.hid ho3; have HW3 := Lib.hid hw3; have HS3 := Lib.hid (HSW.out.below hw3); have hsz3 := hw3.size; clear ho3 hp3 hw3)
          | (refine Agg.step_appendS (E := EB) (base := w.heap.size) rfl _ _ rfl s.1 rfl rfl l HO3.out HS3.out h63b (by decide) hsz3 ?_; intro v4 w4 ho4 hp4; have hc4 : w4.cell? q = some s.1 := (World.cell?_of_block (hp4.other q.block (Nat.lt_of_lt_of_le HQB.out hsz3) (fun e => by have h1 := (HO3.out.block q.block e.symm).1; have h2 := HQB.out; omega))).trans hc3; have HO4 := Lib.hid ho4; have HW4 := Lib.hid (HW3.out.trans (hp4.below w.heap.size (Nat.le_refl _) hsz3)); clear ho4 hp4))
      all_goals
        go_wp2_with fail
        go_roundw
        case rel => exact ⟨k + 1, by omega, by go_num, by rw [← HFT.out, ← List.append_assoc]; exact HO4.out, HW4.out⟩
        case measure => simp [intOf]; omega
    · obtain rfl : k = ls.length := by omega
      have hot := HO.out
      rw [List.take_length] at hot
      have HOT := Lib.hid hot
      clear hot
      go_wp2_with fail
      go_ret2
      exact ⟨_, rfl, HOT.out, HW.out⟩
end Go.Proofs.Ytpnolgliklmnmaa
