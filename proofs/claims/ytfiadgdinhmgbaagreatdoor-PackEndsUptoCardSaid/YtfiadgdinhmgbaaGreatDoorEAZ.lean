/- spenceref08.nodes, Right. (Several texts in one.) -/
import Derived.Test.YtfiadgdinhmgbaaGreatDoorEAD
import Derived.Test.YtfiadgdinhmgbaaGreatDoorEAW
/-! spenceref08.nodes: how many nodes, if all are right. No program in sight. -/
namespace Go.Tr
mutual
def nodesR : T → Nat → Nat → Nat
 | .mk k b l, left, d => if left < 1 ∨ d < 1 ∨ alone (.mk k b l) = false then 0 else nodesL l left (d - 1) 1
def nodesL : List K → Nat → Nat → Nat → Nat
 | [], _, _, all => all
 | (_, t) :: l, left, d, all => if nodesR t (left - all) d = 0 then 0 else nodesL l left d (all + nodesR t (left - all) d)
end
mutual
theorem nodesR_eq : ∀ (t : T) (left d : Nat), nodesR t left d = if ok t = true ∧ count t ≤ left ∧ deep t ≤ d then count t else 0
 | .mk k b l, left, d => by
  have ih := nodesL_eq l left (d - 1) 1
  rw [nodesR]
  simp only [ok, count, deep, Bool.and_eq_true]
  by_cases ha : alone (.mk k b l) = true
  ·by_cases hl : left < 1
   ·rw [if_pos (.inl hl), if_neg (by omega)]
   ·by_cases hd : d < 1
    ·rw [if_pos (.inr (.inl hd)), if_neg (by omega)]
    ·rw [if_neg (by simp [ha]; omega), ih (by omega) (by omega)]
     by_cases hc : okL l = true ∧ 1 + countL l ≤ left ∧ deepL l ≤ d - 1
     ·rw [if_pos hc, if_pos ⟨⟨ha, hc.1⟩, hc.2.1, by omega⟩]
     ·rw [if_neg hc, if_neg]
      rintro ⟨⟨_, h1⟩, h2, h3⟩
      exact hc ⟨h1, h2, by omega⟩
  ·rw [if_pos (.inr (.inr (by simpa using ha))), if_neg]
   rintro ⟨⟨h, _⟩, _⟩
   exact ha h
theorem nodesL_eq : ∀ (l : List K) (left d all : Nat), 0 < all → all ≤ left → nodesL l left d all = if okL l = true ∧ all + countL l ≤ left ∧ deepL l ≤ d then all + countL l else 0
 | [], left, d, all, h, hl => by
  simp [nodesL, okL, countL, deepL, hl]
 | (n, t) :: l, left, d, all, h, hl => by
  have e := nodesR_eq t (left - all) d
  have hp := count_pos t
  rw [nodesL]
  simp only [okL, countL, deepL, Bool.and_eq_true]
  by_cases hc : ok t = true ∧ count t ≤ left - all ∧ deep t ≤ d
  ·rw [if_pos hc] at e
   rw [e, if_neg (by omega), nodesL_eq l left d (all + count t) (by omega) (by omega)]
   by_cases hc2 : okL l = true ∧ all + count t + countL l ≤ left ∧ deepL l ≤ d
   ·rw [if_pos hc2, if_pos ⟨⟨hc.1, hc2.1⟩, by omega, by omega⟩]; omega
   ·rw [if_neg hc2, if_neg]
    rintro ⟨⟨_, h1⟩, h2, h3⟩
    exact hc2 ⟨h1, by omega, by omega⟩
  ·rw [if_neg hc] at e
   rw [e, if_pos rfl, if_neg]
   rintro ⟨⟨h1, _⟩, h2, h3⟩
   exact hc ⟨h1, by omega, by omega⟩
end
theorem nodesR_right (t : T) : decide (0 < nodesR t 200 8) = right t := by
 have hp := count_pos t
 rw [nodesR_eq, right, lookB, Bool.eq_iff_iff, decide_eq_true_iff]
 simp only [Bool.and_eq_true, decide_eq_true_eq]
 constructor
 ·intro h
  split at h
  ·next hc => exact ⟨⟨hc.1, by omega⟩, by omega⟩
  ·omega
 ·rintro ⟨⟨h1, h2⟩, h3⟩
  rw [if_pos ⟨h1, by omega, by omega⟩]; exact hp
end Go.Tr
/-! spenceref08.nodes, Right. -/
namespace Go.Tr
theorem nodesL_step {l : List K} {q : Nat} {z : K} (h : l[q]? = some z) {left d al m : Nat} (hm : nodesR z.2 (left - al) d = m) (h0 : m ≠ 0) : nodesL (l.drop q) left d al = nodesL (l.drop (q + 1)) left d (al + m) := by
 obtain ⟨hlt, he⟩ := List.getElem?_eq_some_iff.1 h
 rw [List.drop_eq_getElem_cons hlt, he]
 obtain ⟨n, t⟩ := z
 have hm : nodesR t (left - al) d = m := hm
 simp [nodesL, hm, h0]
theorem nodesL_stop {l : List K} {q : Nat} {z : K} (h : l[q]? = some z) {left d al : Nat} (hm : nodesR z.2 (left - al) d = 0) : nodesL (l.drop q) left d al = 0 := by
 obtain ⟨hlt, he⟩ := List.getElem?_eq_some_iff.1 h
 rw [List.drop_eq_getElem_cons hlt, he]
 obtain ⟨n, t⟩ := z
 have hm : nodesR t (left - al) d = 0 := hm
 simp [nodesL, hm]
theorem nodesR_le (t : T) (left d : Nat) : nodesR t left d ≤ left := by
 rw [nodesR_eq]; split
 ·next h => exact h.2.1
 ·omega
end Go.Tr
namespace Go.Proofs.YtfiadgdinhmgbaaGreatDoor
open Go.RowKit Pl Go.Agg Go.Tr
theorem ret_int {m : Nat} {k : Int} (h : k = (m : Int)) : Ending.returned (.int .i64 k) = Ending.returned (.int .i64 (m : Int)) := by rw [h]
set_option maxRecDepth 100000 in
set_option maxHeartbeats 8000000 in
theorem rnodes_any : ∀ (N : Nat) (t : T) (_ : count t ≤ N) (_ : msz t ≤ 1048576) (left d : Nat) (_ : left ≤ 1000) (_ : d ≤ 1000) (v : Value) (w : World) (_ : NodeAt w v t),
  Calls Tryz.prog 51 #[v, .int .i64 (left : Int), .int .i64 (d : Int)] w fun e w' => e = .returned (.int .i64 (nodesR t left d : Int)) ∧ Below w.heap.size w w' := by
 intro N
 induction N with
 | zero => intro t h; have := count_pos t; omega
 | succ N ih =>
 intro t hc hm left d hl hd v w hv
 obtain ⟨x, rfl, hx⟩ := hv
 have HV := Lib.hid (show NodeAt w (.agg (ndC x)) t from ⟨x, rfl, hx⟩)
 obtain ⟨k, b, l⟩ := t
 obtain ⟨hk, hby, ks, hsl, hkv⟩ := hx
 have hkl := hkv.len
 have hlk := fun W => kds_len hsl W
 rw [hkl] at hlk
 have hkm := kids_msz k b l
 have hl1 : l.length ≤ 1048576 := by omega
 have HM := Lib.hid (fun x (hx : x ∈ l) => show msz x.2 ≤ 1048576 by have := kid_msz (k := k) (b := b) hx; omega)
 have HC := Lib.hid (fun x (hx : x ∈ l) => show count x.2 ≤ N by have h1 := countL_mem hx; simp only [count] at hc; omega)
 have HIH := Lib.hid ih
 have HKV := Lib.hid hkv
 have HSL := Lib.hid hsl
 have HMM := Lib.hid hm
 clear ih hc hby hsl hkv hk hkl hm
 go_enter Tryz.func51, Tryz.ntmps51
 by_cases h1 : left < 1
 ·have hd1 : decide ((left : Int) < 1) = true := by simp; omega
  go_wp2_with (first | (refine wpList_box rfl 26 _ rfl (ndC x) rfl ?_; intro g1 w1 hb hx hg; have HB1 := Lib.hid hb; have HX1 := Lib.hid hx; have HV1 := Lib.hid (HV.out.below hx); clear hb hx hg))
  go_ret
  exact ⟨ret_int (by rw [nodesR, if_pos (.inl h1)]; rfl), HX1.out⟩
 have hd1 : decide ((left : Int) < 1) = false := by simp; omega
 by_cases h2 : d < 1
 ·have hd2 : decide ((d : Int) < 1) = true := by simp; omega
  go_wp2_with (first | (refine wpList_box rfl 26 _ rfl (ndC x) rfl ?_; intro g1 w1 hb hx hg; have HB1 := Lib.hid hb; have HX1 := Lib.hid hx; have HV1 := Lib.hid (HV.out.below hx); clear hb hx hg))
  go_ret
  exact ⟨ret_int (by rw [nodesR, if_pos (.inr (.inl h2))]; rfl), HX1.out⟩
 have hd2 : decide ((d : Int) < 1) = false := by simp; omega
 go_wp2_with (first | (refine wpList_box rfl 26 _ rfl (ndC x) rfl ?_; intro g1 w1 hb hx hg; have HB1 := Lib.hid hb; have HX1 := Lib.hid hx; have HV1 := Lib.hid (HV.out.below hx); clear hb hx hg) | (with_reducible refine wpList_loadL (NdL.of_blk HB1.out).all rfl _ rfl rfl ?_))
 refine (ralone_any _ (.mk k b l) HMM.out w1 HV1.out).mono ?_
 rintro e w2 ⟨rfl, hx⟩
 have HB2 := Lib.hid (HB1.out.below hx)
 have HX2 := Lib.hid (belowThen HX1.out (Nat.le_refl _) hx)
 clear hx
 cases ha : alone (.mk k b l) with
 | false =>
  go_wp2_with fail
  go_ret
  exact ⟨ret_int (by rw [nodesR, if_pos (.inr (.inr ha))]; rfl), HX2.out⟩
 | true =>
  have HE := Lib.hid (show nodesR (.mk k b l) left d = nodesL l left (d - 1) 1 by rw [nodesR, if_neg (by simp [ha]; omega)])
  clear ha
  go_wp2_with fail
  go_loopw [7, 8] (fun a i wr => ∃ (q al : Nat), q ≤ l.length ∧ a = .int .i64 (al : Int) ∧ i = .int .i64 (q : Int) ∧ 1 ≤ al ∧ al ≤ left ∧ nodesL l left (d - 1) 1 = nodesL (l.drop q) left (d - 1) al ∧ Blk wr g1 26 (ndC x) ∧ Below w.heap.size w wr) (fun _ i _ => l.length - (intOf i).toNat)
  case atStart => exact ⟨0, 1, by omega, rfl, rfl, by omega, by omega, rfl, HB2.out, HX2.out⟩
  case round =>
   obtain ⟨w3, rfl⟩ : ∃ y : World, y = wr := ⟨_, rfl⟩
   obtain ⟨q, al, hq, rfl, rfl, h1a, hal, hnl, hb, hx⟩ := hrel
   have HNL := Lib.hid hnl
   have HB := Lib.hid hb
   have HX := Lib.hid hx
   clear hnl hb hx
   by_cases hlt : q < l.length
   ·have hlq : decide ((q : Int) < (l.length : Int)) = true := by simp; omega
    obtain ⟨z, hzk⟩ : ∃ z, l[q]? = some z := ⟨_, List.getElem?_eq_getElem hlt⟩
    obtain ⟨y, hyk, hyz, hyn⟩ := HKV.out.at_ q z hzk
    obtain ⟨p, hadr, hle9⟩ := kid_at (HSL.out.below HX.out) q y hyk
    have HND := Lib.hid hle9.node.all
    have hin := List.mem_of_getElem? hzk
    obtain ⟨m, hmm⟩ : ∃ m, nodesR z.2 (left - al) (d - 1) = m := ⟨_, rfl⟩
    have HMM2 := Lib.hid hmm
    have HZ := Lib.hid hzk
    have hml : m ≤ left - al := by rw [← hmm]; exact nodesR_le _ _ _
    have HCALL := Lib.hid (show Calls Tryz.prog 51 #[.agg (ndC y.2), .int .i64 ((left : Int) - (al : Int)), .int .i64 ((d : Int) - 1)] w3 fun e w' => e = .returned (.int .i64 (m : Int)) ∧ Below w3.heap.size w3 w' by
     have h := HIH.out z.2 (HC.out z hin) (HM.out z hin) (left - al) (d - 1) (by omega) (by omega) (.agg (ndC y.2)) w3 ⟨y.2, rfl, NodeV.below HX.out _ _ hyn⟩
     rw [hmm, show ((left - al : Nat) : Int) = (left : Int) - (al : Int) by omega, show ((d - 1 : Nat) : Int) = (d : Int) - 1 by omega] at h
     exact h)
    clear hzk hyk hyz hyn hle9 hin hmm
    go_wp2_with (first | (with_reducible refine wpList_loadL (NdL.of_blk HB.out).kids rfl _ rfl rfl ?_) | (with_reducible refine wpList_loadL HND.out rfl _ rfl rfl ?_))
    refine HCALL.out.mono ?_
    rintro e w4 ⟨rfl, hx⟩
    have HB4 := Lib.hid (HB.out.below hx)
    have HX4 := Lib.hid (belowThen HX.out (Nat.le_refl _) hx)
    clear hx hadr
    by_cases hm0 : m = 0
    ·subst hm0
     go_wp2_with fail
     go_ret
     exact ⟨ret_int (by rw [HE.out, HNL.out, nodesL_stop HZ.out HMM2.out]; rfl), HX4.out⟩
    ·have hm1 : decide ((m : Int) = 0) = false := decide_eq_false (by omega)
     have hm2 : ((m : Int) == 0) = false := by rw [beq_eq_false_iff_ne]; omega
     have HNX := Lib.hid (HNL.out.trans (nodesL_step HZ.out HMM2.out hm0))
     go_wp2_with fail
     go_roundw
     case rel => exact ⟨q + 1, al + m, by omega, by go_num, by go_num, by omega, by omega, HNX.out, HB4.out, HX4.out⟩
     case measure => simp [intOf]; omega
   ·obtain rfl : q = l.length := by omega
    have hd9 : decide (((l.length : Nat) : Int) < ((l.length : Nat) : Int)) = false := by simp
    have HR := Lib.hid (show nodesL l left (d - 1) 1 = al by have := HNL.out; rwa [List.drop_length, nodesL] at this)
    go_wp2_with (first | (with_reducible refine wpList_loadL (NdL.of_blk HB.out).kids rfl _ rfl rfl ?_))
    go_ret
    exact ⟨ret_int (by rw [HE.out, HR.out]), HX.out⟩
set_option maxRecDepth 100000 in
set_option maxHeartbeats 8000000 in
theorem rright_any (v : Value) (t : T) (hm : msz t ≤ 1048576) (w : World) (hv : NodeAt w v t) :
  Calls Tryz.prog 34 #[v] w fun e w' => e = .returned (.bool (right t)) ∧ Below w.heap.size w w' := by
 obtain ⟨x, rfl, hx⟩ := hv
 have HV := Lib.hid (show NodeAt w (.agg (ndC x)) t from ⟨x, rfl, hx⟩)
 have HMM := Lib.hid hm
 clear hx hm
 go_enter Tryz.func34, Tryz.ntmps34
 go_wp2_with (first | (refine wpList_box rfl 26 _ rfl (ndC x) rfl ?_; intro g1 w1 hb hx hg; have HB1 := Lib.hid hb; have HX1 := Lib.hid hx; have HV1 := Lib.hid (HV.out.below hx); clear hb hx hg) | (with_reducible refine wpList_loadL (NdL.of_blk HB1.out).all rfl _ rfl rfl ?_))
 obtain ⟨m, hmm⟩ : ∃ m, nodesR t 200 8 = m := ⟨_, rfl⟩
 have HR := Lib.hid (show decide (0 < m) = right t by rw [← hmm]; exact nodesR_right t)
 refine (show Calls Tryz.prog 51 #[.agg (ndC x), .int .i64 200, .int .i64 8] w1 fun e w' => e = .returned (.int .i64 (m : Int)) ∧ Below w1.heap.size w1 w' from hmm ▸ rnodes_any (count t) t (Nat.le_refl _) HMM.out 200 8 (by omega) (by omega) _ w1 HV1.out).mono ?_
 rintro e w2 ⟨rfl, hx⟩
 have HX2 := Lib.hid (belowThen HX1.out (Nat.le_refl _) hx)
 clear hx hmm
 go_wp2_with fail
 go_ret
 exact ⟨ret_bool (by rw [← HR.out]), HX2.out⟩
end Go.Proofs.YtfiadgdinhmgbaaGreatDoor
