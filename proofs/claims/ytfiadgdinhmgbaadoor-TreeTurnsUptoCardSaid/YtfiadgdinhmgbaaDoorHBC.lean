/- tree.Copy, spencelaw08.begins. -/
import Derived.Test.YtfiadgdinhmgbaaDoorHAQ
import Derived.Test.YtfiadgdinhmgbaaDoorHAR
import Derived.Test.YtfiadgdinhmgbaaDoorHAM
import Derived.Test.YtfiadgdinhmgbaaDoorHBA
namespace Go.Tr
def cpT (t : T) : T := if right t then t else zT
end Go.Tr
namespace Go.Proofs.YtfiadgdinhmgbaaDoor
open Go.RowKit Pl Go.Agg Go.Tr
set_option maxRecDepth 100000 in
set_option maxHeartbeats 4000000 in
theorem tcopy_any (v : Value) (t : T) (w : World) (hv : NodeAt w v t) :
  Calls Tryd.prog 25 #[v] w fun e w' => ∃ x', e = .returned (.agg (ndC x')) ∧ OwnN w.heap.size w' x' (cpT t) ∧ Below w.heap.size w w' := by
 obtain ⟨x, rfl, hx⟩ := hv
 have HV := Lib.hid hx
 clear hx
 go_enter Tryd.func25, Tryd.ntmps25
 go_wp2_with (first | (refine wpList_box rfl 26 _ rfl (ndC x) rfl ?_; intro g1 w1 hb hx hg; have HB1 := Lib.hid hb; have HX1 := Lib.hid hx; clear hb hx hg) | (refine Agg.wpList_zero rfl 26 rfl (ndC ndZ) nd_zero ?_; intro g2 w2 hb hx hg; have HR2 := Lib.hid hb; have HB2 := Lib.hid (HB1.out.below hx); have HX2 := Lib.hid (belowThen HX1.out (Nat.le_refl _) hx); have HG2 := Lib.hid (show w.heap.size ≤ g2 from Nat.le_trans HX1.out.size hg); clear hb hx hg) | (with_reducible refine wpList_loadL (NdL.of_blk HB2.out).all rfl _ rfl rfl ?_))
 refine (tright_any (.agg (ndC x)) t w2 ⟨x, rfl, HV.out.below HX2.out⟩).mono ?_
 rintro e w3 ⟨rfl, hx⟩
 have HB3 := Lib.hid (HB2.out.below hx)
 have HR3 := Lib.hid (HR2.out.below hx)
 have HX3 := Lib.hid (belowThen HX2.out (Nat.le_refl _) hx)
 clear hx
 cases hr : right t with
 | false =>
  have HE := Lib.hid (show cpT t = zT by simp [cpT, hr])
  clear hr
  go_wp2_with (first | (with_reducible refine wpList_loadL (NdL.of_blk HR3.out).all rfl _ rfl rfl ?_) | (refine Agg.wpList_put rfl rfl 26 _ _ rfl g2 (ndC ndZ) (ndC ndZ) rfl rfl HR3.out (nd_info _) rfl (ndC_one _) ?_; intro wf hb hx hs9 hk; have ho9 := Only.of_eq (S := (· = g2)) hx hs9 hk rfl; have HF := Lib.hid hb; have HXF := Lib.hid (HX3.out.trans (ho9.below (B := w.heap.size) HX3.out.size (fun i hi => by subst hi; exact HG2.out))); clear hb hx hs9 hk ho9))
  exact Agg.post_row rfl rfl HF.out nd_under rfl (nd_info _) rfl ⟨ndZ, rfl, by rw [HE.out]; exact ownN_zero _ _, HXF.out⟩
 | true =>
  have HE := Lib.hid (show cpT t = t by simp [cpT, hr])
  have HRT := Lib.hid hr
  clear hr
  go_wp2_with (first | (with_reducible refine wpList_loadL (NdL.of_blk HB3.out).all rfl _ rfl rfl ?_))
  refine (own_any (count t) t (Nat.le_refl _) (look_parts HRT.out).1 (.agg (ndC x)) w3 ⟨x, rfl, HV.out.below HX3.out⟩).mono ?_
  rintro e w4 ⟨xo, rfl, ⟨bs, hot, hnd⟩, hx⟩
  have HO4 := Lib.hid hot
  have HND := Lib.hid hnd
  have HRG := Lib.hid (OwnT.range _ _ _ hot)
  have HR4 := Lib.hid (HR3.out.below hx)
  have HZ := Lib.hid (show g2 < w3.heap.size from HR3.out.lt)
  have HX4 := Lib.hid (belowThen HX3.out (Nat.le_refl _) hx)
  clear hx hot hnd
  go_wp2_with (first | (refine Agg.wpList_put rfl rfl 26 _ _ rfl g2 (ndC xo) (ndC ndZ) rfl rfl HR4.out (nd_info _) rfl (ndC_one _) ?_; intro w5 hb hx hs9 hk; have ho9 := Only.of_eq (S := (· = g2)) hx hs9 hk rfl; have HF5 := Lib.hid hb; have HO5 := Lib.hid (OwnT.only ho9 _ _ _ HO4.out (fun j hj e => by have := (HRG.out j hj).1; have := HZ.out; omega)); have HX5 := Lib.hid (HX4.out.trans (ho9.below (B := w.heap.size) HX4.out.size (fun i hi => by subst hi; exact HG2.out))); clear hb hx hs9 hk ho9) | (with_reducible refine wpList_loadL (NdL.of_blk HF5.out).all rfl _ rfl rfl ?_) | (refine Agg.wpList_put rfl rfl 26 _ _ rfl g2 (ndC xo) (ndC xo) rfl rfl HF5.out (nd_info _) rfl (ndC_one _) ?_; intro w6 hb hx hs9 hk; have ho9 := Only.of_eq (S := (· = g2)) hx hs9 hk rfl; have HF := Lib.hid hb; have HO6 := Lib.hid (OwnT.only ho9 _ _ _ HO5.out (fun j hj e => by have := (HRG.out j hj).1; have := HZ.out; omega)); have HXF := Lib.hid (HX5.out.trans (ho9.below (B := w.heap.size) HX5.out.size (fun i hi => by subst hi; exact HG2.out))); clear hb hx hs9 hk ho9))
  exact Agg.post_row rfl rfl HF.out nd_under rfl (nd_info _) rfl ⟨xo, rfl, by rw [HE.out]; exact ⟨bs, OwnT.lowerB HX3.out.size _ _ _ HO6.out, HND.out⟩, HXF.out⟩
theorem str_lenT (s : List UInt8) (w : World) : (Builtin.len_ #[9] 3 #[.string ⟨s.toArray⟩]).run Tryd.prog w = .ok (.int .i64 (s.length : Int)) w := by
 rw [run_len_string w _ 3 _ Tryd.underlying9, Agg.bytes_size s]; rfl
set_option maxRecDepth 100000 in
set_option maxHeartbeats 4000000 in
theorem begins_any (s d : List UInt8) (hd : d.length ≤ 1048576) (w : World) :
  Calls Tryd.prog 23 #[.string ⟨s.toArray⟩, .string ⟨d.toArray⟩] w fun e w' => e = .returned (.bool (begins s d)) ∧ w' = w := by
 have hl1 := str_lenT s
 have hl2 := str_lenT d
 go_enter Tryd.func23, Tryd.ntmps23
 by_cases h1 : d = []
 ·have e1 : decide (d = []) = true := by simpa using h1
  have HB := Lib.hid (show begins s d = true by simp [begins, h1])
  go_wp2_with (first | (refine wpList_eqlS (s := d) (r := []) rfl rfl rfl rfl true e1 ?_))
  go_ret
  exact ⟨by rw [HB.out]; rfl, rfl⟩
 have e1 : decide (d = []) = false := by simpa using h1
 by_cases h2 : s = d
 ·have e2 : decide (s = d) = true := by simpa using h2
  have HB := Lib.hid (show begins s d = true by simp [begins, h2])
  go_wp2_with (first | (refine wpList_eqlS (s := d) (r := []) rfl rfl rfl rfl false e1 ?_) | (refine wpList_eqlS (s := s) (r := d) rfl rfl rfl rfl true e2 ?_))
  go_ret
  exact ⟨by rw [HB.out]; rfl, rfl⟩
 have e2 : decide (s = d) = false := by simpa using h2
 by_cases h3 : d.length < s.length
 ·have e3 : decide ((d.length : Int) < (s.length : Int)) = true := by simp; omega
  have hsl : ∀ W, (Instr.slice 9 (.string ⟨s.toArray⟩) none (some (.int .i64 ((d.length : Int) + 1))) none).run Tryd.prog W = .ok (.string ⟨(s.take (d.length + 1)).toArray⟩) W := fun W => by
   have := slice_to W Tryd.underlying9 s .i64 (d.length + 1) (by omega)
   rwa [show ((d.length + 1 : Nat) : Int) = (d.length : Int) + 1 by omega] at this
  obtain ⟨q, hq⟩ : ∃ q, decide (s.take (d.length + 1) = d ++ [47]) = q := ⟨_, rfl⟩
  have HB := Lib.hid (show begins s d = q by rw [← hq]; simp [begins, h1, h2, h3])
  go_wp2_with (first | (refine wpList_eqlS (s := d) (r := []) rfl rfl rfl rfl false e1 ?_) | (refine wpList_eqlS (s := s) (r := d) rfl rfl rfl rfl false e2 ?_) | (refine wpList_eqlS (s := s.take (d.length + 1)) (r := d ++ [47]) rfl rfl rfl rfl q hq ?_) | (refine Agg.wpList_valw rfl (exec_catS (s := d) (r := [47]) rfl rfl rfl (by simp; omega)) ?_))
  go_ret
  exact ⟨by rw [HB.out]; rfl, rfl⟩
 ·have e3 : decide ((d.length : Int) < (s.length : Int)) = false := by simp; omega
  have HB := Lib.hid (show begins s d = false by simp [begins, h1, h2, h3])
  go_wp2_with (first | (refine wpList_eqlS (s := d) (r := []) rfl rfl rfl rfl false e1 ?_) | (refine wpList_eqlS (s := s) (r := d) rfl rfl rfl rfl false e2 ?_))
  go_ret
  exact ⟨by rw [HB.out]; rfl, rfl⟩
end Go.Proofs.YtfiadgdinhmgbaaDoor
