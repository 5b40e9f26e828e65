/- spenceref08.Take: a node taken away, by the document. -/
import Derived.Test.YtfiadgdinhmgbaaDoorHBM
import Derived.Test.YtfiadgdinhmgbaaDoorHBG
import Derived.Test.YtfiadgdinhmgbaaDoorHBP
import Derived.Test.YtfiadgdinhmgbaaDoorHBN
namespace Go.Proofs.YtfiadgdinhmgbaaDoor
open Go.RowKit Pl Go.Agg Go.Tr
set_option maxRecDepth 100000 in
set_option maxHeartbeats 64000000 in
theorem rtake08_any (t : T) (hm : msz t ≤ 1048576) (s : List UInt8) (hs : s.length ≤ 1048576) (vn : Value) (w : World) (hv : NodeAt w vn t) :
  Calls Tryd.prog 15 #[vn, .string ⟨s.toArray⟩] w fun e w' => ∃ x', e = .returned (.tuple #[.agg (ndC x'), .int .i64 (tkE t s : Int)]) ∧ OwnN w.heap.size w' x' (tkT t s) ∧ Below w.heap.size w w' := by
 obtain ⟨xa, rfl, h0⟩ := hv
 have Y_0 := Lib.hid (Below.refl w.heap.size w)
 have XA_0 := Lib.hid (show NodeAt w (.agg (ndC xa)) t from ⟨xa, rfl, h0⟩)
 have HVA := Lib.hid h0
 clear h0
 go_enter Tryd.func15, Tryd.ntmps15
 go_wp2_with (first | (refine wpList_box rfl 26 _ rfl (ndC xa) rfl ?_; intro g2 w1 hb hx hg; have Y_1 := Lib.hid (belowThen Y_0.out (Nat.le_refl _) hx); have XA_1 := Lib.hid (XA_0.out.below hx); have B2_1 := Lib.hid hb; clear hb hx hg Y_0 XA_0) | (refine Agg.wpList_zero rfl 26 rfl (ndC ndZ) nd_zero ?_; intro g4 w2 hb hx hg; have HG6 := Lib.hid (show w.heap.size ≤ g4 from Nat.le_trans Y_1.out.size hg); have Y_2 := Lib.hid (belowThen Y_1.out (Nat.le_refl _) hx); have XA_2 := Lib.hid (XA_1.out.below hx); have B2_2 := Lib.hid (B2_1.out.below hx); have R4_2 := Lib.hid hb; clear hb hx hg Y_1 XA_1 B2_1) | (with_reducible refine wpList_loadL (NdL.of_blk B2_2.out).all rfl _ rfl rfl ?_))
 refine (rfind_any t hm s hs _ _ XA_2.out).mono ?_
 rintro e w3 ⟨xf, rfl, hon, hx⟩
 have Y_3 := Lib.hid (belowThen Y_2.out (Nat.le_refl _) hx)
 have XA_3 := Lib.hid (XA_2.out.below hx)
 have B2_3 := Lib.hid (B2_2.out.below hx)
 have R4_3 := Lib.hid (R4_2.out.below hx)
 clear hx hon Y_2 XA_2 B2_2 R4_2
 by_cases h0 : fdE t s = 0
 case neg =>
  have HE := Lib.hid (tkE_ne h0)
  obtain ⟨ee, hee⟩ : ∃ ee, ee = fdE t s := ⟨_, rfl⟩
  rw [← hee] at h0 HE ⊢
  have hd1 : decide ((ee : Int) = 0) = false := decide_eq_false (by omega)
  have hd2 : ((ee : Int) == 0) = false := by rw [beq_eq_false_iff_ne]; omega
  have hd3 : decide (¬ (ee : Int) = 0) = true := decide_eq_true (by omega)
  have hd4 : decide (ee = 0) = false := decide_eq_false h0
  have hd5 : ¬ (ee : Int) = 0 := by omega
  have HH := Lib.hid hee
  clear hee
  go_wp2_with (first | (refine wpList_new rfl rfl rfl 26 6 14 rfl rfl rfl (by decide) (ndC ndZ) (ndC xf) nd_zero (rfl) (nd_info _) (ndC_one _) rfl (by first | (simp; done) | simp [Act.put]) ?_; intro g6 w4 hb hx hg; have Y_4 := Lib.hid (belowThen Y_3.out (Nat.le_refl _) hx); have XA_4 := Lib.hid (XA_3.out.below hx); have B2_4 := Lib.hid (B2_3.out.below hx); have R4_4 := Lib.hid (R4_3.out.below hx); clear hb hx hg Y_3 XA_3 B2_3 R4_3))
  refine (rway_any s hs _).mono ?_
  rintro e w5 ⟨vw, rfl, how, hx⟩
  have Y_5 := Lib.hid (belowThen Y_4.out (Nat.le_refl _) hx)
  have XA_5 := Lib.hid (XA_4.out.below hx)
  have B2_5 := Lib.hid (B2_4.out.below hx)
  have R4_5 := Lib.hid (R4_4.out.below hx)
  clear hx how Y_4 XA_4 B2_4 R4_4
  go_wp2_with (first | (with_reducible refine wpList_build0 26 rfl rfl (.agg (ndC ndZ)) nd_build0 ?_) | (refine Agg.wpList_put rfl rfl 26 _ _ rfl g4 (ndC ndZ) (ndC ndZ) rfl rfl R4_5.out (nd_info _) rfl (ndC_one _) ?_; intro wf hb hx hs9 hk; have ho9 := Only.of_eq (S := (· = g4)) hx hs9 hk rfl; have HF := Lib.hid hb; have HXF := Lib.hid (Y_5.out.trans (ho9.below (B := w.heap.size) Y_5.out.size (fun i hi => by subst hi; exact HG6.out))); clear hb hx hs9 hk ho9))
  exact post_row_tmp rfl rfl rfl HF.out nd_under rfl (nd_info _) rfl ⟨ndZ, by rw [HE.out.1]; rfl, by rw [HE.out.2]; exact ownN_zero _ _, HXF.out⟩
 case pos =>
  rw [h0]
  obtain ⟨hrt, ns, hwn, hfd⟩ := fdE_zero h0
  have hwe : wyE s = 0 := by simp [wyE, hwn]
  have hwl : wyL s = ns := by simp [wyL, hwn]
  have hnl := wayN_len hwn
  go_wp2_with (first | (refine wpList_new rfl rfl rfl 26 6 14 rfl rfl rfl (by decide) (ndC ndZ) (ndC xf) nd_zero (rfl) (nd_info _) (ndC_one _) rfl (by first | (simp; done) | simp [Act.put]) ?_; intro g6 w4 hb hx hg; have Y_4 := Lib.hid (belowThen Y_3.out (Nat.le_refl _) hx); have XA_4 := Lib.hid (XA_3.out.below hx); have B2_4 := Lib.hid (B2_3.out.below hx); have R4_4 := Lib.hid (R4_3.out.below hx); clear hb hx hg Y_3 XA_3 B2_3 R4_3))
  refine (rway_any s hs _).mono ?_
  rintro e w5 ⟨vw, rfl, how, hx⟩
  have Y_5 := Lib.hid (belowThen Y_4.out (Nat.le_refl _) hx)
  have XA_5 := Lib.hid (XA_4.out.below hx)
  have B2_5 := Lib.hid (B2_4.out.below hx)
  have R4_5 := Lib.hid (R4_4.out.below hx)
  have WL_5 := Lib.hid (show SliceOf ES _ vw ns from hwl ▸ how.slice)
  clear hx  Y_4 XA_4 B2_4 R4_4
  have HBX := Lib.hid (own_capT how)
  rw [hwe]
  clear how hwe hwl
  have hlv := fun W => strs_len WL_5.out W
  by_cases hse : s = []
  case pos =>
   subst hse
   obtain rfl : ns = [] := by
    have h := hwn
    simp only [wayN, if_true, Option.some.injEq] at h
    exact h.symm
   have HE := Lib.hid (tkE_nil h0)
   clear hfd hwn h0
   go_wp2_with (first | (with_reducible refine wpList_build0 26 rfl rfl (.agg (ndC ndZ)) nd_build0 ?_) | (refine Agg.wpList_put rfl rfl 26 _ _ rfl g4 (ndC ndZ) (ndC ndZ) rfl rfl R4_5.out (nd_info _) rfl (ndC_one _) ?_; intro wf hb hx hs9 hk; have ho9 := Only.of_eq (S := (· = g4)) hx hs9 hk rfl; have HF := Lib.hid hb; have HXF := Lib.hid (Y_5.out.trans (ho9.below (B := w.heap.size) Y_5.out.size (fun i hi => by subst hi; exact HG6.out))); clear hb hx hs9 hk ho9))
   exact post_row_tmp rfl rfl rfl HF.out nd_under rfl (nd_info _) rfl ⟨ndZ, by rw [HE.out.1]; rfl, by rw [HE.out.2]; exact ownN_zero _ _, HXF.out⟩
  case neg =>
   have hne := way_ne hse hwn
   have hn0 : 0 < ns.length := List.length_pos_iff.2 hne
   have hd1 : decide ((ns.length : Int) = 0) = false := decide_eq_false (by omega)
   have hd2 : ((ns.length : Int) == 0) = false := by rw [beq_eq_false_iff_ne]; omega
   have hd3 : decide (ns.length = 0) = false := decide_eq_false (by omega)
   have hd5 : ¬ (ns.length : Int) = 0 := by omega
   have hk0 := tkE_ok h0 hse hwn
   have HE := Lib.hid hk0
   have HTR := Lib.hid (takenR_take ns t (right_ok hrt) (by rw [hfd]; rfl))
   have HRK := Lib.hid (show right (take t ns) = true from hk0.2 ▸ (takes hk0.1).1)
   have HNE := Lib.hid hne
   have HRT := Lib.hid hrt
   clear hk0 hfd hwn h0 hse hne hrt
   go_wp2_with (first | (with_reducible refine wpList_loadL (NdL.of_blk B2_5.out).all rfl _ rfl rfl ?_))
   refine (rtaken_any ns HNE.out t (right_ok HRT.out) xa vw w w5 HVA.out WL_5.out HBX.out Y_5.out).mono ?_
   rintro e w6 ⟨x2, rfl, hnv, hx⟩
   have Y_6 := Lib.hid (belowThen Y_5.out (Nat.le_refl _) hx)
   have XA_6 := Lib.hid (XA_5.out.below hx)
   have B2_6 := Lib.hid (B2_5.out.below hx)
   have R4_6 := Lib.hid (R4_5.out.below hx)
   have WL_6 := Lib.hid (SliceOf.below WL_5.out hx)
   have NV_6 := Lib.hid (show NewV w _ _ x2 (take t ns) from HTR.out ▸ hnv)
   clear hx hnv Y_5 XA_5 B2_5 R4_5 WL_5
   go_wp2_with fail
   have HR4 := Lib.hid (show g4 < w6.heap.size from R4_6.out.lt)
   have HZ8 := Lib.hid Y_6.out.size
   refine (rown_any (count (take t ns)) (take t ns) (Nat.le_refl _) (right_ok HRK.out) _ _ ⟨x2, rfl, NewV.node Y_6.out _ _ NV_6.out⟩).mono ?_
   rintro e w7 ⟨xr, rfl, hon, hx⟩
   have Y_7 := Lib.hid (belowThen Y_6.out (Nat.le_refl _) hx)
   have XA_7 := Lib.hid (XA_6.out.below hx)
   have B2_7 := Lib.hid (B2_6.out.below hx)
   have R4_7 := Lib.hid (R4_6.out.below hx)
   have WL_7 := Lib.hid (SliceOf.below WL_6.out hx)
   have NV_7 := Lib.hid (NV_6.out.below hx)
   have ON_7 := Lib.hid (hon)
   clear hx hon Y_6 XA_6 B2_6 R4_6 WL_6 NV_6
   go_wp2_with (first | (refine Agg.wpList_put rfl rfl 26 _ _ rfl g4 (ndC xr) (ndC ndZ) rfl rfl R4_7.out (nd_info _) rfl (ndC_one _) ?_; intro wf hb hx hs9 hk; have ho9 := Only.of_eq (S := (· = g4)) hx hs9 hk rfl; have HF := Lib.hid hb; have HOF := Lib.hid (OwnN.lower (OwnN.otherB ON_7.out ho9 (fun j hj e => by have := HR4.out; omega)) HZ8.out); have HXF := Lib.hid (Y_7.out.trans (ho9.below (B := w.heap.size) Y_7.out.size (fun i hi => by subst hi; exact HG6.out))); clear hb hx hs9 hk ho9))
   exact post_row_tmp rfl rfl rfl HF.out nd_under rfl (nd_info _) rfl ⟨xr, by rw [HE.out.1]; rfl, by rw [HE.out.2]; exact HOF.out, HXF.out⟩
end Go.Proofs.YtfiadgdinhmgbaaDoor
