/- spencelaw08.TreePuts. -/
import Derived.Test.YtfiadgdinhmgbaaDoorGBE
import Derived.Test.YtfiadgdinhmgbaaDoorGBH
import Derived.Test.YtfiadgdinhmgbaaDoorGBL
import Derived.Test.YtfiadgdinhmgbaaDoorGBM
namespace Go.Proofs.YtfiadgdinhmgbaaDoor
open Go.RowKit Pl Go.Agg Go.Tr
set_option maxRecDepth 100000 in
set_option maxHeartbeats 64000000 in
theorem treePuts_any (v1 v2 : Value) (t u : T) (s : List UInt8) (hmt : msz t ≤ 1048576) (hmu : msz u ≤ 1048576) (hs : s.length ≤ 1048576) (w : World) (hv1 : NodeAt w v1 t) (hv2 : NodeAt w v2 u) :
    Calls Tryd.prog 5 #[v1, v2, .string ⟨s.toArray⟩] w fun e w' => e = .returned (.bool true) ∧ Below w.heap.size w w' := by
  obtain ⟨xa, rfl, h0⟩ := hv1
  obtain ⟨xm, rfl, h1⟩ := hv2
  obtain ⟨w0, hw0⟩ : ∃ W, W = w := ⟨_, rfl⟩
  rw [← hw0] at h0 h1 ⊢
  clear hw0
  have XA_0 := Lib.hid (show NodeAt w0 (.agg (ndC xa)) t from ⟨xa, rfl, h0⟩)
  have XM_0 := Lib.hid (show NodeAt w0 (.agg (ndC xm)) u from ⟨xm, rfl, h1⟩)
  have X_0 := Lib.hid (Below.refl w0.heap.size w0)
  clear h0 h1
  go_enter Tryd.func5, Tryd.ntmps5
  go_wp2_with (first | (refine Agg.wpList_box rfl 26 _ rfl (ndC xa) rfl ?_; intro g3 w1 hb hx hg; have XA_1 := Lib.hid (XA_0.out.below hx); have XM_1 := Lib.hid (XM_0.out.below hx); have X_1 := Lib.hid (Agg.belowThen X_0.out (Nat.le_refl _) hx); have GA_1 := Lib.hid hb; clear hb hx hg XA_0 XM_0 X_0) | (refine Agg.wpList_box rfl 26 _ rfl (ndC xm) rfl ?_; intro g4 w2 hb hx hg; have XA_2 := Lib.hid (XA_1.out.below hx); have XM_2 := Lib.hid (XM_1.out.below hx); have X_2 := Lib.hid (Agg.belowThen X_1.out (Nat.le_refl _) hx); have GA_2 := Lib.hid (GA_1.out.below hx); have GM_2 := Lib.hid hb; clear hb hx hg XA_1 XM_1 X_1 GA_1))
  refine (awake08_any _).mono ?_
  rintro e w3 ⟨rfl, hx⟩
  have XA_3 := Lib.hid (XA_2.out.below hx)
  have XM_3 := Lib.hid (XM_2.out.below hx)
  have X_3 := Lib.hid (Agg.belowThen X_2.out (Nat.le_refl _) hx)
  have GA_3 := Lib.hid (GA_2.out.below hx)
  have GM_3 := Lib.hid (GM_2.out.below hx)
  clear hx  XA_2 XM_2 X_2 GA_2 GM_2
  go_wp2_with fail
  have h1 := szT_le t 1500
  have h2 := szT_le u 1500
  obtain ⟨n1, hn1⟩ : ∃ n, szT t 1500 = n := ⟨_, rfl⟩
  obtain ⟨n2, hn2⟩ : ∃ n, szT u 1500 = n := ⟨_, rfl⟩
  rw [hn1] at h1
  rw [hn2] at h2
  have HN1 := Lib.hid hn1
  have HN2 := Lib.hid hn2
  clear hn1 hn2
  have hlb := str_lenT s
  have HQA := Lib.hid (fun (y : Later w3) => (by have := size08_any (count t) t (Nat.le_refl _) hmt 1500 (by omega) _ y.w (NodeAt.below XA_3.out y.h); rw [HN1.out] at this; exact this : Calls Tryd.prog 7 #[.agg (ndC xa), .int .i64 1500] y.w fun e w' => e = .returned (.int .i64 (n1 : Int)) ∧ Below y.w.heap.size y.w w'))
  have HQM := Lib.hid (fun (y : Later w3) => (by have := size08_any (count u) u (Nat.le_refl _) hmu 1500 (by omega) _ y.w (NodeAt.below XM_3.out y.h); rw [HN2.out] at this; exact this : Calls Tryd.prog 7 #[.agg (ndC xm), .int .i64 1500] y.w fun e w' => e = .returned (.int .i64 (n2 : Int)) ∧ Below y.w.heap.size y.w w'))
  by_cases hb1 : 1500 < n1 + n2
  · have hd3 : decide (1500 < (n1 : Int) + (n2 : Int)) = true := by simp; omega
    try simp only [Act.put, List.setIfInBounds_toArray, List.set_cons_succ, List.set_cons_zero]
    refine Agg.wp_region_later_lit (by kernel_rfl) (by kernel_rfl) ?_
    repeat (first | go_big_quiet_skip | ((first | (with_reducible refine Agg.wpQuiet_loadL (NdL.of_blk GA_3.out).all rfl _ rfl rfl ?_) | (with_reducible refine Agg.wpQuiet_loadL (NdL.of_blk GM_3.out).all rfl _ rfl rfl ?_) | (refine Agg.wpQuiet_val rfl (.int .i64 ((n1 + n2 : Nat) : Int)) (fun W _ => exec_addI (m := n1) (n := n2) (by omega) rfl rfl rfl) ?_)); simp only [Act.put, List.setIfInBounds_toArray, List.set_cons_succ, List.set_cons_zero]) | go_big_quiet_step ((first | (go_at_call 7; with_reducible exact Agg.Calls.later (HQA.out _)) | (go_at_call 7; with_reducible exact Agg.Calls.later (HQM.out _)))))
    refine wpQuiet_nil ?_
    intro _ hw'
    obtain ⟨x1, rfl⟩ := hw'
    obtain ⟨w4, hww⟩ : ∃ W, W = x1.w := ⟨_, rfl⟩
    have hx : Below w3.heap.size w3 w4 := by rw [hww]; exact x1.h
    rw [← hww]
    have XA_4 := Lib.hid (XA_3.out.below hx)
    have XM_4 := Lib.hid (XM_3.out.below hx)
    have X_4 := Lib.hid (Agg.belowThen X_3.out (Nat.le_refl _) hx)
    have GA_4 := Lib.hid (GA_3.out.below hx)
    have GM_4 := Lib.hid (GM_3.out.below hx)
    clear hx hww XA_3 XM_3 X_3 GA_3 GM_3
    go_wp2_with fail
    go_ret
    exact ⟨rfl, X_4.out⟩
  have hd3 : decide (1500 < (n1 : Int) + (n2 : Int)) = false := by simp; omega
  by_cases hb2 : 2000 < s.length
  · have hd4 : decide (2000 < (s.length : Int)) = true := by simp; omega
    try simp only [Act.put, List.setIfInBounds_toArray, List.set_cons_succ, List.set_cons_zero]
    refine Agg.wp_region_later_lit (by kernel_rfl) (by kernel_rfl) ?_
    repeat (first | go_big_quiet_skip | ((first | (with_reducible refine Agg.wpQuiet_loadL (NdL.of_blk GA_3.out).all rfl _ rfl rfl ?_) | (with_reducible refine Agg.wpQuiet_loadL (NdL.of_blk GM_3.out).all rfl _ rfl rfl ?_) | (refine Agg.wpQuiet_val rfl (.int .i64 ((n1 + n2 : Nat) : Int)) (fun W _ => exec_addI (m := n1) (n := n2) (by omega) rfl rfl rfl) ?_)); simp only [Act.put, List.setIfInBounds_toArray, List.set_cons_succ, List.set_cons_zero]) | go_big_quiet_step ((first | (go_at_call 7; with_reducible exact Agg.Calls.later (HQA.out _)) | (go_at_call 7; with_reducible exact Agg.Calls.later (HQM.out _)))))
    refine wpQuiet_nil ?_
    intro _ hw'
    obtain ⟨x1, rfl⟩ := hw'
    obtain ⟨w4, hww⟩ : ∃ W, W = x1.w := ⟨_, rfl⟩
    have hx : Below w3.heap.size w3 w4 := by rw [hww]; exact x1.h
    rw [← hww]
    have XA_4 := Lib.hid (XA_3.out.below hx)
    have XM_4 := Lib.hid (XM_3.out.below hx)
    have X_4 := Lib.hid (Agg.belowThen X_3.out (Nat.le_refl _) hx)
    have GA_4 := Lib.hid (GA_3.out.below hx)
    have GM_4 := Lib.hid (GM_3.out.below hx)
    clear hx hww XA_3 XM_3 X_3 GA_3 GM_3
    go_wp2_with fail
    go_ret
    exact ⟨rfl, X_4.out⟩
  have hd4 : decide (2000 < (s.length : Int)) = false := by simp; omega
  try simp only [Act.put, List.setIfInBounds_toArray, List.set_cons_succ, List.set_cons_zero]
  refine Agg.wp_region_later_lit (by kernel_rfl) (by kernel_rfl) ?_
  repeat (first | go_big_quiet_skip | ((first | (with_reducible refine Agg.wpQuiet_loadL (NdL.of_blk GA_3.out).all rfl _ rfl rfl ?_) | (with_reducible refine Agg.wpQuiet_loadL (NdL.of_blk GM_3.out).all rfl _ rfl rfl ?_) | (refine Agg.wpQuiet_val rfl (.int .i64 ((n1 + n2 : Nat) : Int)) (fun W _ => exec_addI (m := n1) (n := n2) (by omega) rfl rfl rfl) ?_)); simp only [Act.put, List.setIfInBounds_toArray, List.set_cons_succ, List.set_cons_zero]) | go_big_quiet_step ((first | (go_at_call 7; with_reducible exact Agg.Calls.later (HQA.out _)) | (go_at_call 7; with_reducible exact Agg.Calls.later (HQM.out _)))))
  refine wpQuiet_nil ?_
  intro _ hw'
  obtain ⟨x1, rfl⟩ := hw'
  obtain ⟨w4, hww⟩ : ∃ W, W = x1.w := ⟨_, rfl⟩
  have hx : Below w3.heap.size w3 w4 := by rw [hww]; exact x1.h
  rw [← hww]
  have XA_4 := Lib.hid (XA_3.out.below hx)
  have XM_4 := Lib.hid (XM_3.out.below hx)
  have X_4 := Lib.hid (Agg.belowThen X_3.out (Nat.le_refl _) hx)
  have GA_4 := Lib.hid (GA_3.out.below hx)
  have GM_4 := Lib.hid (GM_3.out.below hx)
  clear hx hww XA_3 XM_3 X_3 GA_3 GM_3
  clear HQA HQM HN1 HN2 h1 h2 hb1 hd3 hd4 hlb
  go_wp2_with (first | (with_reducible refine Agg.wpList_loadL (NdL.of_blk GA_4.out).all rfl _ rfl rfl ?_) | (with_reducible refine Agg.wpList_loadL (NdL.of_blk GM_4.out).all rfl _ rfl rfl ?_))
  refine (tput_any t u s hs _ _ _ XA_4.out XM_4.out).mono ?_
  rintro e w5 ⟨x7, rfl, hon, hx⟩
  have XA_5 := Lib.hid (XA_4.out.below hx)
  have XM_5 := Lib.hid (XM_4.out.below hx)
  have X_5 := Lib.hid (Agg.belowThen X_4.out (Nat.le_refl _) hx)
  have GA_5 := Lib.hid (GA_4.out.below hx)
  have GM_5 := Lib.hid (GM_4.out.below hx)
  have XP_5 := Lib.hid (show NodeAt _ (.agg (ndC x7)) (ptT t s u) from ⟨x7, rfl, hon.reads⟩)
  clear hx hon XA_4 XM_4 X_4 GA_4 GM_4
  by_cases hE : ptE t s u = 0
  case neg =>
    rw [show ptT t s u = zT from ptT_not hE] at XP_5
    obtain ⟨ee, hee⟩ : ∃ e, ptE t s u = e := ⟨_, rfl⟩
    rw [hee] at hE ⊢
    have hd1 : decide ((ee : Int) = 0) = false := decide_eq_false (by omega)
    have hd2 : ((ee : Int) == 0) = false := by rw [beq_eq_false_iff_ne]; omega
    have hd3 : decide (¬ (ee : Int) = 0) = true := decide_eq_true (by omega)
    have hd4 : decide (ee = 0) = false := decide_eq_false hE
    clear hee
    go_wp2_with (first | (refine Agg.wpList_new rfl rfl rfl 26 7 33 rfl rfl rfl (by decide) (ndC ndZ) (ndC x7) nd_zero (rfl) (nd_info _) (ndC_one _) rfl (by first | (simp; done) | simp [Act.put]) ?_; intro g7 w6 hb hx hg; have XA_6 := Lib.hid (XA_5.out.below hx); have XM_6 := Lib.hid (XM_5.out.below hx); have X_6 := Lib.hid (Agg.belowThen X_5.out (Nat.le_refl _) hx); have GA_6 := Lib.hid (GA_5.out.below hx); have GM_6 := Lib.hid (GM_5.out.below hx); have XP_6 := Lib.hid (XP_5.out.below hx); have GP_6 := Lib.hid (hb); clear hb hx hg XA_5 XM_5 X_5 GA_5 GM_5 XP_5) | (with_reducible refine Agg.wpList_loadL (NdL.of_blk GP_6.out).all rfl _ rfl rfl ?_) | (with_reducible refine Agg.wpList_build0 26 rfl (by kernel_rfl) (.agg (ndC ndZ)) nd_build0 ?_))
    refine (sameNode_any zT zT (by decide +kernel) (by decide +kernel) _ _ _ XP_6.out ⟨ndZ, rfl, rfl, .nil _ _ _, [], .nil _ _ _, trivial⟩).mono ?_
    rintro e w7 ⟨rfl, hx⟩
    have XA_7 := Lib.hid (XA_6.out.below hx)
    have XM_7 := Lib.hid (XM_6.out.below hx)
    have X_7 := Lib.hid (Agg.belowThen X_6.out (Nat.le_refl _) hx)
    have GA_7 := Lib.hid (GA_6.out.below hx)
    have GM_7 := Lib.hid (GM_6.out.below hx)
    have XP_7 := Lib.hid (XP_6.out.below hx)
    have GP_7 := Lib.hid (GP_6.out.below hx)
    clear hx  XA_6 XM_6 X_6 GA_6 GM_6 XP_6 GP_6
    rw [show same zT zT = true from by decide +kernel]
    go_wp2_with fail
    go_ret
    exact ⟨rfl, X_7.out⟩
  case pos =>
    obtain ⟨hrt, hru, hrP, _⟩ := ptE_zero hE
    obtain ⟨hfe, hft, hst⟩ := puts hE
    rw [hE]
    clear hE
    obtain ⟨P, hP⟩ : ∃ P, ptT t s u = P := ⟨_, rfl⟩
    rw [hP] at hrP hfe hft hst XP_5
    clear hP
    have HRT := Lib.hid hrt
    have HRU := Lib.hid hru
    have HRP := Lib.hid hrP
    have HFP := Lib.hid (And.intro hfe hft)
    have HST := Lib.hid hst
    clear hrt hru hrP hfe hft hst
    go_wp2_with (first | (refine Agg.wpList_new rfl rfl rfl 26 7 33 rfl rfl rfl (by decide) (ndC ndZ) (ndC x7) nd_zero (rfl) (nd_info _) (ndC_one _) rfl (by first | (simp; done) | simp [Act.put]) ?_; intro g7 w6 hb hx hg; have XA_6 := Lib.hid (XA_5.out.below hx); have XM_6 := Lib.hid (XM_5.out.below hx); have X_6 := Lib.hid (Agg.belowThen X_5.out (Nat.le_refl _) hx); have GA_6 := Lib.hid (GA_5.out.below hx); have GM_6 := Lib.hid (GM_5.out.below hx); have XP_6 := Lib.hid (XP_5.out.below hx); have GP_6 := Lib.hid (hb); clear hb hx hg XA_5 XM_5 X_5 GA_5 GM_5 XP_5) | (with_reducible refine Agg.wpList_loadL (NdL.of_blk GP_6.out).all rfl _ rfl rfl ?_))
    refine (tfind_any P s hs _ _ XP_6.out).mono ?_
    rintro e w7 ⟨x9, rfl, hon, hx⟩
    have XA_7 := Lib.hid (XA_6.out.below hx)
    have XM_7 := Lib.hid (XM_6.out.below hx)
    have X_7 := Lib.hid (Agg.belowThen X_6.out (Nat.le_refl _) hx)
    have GA_7 := Lib.hid (GA_6.out.below hx)
    have GM_7 := Lib.hid (GM_6.out.below hx)
    have XP_7 := Lib.hid (XP_6.out.below hx)
    have GP_7 := Lib.hid (GP_6.out.below hx)
    have XY_7 := Lib.hid (show NodeAt _ (.agg (ndC x9)) u from ⟨x9, rfl, HFP.out.2 ▸ hon.reads⟩)
    clear hx hon XA_6 XM_6 X_6 GA_6 GM_6 XP_6 GP_6
    rw [HFP.out.1]
    go_wp2_with (first | (refine Agg.wpList_new rfl rfl rfl 26 9 44 rfl rfl rfl (by decide) (ndC ndZ) (ndC x9) nd_zero (rfl) (nd_info _) (ndC_one _) rfl (by first | (simp; done) | simp [Act.put]) ?_; intro g9 w8 hb hx hg; have XA_8 := Lib.hid (XA_7.out.below hx); have XM_8 := Lib.hid (XM_7.out.below hx); have X_8 := Lib.hid (Agg.belowThen X_7.out (Nat.le_refl _) hx); have GA_8 := Lib.hid (GA_7.out.below hx); have GM_8 := Lib.hid (GM_7.out.below hx); have XP_8 := Lib.hid (XP_7.out.below hx); have GP_8 := Lib.hid (GP_7.out.below hx); have XY_8 := Lib.hid (XY_7.out.below hx); have GY_8 := Lib.hid (hb); clear hb hx hg XA_7 XM_7 X_7 GA_7 GM_7 XP_7 GP_7 XY_7) | (with_reducible refine Agg.wpList_loadL (NdL.of_blk GP_8.out).all rfl _ rfl rfl ?_))
    refine (tright_any _ P _ XP_8.out).mono ?_
    rintro e w9 ⟨rfl, hx⟩
    have XA_9 := Lib.hid (XA_8.out.below hx)
    have XM_9 := Lib.hid (XM_8.out.below hx)
    have X_9 := Lib.hid (Agg.belowThen X_8.out (Nat.le_refl _) hx)
    have GA_9 := Lib.hid (GA_8.out.below hx)
    have GM_9 := Lib.hid (GM_8.out.below hx)
    have XP_9 := Lib.hid (XP_8.out.below hx)
    have GP_9 := Lib.hid (GP_8.out.below hx)
    have XY_9 := Lib.hid (XY_8.out.below hx)
    have GY_9 := Lib.hid (GY_8.out.below hx)
    clear hx  XA_8 XM_8 X_8 GA_8 GM_8 XP_8 GP_8 XY_8 GY_8
    rw [HRP.out]
    go_wp2_with (first | (with_reducible refine Agg.wpList_loadL (NdL.of_blk GY_9.out).all rfl _ rfl rfl ?_) | (with_reducible refine Agg.wpList_loadL (NdL.of_blk GM_9.out).all rfl _ rfl rfl ?_))
    refine (equal_any u u _ _ _ XY_9.out XM_9.out).mono ?_
    rintro e w10 ⟨rfl, hx⟩
    have XA_10 := Lib.hid (XA_9.out.below hx)
    have XM_10 := Lib.hid (XM_9.out.below hx)
    have X_10 := Lib.hid (Agg.belowThen X_9.out (Nat.le_refl _) hx)
    have GA_10 := Lib.hid (GA_9.out.below hx)
    have GM_10 := Lib.hid (GM_9.out.below hx)
    have XP_10 := Lib.hid (XP_9.out.below hx)
    have GP_10 := Lib.hid (GP_9.out.below hx)
    have XY_10 := Lib.hid (XY_9.out.below hx)
    have GY_10 := Lib.hid (GY_9.out.below hx)
    clear hx  XA_9 XM_9 X_9 GA_9 GM_9 XP_9 GP_9 XY_9 GY_9
    rw [show (right u && (right u && same u u)) = true by rw [HRU.out, (same_iff u u).2 rfl]; rfl]
    go_wp2_with (first | (with_reducible refine Agg.wpList_loadL (NdL.of_blk GA_10.out).all rfl _ rfl rfl ?_) | (with_reducible refine Agg.wpList_loadL (NdL.of_blk GP_10.out).all rfl _ rfl rfl ?_))
    refine (stays_any t P s hs HRT.out HRP.out HST.out _ _ _ XA_10.out XP_10.out).mono ?_
    rintro e w11 ⟨rfl, hx⟩
    have XA_11 := Lib.hid (XA_10.out.below hx)
    have XM_11 := Lib.hid (XM_10.out.below hx)
    have X_11 := Lib.hid (Agg.belowThen X_10.out (Nat.le_refl _) hx)
    have GA_11 := Lib.hid (GA_10.out.below hx)
    have GM_11 := Lib.hid (GM_10.out.below hx)
    have XP_11 := Lib.hid (XP_10.out.below hx)
    have GP_11 := Lib.hid (GP_10.out.below hx)
    have XY_11 := Lib.hid (XY_10.out.below hx)
    have GY_11 := Lib.hid (GY_10.out.below hx)
    clear hx  XA_10 XM_10 X_10 GA_10 GM_10 XP_10 GP_10 XY_10 GY_10
    go_wp2_with (first | (with_reducible refine Agg.wpList_loadL (NdL.of_blk GP_11.out).all rfl _ rfl rfl ?_))
    refine (take_any P s hs _ _ XP_11.out).mono ?_
    rintro e w12 ⟨x11, rfl, hon, hx⟩
    have XA_12 := Lib.hid (XA_11.out.below hx)
    have XM_12 := Lib.hid (XM_11.out.below hx)
    have X_12 := Lib.hid (Agg.belowThen X_11.out (Nat.le_refl _) hx)
    have GA_12 := Lib.hid (GA_11.out.below hx)
    have GM_12 := Lib.hid (GM_11.out.below hx)
    have XP_12 := Lib.hid (XP_11.out.below hx)
    have GP_12 := Lib.hid (GP_11.out.below hx)
    have XY_12 := Lib.hid (XY_11.out.below hx)
    have GY_12 := Lib.hid (GY_11.out.below hx)
    have XT_12 := Lib.hid (show NodeAt _ (.agg (ndC x11)) (tkT P s) from ⟨x11, rfl, hon.reads⟩)
    clear hx hon XA_11 XM_11 X_11 GA_11 GM_11 XP_11 GP_11 XY_11 GY_11
    by_cases hse : s = []
    case pos =>
      subst hse
      rw [(tkE_nil HFP.out.1).1]
      go_wp2_with (first | (refine Agg.wpList_new rfl rfl rfl 26 11 70 rfl rfl rfl (by decide) (ndC ndZ) (ndC x11) nd_zero (rfl) (nd_info _) (ndC_one _) rfl (by first | (simp; done) | simp [Act.put]) ?_; intro g11 w13 hb hx hg; have XA_13 := Lib.hid (XA_12.out.below hx); have XM_13 := Lib.hid (XM_12.out.below hx); have X_13 := Lib.hid (Agg.belowThen X_12.out (Nat.le_refl _) hx); have GA_13 := Lib.hid (GA_12.out.below hx); have GM_13 := Lib.hid (GM_12.out.below hx); have XP_13 := Lib.hid (XP_12.out.below hx); have GP_13 := Lib.hid (GP_12.out.below hx); have XY_13 := Lib.hid (XY_12.out.below hx); have GY_13 := Lib.hid (GY_12.out.below hx); have XT_13 := Lib.hid (XT_12.out.below hx); have GT_13 := Lib.hid (hb); clear hb hx hg XA_12 XM_12 X_12 GA_12 GM_12 XP_12 GP_12 XY_12 GY_12 XT_12))
      go_ret
      exact ⟨rfl, X_13.out⟩
    case neg =>
      have hemp : s.isEmpty = false := by simpa using hse
      have hk0 : tkE P s = 0 := by simp [tkE, HFP.out.1, hse]
      obtain ⟨hrK, hfK, hsK⟩ := takes hk0
      rw [hk0]
      clear hk0 hse
      obtain ⟨K, hK⟩ : ∃ K, tkT P s = K := ⟨_, rfl⟩
      rw [hK] at hrK hfK hsK XT_12
      clear hK
      have HRK := Lib.hid hrK
      have HFK := Lib.hid hfK
      have HSK := Lib.hid hsK
      clear hrK hfK hsK
      go_wp2_with (first | (refine Agg.wpList_new rfl rfl rfl 26 11 70 rfl rfl rfl (by decide) (ndC ndZ) (ndC x11) nd_zero (rfl) (nd_info _) (ndC_one _) rfl (by first | (simp; done) | simp [Act.put]) ?_; intro g11 w13 hb hx hg; have XA_13 := Lib.hid (XA_12.out.below hx); have XM_13 := Lib.hid (XM_12.out.below hx); have X_13 := Lib.hid (Agg.belowThen X_12.out (Nat.le_refl _) hx); have GA_13 := Lib.hid (GA_12.out.below hx); have GM_13 := Lib.hid (GM_12.out.below hx); have XP_13 := Lib.hid (XP_12.out.below hx); have GP_13 := Lib.hid (GP_12.out.below hx); have XY_13 := Lib.hid (XY_12.out.below hx); have GY_13 := Lib.hid (GY_12.out.below hx); have XT_13 := Lib.hid (XT_12.out.below hx); have GT_13 := Lib.hid (hb); clear hb hx hg XA_12 XM_12 X_12 GA_12 GM_12 XP_12 GP_12 XY_12 GY_12 XT_12) | (with_reducible refine Agg.wpList_loadL (NdL.of_blk GT_13.out).all rfl _ rfl rfl ?_))
      refine (tfind_any K s hs _ _ XT_13.out).mono ?_
      rintro e w14 ⟨x13, rfl, hon, hx⟩
      have XA_14 := Lib.hid (XA_13.out.below hx)
      have XM_14 := Lib.hid (XM_13.out.below hx)
      have X_14 := Lib.hid (Agg.belowThen X_13.out (Nat.le_refl _) hx)
      have GA_14 := Lib.hid (GA_13.out.below hx)
      have GM_14 := Lib.hid (GM_13.out.below hx)
      have XP_14 := Lib.hid (XP_13.out.below hx)
      have GP_14 := Lib.hid (GP_13.out.below hx)
      have XY_14 := Lib.hid (XY_13.out.below hx)
      have GY_14 := Lib.hid (GY_13.out.below hx)
      have XT_14 := Lib.hid (XT_13.out.below hx)
      have GT_14 := Lib.hid (GT_13.out.below hx)
      clear hx hon XA_13 XM_13 X_13 GA_13 GM_13 XP_13 GP_13 XY_13 GY_13 XT_13 GT_13
      rw [HFK.out]
      go_wp2_with (first | (refine Agg.wpList_new rfl rfl rfl 26 13 80 rfl rfl rfl (by decide) (ndC ndZ) (ndC x13) nd_zero (rfl) (nd_info _) (ndC_one _) rfl (by first | (simp; done) | simp [Act.put]) ?_; intro g13 w15 hb hx hg; have XA_15 := Lib.hid (XA_14.out.below hx); have XM_15 := Lib.hid (XM_14.out.below hx); have X_15 := Lib.hid (Agg.belowThen X_14.out (Nat.le_refl _) hx); have GA_15 := Lib.hid (GA_14.out.below hx); have GM_15 := Lib.hid (GM_14.out.below hx); have XP_15 := Lib.hid (XP_14.out.below hx); have GP_15 := Lib.hid (GP_14.out.below hx); have XY_15 := Lib.hid (XY_14.out.below hx); have GY_15 := Lib.hid (GY_14.out.below hx); have XT_15 := Lib.hid (XT_14.out.below hx); have GT_15 := Lib.hid (GT_14.out.below hx); have GZ_15 := Lib.hid (hb); clear hb hx hg XA_14 XM_14 X_14 GA_14 GM_14 XP_14 GP_14 XY_14 GY_14 XT_14 GT_14) | (with_reducible refine Agg.wpList_loadL (NdL.of_blk GT_15.out).all rfl _ rfl rfl ?_))
      refine (tright_any _ K _ XT_15.out).mono ?_
      rintro e w16 ⟨rfl, hx⟩
      have XA_16 := Lib.hid (XA_15.out.below hx)
      have XM_16 := Lib.hid (XM_15.out.below hx)
      have X_16 := Lib.hid (Agg.belowThen X_15.out (Nat.le_refl _) hx)
      have GA_16 := Lib.hid (GA_15.out.below hx)
      have GM_16 := Lib.hid (GM_15.out.below hx)
      have XP_16 := Lib.hid (XP_15.out.below hx)
      have GP_16 := Lib.hid (GP_15.out.below hx)
      have XY_16 := Lib.hid (XY_15.out.below hx)
      have GY_16 := Lib.hid (GY_15.out.below hx)
      have XT_16 := Lib.hid (XT_15.out.below hx)
      have GT_16 := Lib.hid (GT_15.out.below hx)
      have GZ_16 := Lib.hid (GZ_15.out.below hx)
      clear hx  XA_15 XM_15 X_15 GA_15 GM_15 XP_15 GP_15 XY_15 GY_15 XT_15 GT_15 GZ_15
      rw [HRK.out]
      go_wp2_with (first | (with_reducible refine Agg.wpList_loadL (NdL.of_blk GP_16.out).all rfl _ rfl rfl ?_) | (with_reducible refine Agg.wpList_loadL (NdL.of_blk GT_16.out).all rfl _ rfl rfl ?_))
      refine (stays_any P K s hs HRP.out HRK.out HSK.out _ _ _ XP_16.out XT_16.out).mono ?_
      rintro e w17 ⟨rfl, hx⟩
      have XA_17 := Lib.hid (XA_16.out.below hx)
      have XM_17 := Lib.hid (XM_16.out.below hx)
      have X_17 := Lib.hid (Agg.belowThen X_16.out (Nat.le_refl _) hx)
      have GA_17 := Lib.hid (GA_16.out.below hx)
      have GM_17 := Lib.hid (GM_16.out.below hx)
      have XP_17 := Lib.hid (XP_16.out.below hx)
      have GP_17 := Lib.hid (GP_16.out.below hx)
      have XY_17 := Lib.hid (XY_16.out.below hx)
      have GY_17 := Lib.hid (GY_16.out.below hx)
      have XT_17 := Lib.hid (XT_16.out.below hx)
      have GT_17 := Lib.hid (GT_16.out.below hx)
      have GZ_17 := Lib.hid (GZ_16.out.below hx)
      clear hx  XA_16 XM_16 X_16 GA_16 GM_16 XP_16 GP_16 XY_16 GY_16 XT_16 GT_16 GZ_16
      go_wp2_with fail
      go_ret
      exact ⟨rfl, X_17.out⟩
end Go.Proofs.YtfiadgdinhmgbaaDoor
