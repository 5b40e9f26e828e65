/- spencelaw09.PackBack. -/
import Derived.Test.YtdedpcdbnpnbeaaDoorQAV
import Derived.Test.YtdedpcdbnpnbeaaDoorQAW
import Derived.Test.YtdedpcdbnpnbeaaDoorQAP
import Derived.Test.YtdedpcdbnpnbeaaDoorQAF
namespace Go.Proofs.YtdedpcdbnpnbeaaDoor
open Go.RowKit Pl Go.Agg Go.Tr
set_option maxRecDepth 100000 in
set_option maxHeartbeats 64000000 in
theorem packBack_any (v0 v1 v2 : Value) (c : UInt8) (ta tm : T) (b : List UInt8) (hma : msz ta ≤ 1048576) (hmm : msz tm ≤ 1048576) (hbl : b.length ≤ 1048576) (w0 : World) (h0 : NodeAt w0 v0 ta) (h1 : NodeAt w0 v1 tm) (h2 : BytesAt w0 v2 b) :
    Calls Tryd.prog 4 #[v0, v1, v2, EB.val c] w0 fun e w' => e = .returned (.bool true) ∧ Below w0.heap.size w0 w' := by
  obtain ⟨xa, rfl, h0⟩ := h0
  obtain ⟨xm, rfl, h1⟩ := h1
  have XA_0 := Lib.hid (show NodeAt w0 (.agg (ndC xa)) ta from ⟨xa, rfl, h0⟩)
  have XM_0 := Lib.hid (show NodeAt w0 (.agg (ndC xm)) tm from ⟨xm, rfl, h1⟩)
  have B_0 := Lib.hid h2
  have X_0 := Lib.hid (Below.refl w0.heap.size w0)
  clear h0 h1 h2
  go_enter Tryd.func4, Tryd.ntmps4
  go_wp2_with (first | (refine Agg.wpList_box rfl 28 _ rfl (ndC xa) rfl ?_; intro g4 w1 hb hx hg; have XA_1 := Lib.hid (XA_0.out.below hx); have XM_1 := Lib.hid (XM_0.out.below hx); have B_1 := Lib.hid (SliceOf.below B_0.out hx); have X_1 := Lib.hid (Agg.belowThen X_0.out (Nat.le_refl _) hx); have GA_1 := Lib.hid hb; clear hb hx hg XA_0 XM_0 B_0 X_0) | (refine Agg.wpList_box rfl 28 _ rfl (ndC xm) rfl ?_; intro g5 w2 hb hx hg; have XA_2 := Lib.hid (XA_1.out.below hx); have XM_2 := Lib.hid (XM_1.out.below hx); have B_2 := Lib.hid (SliceOf.below B_1.out hx); have X_2 := Lib.hid (Agg.belowThen X_1.out (Nat.le_refl _) hx); have GA_2 := Lib.hid (GA_1.out.below hx); have GM_2 := Lib.hid hb; clear hb hx hg XA_1 XM_1 B_1 X_1 GA_1))
  refine (awake09_any _).mono ?_
  rintro e w3 ⟨rfl, hx⟩
  have XA_3 := Lib.hid (XA_2.out.below hx)
  have XM_3 := Lib.hid (XM_2.out.below hx)
  have B_3 := Lib.hid (SliceOf.below B_2.out hx)
  have X_3 := Lib.hid (Agg.belowThen X_2.out (Nat.le_refl _) hx)
  have GA_3 := Lib.hid (GA_2.out.below hx)
  have GM_3 := Lib.hid (GM_2.out.below hx)
  clear hx  XA_2 XM_2 B_2 X_2 GA_2 GM_2
  go_wp2_with fail
  have h1 := szT_le ta 1500
  have h2 := szT_le tm 1500
  obtain ⟨n1, hn1⟩ : ∃ n, szT ta 1500 = n := ⟨_, rfl⟩
  obtain ⟨n2, hn2⟩ : ∃ n, szT tm 1500 = n := ⟨_, rfl⟩
  rw [hn1] at h1
  rw [hn2] at h2
  have HN1 := Lib.hid hn1
  have HN2 := Lib.hid hn2
  clear hn1 hn2
  have hlb := fun W => bytes_len (B_3.out) W
  have HQA := Lib.hid (fun (y : Later w3) => (by have := size_any (count ta) ta (Nat.le_refl _) hma 1500 (by omega) _ y.w (NodeAt.below XA_3.out y.h); rw [HN1.out] at this; exact this : Calls Tryd.prog 16 #[.agg (ndC xa), .int .i64 1500] y.w fun e w' => e = .returned (.int .i64 (n1 : Int)) ∧ Below y.w.heap.size y.w w'))
  have HQM := Lib.hid (fun (y : Later w3) => (by have := size_any (count tm) tm (Nat.le_refl _) hmm 1500 (by omega) _ y.w (NodeAt.below XM_3.out y.h); rw [HN2.out] at this; exact this : Calls Tryd.prog 16 #[.agg (ndC xm), .int .i64 1500] y.w fun e w' => e = .returned (.int .i64 (n2 : Int)) ∧ Below y.w.heap.size y.w w'))
  by_cases hb1 : 1500 < n1 + n2
  · have hd3 : decide (1500 < (n1 : Int) + (n2 : Int)) = true := by simp; omega
    try simp only [Act.put, List.setIfInBounds_toArray, List.set_cons_succ, List.set_cons_zero]
    refine Agg.wp_region_later_lit (by kernel_rfl) (by kernel_rfl) ?_
    repeat (first | go_big_quiet_skip | ((first | (with_reducible refine Agg.wpQuiet_loadL (NdL.of_blk GA_3.out).all rfl _ rfl rfl ?_) | (with_reducible refine Agg.wpQuiet_loadL (NdL.of_blk GM_3.out).all rfl _ rfl rfl ?_) | (refine Agg.wpQuiet_val rfl (.int .i64 ((n1 + n2 : Nat) : Int)) (fun W _ => exec_addI (m := n1) (n := n2) (by omega) rfl rfl rfl) ?_)); simp only [Act.put, List.setIfInBounds_toArray, List.set_cons_succ, List.set_cons_zero]) | go_big_quiet_step ((first | (go_at_call 16; with_reducible exact Agg.Calls.later (HQA.out _)) | (go_at_call 16; with_reducible exact Agg.Calls.later (HQM.out _)))))
    refine wpQuiet_nil ?_
    intro _ hw'
    obtain ⟨x1, rfl⟩ := hw'
    obtain ⟨w4, hww⟩ : ∃ W, W = x1.w := ⟨_, rfl⟩
    have hx : Below w3.heap.size w3 w4 := by rw [hww]; exact x1.h
    rw [← hww]
    have XA_4 := Lib.hid (XA_3.out.below hx)
    have XM_4 := Lib.hid (XM_3.out.below hx)
    have B_4 := Lib.hid (SliceOf.below B_3.out hx)
    have X_4 := Lib.hid (Agg.belowThen X_3.out (Nat.le_refl _) hx)
    have GA_4 := Lib.hid (GA_3.out.below hx)
    have GM_4 := Lib.hid (GM_3.out.below hx)
    clear hx hww XA_3 XM_3 B_3 X_3 GA_3 GM_3
    go_wp2_with fail
    go_ret
    exact ⟨rfl, X_4.out⟩
  · have hd3 : decide (1500 < (n1 : Int) + (n2 : Int)) = false := by simp; omega
    by_cases hb2 : 6000 < b.length
    · have hd4 : decide (6000 < (b.length : Int)) = true := by simp; omega
      try simp only [Act.put, List.setIfInBounds_toArray, List.set_cons_succ, List.set_cons_zero]
      refine Agg.wp_region_later_lit (by kernel_rfl) (by kernel_rfl) ?_
      repeat (first | go_big_quiet_skip | ((first | (with_reducible refine Agg.wpQuiet_loadL (NdL.of_blk GA_3.out).all rfl _ rfl rfl ?_) | (with_reducible refine Agg.wpQuiet_loadL (NdL.of_blk GM_3.out).all rfl _ rfl rfl ?_) | (refine Agg.wpQuiet_val rfl (.int .i64 ((n1 + n2 : Nat) : Int)) (fun W _ => exec_addI (m := n1) (n := n2) (by omega) rfl rfl rfl) ?_)); simp only [Act.put, List.setIfInBounds_toArray, List.set_cons_succ, List.set_cons_zero]) | go_big_quiet_step ((first | (go_at_call 16; with_reducible exact Agg.Calls.later (HQA.out _)) | (go_at_call 16; with_reducible exact Agg.Calls.later (HQM.out _)))))
      refine wpQuiet_nil ?_
      intro _ hw'
      obtain ⟨x1, rfl⟩ := hw'
      obtain ⟨w4, hww⟩ : ∃ W, W = x1.w := ⟨_, rfl⟩
      have hx : Below w3.heap.size w3 w4 := by rw [hww]; exact x1.h
      rw [← hww]
      have XA_4 := Lib.hid (XA_3.out.below hx)
      have XM_4 := Lib.hid (XM_3.out.below hx)
      have B_4 := Lib.hid (SliceOf.below B_3.out hx)
      have X_4 := Lib.hid (Agg.belowThen X_3.out (Nat.le_refl _) hx)
      have GA_4 := Lib.hid (GA_3.out.below hx)
      have GM_4 := Lib.hid (GM_3.out.below hx)
      clear hx hww XA_3 XM_3 B_3 X_3 GA_3 GM_3
      go_wp2_with fail
      go_ret
      exact ⟨rfl, X_4.out⟩
    · have hd4 : decide (6000 < (b.length : Int)) = false := by simp; omega
      try simp only [Act.put, List.setIfInBounds_toArray, List.set_cons_succ, List.set_cons_zero]
      refine Agg.wp_region_later_lit (by kernel_rfl) (by kernel_rfl) ?_
      repeat (first | go_big_quiet_skip | ((first | (with_reducible refine Agg.wpQuiet_loadL (NdL.of_blk GA_3.out).all rfl _ rfl rfl ?_) | (with_reducible refine Agg.wpQuiet_loadL (NdL.of_blk GM_3.out).all rfl _ rfl rfl ?_) | (refine Agg.wpQuiet_val rfl (.int .i64 ((n1 + n2 : Nat) : Int)) (fun W _ => exec_addI (m := n1) (n := n2) (by omega) rfl rfl rfl) ?_)); simp only [Act.put, List.setIfInBounds_toArray, List.set_cons_succ, List.set_cons_zero]) | go_big_quiet_step ((first | (go_at_call 16; with_reducible exact Agg.Calls.later (HQA.out _)) | (go_at_call 16; with_reducible exact Agg.Calls.later (HQM.out _)))))
      refine wpQuiet_nil ?_
      intro _ hw'
      obtain ⟨x1, rfl⟩ := hw'
      obtain ⟨w4, hww⟩ : ∃ W, W = x1.w := ⟨_, rfl⟩
      have hx : Below w3.heap.size w3 w4 := by rw [hww]; exact x1.h
      rw [← hww]
      have XA_4 := Lib.hid (XA_3.out.below hx)
      have XM_4 := Lib.hid (XM_3.out.below hx)
      have B_4 := Lib.hid (SliceOf.below B_3.out hx)
      have X_4 := Lib.hid (Agg.belowThen X_3.out (Nat.le_refl _) hx)
      have GA_4 := Lib.hid (GA_3.out.below hx)
      have GM_4 := Lib.hid (GM_3.out.below hx)
      clear hx hww XA_3 XM_3 B_3 X_3 GA_3 GM_3
      clear hd3 hd4 hb1 hb2 hlb HQA HQM
      go_wp2_with (first | (with_reducible refine Agg.wpList_loadL (NdL.of_blk GA_4.out).all rfl _ rfl rfl ?_))
      refine (pack_any _ ta _ XA_4.out).mono ?_
      rintro e w5 ⟨ve, rfl, hve, hx⟩
      have XA_5 := Lib.hid (XA_4.out.below hx)
      have XM_5 := Lib.hid (XM_4.out.below hx)
      have B_5 := Lib.hid (SliceOf.below B_4.out hx)
      have X_5 := Lib.hid (Agg.belowThen X_4.out (Nat.le_refl _) hx)
      have GA_5 := Lib.hid (GA_4.out.below hx)
      have GM_5 := Lib.hid (GM_4.out.below hx)
      have VE_5 := Lib.hid (hve.slice)
      clear hx  XA_4 XM_4 B_4 X_4 GA_4 GM_4
      by_cases hpa : pkE ta = 0
      · have hpz := hpa
        rw [hpa]
        obtain ⟨hrt, hrl⟩ := pkE_zero.1 hpa
        have hpe : pkN ta = (packB ta).length := by rw [pkN, if_pos hrt]
        have hpn : decide ((pkN ta : Int) ≤ 4096) = true := by simp; omega
        have HPA := Lib.hid hpa
        have HBP := Lib.hid (fun u => back_pack (u := u) hpa)
        have hle : (pkB ta).length = pkN ta := (HBP.out ta).2.2.1
        have hl4 : pkN ta ≤ 4096 := by omega
        have hl1 : 1 ≤ pkN ta := by have h := List.length_pos_iff.2 (packB_ne ta); omega
        have hlv := fun W => bytes_len hve.slice W
        rw [hle] at hlv
        obtain ⟨vl, hsl, hvl⟩ := rest_high (Rest.of_own hve) ((pkB ta).length - 1) (by omega)
        rw [hle] at hsl
        clear hpa hpz hve hpe hrl
        have VL_5 := Lib.hid hvl
        clear hvl
        go_wp2_with (first | (with_reducible refine Agg.wpList_loadL (NdL.of_blk GA_5.out).all rfl _ rfl rfl ?_))
        refine (tright_any _ ta _ XA_5.out).mono ?_
        rintro e w6 ⟨rfl, hx⟩
        have XA_6 := Lib.hid (XA_5.out.below hx)
        have XM_6 := Lib.hid (XM_5.out.below hx)
        have B_6 := Lib.hid (SliceOf.below B_5.out hx)
        have X_6 := Lib.hid (Agg.belowThen X_5.out (Nat.le_refl _) hx)
        have GA_6 := Lib.hid (GA_5.out.below hx)
        have GM_6 := Lib.hid (GM_5.out.below hx)
        have VE_6 := Lib.hid (SliceOf.below VE_5.out hx)
        have VL_6 := Lib.hid (SliceOf.below VL_5.out hx)
        clear hx  XA_5 XM_5 B_5 X_5 GA_5 GM_5 VE_5 VL_5
        rw [hrt]
        go_wp2_with (first | (with_reducible refine Agg.wpList_loadL (NdL.of_blk GA_6.out).all rfl _ rfl rfl ?_))
        refine (psize_any _ ta _ XA_6.out).mono ?_
        rintro e w7 ⟨rfl, hx⟩
        have XA_7 := Lib.hid (XA_6.out.below hx)
        have XM_7 := Lib.hid (XM_6.out.below hx)
        have B_7 := Lib.hid (SliceOf.below B_6.out hx)
        have X_7 := Lib.hid (Agg.belowThen X_6.out (Nat.le_refl _) hx)
        have GA_7 := Lib.hid (GA_6.out.below hx)
        have GM_7 := Lib.hid (GM_6.out.below hx)
        have VE_7 := Lib.hid (SliceOf.below VE_6.out hx)
        have VL_7 := Lib.hid (SliceOf.below VL_6.out hx)
        clear hx  XA_6 XM_6 B_6 X_6 GA_6 GM_6 VE_6 VL_6
        go_wp2_with fail
        refine (open_any ve (pkB ta) _ (by omega) (VE_7.out)).mono ?_
        rintro e w8 ⟨xo, rfl, ho, hx⟩
        have XA_8 := Lib.hid (XA_7.out.below hx)
        have XM_8 := Lib.hid (XM_7.out.below hx)
        have B_8 := Lib.hid (SliceOf.below B_7.out hx)
        have X_8 := Lib.hid (Agg.belowThen X_7.out (Nat.le_refl _) hx)
        have GA_8 := Lib.hid (GA_7.out.below hx)
        have GM_8 := Lib.hid (GM_7.out.below hx)
        have VE_8 := Lib.hid (SliceOf.below VE_7.out hx)
        have VL_8 := Lib.hid (SliceOf.below VL_7.out hx)
        have XO_8 := Lib.hid (show NodeAt _ (.agg (ndC xo)) (opT (pkB ta)) from ⟨xo, rfl, ho.reads⟩)
        clear hx ho XA_7 XM_7 B_7 X_7 GA_7 GM_7 VE_7 VL_7
        rw [(HBP.out ta).1]
        rw [(HBP.out ta).2.1] at XO_8
        go_wp2_with (first | (refine Agg.wpList_new rfl rfl rfl 28 11 56 rfl rfl rfl (by decide) (ndC ndZ) (ndC xo) nd_zero (rfl) (nd_info _) (ndC_one _) rfl (by first | (simp; done) | simp [Act.put]) ?_; intro g11 w9 hb hx hg; have XA_9 := Lib.hid (XA_8.out.below hx); have XM_9 := Lib.hid (XM_8.out.below hx); have B_9 := Lib.hid (SliceOf.below B_8.out hx); have X_9 := Lib.hid (Agg.belowThen X_8.out (Nat.le_refl _) hx); have GA_9 := Lib.hid (GA_8.out.below hx); have GM_9 := Lib.hid (GM_8.out.below hx); have VE_9 := Lib.hid (SliceOf.below VE_8.out hx); have VL_9 := Lib.hid (SliceOf.below VL_8.out hx); have XO_9 := Lib.hid (XO_8.out.below hx); have GO_9 := Lib.hid (hb); clear hb hx hg XA_8 XM_8 B_8 X_8 GA_8 GM_8 VE_8 VL_8 XO_8) | (refine Agg.wpList_valw rfl (exec_subI (m := pkN ta) (n := 1) (by omega) (by omega) rfl rfl rfl) ?_))
        refine (open_any vl _ _ (by rw [List.length_take]; omega) (VL_9.out)).mono ?_
        rintro e w10 ⟨xl, rfl, ho, hx⟩
        have XA_10 := Lib.hid (XA_9.out.below hx)
        have XM_10 := Lib.hid (XM_9.out.below hx)
        have B_10 := Lib.hid (SliceOf.below B_9.out hx)
        have X_10 := Lib.hid (Agg.belowThen X_9.out (Nat.le_refl _) hx)
        have GA_10 := Lib.hid (GA_9.out.below hx)
        have GM_10 := Lib.hid (GM_9.out.below hx)
        have VE_10 := Lib.hid (SliceOf.below VE_9.out hx)
        have VL_10 := Lib.hid (SliceOf.below VL_9.out hx)
        have XO_10 := Lib.hid (XO_9.out.below hx)
        have GO_10 := Lib.hid (GO_9.out.below hx)
        clear hx ho XA_9 XM_9 B_9 X_9 GA_9 GM_9 VE_9 VL_9 XO_9 GO_9
        rw [(HBP.out ta).2.2.2.1]
        go_wp2_with (first | (refine Agg.wpList_new rfl rfl rfl 28 13 65 rfl rfl rfl (by decide) (ndC ndZ) (ndC xl) nd_zero (rfl) (nd_info _) (ndC_one _) rfl (by first | (simp; done) | simp [Act.put]) ?_; intro g13 w11 hb hx hg; have XA_11 := Lib.hid (XA_10.out.below hx); have XM_11 := Lib.hid (XM_10.out.below hx); have B_11 := Lib.hid (SliceOf.below B_10.out hx); have X_11 := Lib.hid (Agg.belowThen X_10.out (Nat.le_refl _) hx); have GA_11 := Lib.hid (GA_10.out.below hx); have GM_11 := Lib.hid (GM_10.out.below hx); have VE_11 := Lib.hid (SliceOf.below VE_10.out hx); have VL_11 := Lib.hid (SliceOf.below VL_10.out hx); have XO_11 := Lib.hid (XO_10.out.below hx); have GO_11 := Lib.hid (GO_10.out.below hx); clear hb hx hg XA_10 XM_10 B_10 X_10 GA_10 GM_10 VE_10 VL_10 XO_10 GO_10) | (refine Agg.wpList_slice0 EB rfl rfl (Nat.le_refl w11.heap.size) ?_; intro vz w12 hz hx hz0; have HZ := Lib.hid hz; have HXZ := Lib.hid hx; have HVZ := Lib.hid (SliceOf.below VE_11.out hx); clear hz hx hz0) | (refine Agg.wpList_appendS rfl _ _ rfl ve rfl rfl (pkB ta) HZ.out HVZ.out (by simp; omega) (by decide) HXZ.out.size ?_; intro vp w13 hp hx hp0; have HP := Lib.hid hp; have HXP := Lib.hid (HXZ.out.trans (hx.below _ (Nat.le_refl _) HXZ.out.size)); clear hp hx hp0) | (refine Agg.wpList_push rfl rfl 72 rfl _ rfl _ rfl c rfl (fun _ => rfl) (by first | (simp; done) | simp [Act.put]) HP.out (by simp; omega) (by decide) HXP.out.size ?_; intro uu vm w14 hm hx; have hx := HXP.out.trans (hx.below _ (Nat.le_refl _) HXP.out.size); have HM := Lib.hid hm.slice; have XA_14 := Lib.hid (XA_11.out.below hx); have XM_14 := Lib.hid (XM_11.out.below hx); have B_14 := Lib.hid (SliceOf.below B_11.out hx); have X_14 := Lib.hid (Agg.belowThen X_11.out (Nat.le_refl _) hx); have GA_14 := Lib.hid (GA_11.out.below hx); have GM_14 := Lib.hid (GM_11.out.below hx); have VE_14 := Lib.hid (SliceOf.below VE_11.out hx); have VL_14 := Lib.hid (SliceOf.below VL_11.out hx); have XO_14 := Lib.hid (XO_11.out.below hx); have GO_14 := Lib.hid (GO_11.out.below hx); clear hm hx XA_11 XM_11 B_11 X_11 GA_11 GM_11 VE_11 VL_11 XO_11 GO_11))
        refine (open_any vm _ _ (by simp; omega) HM.out).mono ?_
        rintro e w15 ⟨xz, rfl, ho, hx⟩
        have XA_15 := Lib.hid (XA_14.out.below hx)
        have XM_15 := Lib.hid (XM_14.out.below hx)
        have B_15 := Lib.hid (SliceOf.below B_14.out hx)
        have X_15 := Lib.hid (Agg.belowThen X_14.out (Nat.le_refl _) hx)
        have GA_15 := Lib.hid (GA_14.out.below hx)
        have GM_15 := Lib.hid (GM_14.out.below hx)
        have VE_15 := Lib.hid (SliceOf.below VE_14.out hx)
        have VL_15 := Lib.hid (SliceOf.below VL_14.out hx)
        have XO_15 := Lib.hid (XO_14.out.below hx)
        have GO_15 := Lib.hid (GO_14.out.below hx)
        clear hx ho XA_14 XM_14 B_14 X_14 GA_14 GM_14 VE_14 VL_14 XO_14 GO_14
        obtain ⟨nm, hnm⟩ : ∃ n, opE (([] ++ pkB ta) ++ [c]) = n := ⟨_, rfl⟩
        have hnz : nm ≠ 0 := by rw [← hnm]; exact (HBP.out ta).2.2.2.2.1 c
        rw [hnm]
        have hdm : decide ((nm : Int) = 0) = false := by simp; omega
        have hdm2 : ((nm : Int) == 0) = false := by simp; omega
        clear hnm
        go_wp2_with (first | (refine Agg.wpList_new rfl rfl rfl 28 15 75 rfl rfl rfl (by decide) (ndC ndZ) (ndC xz) nd_zero (rfl) (nd_info _) (ndC_one _) rfl (by first | (simp; done) | simp [Act.put]) ?_; intro g15 w16 hb hx hg; have XA_16 := Lib.hid (XA_15.out.below hx); have XM_16 := Lib.hid (XM_15.out.below hx); have B_16 := Lib.hid (SliceOf.below B_15.out hx); have X_16 := Lib.hid (Agg.belowThen X_15.out (Nat.le_refl _) hx); have GA_16 := Lib.hid (GA_15.out.below hx); have GM_16 := Lib.hid (GM_15.out.below hx); have VE_16 := Lib.hid (SliceOf.below VE_15.out hx); have VL_16 := Lib.hid (SliceOf.below VL_15.out hx); have XO_16 := Lib.hid (XO_15.out.below hx); have GO_16 := Lib.hid (GO_15.out.below hx); clear hb hx hg XA_15 XM_15 B_15 X_15 GA_15 GM_15 VE_15 VL_15 XO_15 GO_15) | (with_reducible refine Agg.wpList_loadL (NdL.of_blk GM_16.out).all rfl _ rfl rfl ?_))
        refine (pack_any _ tm _ XM_16.out).mono ?_
        rintro e w17 ⟨vu, rfl, hvu, hx⟩
        have XA_17 := Lib.hid (XA_16.out.below hx)
        have XM_17 := Lib.hid (XM_16.out.below hx)
        have B_17 := Lib.hid (SliceOf.below B_16.out hx)
        have X_17 := Lib.hid (Agg.belowThen X_16.out (Nat.le_refl _) hx)
        have GA_17 := Lib.hid (GA_16.out.below hx)
        have GM_17 := Lib.hid (GM_16.out.below hx)
        have VE_17 := Lib.hid (SliceOf.below VE_16.out hx)
        have VL_17 := Lib.hid (SliceOf.below VL_16.out hx)
        have XO_17 := Lib.hid (XO_16.out.below hx)
        have GO_17 := Lib.hid (GO_16.out.below hx)
        have VU_17 := Lib.hid (hvu.slice)
        clear hx hvu XA_16 XM_16 B_16 X_16 GA_16 GM_16 VE_16 VL_16 XO_16 GO_16
        by_cases hpm : pkE tm = 0
        · have hne : ∀ bb : Bool, (!(bb == bb)) = false := fun bb => by cases bb <;> rfl
          obtain ⟨hrm, hml⟩ := pkE_zero.1 hpm
          have hlm : (pkB tm).length ≤ 4096 := by rw [pkB, if_pos hpm]; exact hml
          have hsm : decide (pkB ta = pkB tm) = same ta tm := (HBP.out tm).2.2.2.2.2 hpm
          rw [hpm]
          obtain ⟨bb, hbb⟩ : ∃ bb, same ta tm = bb := ⟨_, rfl⟩
          rw [hbb] at hsm
          go_wp2_with fail
          have HQ0 := Lib.hid (fun (y : Later w17) => (by have := equal_any ta ta _ _ y.w (NodeAt.below XO_17.out y.h) (NodeAt.below XA_17.out y.h); rw [hrt, show same ta ta = true from (same_iff ..).2 rfl] at this; exact this : Calls Tryd.prog 20 #[.agg (ndC xo), .agg (ndC xa)] y.w fun e w' => e = .returned (.bool true) ∧ Below y.w.heap.size y.w w'))
          have HQ1 := Lib.hid (fun (y : Later w17) => psize_any _ ta y.w (NodeAt.below XA_17.out y.h))
          have HQ2 := Lib.hid (fun (y : Later w17) => (by have := sameBytes_any ve vu (pkB ta) (pkB tm) (by omega) (by omega) y.w (SliceOf.below VE_17.out y.h) (SliceOf.below VU_17.out y.h); rw [hsm] at this; exact this : Calls Tryd.prog 12 #[ve, vu] y.w fun e w' => e = .returned (.bool bb) ∧ Below y.w.heap.size y.w w'))
          have HQ3 := Lib.hid (fun (y : Later w17) => (by have := equal_any ta tm _ _ y.w (NodeAt.below XA_17.out y.h) (NodeAt.below XM_17.out y.h); rw [hrt, hrm, hbb] at this; exact this : Calls Tryd.prog 20 #[.agg (ndC xa), .agg (ndC xm)] y.w fun e w' => e = .returned (.bool bb) ∧ Below y.w.heap.size y.w w'))
          try simp only [Act.put, List.setIfInBounds_toArray, List.set_cons_succ, List.set_cons_zero]
          refine Agg.wp_region_later_lit (by kernel_rfl) (by kernel_rfl) ?_
          repeat (first | go_big_quiet_skip | ((first | (with_reducible refine Agg.wpQuiet_loadL (NdL.of_blk GO_17.out).all rfl _ rfl rfl ?_) | (with_reducible refine Agg.wpQuiet_loadL (NdL.of_blk GA_17.out).all rfl _ rfl rfl ?_) | (with_reducible refine Agg.wpQuiet_loadL (NdL.of_blk GM_17.out).all rfl _ rfl rfl ?_)); simp only [Act.put, List.setIfInBounds_toArray, List.set_cons_succ, List.set_cons_zero]) | go_big_quiet_step ((first | (go_at_call 20; with_reducible exact Agg.Calls.later (HQ0.out _)) | (go_at_call 19; with_reducible exact Agg.Calls.later (HQ1.out _)) | (go_at_call 12; with_reducible exact Agg.Calls.later (HQ2.out _)) | (go_at_call 20; with_reducible exact Agg.Calls.later (HQ3.out _)))))
          refine wpQuiet_nil ?_
          intro _ hw'
          obtain ⟨x1, rfl⟩ := hw'
          obtain ⟨w18, hww⟩ : ∃ W, W = x1.w := ⟨_, rfl⟩
          have hx : Below w17.heap.size w17 w18 := by rw [hww]; exact x1.h
          rw [← hww]
          have XA_18 := Lib.hid (XA_17.out.below hx)
          have XM_18 := Lib.hid (XM_17.out.below hx)
          have B_18 := Lib.hid (SliceOf.below B_17.out hx)
          have X_18 := Lib.hid (Agg.belowThen X_17.out (Nat.le_refl _) hx)
          have GA_18 := Lib.hid (GA_17.out.below hx)
          have GM_18 := Lib.hid (GM_17.out.below hx)
          have VE_18 := Lib.hid (SliceOf.below VE_17.out hx)
          have VL_18 := Lib.hid (SliceOf.below VL_17.out hx)
          have XO_18 := Lib.hid (XO_17.out.below hx)
          have GO_18 := Lib.hid (GO_17.out.below hx)
          have VU_18 := Lib.hid (SliceOf.below VU_17.out hx)
          clear hx hww XA_17 XM_17 B_17 X_17 GA_17 GM_17 VE_17 VL_17 XO_17 GO_17 VU_17
          try rw [hne]
          go_wp2_with fail
          refine (open_any v2 b _ hbl (B_18.out)).mono ?_
          rintro e w19 ⟨xb, rfl, hob, hx⟩
          have XA_19 := Lib.hid (XA_18.out.below hx)
          have XM_19 := Lib.hid (XM_18.out.below hx)
          have B_19 := Lib.hid (SliceOf.below B_18.out hx)
          have X_19 := Lib.hid (Agg.belowThen X_18.out (Nat.le_refl _) hx)
          have GA_19 := Lib.hid (GA_18.out.below hx)
          have GM_19 := Lib.hid (GM_18.out.below hx)
          have VE_19 := Lib.hid (SliceOf.below VE_18.out hx)
          have VL_19 := Lib.hid (SliceOf.below VL_18.out hx)
          have XO_19 := Lib.hid (XO_18.out.below hx)
          have GO_19 := Lib.hid (GO_18.out.below hx)
          have VU_19 := Lib.hid (SliceOf.below VU_18.out hx)
          have XB_19 := Lib.hid (show NodeAt _ (.agg (ndC xb)) (opT b) from ⟨xb, rfl, hob.reads⟩)
          clear hx hob XA_18 XM_18 B_18 X_18 GA_18 GM_18 VE_18 VL_18 XO_18 GO_18 VU_18
          by_cases hob : opE b = 0
          · rw [hob]
            have HBO := Lib.hid (back_open hob)
            go_wp2_with (first | (refine Agg.wpList_new rfl rfl rfl 28 19 121 rfl rfl rfl (by decide) (ndC ndZ) (ndC xb) nd_zero (rfl) (nd_info _) (ndC_one _) rfl (by first | (simp; done) | simp [Act.put]) ?_; intro g19 w20 hb hx hg; have XA_20 := Lib.hid (XA_19.out.below hx); have XM_20 := Lib.hid (XM_19.out.below hx); have B_20 := Lib.hid (SliceOf.below B_19.out hx); have X_20 := Lib.hid (Agg.belowThen X_19.out (Nat.le_refl _) hx); have GA_20 := Lib.hid (GA_19.out.below hx); have GM_20 := Lib.hid (GM_19.out.below hx); have VE_20 := Lib.hid (SliceOf.below VE_19.out hx); have VL_20 := Lib.hid (SliceOf.below VL_19.out hx); have XO_20 := Lib.hid (XO_19.out.below hx); have GO_20 := Lib.hid (GO_19.out.below hx); have VU_20 := Lib.hid (SliceOf.below VU_19.out hx); have XB_20 := Lib.hid (XB_19.out.below hx); have GB_20 := Lib.hid (hb); clear hb hx hg XA_19 XM_19 B_19 X_19 GA_19 GM_19 VE_19 VL_19 XO_19 GO_19 VU_19 XB_19) | (with_reducible refine Agg.wpList_loadL (NdL.of_blk GB_20.out).all rfl _ rfl rfl ?_))
            refine (pack_any _ (opT b) _ XB_20.out).mono ?_
            rintro e w21 ⟨vq, rfl, hvq, hx⟩
            have XA_21 := Lib.hid (XA_20.out.below hx)
            have XM_21 := Lib.hid (XM_20.out.below hx)
            have B_21 := Lib.hid (SliceOf.below B_20.out hx)
            have X_21 := Lib.hid (Agg.belowThen X_20.out (Nat.le_refl _) hx)
            have GA_21 := Lib.hid (GA_20.out.below hx)
            have GM_21 := Lib.hid (GM_20.out.below hx)
            have VE_21 := Lib.hid (SliceOf.below VE_20.out hx)
            have VL_21 := Lib.hid (SliceOf.below VL_20.out hx)
            have XO_21 := Lib.hid (XO_20.out.below hx)
            have GO_21 := Lib.hid (GO_20.out.below hx)
            have VU_21 := Lib.hid (SliceOf.below VU_20.out hx)
            have XB_21 := Lib.hid (XB_20.out.below hx)
            have GB_21 := Lib.hid (GB_20.out.below hx)
            have VQ_21 := Lib.hid (hvq.slice)
            clear hx hvq XA_20 XM_20 B_20 X_20 GA_20 GM_20 VE_20 VL_20 XO_20 GO_20 VU_20 XB_20 GB_20
            rw [HBO.out.1]
            rw [HBO.out.2.2] at VQ_21
            go_wp2_with (first | (with_reducible refine Agg.wpList_loadL (NdL.of_blk GB_21.out).all rfl _ rfl rfl ?_))
            refine (tright_any _ (opT b) _ XB_21.out).mono ?_
            rintro e w22 ⟨rfl, hx⟩
            have XA_22 := Lib.hid (XA_21.out.below hx)
            have XM_22 := Lib.hid (XM_21.out.below hx)
            have B_22 := Lib.hid (SliceOf.below B_21.out hx)
            have X_22 := Lib.hid (Agg.belowThen X_21.out (Nat.le_refl _) hx)
            have GA_22 := Lib.hid (GA_21.out.below hx)
            have GM_22 := Lib.hid (GM_21.out.below hx)
            have VE_22 := Lib.hid (SliceOf.below VE_21.out hx)
            have VL_22 := Lib.hid (SliceOf.below VL_21.out hx)
            have XO_22 := Lib.hid (XO_21.out.below hx)
            have GO_22 := Lib.hid (GO_21.out.below hx)
            have VU_22 := Lib.hid (SliceOf.below VU_21.out hx)
            have XB_22 := Lib.hid (XB_21.out.below hx)
            have GB_22 := Lib.hid (GB_21.out.below hx)
            have VQ_22 := Lib.hid (SliceOf.below VQ_21.out hx)
            clear hx  XA_21 XM_21 B_21 X_21 GA_21 GM_21 VE_21 VL_21 XO_21 GO_21 VU_21 XB_21 GB_21 VQ_21
            rw [HBO.out.2.1]
            go_wp2_with fail
            refine (sameBytes_any vq v2 b b hbl hbl _ (VQ_22.out) (B_22.out)).mono ?_
            rintro e w23 ⟨rfl, hx⟩
            have XA_23 := Lib.hid (XA_22.out.below hx)
            have XM_23 := Lib.hid (XM_22.out.below hx)
            have B_23 := Lib.hid (SliceOf.below B_22.out hx)
            have X_23 := Lib.hid (Agg.belowThen X_22.out (Nat.le_refl _) hx)
            have GA_23 := Lib.hid (GA_22.out.below hx)
            have GM_23 := Lib.hid (GM_22.out.below hx)
            have VE_23 := Lib.hid (SliceOf.below VE_22.out hx)
            have VL_23 := Lib.hid (SliceOf.below VL_22.out hx)
            have XO_23 := Lib.hid (XO_22.out.below hx)
            have GO_23 := Lib.hid (GO_22.out.below hx)
            have VU_23 := Lib.hid (SliceOf.below VU_22.out hx)
            have XB_23 := Lib.hid (XB_22.out.below hx)
            have GB_23 := Lib.hid (GB_22.out.below hx)
            have VQ_23 := Lib.hid (SliceOf.below VQ_22.out hx)
            clear hx  XA_22 XM_22 B_22 X_22 GA_22 GM_22 VE_22 VL_22 XO_22 GO_22 VU_22 XB_22 GB_22 VQ_22
            rw [decide_eq_true (rfl : b = b)]
            go_wp2_with fail
            go_ret
            exact ⟨rfl, X_23.out⟩
          · have hoz := opT_not hob
            rw [hoz] at XB_19
            have hdo : decide ((opE b : Int) = 0) = false := by simp; omega
            have hdn : decide (¬ (opE b : Int) = 0) = true := by simp; omega
            go_wp2_with (first | (refine Agg.wpList_new rfl rfl rfl 28 19 121 rfl rfl rfl (by decide) (ndC ndZ) (ndC xb) nd_zero (rfl) (nd_info _) (ndC_one _) rfl (by first | (simp; done) | simp [Act.put]) ?_; intro g19 w20 hb hx hg; have XA_20 := Lib.hid (XA_19.out.below hx); have XM_20 := Lib.hid (XM_19.out.below hx); have B_20 := Lib.hid (SliceOf.below B_19.out hx); have X_20 := Lib.hid (Agg.belowThen X_19.out (Nat.le_refl _) hx); have GA_20 := Lib.hid (GA_19.out.below hx); have GM_20 := Lib.hid (GM_19.out.below hx); have VE_20 := Lib.hid (SliceOf.below VE_19.out hx); have VL_20 := Lib.hid (SliceOf.below VL_19.out hx); have XO_20 := Lib.hid (XO_19.out.below hx); have GO_20 := Lib.hid (GO_19.out.below hx); have VU_20 := Lib.hid (SliceOf.below VU_19.out hx); have XB_20 := Lib.hid (XB_19.out.below hx); have GB_20 := Lib.hid (hb); clear hb hx hg XA_19 XM_19 B_19 X_19 GA_19 GM_19 VE_19 VL_19 XO_19 GO_19 VU_19 XB_19) | (with_reducible refine Agg.wpList_loadL (NdL.of_blk GB_20.out).all rfl _ rfl rfl ?_))
            refine (pack_any _ (zT) _ XB_20.out).mono ?_
            rintro e w21 ⟨vq, rfl, hvq, hx⟩
            have XA_21 := Lib.hid (XA_20.out.below hx)
            have XM_21 := Lib.hid (XM_20.out.below hx)
            have B_21 := Lib.hid (SliceOf.below B_20.out hx)
            have X_21 := Lib.hid (Agg.belowThen X_20.out (Nat.le_refl _) hx)
            have GA_21 := Lib.hid (GA_20.out.below hx)
            have GM_21 := Lib.hid (GM_20.out.below hx)
            have VE_21 := Lib.hid (SliceOf.below VE_20.out hx)
            have VL_21 := Lib.hid (SliceOf.below VL_20.out hx)
            have XO_21 := Lib.hid (XO_20.out.below hx)
            have GO_21 := Lib.hid (GO_20.out.below hx)
            have VU_21 := Lib.hid (SliceOf.below VU_20.out hx)
            have XB_21 := Lib.hid (XB_20.out.below hx)
            have GB_21 := Lib.hid (GB_20.out.below hx)
            have VQ_21 := Lib.hid (hvq.slice)
            clear hx hvq XA_20 XM_20 B_20 X_20 GA_20 GM_20 VE_20 VL_20 XO_20 GO_20 VU_20 XB_20 GB_20
            go_wp2_with (first | (with_reducible refine Agg.wpList_loadL (NdL.of_blk GB_21.out).all rfl _ rfl rfl ?_) | (with_reducible refine Agg.wpList_build0 28 rfl (by kernel_rfl) (.agg (ndC ndZ)) nd_build0 ?_))
            refine (sameNode_any zT zT (by decide +kernel) (by decide +kernel) _ _ _ XB_21.out ⟨ndZ, rfl, rfl, .nil _ _ _, [], .nil _ _ _, trivial⟩).mono ?_
            rintro e w22 ⟨rfl, hx⟩
            have XA_22 := Lib.hid (XA_21.out.below hx)
            have XM_22 := Lib.hid (XM_21.out.below hx)
            have B_22 := Lib.hid (SliceOf.below B_21.out hx)
            have X_22 := Lib.hid (Agg.belowThen X_21.out (Nat.le_refl _) hx)
            have GA_22 := Lib.hid (GA_21.out.below hx)
            have GM_22 := Lib.hid (GM_21.out.below hx)
            have VE_22 := Lib.hid (SliceOf.below VE_21.out hx)
            have VL_22 := Lib.hid (SliceOf.below VL_21.out hx)
            have XO_22 := Lib.hid (XO_21.out.below hx)
            have GO_22 := Lib.hid (GO_21.out.below hx)
            have VU_22 := Lib.hid (SliceOf.below VU_21.out hx)
            have XB_22 := Lib.hid (XB_21.out.below hx)
            have GB_22 := Lib.hid (GB_21.out.below hx)
            have VQ_22 := Lib.hid (SliceOf.below VQ_21.out hx)
            clear hx  XA_21 XM_21 B_21 X_21 GA_21 GM_21 VE_21 VL_21 XO_21 GO_21 VU_21 XB_21 GB_21 VQ_21
            rw [show same zT zT = true from by decide +kernel]
            go_wp2_with fail
            go_ret
            exact ⟨rfl, X_22.out⟩
        · have hne : ∀ bb : Bool, (!(bb == bb)) = false := fun bb => by cases bb <;> rfl
          have hdq : decide ((pkE tm : Int) = 0) = false := by simp; omega
          have hdq2 : ((pkE tm : Int) == 0) = false := by simp; omega
          go_wp2_with fail
          have HQ0 := Lib.hid (fun (y : Later w17) => (by have := equal_any ta ta _ _ y.w (NodeAt.below XO_17.out y.h) (NodeAt.below XA_17.out y.h); rw [hrt, show same ta ta = true from (same_iff ..).2 rfl] at this; exact this : Calls Tryd.prog 20 #[.agg (ndC xo), .agg (ndC xa)] y.w fun e w' => e = .returned (.bool true) ∧ Below y.w.heap.size y.w w'))
          have HQ1 := Lib.hid (fun (y : Later w17) => psize_any _ ta y.w (NodeAt.below XA_17.out y.h))
          try simp only [Act.put, List.setIfInBounds_toArray, List.set_cons_succ, List.set_cons_zero]
          refine Agg.wp_region_later_lit (by kernel_rfl) (by kernel_rfl) ?_
          repeat (first | go_big_quiet_skip | ((first | (with_reducible refine Agg.wpQuiet_loadL (NdL.of_blk GO_17.out).all rfl _ rfl rfl ?_) | (with_reducible refine Agg.wpQuiet_loadL (NdL.of_blk GA_17.out).all rfl _ rfl rfl ?_) | (with_reducible refine Agg.wpQuiet_loadL (NdL.of_blk GM_17.out).all rfl _ rfl rfl ?_)); simp only [Act.put, List.setIfInBounds_toArray, List.set_cons_succ, List.set_cons_zero]) | go_big_quiet_step ((first | (go_at_call 20; with_reducible exact Agg.Calls.later (HQ0.out _)) | (go_at_call 19; with_reducible exact Agg.Calls.later (HQ1.out _)))))
          refine wpQuiet_nil ?_
          intro _ hw'
          obtain ⟨x1, rfl⟩ := hw'
          obtain ⟨w18, hww⟩ : ∃ W, W = x1.w := ⟨_, rfl⟩
          have hx : Below w17.heap.size w17 w18 := by rw [hww]; exact x1.h
          rw [← hww]
          have XA_18 := Lib.hid (XA_17.out.below hx)
          have XM_18 := Lib.hid (XM_17.out.below hx)
          have B_18 := Lib.hid (SliceOf.below B_17.out hx)
          have X_18 := Lib.hid (Agg.belowThen X_17.out (Nat.le_refl _) hx)
          have GA_18 := Lib.hid (GA_17.out.below hx)
          have GM_18 := Lib.hid (GM_17.out.below hx)
          have VE_18 := Lib.hid (SliceOf.below VE_17.out hx)
          have VL_18 := Lib.hid (SliceOf.below VL_17.out hx)
          have XO_18 := Lib.hid (XO_17.out.below hx)
          have GO_18 := Lib.hid (GO_17.out.below hx)
          have VU_18 := Lib.hid (SliceOf.below VU_17.out hx)
          clear hx hww XA_17 XM_17 B_17 X_17 GA_17 GM_17 VE_17 VL_17 XO_17 GO_17 VU_17
          go_wp2_with fail
          refine (open_any v2 b _ hbl (B_18.out)).mono ?_
          rintro e w19 ⟨xb, rfl, hob, hx⟩
          have XA_19 := Lib.hid (XA_18.out.below hx)
          have XM_19 := Lib.hid (XM_18.out.below hx)
          have B_19 := Lib.hid (SliceOf.below B_18.out hx)
          have X_19 := Lib.hid (Agg.belowThen X_18.out (Nat.le_refl _) hx)
          have GA_19 := Lib.hid (GA_18.out.below hx)
          have GM_19 := Lib.hid (GM_18.out.below hx)
          have VE_19 := Lib.hid (SliceOf.below VE_18.out hx)
          have VL_19 := Lib.hid (SliceOf.below VL_18.out hx)
          have XO_19 := Lib.hid (XO_18.out.below hx)
          have GO_19 := Lib.hid (GO_18.out.below hx)
          have VU_19 := Lib.hid (SliceOf.below VU_18.out hx)
          have XB_19 := Lib.hid (show NodeAt _ (.agg (ndC xb)) (opT b) from ⟨xb, rfl, hob.reads⟩)
          clear hx hob XA_18 XM_18 B_18 X_18 GA_18 GM_18 VE_18 VL_18 XO_18 GO_18 VU_18
          by_cases hob : opE b = 0
          · rw [hob]
            have HBO := Lib.hid (back_open hob)
            go_wp2_with (first | (refine Agg.wpList_new rfl rfl rfl 28 19 121 rfl rfl rfl (by decide) (ndC ndZ) (ndC xb) nd_zero (rfl) (nd_info _) (ndC_one _) rfl (by first | (simp; done) | simp [Act.put]) ?_; intro g19 w20 hb hx hg; have XA_20 := Lib.hid (XA_19.out.below hx); have XM_20 := Lib.hid (XM_19.out.below hx); have B_20 := Lib.hid (SliceOf.below B_19.out hx); have X_20 := Lib.hid (Agg.belowThen X_19.out (Nat.le_refl _) hx); have GA_20 := Lib.hid (GA_19.out.below hx); have GM_20 := Lib.hid (GM_19.out.below hx); have VE_20 := Lib.hid (SliceOf.below VE_19.out hx); have VL_20 := Lib.hid (SliceOf.below VL_19.out hx); have XO_20 := Lib.hid (XO_19.out.below hx); have GO_20 := Lib.hid (GO_19.out.below hx); have VU_20 := Lib.hid (SliceOf.below VU_19.out hx); have XB_20 := Lib.hid (XB_19.out.below hx); have GB_20 := Lib.hid (hb); clear hb hx hg XA_19 XM_19 B_19 X_19 GA_19 GM_19 VE_19 VL_19 XO_19 GO_19 VU_19 XB_19) | (with_reducible refine Agg.wpList_loadL (NdL.of_blk GB_20.out).all rfl _ rfl rfl ?_))
            refine (pack_any _ (opT b) _ XB_20.out).mono ?_
            rintro e w21 ⟨vq, rfl, hvq, hx⟩
            have XA_21 := Lib.hid (XA_20.out.below hx)
            have XM_21 := Lib.hid (XM_20.out.below hx)
            have B_21 := Lib.hid (SliceOf.below B_20.out hx)
            have X_21 := Lib.hid (Agg.belowThen X_20.out (Nat.le_refl _) hx)
            have GA_21 := Lib.hid (GA_20.out.below hx)
            have GM_21 := Lib.hid (GM_20.out.below hx)
            have VE_21 := Lib.hid (SliceOf.below VE_20.out hx)
            have VL_21 := Lib.hid (SliceOf.below VL_20.out hx)
            have XO_21 := Lib.hid (XO_20.out.below hx)
            have GO_21 := Lib.hid (GO_20.out.below hx)
            have VU_21 := Lib.hid (SliceOf.below VU_20.out hx)
            have XB_21 := Lib.hid (XB_20.out.below hx)
            have GB_21 := Lib.hid (GB_20.out.below hx)
            have VQ_21 := Lib.hid (hvq.slice)
            clear hx hvq XA_20 XM_20 B_20 X_20 GA_20 GM_20 VE_20 VL_20 XO_20 GO_20 VU_20 XB_20 GB_20
            rw [HBO.out.1]
            rw [HBO.out.2.2] at VQ_21
            go_wp2_with (first | (with_reducible refine Agg.wpList_loadL (NdL.of_blk GB_21.out).all rfl _ rfl rfl ?_))
            refine (tright_any _ (opT b) _ XB_21.out).mono ?_
            rintro e w22 ⟨rfl, hx⟩
            have XA_22 := Lib.hid (XA_21.out.below hx)
            have XM_22 := Lib.hid (XM_21.out.below hx)
            have B_22 := Lib.hid (SliceOf.below B_21.out hx)
            have X_22 := Lib.hid (Agg.belowThen X_21.out (Nat.le_refl _) hx)
            have GA_22 := Lib.hid (GA_21.out.below hx)
            have GM_22 := Lib.hid (GM_21.out.below hx)
            have VE_22 := Lib.hid (SliceOf.below VE_21.out hx)
            have VL_22 := Lib.hid (SliceOf.below VL_21.out hx)
            have XO_22 := Lib.hid (XO_21.out.below hx)
            have GO_22 := Lib.hid (GO_21.out.below hx)
            have VU_22 := Lib.hid (SliceOf.below VU_21.out hx)
            have XB_22 := Lib.hid (XB_21.out.below hx)
            have GB_22 := Lib.hid (GB_21.out.below hx)
            have VQ_22 := Lib.hid (SliceOf.below VQ_21.out hx)
            clear hx  XA_21 XM_21 B_21 X_21 GA_21 GM_21 VE_21 VL_21 XO_21 GO_21 VU_21 XB_21 GB_21 VQ_21
            rw [HBO.out.2.1]
            go_wp2_with fail
            refine (sameBytes_any vq v2 b b hbl hbl _ (VQ_22.out) (B_22.out)).mono ?_
            rintro e w23 ⟨rfl, hx⟩
            have XA_23 := Lib.hid (XA_22.out.below hx)
            have XM_23 := Lib.hid (XM_22.out.below hx)
            have B_23 := Lib.hid (SliceOf.below B_22.out hx)
            have X_23 := Lib.hid (Agg.belowThen X_22.out (Nat.le_refl _) hx)
            have GA_23 := Lib.hid (GA_22.out.below hx)
            have GM_23 := Lib.hid (GM_22.out.below hx)
            have VE_23 := Lib.hid (SliceOf.below VE_22.out hx)
            have VL_23 := Lib.hid (SliceOf.below VL_22.out hx)
            have XO_23 := Lib.hid (XO_22.out.below hx)
            have GO_23 := Lib.hid (GO_22.out.below hx)
            have VU_23 := Lib.hid (SliceOf.below VU_22.out hx)
            have XB_23 := Lib.hid (XB_22.out.below hx)
            have GB_23 := Lib.hid (GB_22.out.below hx)
            have VQ_23 := Lib.hid (SliceOf.below VQ_22.out hx)
            clear hx  XA_22 XM_22 B_22 X_22 GA_22 GM_22 VE_22 VL_22 XO_22 GO_22 VU_22 XB_22 GB_22 VQ_22
            rw [decide_eq_true (rfl : b = b)]
            go_wp2_with fail
            go_ret
            exact ⟨rfl, X_23.out⟩
          · have hoz := opT_not hob
            rw [hoz] at XB_19
            have hdo : decide ((opE b : Int) = 0) = false := by simp; omega
            have hdn : decide (¬ (opE b : Int) = 0) = true := by simp; omega
            go_wp2_with (first | (refine Agg.wpList_new rfl rfl rfl 28 19 121 rfl rfl rfl (by decide) (ndC ndZ) (ndC xb) nd_zero (rfl) (nd_info _) (ndC_one _) rfl (by first | (simp; done) | simp [Act.put]) ?_; intro g19 w20 hb hx hg; have XA_20 := Lib.hid (XA_19.out.below hx); have XM_20 := Lib.hid (XM_19.out.below hx); have B_20 := Lib.hid (SliceOf.below B_19.out hx); have X_20 := Lib.hid (Agg.belowThen X_19.out (Nat.le_refl _) hx); have GA_20 := Lib.hid (GA_19.out.below hx); have GM_20 := Lib.hid (GM_19.out.below hx); have VE_20 := Lib.hid (SliceOf.below VE_19.out hx); have VL_20 := Lib.hid (SliceOf.below VL_19.out hx); have XO_20 := Lib.hid (XO_19.out.below hx); have GO_20 := Lib.hid (GO_19.out.below hx); have VU_20 := Lib.hid (SliceOf.below VU_19.out hx); have XB_20 := Lib.hid (XB_19.out.below hx); have GB_20 := Lib.hid (hb); clear hb hx hg XA_19 XM_19 B_19 X_19 GA_19 GM_19 VE_19 VL_19 XO_19 GO_19 VU_19 XB_19) | (with_reducible refine Agg.wpList_loadL (NdL.of_blk GB_20.out).all rfl _ rfl rfl ?_))
            refine (pack_any _ (zT) _ XB_20.out).mono ?_
            rintro e w21 ⟨vq, rfl, hvq, hx⟩
            have XA_21 := Lib.hid (XA_20.out.below hx)
            have XM_21 := Lib.hid (XM_20.out.below hx)
            have B_21 := Lib.hid (SliceOf.below B_20.out hx)
            have X_21 := Lib.hid (Agg.belowThen X_20.out (Nat.le_refl _) hx)
            have GA_21 := Lib.hid (GA_20.out.below hx)
            have GM_21 := Lib.hid (GM_20.out.below hx)
            have VE_21 := Lib.hid (SliceOf.below VE_20.out hx)
            have VL_21 := Lib.hid (SliceOf.below VL_20.out hx)
            have XO_21 := Lib.hid (XO_20.out.below hx)
            have GO_21 := Lib.hid (GO_20.out.below hx)
            have VU_21 := Lib.hid (SliceOf.below VU_20.out hx)
            have XB_21 := Lib.hid (XB_20.out.below hx)
            have GB_21 := Lib.hid (GB_20.out.below hx)
            have VQ_21 := Lib.hid (hvq.slice)
            clear hx hvq XA_20 XM_20 B_20 X_20 GA_20 GM_20 VE_20 VL_20 XO_20 GO_20 VU_20 XB_20 GB_20
            go_wp2_with (first | (with_reducible refine Agg.wpList_loadL (NdL.of_blk GB_21.out).all rfl _ rfl rfl ?_) | (with_reducible refine Agg.wpList_build0 28 rfl (by kernel_rfl) (.agg (ndC ndZ)) nd_build0 ?_))
            refine (sameNode_any zT zT (by decide +kernel) (by decide +kernel) _ _ _ XB_21.out ⟨ndZ, rfl, rfl, .nil _ _ _, [], .nil _ _ _, trivial⟩).mono ?_
            rintro e w22 ⟨rfl, hx⟩
            have XA_22 := Lib.hid (XA_21.out.below hx)
            have XM_22 := Lib.hid (XM_21.out.below hx)
            have B_22 := Lib.hid (SliceOf.below B_21.out hx)
            have X_22 := Lib.hid (Agg.belowThen X_21.out (Nat.le_refl _) hx)
            have GA_22 := Lib.hid (GA_21.out.below hx)
            have GM_22 := Lib.hid (GM_21.out.below hx)
            have VE_22 := Lib.hid (SliceOf.below VE_21.out hx)
            have VL_22 := Lib.hid (SliceOf.below VL_21.out hx)
            have XO_22 := Lib.hid (XO_21.out.below hx)
            have GO_22 := Lib.hid (GO_21.out.below hx)
            have VU_22 := Lib.hid (SliceOf.below VU_21.out hx)
            have XB_22 := Lib.hid (XB_21.out.below hx)
            have GB_22 := Lib.hid (GB_21.out.below hx)
            have VQ_22 := Lib.hid (SliceOf.below VQ_21.out hx)
            clear hx  XA_21 XM_21 B_21 X_21 GA_21 GM_21 VE_21 VL_21 XO_21 GO_21 VU_21 XB_21 GB_21 VQ_21
            rw [show same zT zT = true from by decide +kernel]
            go_wp2_with fail
            go_ret
            exact ⟨rfl, X_22.out⟩
      · have hdp : decide ((pkE ta : Int) = 0) = false := by simp; omega
        have hdp2 : decide (pkE ta = 0) = false := by simp; omega
        have hsz := pkE_size (t := ta)
        rw [decide_eq_false hpa] at hsz
        have HSZ := Lib.hid hsz
        clear hve hsz
        go_wp2_with (first | (with_reducible refine Agg.wpList_loadL (NdL.of_blk GA_5.out).all rfl _ rfl rfl ?_))
        refine (tright_any _ ta _ XA_5.out).mono ?_
        rintro e w6 ⟨rfl, hx⟩
        have XA_6 := Lib.hid (XA_5.out.below hx)
        have XM_6 := Lib.hid (XM_5.out.below hx)
        have B_6 := Lib.hid (SliceOf.below B_5.out hx)
        have X_6 := Lib.hid (Agg.belowThen X_5.out (Nat.le_refl _) hx)
        have GA_6 := Lib.hid (GA_5.out.below hx)
        have GM_6 := Lib.hid (GM_5.out.below hx)
        have VE_6 := Lib.hid (SliceOf.below VE_5.out hx)
        clear hx  XA_5 XM_5 B_5 X_5 GA_5 GM_5 VE_5
        cases hrt : right ta with
        | false =>
          go_wp2_with fail
          refine (open_any v2 b _ hbl (B_6.out)).mono ?_
          rintro e w7 ⟨xb, rfl, hob, hx⟩
          have XA_7 := Lib.hid (XA_6.out.below hx)
          have XM_7 := Lib.hid (XM_6.out.below hx)
          have B_7 := Lib.hid (SliceOf.below B_6.out hx)
          have X_7 := Lib.hid (Agg.belowThen X_6.out (Nat.le_refl _) hx)
          have GA_7 := Lib.hid (GA_6.out.below hx)
          have GM_7 := Lib.hid (GM_6.out.below hx)
          have VE_7 := Lib.hid (SliceOf.below VE_6.out hx)
          have XB_7 := Lib.hid (show NodeAt _ (.agg (ndC xb)) (opT b) from ⟨xb, rfl, hob.reads⟩)
          clear hx hob XA_6 XM_6 B_6 X_6 GA_6 GM_6 VE_6
          by_cases hob : opE b = 0
          · rw [hob]
            have HBO := Lib.hid (back_open hob)
            go_wp2_with (first | (refine Agg.wpList_new rfl rfl rfl 28 19 121 rfl rfl rfl (by decide) (ndC ndZ) (ndC xb) nd_zero (rfl) (nd_info _) (ndC_one _) rfl (by first | (simp; done) | simp [Act.put]) ?_; intro g19 w8 hb hx hg; have XA_8 := Lib.hid (XA_7.out.below hx); have XM_8 := Lib.hid (XM_7.out.below hx); have B_8 := Lib.hid (SliceOf.below B_7.out hx); have X_8 := Lib.hid (Agg.belowThen X_7.out (Nat.le_refl _) hx); have GA_8 := Lib.hid (GA_7.out.below hx); have GM_8 := Lib.hid (GM_7.out.below hx); have VE_8 := Lib.hid (SliceOf.below VE_7.out hx); have XB_8 := Lib.hid (XB_7.out.below hx); have GB_8 := Lib.hid (hb); clear hb hx hg XA_7 XM_7 B_7 X_7 GA_7 GM_7 VE_7 XB_7) | (with_reducible refine Agg.wpList_loadL (NdL.of_blk GB_8.out).all rfl _ rfl rfl ?_))
            refine (pack_any _ (opT b) _ XB_8.out).mono ?_
            rintro e w9 ⟨vq, rfl, hvq, hx⟩
            have XA_9 := Lib.hid (XA_8.out.below hx)
            have XM_9 := Lib.hid (XM_8.out.below hx)
            have B_9 := Lib.hid (SliceOf.below B_8.out hx)
            have X_9 := Lib.hid (Agg.belowThen X_8.out (Nat.le_refl _) hx)
            have GA_9 := Lib.hid (GA_8.out.below hx)
            have GM_9 := Lib.hid (GM_8.out.below hx)
            have VE_9 := Lib.hid (SliceOf.below VE_8.out hx)
            have XB_9 := Lib.hid (XB_8.out.below hx)
            have GB_9 := Lib.hid (GB_8.out.below hx)
            have VQ_9 := Lib.hid (hvq.slice)
            clear hx hvq XA_8 XM_8 B_8 X_8 GA_8 GM_8 VE_8 XB_8 GB_8
            rw [HBO.out.1]
            rw [HBO.out.2.2] at VQ_9
            go_wp2_with (first | (with_reducible refine Agg.wpList_loadL (NdL.of_blk GB_9.out).all rfl _ rfl rfl ?_))
            refine (tright_any _ (opT b) _ XB_9.out).mono ?_
            rintro e w10 ⟨rfl, hx⟩
            have XA_10 := Lib.hid (XA_9.out.below hx)
            have XM_10 := Lib.hid (XM_9.out.below hx)
            have B_10 := Lib.hid (SliceOf.below B_9.out hx)
            have X_10 := Lib.hid (Agg.belowThen X_9.out (Nat.le_refl _) hx)
            have GA_10 := Lib.hid (GA_9.out.below hx)
            have GM_10 := Lib.hid (GM_9.out.below hx)
            have VE_10 := Lib.hid (SliceOf.below VE_9.out hx)
            have XB_10 := Lib.hid (XB_9.out.below hx)
            have GB_10 := Lib.hid (GB_9.out.below hx)
            have VQ_10 := Lib.hid (SliceOf.below VQ_9.out hx)
            clear hx  XA_9 XM_9 B_9 X_9 GA_9 GM_9 VE_9 XB_9 GB_9 VQ_9
            rw [HBO.out.2.1]
            go_wp2_with fail
            refine (sameBytes_any vq v2 b b hbl hbl _ (VQ_10.out) (B_10.out)).mono ?_
            rintro e w11 ⟨rfl, hx⟩
            have XA_11 := Lib.hid (XA_10.out.below hx)
            have XM_11 := Lib.hid (XM_10.out.below hx)
            have B_11 := Lib.hid (SliceOf.below B_10.out hx)
            have X_11 := Lib.hid (Agg.belowThen X_10.out (Nat.le_refl _) hx)
            have GA_11 := Lib.hid (GA_10.out.below hx)
            have GM_11 := Lib.hid (GM_10.out.below hx)
            have VE_11 := Lib.hid (SliceOf.below VE_10.out hx)
            have XB_11 := Lib.hid (XB_10.out.below hx)
            have GB_11 := Lib.hid (GB_10.out.below hx)
            have VQ_11 := Lib.hid (SliceOf.below VQ_10.out hx)
            clear hx  XA_10 XM_10 B_10 X_10 GA_10 GM_10 VE_10 XB_10 GB_10 VQ_10
            rw [decide_eq_true (rfl : b = b)]
            go_wp2_with fail
            go_ret
            exact ⟨rfl, X_11.out⟩
          · have hoz := opT_not hob
            rw [hoz] at XB_7
            have hdo : decide ((opE b : Int) = 0) = false := by simp; omega
            have hdn : decide (¬ (opE b : Int) = 0) = true := by simp; omega
            go_wp2_with (first | (refine Agg.wpList_new rfl rfl rfl 28 19 121 rfl rfl rfl (by decide) (ndC ndZ) (ndC xb) nd_zero (rfl) (nd_info _) (ndC_one _) rfl (by first | (simp; done) | simp [Act.put]) ?_; intro g19 w8 hb hx hg; have XA_8 := Lib.hid (XA_7.out.below hx); have XM_8 := Lib.hid (XM_7.out.below hx); have B_8 := Lib.hid (SliceOf.below B_7.out hx); have X_8 := Lib.hid (Agg.belowThen X_7.out (Nat.le_refl _) hx); have GA_8 := Lib.hid (GA_7.out.below hx); have GM_8 := Lib.hid (GM_7.out.below hx); have VE_8 := Lib.hid (SliceOf.below VE_7.out hx); have XB_8 := Lib.hid (XB_7.out.below hx); have GB_8 := Lib.hid (hb); clear hb hx hg XA_7 XM_7 B_7 X_7 GA_7 GM_7 VE_7 XB_7) | (with_reducible refine Agg.wpList_loadL (NdL.of_blk GB_8.out).all rfl _ rfl rfl ?_))
            refine (pack_any _ (zT) _ XB_8.out).mono ?_
            rintro e w9 ⟨vq, rfl, hvq, hx⟩
            have XA_9 := Lib.hid (XA_8.out.below hx)
            have XM_9 := Lib.hid (XM_8.out.below hx)
            have B_9 := Lib.hid (SliceOf.below B_8.out hx)
            have X_9 := Lib.hid (Agg.belowThen X_8.out (Nat.le_refl _) hx)
            have GA_9 := Lib.hid (GA_8.out.below hx)
            have GM_9 := Lib.hid (GM_8.out.below hx)
            have VE_9 := Lib.hid (SliceOf.below VE_8.out hx)
            have XB_9 := Lib.hid (XB_8.out.below hx)
            have GB_9 := Lib.hid (GB_8.out.below hx)
            have VQ_9 := Lib.hid (hvq.slice)
            clear hx hvq XA_8 XM_8 B_8 X_8 GA_8 GM_8 VE_8 XB_8 GB_8
            go_wp2_with (first | (with_reducible refine Agg.wpList_loadL (NdL.of_blk GB_9.out).all rfl _ rfl rfl ?_) | (with_reducible refine Agg.wpList_build0 28 rfl (by kernel_rfl) (.agg (ndC ndZ)) nd_build0 ?_))
            refine (sameNode_any zT zT (by decide +kernel) (by decide +kernel) _ _ _ XB_9.out ⟨ndZ, rfl, rfl, .nil _ _ _, [], .nil _ _ _, trivial⟩).mono ?_
            rintro e w10 ⟨rfl, hx⟩
            have XA_10 := Lib.hid (XA_9.out.below hx)
            have XM_10 := Lib.hid (XM_9.out.below hx)
            have B_10 := Lib.hid (SliceOf.below B_9.out hx)
            have X_10 := Lib.hid (Agg.belowThen X_9.out (Nat.le_refl _) hx)
            have GA_10 := Lib.hid (GA_9.out.below hx)
            have GM_10 := Lib.hid (GM_9.out.below hx)
            have VE_10 := Lib.hid (SliceOf.below VE_9.out hx)
            have XB_10 := Lib.hid (XB_9.out.below hx)
            have GB_10 := Lib.hid (GB_9.out.below hx)
            have VQ_10 := Lib.hid (SliceOf.below VQ_9.out hx)
            clear hx  XA_9 XM_9 B_9 X_9 GA_9 GM_9 VE_9 XB_9 GB_9 VQ_9
            rw [show same zT zT = true from by decide +kernel]
            go_wp2_with fail
            go_ret
            exact ⟨rfl, X_10.out⟩
        | true =>
          have hsz := HSZ.out
          rw [hrt] at hsz
          have hpn : decide ((pkN ta : Int) ≤ 4096) = false := by simp at hsz ⊢; omega
          clear hsz
          go_wp2_with (first | (with_reducible refine Agg.wpList_loadL (NdL.of_blk GA_6.out).all rfl _ rfl rfl ?_))
          refine (psize_any _ ta _ XA_6.out).mono ?_
          rintro e w7 ⟨rfl, hx⟩
          have XA_7 := Lib.hid (XA_6.out.below hx)
          have XM_7 := Lib.hid (XM_6.out.below hx)
          have B_7 := Lib.hid (SliceOf.below B_6.out hx)
          have X_7 := Lib.hid (Agg.belowThen X_6.out (Nat.le_refl _) hx)
          have GA_7 := Lib.hid (GA_6.out.below hx)
          have GM_7 := Lib.hid (GM_6.out.below hx)
          have VE_7 := Lib.hid (SliceOf.below VE_6.out hx)
          clear hx  XA_6 XM_6 B_6 X_6 GA_6 GM_6 VE_6
          go_wp2_with fail
          refine (open_any v2 b _ hbl (B_7.out)).mono ?_
          rintro e w8 ⟨xb, rfl, hob, hx⟩
          have XA_8 := Lib.hid (XA_7.out.below hx)
          have XM_8 := Lib.hid (XM_7.out.below hx)
          have B_8 := Lib.hid (SliceOf.below B_7.out hx)
          have X_8 := Lib.hid (Agg.belowThen X_7.out (Nat.le_refl _) hx)
          have GA_8 := Lib.hid (GA_7.out.below hx)
          have GM_8 := Lib.hid (GM_7.out.below hx)
          have VE_8 := Lib.hid (SliceOf.below VE_7.out hx)
          have XB_8 := Lib.hid (show NodeAt _ (.agg (ndC xb)) (opT b) from ⟨xb, rfl, hob.reads⟩)
          clear hx hob XA_7 XM_7 B_7 X_7 GA_7 GM_7 VE_7
          by_cases hob : opE b = 0
          · rw [hob]
            have HBO := Lib.hid (back_open hob)
            go_wp2_with (first | (refine Agg.wpList_new rfl rfl rfl 28 19 121 rfl rfl rfl (by decide) (ndC ndZ) (ndC xb) nd_zero (rfl) (nd_info _) (ndC_one _) rfl (by first | (simp; done) | simp [Act.put]) ?_; intro g19 w9 hb hx hg; have XA_9 := Lib.hid (XA_8.out.below hx); have XM_9 := Lib.hid (XM_8.out.below hx); have B_9 := Lib.hid (SliceOf.below B_8.out hx); have X_9 := Lib.hid (Agg.belowThen X_8.out (Nat.le_refl _) hx); have GA_9 := Lib.hid (GA_8.out.below hx); have GM_9 := Lib.hid (GM_8.out.below hx); have VE_9 := Lib.hid (SliceOf.below VE_8.out hx); have XB_9 := Lib.hid (XB_8.out.below hx); have GB_9 := Lib.hid (hb); clear hb hx hg XA_8 XM_8 B_8 X_8 GA_8 GM_8 VE_8 XB_8) | (with_reducible refine Agg.wpList_loadL (NdL.of_blk GB_9.out).all rfl _ rfl rfl ?_))
            refine (pack_any _ (opT b) _ XB_9.out).mono ?_
            rintro e w10 ⟨vq, rfl, hvq, hx⟩
            have XA_10 := Lib.hid (XA_9.out.below hx)
            have XM_10 := Lib.hid (XM_9.out.below hx)
            have B_10 := Lib.hid (SliceOf.below B_9.out hx)
            have X_10 := Lib.hid (Agg.belowThen X_9.out (Nat.le_refl _) hx)
            have GA_10 := Lib.hid (GA_9.out.below hx)
            have GM_10 := Lib.hid (GM_9.out.below hx)
            have VE_10 := Lib.hid (SliceOf.below VE_9.out hx)
            have XB_10 := Lib.hid (XB_9.out.below hx)
            have GB_10 := Lib.hid (GB_9.out.below hx)
            have VQ_10 := Lib.hid (hvq.slice)
            clear hx hvq XA_9 XM_9 B_9 X_9 GA_9 GM_9 VE_9 XB_9 GB_9
            rw [HBO.out.1]
            rw [HBO.out.2.2] at VQ_10
            go_wp2_with (first | (with_reducible refine Agg.wpList_loadL (NdL.of_blk GB_10.out).all rfl _ rfl rfl ?_))
            refine (tright_any _ (opT b) _ XB_10.out).mono ?_
            rintro e w11 ⟨rfl, hx⟩
            have XA_11 := Lib.hid (XA_10.out.below hx)
            have XM_11 := Lib.hid (XM_10.out.below hx)
            have B_11 := Lib.hid (SliceOf.below B_10.out hx)
            have X_11 := Lib.hid (Agg.belowThen X_10.out (Nat.le_refl _) hx)
            have GA_11 := Lib.hid (GA_10.out.below hx)
            have GM_11 := Lib.hid (GM_10.out.below hx)
            have VE_11 := Lib.hid (SliceOf.below VE_10.out hx)
            have XB_11 := Lib.hid (XB_10.out.below hx)
            have GB_11 := Lib.hid (GB_10.out.below hx)
            have VQ_11 := Lib.hid (SliceOf.below VQ_10.out hx)
            clear hx  XA_10 XM_10 B_10 X_10 GA_10 GM_10 VE_10 XB_10 GB_10 VQ_10
            rw [HBO.out.2.1]
            go_wp2_with fail
            refine (sameBytes_any vq v2 b b hbl hbl _ (VQ_11.out) (B_11.out)).mono ?_
            rintro e w12 ⟨rfl, hx⟩
            have XA_12 := Lib.hid (XA_11.out.below hx)
            have XM_12 := Lib.hid (XM_11.out.below hx)
            have B_12 := Lib.hid (SliceOf.below B_11.out hx)
            have X_12 := Lib.hid (Agg.belowThen X_11.out (Nat.le_refl _) hx)
            have GA_12 := Lib.hid (GA_11.out.below hx)
            have GM_12 := Lib.hid (GM_11.out.below hx)
            have VE_12 := Lib.hid (SliceOf.below VE_11.out hx)
            have XB_12 := Lib.hid (XB_11.out.below hx)
            have GB_12 := Lib.hid (GB_11.out.below hx)
            have VQ_12 := Lib.hid (SliceOf.below VQ_11.out hx)
            clear hx  XA_11 XM_11 B_11 X_11 GA_11 GM_11 VE_11 XB_11 GB_11 VQ_11
            rw [decide_eq_true (rfl : b = b)]
            go_wp2_with fail
            go_ret
            exact ⟨rfl, X_12.out⟩
          · have hoz := opT_not hob
            rw [hoz] at XB_8
            have hdo : decide ((opE b : Int) = 0) = false := by simp; omega
            have hdn : decide (¬ (opE b : Int) = 0) = true := by simp; omega
            go_wp2_with (first | (refine Agg.wpList_new rfl rfl rfl 28 19 121 rfl rfl rfl (by decide) (ndC ndZ) (ndC xb) nd_zero (rfl) (nd_info _) (ndC_one _) rfl (by first | (simp; done) | simp [Act.put]) ?_; intro g19 w9 hb hx hg; have XA_9 := Lib.hid (XA_8.out.below hx); have XM_9 := Lib.hid (XM_8.out.below hx); have B_9 := Lib.hid (SliceOf.below B_8.out hx); have X_9 := Lib.hid (Agg.belowThen X_8.out (Nat.le_refl _) hx); have GA_9 := Lib.hid (GA_8.out.below hx); have GM_9 := Lib.hid (GM_8.out.below hx); have VE_9 := Lib.hid (SliceOf.below VE_8.out hx); have XB_9 := Lib.hid (XB_8.out.below hx); have GB_9 := Lib.hid (hb); clear hb hx hg XA_8 XM_8 B_8 X_8 GA_8 GM_8 VE_8 XB_8) | (with_reducible refine Agg.wpList_loadL (NdL.of_blk GB_9.out).all rfl _ rfl rfl ?_))
            refine (pack_any _ (zT) _ XB_9.out).mono ?_
            rintro e w10 ⟨vq, rfl, hvq, hx⟩
            have XA_10 := Lib.hid (XA_9.out.below hx)
            have XM_10 := Lib.hid (XM_9.out.below hx)
            have B_10 := Lib.hid (SliceOf.below B_9.out hx)
            have X_10 := Lib.hid (Agg.belowThen X_9.out (Nat.le_refl _) hx)
            have GA_10 := Lib.hid (GA_9.out.below hx)
            have GM_10 := Lib.hid (GM_9.out.below hx)
            have VE_10 := Lib.hid (SliceOf.below VE_9.out hx)
            have XB_10 := Lib.hid (XB_9.out.below hx)
            have GB_10 := Lib.hid (GB_9.out.below hx)
            have VQ_10 := Lib.hid (hvq.slice)
            clear hx hvq XA_9 XM_9 B_9 X_9 GA_9 GM_9 VE_9 XB_9 GB_9
            go_wp2_with (first | (with_reducible refine Agg.wpList_loadL (NdL.of_blk GB_10.out).all rfl _ rfl rfl ?_) | (with_reducible refine Agg.wpList_build0 28 rfl (by kernel_rfl) (.agg (ndC ndZ)) nd_build0 ?_))
            refine (sameNode_any zT zT (by decide +kernel) (by decide +kernel) _ _ _ XB_10.out ⟨ndZ, rfl, rfl, .nil _ _ _, [], .nil _ _ _, trivial⟩).mono ?_
            rintro e w11 ⟨rfl, hx⟩
            have XA_11 := Lib.hid (XA_10.out.below hx)
            have XM_11 := Lib.hid (XM_10.out.below hx)
            have B_11 := Lib.hid (SliceOf.below B_10.out hx)
            have X_11 := Lib.hid (Agg.belowThen X_10.out (Nat.le_refl _) hx)
            have GA_11 := Lib.hid (GA_10.out.below hx)
            have GM_11 := Lib.hid (GM_10.out.below hx)
            have VE_11 := Lib.hid (SliceOf.below VE_10.out hx)
            have XB_11 := Lib.hid (XB_10.out.below hx)
            have GB_11 := Lib.hid (GB_10.out.below hx)
            have VQ_11 := Lib.hid (SliceOf.below VQ_10.out hx)
            clear hx  XA_10 XM_10 B_10 X_10 GA_10 GM_10 VE_10 XB_10 GB_10 VQ_10
            rw [show same zT zT = true from by decide +kernel]
            go_wp2_with fail
            go_ret
            exact ⟨rfl, X_11.out⟩
end Go.Proofs.YtdedpcdbnpnbeaaDoor
