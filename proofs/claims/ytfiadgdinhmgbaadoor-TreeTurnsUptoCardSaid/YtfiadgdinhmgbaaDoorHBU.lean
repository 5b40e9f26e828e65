/- spencelaw08.TreeTurns. -/
import Derived.Test.YtfiadgdinhmgbaaDoorHBD
import Derived.Test.YtfiadgdinhmgbaaDoorHBG
import Derived.Test.YtfiadgdinhmgbaaDoorHBQ
import Derived.Test.YtfiadgdinhmgbaaDoorHBR
import Derived.Test.YtfiadgdinhmgbaaDoorHBS
import Derived.Test.YtfiadgdinhmgbaaDoorHBT
namespace Go.Tr
open Go.Proofs.YtfiadgdinhmgbaaDoor
theorem z_msz : msz zTree ≤ 1048576 := by simp [zTree, msz, mszL]
theorem fd_msz (t : T) (s : List UInt8) : msz (fdT t s) ≤ 1048576 := by
 by_cases h : fdE t s = 0
 ·obtain ⟨hr, ws, _, hf⟩ := fdE_zero h
  have := right_msz (find_right hr hf)
  omega
 ·rw [fdT, if_neg h]; exact z_msz
theorem pt_msz (t : T) (s : List UInt8) (u : T) : msz (ptT t s u) ≤ 1048576 := by
 by_cases h : ptE t s u = 0
 ·have := right_msz (ptE_zero h).2.2.1
  omega
 ·rw [ptT_not h]; exact z_msz
theorem tk_msz (t : T) (s : List UInt8) : msz (tkT t s) ≤ 1048576 := by
 by_cases h : tkE t s = 0
 ·have := right_msz (takes h).1
  omega
 ·rw [tkT, if_neg h]; exact z_msz
end Go.Tr
namespace Go.Proofs.YtfiadgdinhmgbaaDoor
open Go.RowKit Pl Go.Agg Go.Tr
set_option maxRecDepth 100000 in
set_option maxHeartbeats 64000000 in
theorem treeTurns_any (v1 v2 : Value) (t u : T) (s : List UInt8) (hmt : msz t ≤ 1048576) (hmu : msz u ≤ 1048576) (hs : s.length ≤ 1048576) (w : World) (hv1 : NodeAt w v1 t) (hv2 : NodeAt w v2 u) :
  Calls Tryd.prog 3 #[v1, v2, .string ⟨s.toArray⟩] w fun e w' => e = .returned (.bool true) ∧ Below w.heap.size w w' := by
 obtain ⟨xa, rfl, h0⟩ := hv1
 obtain ⟨xm, rfl, h1⟩ := hv2
 obtain ⟨w0, hw0⟩ : ∃ W, W = w := ⟨_, rfl⟩
 rw [← hw0] at h0 h1 ⊢
 clear hw0
 have HVA := Lib.hid h0
 have HVM := Lib.hid h1
 have XA_0 := Lib.hid (show NodeAt w0 (.agg (ndC xa)) t from ⟨xa, rfl, h0⟩)
 have XM_0 := Lib.hid (show NodeAt w0 (.agg (ndC xm)) u from ⟨xm, rfl, h1⟩)
 have X_0 := Lib.hid (Below.refl w0.heap.size w0)
 clear h0 h1
 go_enter Tryd.func3, Tryd.ntmps3
 go_wp2_with (first | (refine wpList_box rfl 26 _ rfl (ndC xa) rfl ?_; intro g3 w1 hb hx hg; have XA_1 := Lib.hid (XA_0.out.below hx); have XM_1 := Lib.hid (XM_0.out.below hx); have X_1 := Lib.hid (belowThen X_0.out (Nat.le_refl _) hx); have GA_1 := Lib.hid hb; clear hb hx hg XA_0 XM_0 X_0) | (refine wpList_box rfl 26 _ rfl (ndC xm) rfl ?_; intro g4 w2 hb hx hg; have XA_2 := Lib.hid (XA_1.out.below hx); have XM_2 := Lib.hid (XM_1.out.below hx); have X_2 := Lib.hid (belowThen X_1.out (Nat.le_refl _) hx); have GA_2 := Lib.hid (GA_1.out.below hx); have GM_2 := Lib.hid hb; clear hb hx hg XA_1 XM_1 X_1 GA_1))
 have h1 := szT_le t 1500
 have h2 := szT_le u 1500
 obtain ⟨n1, hn1⟩ : ∃ n, szT t 1500 = n := ⟨_, rfl⟩
 obtain ⟨n2, hn2⟩ : ∃ n, szT u 1500 = n := ⟨_, rfl⟩
 rw [hn1] at h1
 rw [hn2] at h2
 have HN1 := Lib.hid hn1
 have HN2 := Lib.hid hn2
 clear hn1 hn2
 have hlb := str_lenT s
 have HQA := Lib.hid (fun (y : Later w2) => (by have := size08_any (count t) t (Nat.le_refl _) hmt 1500 (by omega) _ y.w (NodeAt.below XA_2.out y.h); rw [HN1.out] at this; exact this : Calls Tryd.prog 7 #[.agg (ndC xa), .int .i64 1500] y.w fun e w' => e = .returned (.int .i64 (n1 : Int)) ∧ Below y.w.heap.size y.w w'))
 have HQM := Lib.hid (fun (y : Later w2) => (by have := size08_any (count u) u (Nat.le_refl _) hmu 1500 (by omega) _ y.w (NodeAt.below XM_2.out y.h); rw [HN2.out] at this; exact this : Calls Tryd.prog 7 #[.agg (ndC xm), .int .i64 1500] y.w fun e w' => e = .returned (.int .i64 (n2 : Int)) ∧ Below y.w.heap.size y.w w'))
 by_cases hb1 : 1500 < n1 + n2
 ·have hd3 : decide (1500 < (n1 : Int) + (n2 : Int)) = true := by simp; omega
  try simp only [Act.put, List.setIfInBounds_toArray, List.set_cons_succ, List.set_cons_zero]
  refine wp_region_later_lit (by kernel_rfl) (by kernel_rfl) ?_
  repeat (first | go_big_quiet_skip | ((first | (with_reducible refine wpQuiet_loadL (NdL.of_blk GA_2.out).all rfl _ rfl rfl ?_) | (with_reducible refine wpQuiet_loadL (NdL.of_blk GM_2.out).all rfl _ rfl rfl ?_) | (refine wpQuiet_val rfl (.int .i64 ((n1 + n2 : Nat) : Int)) (fun W _ => exec_addI (m := n1) (n := n2) (by omega) rfl rfl rfl) ?_)); simp only [Act.put, List.setIfInBounds_toArray, List.set_cons_succ, List.set_cons_zero]) | go_big_quiet_step ((first | (go_at_call 7; with_reducible exact Calls.later (HQA.out _)) | (go_at_call 7; with_reducible exact Calls.later (HQM.out _)))))
  refine wpQuiet_nil ?_
  intro _ hw'
  obtain ⟨x1, rfl⟩ := hw'
  obtain ⟨w3, hww⟩ : ∃ W, W = x1.w := ⟨_, rfl⟩
  have hx : Below w2.heap.size w2 w3 := by rw [hww]; exact x1.h
  rw [← hww]
  have XA_3 := Lib.hid (XA_2.out.below hx)
  have XM_3 := Lib.hid (XM_2.out.below hx)
  have X_3 := Lib.hid (belowThen X_2.out (Nat.le_refl _) hx)
  have GA_3 := Lib.hid (GA_2.out.below hx)
  have GM_3 := Lib.hid (GM_2.out.below hx)
  clear hx hww XA_2 XM_2 X_2 GA_2 GM_2
  go_wp2_with fail
  refine (awake08_any _).mono ?_
  rintro e w4 ⟨rfl, hx⟩
  have XA_4 := Lib.hid (XA_3.out.below hx)
  have XM_4 := Lib.hid (XM_3.out.below hx)
  have X_4 := Lib.hid (belowThen X_3.out (Nat.le_refl _) hx)
  have GA_4 := Lib.hid (GA_3.out.below hx)
  have GM_4 := Lib.hid (GM_3.out.below hx)
  clear hx  XA_3 XM_3 X_3 GA_3 GM_3
  go_wp2_with fail
  go_ret
  exact ⟨rfl, X_4.out⟩
 have hd3 : decide (1500 < (n1 : Int) + (n2 : Int)) = false := by simp; omega
 by_cases hb2 : 2000 < s.length
 ·have hd4 : decide (2000 < (s.length : Int)) = true := by simp; omega
  try simp only [Act.put, List.setIfInBounds_toArray, List.set_cons_succ, List.set_cons_zero]
  refine wp_region_later_lit (by kernel_rfl) (by kernel_rfl) ?_
  repeat (first | go_big_quiet_skip | ((first | (with_reducible refine wpQuiet_loadL (NdL.of_blk GA_2.out).all rfl _ rfl rfl ?_) | (with_reducible refine wpQuiet_loadL (NdL.of_blk GM_2.out).all rfl _ rfl rfl ?_) | (refine wpQuiet_val rfl (.int .i64 ((n1 + n2 : Nat) : Int)) (fun W _ => exec_addI (m := n1) (n := n2) (by omega) rfl rfl rfl) ?_)); simp only [Act.put, List.setIfInBounds_toArray, List.set_cons_succ, List.set_cons_zero]) | go_big_quiet_step ((first | (go_at_call 7; with_reducible exact Calls.later (HQA.out _)) | (go_at_call 7; with_reducible exact Calls.later (HQM.out _)))))
  refine wpQuiet_nil ?_
  intro _ hw'
  obtain ⟨x1, rfl⟩ := hw'
  obtain ⟨w3, hww⟩ : ∃ W, W = x1.w := ⟨_, rfl⟩
  have hx : Below w2.heap.size w2 w3 := by rw [hww]; exact x1.h
  rw [← hww]
  have XA_3 := Lib.hid (XA_2.out.below hx)
  have XM_3 := Lib.hid (XM_2.out.below hx)
  have X_3 := Lib.hid (belowThen X_2.out (Nat.le_refl _) hx)
  have GA_3 := Lib.hid (GA_2.out.below hx)
  have GM_3 := Lib.hid (GM_2.out.below hx)
  clear hx hww XA_2 XM_2 X_2 GA_2 GM_2
  go_wp2_with fail
  refine (awake08_any _).mono ?_
  rintro e w4 ⟨rfl, hx⟩
  have XA_4 := Lib.hid (XA_3.out.below hx)
  have XM_4 := Lib.hid (XM_3.out.below hx)
  have X_4 := Lib.hid (belowThen X_3.out (Nat.le_refl _) hx)
  have GA_4 := Lib.hid (GA_3.out.below hx)
  have GM_4 := Lib.hid (GM_3.out.below hx)
  clear hx  XA_3 XM_3 X_3 GA_3 GM_3
  go_wp2_with fail
  go_ret
  exact ⟨rfl, X_4.out⟩
 have hd4 : decide (2000 < (s.length : Int)) = false := by simp; omega
 try simp only [Act.put, List.setIfInBounds_toArray, List.set_cons_succ, List.set_cons_zero]
 refine wp_region_later_lit (by kernel_rfl) (by kernel_rfl) ?_
 repeat (first | go_big_quiet_skip | ((first | (with_reducible refine wpQuiet_loadL (NdL.of_blk GA_2.out).all rfl _ rfl rfl ?_) | (with_reducible refine wpQuiet_loadL (NdL.of_blk GM_2.out).all rfl _ rfl rfl ?_) | (refine wpQuiet_val rfl (.int .i64 ((n1 + n2 : Nat) : Int)) (fun W _ => exec_addI (m := n1) (n := n2) (by omega) rfl rfl rfl) ?_)); simp only [Act.put, List.setIfInBounds_toArray, List.set_cons_succ, List.set_cons_zero]) | go_big_quiet_step ((first | (go_at_call 7; with_reducible exact Calls.later (HQA.out _)) | (go_at_call 7; with_reducible exact Calls.later (HQM.out _)))))
 refine wpQuiet_nil ?_
 intro _ hw'
 obtain ⟨x1, rfl⟩ := hw'
 obtain ⟨w3, hww⟩ : ∃ W, W = x1.w := ⟨_, rfl⟩
 have hx : Below w2.heap.size w2 w3 := by rw [hww]; exact x1.h
 rw [← hww]
 have XA_3 := Lib.hid (XA_2.out.below hx)
 have XM_3 := Lib.hid (XM_2.out.below hx)
 have X_3 := Lib.hid (belowThen X_2.out (Nat.le_refl _) hx)
 have GA_3 := Lib.hid (GA_2.out.below hx)
 have GM_3 := Lib.hid (GM_2.out.below hx)
 clear hx hww XA_2 XM_2 X_2 GA_2 GM_2
 clear HQA HQM HN1 HN2 h1 h2 hb1 hd3 hd4 hlb
 go_wp2_with fail
 have HEL := Lib.hid (enters_of Tryd.func9 (by kernel_rfl) rfl : ∀ args w, (callFunc 9 args).run Tryd.prog w = .ok (.enter 9 args) w)
 refine Agg.wp_cutR (fun a0 a' w' => ∃ (g7 g8 : Nat) (ya yb : NdV) (b1 b2 : Nat) (cs ds : List Nat), Blk w' g7 26 (ndC ya) ∧ Blk w' g8 26 (ndC yb) ∧ LenT b1 w' ya t cs ∧ LenT b2 w' yb u ds ∧ Below w3.heap.size w3 w' ∧ ExPut [34, 35, 36, 37] ((a0.put (some 7) (.pointer (some ⟨g7, 0, none⟩))).put (some 8) (.pointer (some ⟨g8, 0, none⟩))) a') ?_ ?_
 ·try simp only [Act.put, List.setIfInBounds_toArray, List.set_cons_succ, List.set_cons_zero]
  obtain ⟨wa, hwa⟩ : ∃ X, X = w3.drew := ⟨_, rfl⟩
  have hx : Below w3.heap.size w3 wa := by rw [hwa]; exact (Below.refl _ _).drew
  have B_ := Lib.hid (GA_3.out.below hx)
  have C_ := Lib.hid (GM_3.out.below hx)
  have P_ := Lib.hid (XA_3.out.below hx)
  have Q_ := Lib.hid (XM_3.out.below hx)
  have Z_ := Lib.hid hx
  refine wp_region_held_drew (S := fun W => Blk W g3 26 (ndC xa) ∧ Blk W g4 26 (ndC xm)) (by kernel_rfl) (by rw [← hwa]; exact ⟨B_.out, C_.out⟩) (fun hHeld => ?_)
  rw [← hwa] at hHeld ⊢
  clear hwa hx
  refine held_take 0 (.agg (ndC xa)) rfl (by kernel_rfl) (fun _ _ _ h => h) rfl (fun W hS => exec_loadB rfl rfl (NdL.of_blk hS.1).all.now) (by assumption) ?_
  try simp only [Act.put, List.setIfInBounds_toArray, List.set_cons_succ, List.set_cons_zero]
  refine held_take 2 (.agg (ndC xm)) rfl (by kernel_rfl) (fun _ _ _ h => h) rfl (fun W hS => exec_loadB rfl rfl (NdL.of_blk hS.2).all.now) (by assumption) ?_
  try simp only [Act.put, List.setIfInBounds_toArray, List.set_cons_succ, List.set_cons_zero]
  refine held_ready [1, 4, 5] (by kernel_rfl) (by simp) ?_
  refine held_cons rfl ?_ ?_
  ·refine step_call rfl 9 _ _ rfl #[.agg (ndC xa)] (by simp only [List.map_toArray, List.map_cons, List.map_nil]; rfl) (fun W => HEL.out _ W) ?_
   refine (lentNode_any t hmt _ _ P_.out).mono ?_
   rintro e wa_1 ⟨ya, cs, rfl, hle, hx⟩
   have L1_1 := Lib.hid hle
   have R1 := Lib.hid (LenT.range _ _ _ hle)
   have B_1 := Lib.hid (B_.out.below hx)
   have C_1 := Lib.hid (C_.out.below hx)
   have P_1 := Lib.hid (P_.out.below hx)
   have Q_1 := Lib.hid (Q_.out.below hx)
   have Z_1 := Lib.hid (belowThen Z_.out (Nat.le_refl _) hx)
   have hS_1 : Blk wa_1 g3 26 (ndC xa) ∧ Blk wa_1 g4 26 (ndC xm) := ⟨B_1.out, C_1.out⟩
   clear hx hle
   refine ⟨_, rfl, ?_⟩
   refine ⟨hS_1, ?_⟩
   try simp only [Act.put, List.setIfInBounds_toArray, List.set_cons_succ, List.set_cons_zero]
   refine held_ready [3, 4, 5] (by kernel_rfl) (by simp) ?_
   refine held_cons rfl ?_ ?_
   ·refine step_call rfl 9 _ _ rfl #[.agg (ndC xm)] (by simp only [List.map_toArray, List.map_cons, List.map_nil]; rfl) (fun W => HEL.out _ W) ?_
    refine (lentNode_any u hmu _ _ Q_1.out).mono ?_
    rintro e Zc3 ⟨yb, ds, rfl, hle, hx⟩
    have Zcq := Lib.hid hle
    have R2 := Lib.hid (LenT.range _ _ _ hle)
    have Zcr := Lib.hid (LenT.below hx L1_1.out)
    have Zcn := Lib.hid (B_1.out.below hx)
    have Zct := Lib.hid (C_1.out.below hx)
    have Zc5 := Lib.hid (P_1.out.below hx)
    have Zc4 := Lib.hid (Q_1.out.below hx)
    have Zcx := Lib.hid (belowThen Z_1.out (Nat.le_refl _) hx)
    have Zc6 : Blk Zc3 g3 26 (ndC xa) ∧ Blk Zc3 g4 26 (ndC xm) := ⟨Zcn.out, Zct.out⟩
    clear hx hle
    refine ⟨_, rfl, ?_⟩
    refine ⟨Zc6, ?_⟩
    try simp only [Act.put, List.setIfInBounds_toArray, List.set_cons_succ, List.set_cons_zero]
    refine held_ready [4, 5] (by kernel_rfl) (by simp) ?_
    refine held_cons rfl ?_ ?_
    ·refine step_zero rfl 26 rfl (ndC ndZ) nd_zero ?_
     intro g7 Zbv hb hx hg
     have Zbu := Lib.hid hb
     have H71 := Lib.hid (show ∀ j ∈ cs, j ≠ g7 from fun j hj e => by have h1 := (LenT.range _ _ _ Zcr.out j hj).2; omega)
     have Zbs := Lib.hid (LenT.below hx Zcr.out)
     have H72 := Lib.hid (show ∀ j ∈ ds, j ≠ g7 from fun j hj e => by have h1 := (LenT.range _ _ _ Zcq.out j hj).2; omega)
     have Zbr := Lib.hid (LenT.below hx Zcq.out)
     have HM7 := Lib.hid (show w3.heap.size ≤ g7 ∧ g3 ≠ g7 ∧ g4 ≠ g7 from ⟨Nat.le_trans Zcx.out.size hg, fun e => (by have := Zcn.out.lt; omega), fun e => (by have := Zct.out.lt; omega)⟩)
     have Zbi := Lib.hid (Zcn.out.below hx)
     have Zbh := Lib.hid (Zct.out.below hx)
     have Zb9 := Lib.hid (Zc5.out.below hx)
     have Zcb := Lib.hid (Zc4.out.below hx)
     have Zby := Lib.hid (belowThen Zcx.out (Nat.le_refl _) hx)
     have Zb6 : Blk Zbv g3 26 (ndC xa) ∧ Blk Zbv g4 26 (ndC xm) := ⟨Zbi.out, Zbh.out⟩
     clear hb hx hg
     refine ⟨Zb6, ?_⟩
     try simp only [Act.put, List.setIfInBounds_toArray, List.set_cons_succ, List.set_cons_zero]
     refine held_one 5 rfl (by kernel_rfl) ?_
     refine step_zero rfl 26 rfl (ndC ndZ) nd_zero ?_
     intro g8 Zg hb hx hg
     have Zx := Lib.hid hb
     have H81 := Lib.hid (show ∀ j ∈ cs, j ≠ g8 from fun j hj e => by have h1 := (LenT.range _ _ _ Zbs.out j hj).2; omega)
     have Zz := Lib.hid (LenT.below hx Zbs.out)
     have H82 := Lib.hid (show ∀ j ∈ ds, j ≠ g8 from fun j hj e => by have h1 := (LenT.range _ _ _ Zbr.out j hj).2; omega)
     have Z1 := Lib.hid (LenT.below hx Zbr.out)
     have HGG := Lib.hid (show g7 ≠ g8 from fun e => by have h1 := Zbu.out.lt; omega)
     have Zy := Lib.hid (Zbu.out.below hx)
     have HM8 := Lib.hid (show w3.heap.size ≤ g8 ∧ g3 ≠ g8 ∧ g4 ≠ g8 from ⟨Nat.le_trans Zby.out.size hg, fun e => (by have := Zbi.out.lt; omega), fun e => (by have := Zbh.out.lt; omega)⟩)
     have Zo := Lib.hid (Zbi.out.below hx)
     have Zn := Lib.hid (Zbh.out.below hx)
     have Zbe := Lib.hid (Zb9.out.below hx)
     have Zbd := Lib.hid (Zcb.out.below hx)
     have Z2 := Lib.hid (belowThen Zby.out (Nat.le_refl _) hx)
     have Z0 : Blk Zg g3 26 (ndC xa) ∧ Blk Zg g4 26 (ndC xm) := ⟨Zo.out, Zn.out⟩
     clear hb hx hg
     refine ⟨Z0, ?_⟩
     try simp only [Act.put, List.setIfInBounds_toArray, List.set_cons_succ, List.set_cons_zero]
     refine held_one 6 rfl (by kernel_rfl) ?_
     refine step_put rfl rfl 26 _ _ rfl g7 (ndC ya) (ndC ndZ) rfl rfl Zy.out (nd_info _) rfl (ndC_one _) ?_
     intro Zd hb hx hs hk9
     have ho := Only.of_eq (S := (· = g7)) hx hs hk9 rfl
     have Zr := Lib.hid hb
     have Zs := Lib.hid (Agg.Blk.keepO Zx.out ho (fun e => HGG.out e.symm))
     have Zt := Lib.hid (LenT.only ho _ _ _ Zz.out (fun j hj e => H71.out j hj e))
     have Zv := Lib.hid (LenT.only ho _ _ _ Z1.out (fun j hj e => H72.out j hj e))
     have Ze := Lib.hid (Agg.Blk.keepO Zo.out ho (fun e => HM7.out.2.1 e))
     have Zf := Lib.hid (Agg.Blk.keepO Zn.out ho (fun e => HM7.out.2.2 e))
     have Zb := Lib.hid (Z2.out.trans (hx.mono HM7.out.1))
     have Z8 := Lib.hid (XA_3.out.below Zb.out)
     have Z9 := Lib.hid (XM_3.out.below Zb.out)
     have Zu : Blk Zd g3 26 (ndC xa) ∧ Blk Zd g4 26 (ndC xm) := ⟨Ze.out, Zf.out⟩
     clear hb hx hs hk9 ho
     refine ⟨Zu, ?_⟩
     try simp only [Act.put, List.setIfInBounds_toArray, List.set_cons_succ, List.set_cons_zero]
     refine held_one 7 rfl (by kernel_rfl) ?_
     refine step_put rfl rfl 26 _ _ rfl g8 (ndC yb) (ndC ndZ) rfl rfl Zs.out (nd_info _) rfl (ndC_one _) ?_
     intro Zc hb hx hs hk9
     have ho := Only.of_eq (S := (· = g8)) hx hs hk9 rfl
     have Zj := Lib.hid hb
     have Zk := Lib.hid (Agg.Blk.keepO Zr.out ho (fun e => HGG.out e))
     have Zi := Lib.hid (LenT.only ho _ _ _ Zt.out (fun j hj e => H81.out j hj e))
     have Zm := Lib.hid (LenT.only ho _ _ _ Zv.out (fun j hj e => H82.out j hj e))
     have Zp := Lib.hid (Agg.Blk.keepO Ze.out ho (fun e => HM8.out.2.1 e))
     have Zq := Lib.hid (Agg.Blk.keepO Zf.out ho (fun e => HM8.out.2.2 e))
     have Za := Lib.hid (Zb.out.trans (hx.mono HM8.out.1))
     have Z4 := Lib.hid (XA_3.out.below Za.out)
     have Z3 := Lib.hid (XM_3.out.below Za.out)
     have Zh : Blk Zc g3 26 (ndC xa) ∧ Blk Zc g4 26 (ndC xm) := ⟨Zp.out, Zq.out⟩
     clear hb hx hs hk9 ho
     refine ⟨Zh, ?_⟩
     try simp only [Act.put, List.setIfInBounds_toArray, List.set_cons_succ, List.set_cons_zero]
     refine held_end (by kernel_rfl) ?_
     simp only [ExPut, Act.put, List.setIfInBounds_toArray, List.set_cons_succ, List.set_cons_zero]
     exact ⟨g7, g8, ya, yb, _, _, cs, ds, Zk.out, Zj.out, Zi.out, Zm.out, Za.out, _, _, _, _, rfl⟩
    refine held_cons rfl ?_ ?_
    ·refine step_zero rfl 26 rfl (ndC ndZ) nd_zero ?_
     intro g8 Zbq hb hx hg
     have Zbt := Lib.hid hb
     have H81 := Lib.hid (show ∀ j ∈ cs, j ≠ g8 from fun j hj e => by have h1 := (LenT.range _ _ _ Zcr.out j hj).2; omega)
     have Zbp := Lib.hid (LenT.below hx Zcr.out)
     have H82 := Lib.hid (show ∀ j ∈ ds, j ≠ g8 from fun j hj e => by have h1 := (LenT.range _ _ _ Zcq.out j hj).2; omega)
     have Zbo := Lib.hid (LenT.below hx Zcq.out)
     have HM8 := Lib.hid (show w3.heap.size ≤ g8 ∧ g3 ≠ g8 ∧ g4 ≠ g8 from ⟨Nat.le_trans Zcx.out.size hg, fun e => (by have := Zcn.out.lt; omega), fun e => (by have := Zct.out.lt; omega)⟩)
     have Zbn := Lib.hid (Zcn.out.below hx)
     have Zbk := Lib.hid (Zct.out.below hx)
     have Zcc := Lib.hid (Zc5.out.below hx)
     have Zca := Lib.hid (Zc4.out.below hx)
     have Zbx := Lib.hid (belowThen Zcx.out (Nat.le_refl _) hx)
     have Zb8 : Blk Zbq g3 26 (ndC xa) ∧ Blk Zbq g4 26 (ndC xm) := ⟨Zbn.out, Zbk.out⟩
     clear hb hx hg
     refine ⟨Zb8, ?_⟩
     try simp only [Act.put, List.setIfInBounds_toArray, List.set_cons_succ, List.set_cons_zero]
     refine held_one 4 rfl (by kernel_rfl) ?_
     refine step_zero rfl 26 rfl (ndC ndZ) nd_zero ?_
     intro g7 Zg hb hx hg
     have Zy := Lib.hid hb
     have H71 := Lib.hid (show ∀ j ∈ cs, j ≠ g7 from fun j hj e => by have h1 := (LenT.range _ _ _ Zbp.out j hj).2; omega)
     have Zz := Lib.hid (LenT.below hx Zbp.out)
     have H72 := Lib.hid (show ∀ j ∈ ds, j ≠ g7 from fun j hj e => by have h1 := (LenT.range _ _ _ Zbo.out j hj).2; omega)
     have Z1 := Lib.hid (LenT.below hx Zbo.out)
     have HGG := Lib.hid (show g7 ≠ g8 from fun e => by have h1 := Zbt.out.lt; omega)
     have Zx := Lib.hid (Zbt.out.below hx)
     have HM7 := Lib.hid (show w3.heap.size ≤ g7 ∧ g3 ≠ g7 ∧ g4 ≠ g7 from ⟨Nat.le_trans Zbx.out.size hg, fun e => (by have := Zbn.out.lt; omega), fun e => (by have := Zbk.out.lt; omega)⟩)
     have Zo := Lib.hid (Zbn.out.below hx)
     have Zn := Lib.hid (Zbk.out.below hx)
     have Zbe := Lib.hid (Zcc.out.below hx)
     have Zbd := Lib.hid (Zca.out.below hx)
     have Z2 := Lib.hid (belowThen Zbx.out (Nat.le_refl _) hx)
     have Z0 : Blk Zg g3 26 (ndC xa) ∧ Blk Zg g4 26 (ndC xm) := ⟨Zo.out, Zn.out⟩
     clear hb hx hg
     refine ⟨Z0, ?_⟩
     try simp only [Act.put, List.setIfInBounds_toArray, List.set_cons_succ, List.set_cons_zero]
     refine held_one 6 rfl (by kernel_rfl) ?_
     refine step_put rfl rfl 26 _ _ rfl g7 (ndC ya) (ndC ndZ) rfl rfl Zy.out (nd_info _) rfl (ndC_one _) ?_
     intro Zd hb hx hs hk9
     have ho := Only.of_eq (S := (· = g7)) hx hs hk9 rfl
     have Zr := Lib.hid hb
     have Zs := Lib.hid (Agg.Blk.keepO Zx.out ho (fun e => HGG.out e.symm))
     have Zt := Lib.hid (LenT.only ho _ _ _ Zz.out (fun j hj e => H71.out j hj e))
     have Zv := Lib.hid (LenT.only ho _ _ _ Z1.out (fun j hj e => H72.out j hj e))
     have Ze := Lib.hid (Agg.Blk.keepO Zo.out ho (fun e => HM7.out.2.1 e))
     have Zf := Lib.hid (Agg.Blk.keepO Zn.out ho (fun e => HM7.out.2.2 e))
     have Zb := Lib.hid (Z2.out.trans (hx.mono HM7.out.1))
     have Z8 := Lib.hid (XA_3.out.below Zb.out)
     have Z9 := Lib.hid (XM_3.out.below Zb.out)
     have Zu : Blk Zd g3 26 (ndC xa) ∧ Blk Zd g4 26 (ndC xm) := ⟨Ze.out, Zf.out⟩
     clear hb hx hs hk9 ho
     refine ⟨Zu, ?_⟩
     try simp only [Act.put, List.setIfInBounds_toArray, List.set_cons_succ, List.set_cons_zero]
     refine held_one 7 rfl (by kernel_rfl) ?_
     refine step_put rfl rfl 26 _ _ rfl g8 (ndC yb) (ndC ndZ) rfl rfl Zs.out (nd_info _) rfl (ndC_one _) ?_
     intro Zc hb hx hs hk9
     have ho := Only.of_eq (S := (· = g8)) hx hs hk9 rfl
     have Zj := Lib.hid hb
     have Zk := Lib.hid (Agg.Blk.keepO Zr.out ho (fun e => HGG.out e))
     have Zi := Lib.hid (LenT.only ho _ _ _ Zt.out (fun j hj e => H81.out j hj e))
     have Zm := Lib.hid (LenT.only ho _ _ _ Zv.out (fun j hj e => H82.out j hj e))
     have Zp := Lib.hid (Agg.Blk.keepO Ze.out ho (fun e => HM8.out.2.1 e))
     have Zq := Lib.hid (Agg.Blk.keepO Zf.out ho (fun e => HM8.out.2.2 e))
     have Za := Lib.hid (Zb.out.trans (hx.mono HM8.out.1))
     have Z4 := Lib.hid (XA_3.out.below Za.out)
     have Z3 := Lib.hid (XM_3.out.below Za.out)
     have Zh : Blk Zc g3 26 (ndC xa) ∧ Blk Zc g4 26 (ndC xm) := ⟨Zp.out, Zq.out⟩
     clear hb hx hs hk9 ho
     refine ⟨Zh, ?_⟩
     try simp only [Act.put, List.setIfInBounds_toArray, List.set_cons_succ, List.set_cons_zero]
     refine held_end (by kernel_rfl) ?_
     simp only [ExPut, Act.put, List.setIfInBounds_toArray, List.set_cons_succ, List.set_cons_zero]
     exact ⟨g7, g8, ya, yb, _, _, cs, ds, Zk.out, Zj.out, Zi.out, Zm.out, Za.out, _, _, _, _, rfl⟩
    exact AllReadyH.nil
   refine held_cons rfl ?_ ?_
   ·refine step_zero rfl 26 rfl (ndC ndZ) nd_zero ?_
    intro g7 Zci hb hx hg
    have Zb0 := Lib.hid hb
    have H71 := Lib.hid (show ∀ j ∈ cs, j ≠ g7 from fun j hj e => by have h1 := (LenT.range _ _ _ L1_1.out j hj).2; omega)
    have Zb5 := Lib.hid (LenT.below hx L1_1.out)
    have HM7 := Lib.hid (show w3.heap.size ≤ g7 ∧ g3 ≠ g7 ∧ g4 ≠ g7 from ⟨Nat.le_trans Z_1.out.size hg, fun e => (by have := B_1.out.lt; omega), fun e => (by have := C_1.out.lt; omega)⟩)
    have Zb3 := Lib.hid (B_1.out.below hx)
    have Zb2 := Lib.hid (C_1.out.below hx)
    have Zcv := Lib.hid (P_1.out.below hx)
    have Zcd := Lib.hid (Q_1.out.below hx)
    have Zcg := Lib.hid (belowThen Z_1.out (Nat.le_refl _) hx)
    have Zcz : Blk Zci g3 26 (ndC xa) ∧ Blk Zci g4 26 (ndC xm) := ⟨Zb3.out, Zb2.out⟩
    clear hb hx hg
    refine ⟨Zcz, ?_⟩
    try simp only [Act.put, List.setIfInBounds_toArray, List.set_cons_succ, List.set_cons_zero]
    refine held_ready [3, 5] (by kernel_rfl) (by simp) ?_
    refine held_cons rfl ?_ ?_
    ·refine step_call rfl 9 _ _ rfl #[.agg (ndC xm)] (by simp only [List.map_toArray, List.map_cons, List.map_nil]; rfl) (fun W => HEL.out _ W) ?_
     refine (lentNode_any u hmu _ _ Zcd.out).mono ?_
     rintro e Zbv ⟨yb, ds, rfl, hle, hx⟩
     have Zbr := Lib.hid hle
     have R2 := Lib.hid (LenT.range _ _ _ hle)
     have Zbs := Lib.hid (LenT.below hx Zb5.out)
     have H72 := Lib.hid (show ∀ j ∈ ds, j ≠ g7 from fun j hj e => by have h1 := (R2.out j hj).1; have h2 := Zb0.out.lt; omega)
     have Zbu := Lib.hid (Zb0.out.below hx)
     have Zbi := Lib.hid (Zb3.out.below hx)
     have Zbh := Lib.hid (Zb2.out.below hx)
     have Zb9 := Lib.hid (Zcv.out.below hx)
     have Zcb := Lib.hid (Zcd.out.below hx)
     have Zby := Lib.hid (belowThen Zcg.out (Nat.le_refl _) hx)
     have Zb6 : Blk Zbv g3 26 (ndC xa) ∧ Blk Zbv g4 26 (ndC xm) := ⟨Zbi.out, Zbh.out⟩
     clear hx hle
     refine ⟨_, rfl, ?_⟩
     refine ⟨Zb6, ?_⟩
     try simp only [Act.put, List.setIfInBounds_toArray, List.set_cons_succ, List.set_cons_zero]
     refine held_one 5 rfl (by kernel_rfl) ?_
     refine step_zero rfl 26 rfl (ndC ndZ) nd_zero ?_
     intro g8 Zg hb hx hg
     have Zx := Lib.hid hb
     have H81 := Lib.hid (show ∀ j ∈ cs, j ≠ g8 from fun j hj e => by have h1 := (LenT.range _ _ _ Zbs.out j hj).2; omega)
     have Zz := Lib.hid (LenT.below hx Zbs.out)
     have H82 := Lib.hid (show ∀ j ∈ ds, j ≠ g8 from fun j hj e => by have h1 := (LenT.range _ _ _ Zbr.out j hj).2; omega)
     have Z1 := Lib.hid (LenT.below hx Zbr.out)
     have HGG := Lib.hid (show g7 ≠ g8 from fun e => by have h1 := Zbu.out.lt; omega)
     have Zy := Lib.hid (Zbu.out.below hx)
     have HM8 := Lib.hid (show w3.heap.size ≤ g8 ∧ g3 ≠ g8 ∧ g4 ≠ g8 from ⟨Nat.le_trans Zby.out.size hg, fun e => (by have := Zbi.out.lt; omega), fun e => (by have := Zbh.out.lt; omega)⟩)
     have Zo := Lib.hid (Zbi.out.below hx)
     have Zn := Lib.hid (Zbh.out.below hx)
     have Zbe := Lib.hid (Zb9.out.below hx)
     have Zbd := Lib.hid (Zcb.out.below hx)
     have Z2 := Lib.hid (belowThen Zby.out (Nat.le_refl _) hx)
     have Z0 : Blk Zg g3 26 (ndC xa) ∧ Blk Zg g4 26 (ndC xm) := ⟨Zo.out, Zn.out⟩
     clear hb hx hg
     refine ⟨Z0, ?_⟩
     try simp only [Act.put, List.setIfInBounds_toArray, List.set_cons_succ, List.set_cons_zero]
     refine held_one 6 rfl (by kernel_rfl) ?_
     refine step_put rfl rfl 26 _ _ rfl g7 (ndC ya) (ndC ndZ) rfl rfl Zy.out (nd_info _) rfl (ndC_one _) ?_
     intro Zd hb hx hs hk9
     have ho := Only.of_eq (S := (· = g7)) hx hs hk9 rfl
     have Zr := Lib.hid hb
     have Zs := Lib.hid (Agg.Blk.keepO Zx.out ho (fun e => HGG.out e.symm))
     have Zt := Lib.hid (LenT.only ho _ _ _ Zz.out (fun j hj e => H71.out j hj e))
     have Zv := Lib.hid (LenT.only ho _ _ _ Z1.out (fun j hj e => H72.out j hj e))
     have Ze := Lib.hid (Agg.Blk.keepO Zo.out ho (fun e => HM7.out.2.1 e))
     have Zf := Lib.hid (Agg.Blk.keepO Zn.out ho (fun e => HM7.out.2.2 e))
     have Zb := Lib.hid (Z2.out.trans (hx.mono HM7.out.1))
     have Z8 := Lib.hid (XA_3.out.below Zb.out)
     have Z9 := Lib.hid (XM_3.out.below Zb.out)
     have Zu : Blk Zd g3 26 (ndC xa) ∧ Blk Zd g4 26 (ndC xm) := ⟨Ze.out, Zf.out⟩
     clear hb hx hs hk9 ho
     refine ⟨Zu, ?_⟩
     try simp only [Act.put, List.setIfInBounds_toArray, List.set_cons_succ, List.set_cons_zero]
     refine held_one 7 rfl (by kernel_rfl) ?_
     refine step_put rfl rfl 26 _ _ rfl g8 (ndC yb) (ndC ndZ) rfl rfl Zs.out (nd_info _) rfl (ndC_one _) ?_
     intro Zc hb hx hs hk9
     have ho := Only.of_eq (S := (· = g8)) hx hs hk9 rfl
     have Zj := Lib.hid hb
     have Zk := Lib.hid (Agg.Blk.keepO Zr.out ho (fun e => HGG.out e))
     have Zi := Lib.hid (LenT.only ho _ _ _ Zt.out (fun j hj e => H81.out j hj e))
     have Zm := Lib.hid (LenT.only ho _ _ _ Zv.out (fun j hj e => H82.out j hj e))
     have Zp := Lib.hid (Agg.Blk.keepO Ze.out ho (fun e => HM8.out.2.1 e))
     have Zq := Lib.hid (Agg.Blk.keepO Zf.out ho (fun e => HM8.out.2.2 e))
     have Za := Lib.hid (Zb.out.trans (hx.mono HM8.out.1))
     have Z4 := Lib.hid (XA_3.out.below Za.out)
     have Z3 := Lib.hid (XM_3.out.below Za.out)
     have Zh : Blk Zc g3 26 (ndC xa) ∧ Blk Zc g4 26 (ndC xm) := ⟨Zp.out, Zq.out⟩
     clear hb hx hs hk9 ho
     refine ⟨Zh, ?_⟩
     try simp only [Act.put, List.setIfInBounds_toArray, List.set_cons_succ, List.set_cons_zero]
     refine held_end (by kernel_rfl) ?_
     simp only [ExPut, Act.put, List.setIfInBounds_toArray, List.set_cons_succ, List.set_cons_zero]
     exact ⟨g7, g8, ya, yb, _, _, cs, ds, Zk.out, Zj.out, Zi.out, Zm.out, Za.out, _, _, _, _, rfl⟩
    refine held_cons rfl ?_ ?_
    ·refine step_zero rfl 26 rfl (ndC ndZ) nd_zero ?_
     intro g8 Z7 hb hx hg
     have Z6 := Lib.hid hb
     have H81 := Lib.hid (show ∀ j ∈ cs, j ≠ g8 from fun j hj e => by have h1 := (LenT.range _ _ _ Zb5.out j hj).2; omega)
     have Zbg := Lib.hid (LenT.below hx Zb5.out)
     have HGG := Lib.hid (show g7 ≠ g8 from fun e => by have h1 := Zb0.out.lt; omega)
     have Z5 := Lib.hid (Zb0.out.below hx)
     have HM8 := Lib.hid (show w3.heap.size ≤ g8 ∧ g3 ≠ g8 ∧ g4 ≠ g8 from ⟨Nat.le_trans Zcg.out.size hg, fun e => (by have := Zb3.out.lt; omega), fun e => (by have := Zb2.out.lt; omega)⟩)
     have Zbb := Lib.hid (Zb3.out.below hx)
     have Zba := Lib.hid (Zb2.out.below hx)
     have Zbj := Lib.hid (Zcv.out.below hx)
     have Zbc := Lib.hid (Zcd.out.below hx)
     have Zbm := Lib.hid (belowThen Zcg.out (Nat.le_refl _) hx)
     have Zbf : Blk Z7 g3 26 (ndC xa) ∧ Blk Z7 g4 26 (ndC xm) := ⟨Zbb.out, Zba.out⟩
     clear hb hx hg
     refine ⟨Zbf, ?_⟩
     try simp only [Act.put, List.setIfInBounds_toArray, List.set_cons_succ, List.set_cons_zero]
     refine held_one 3 rfl (by kernel_rfl) ?_
     refine step_call rfl 9 _ _ rfl #[.agg (ndC xm)] (by simp only [List.map_toArray, List.map_cons, List.map_nil]; rfl) (fun W => HEL.out _ W) ?_
     refine (lentNode_any u hmu _ _ Zbc.out).mono ?_
     rintro e Zg ⟨yb, ds, rfl, hle, hx⟩
     have Z1 := Lib.hid hle
     have R2 := Lib.hid (LenT.range _ _ _ hle)
     have Zz := Lib.hid (LenT.below hx Zbg.out)
     have H72 := Lib.hid (show ∀ j ∈ ds, j ≠ g7 from fun j hj e => by have h1 := (R2.out j hj).1; have h2 := Z5.out.lt; omega)
     have Zy := Lib.hid (Z5.out.below hx)
     have H82 := Lib.hid (show ∀ j ∈ ds, j ≠ g8 from fun j hj e => by have h1 := (R2.out j hj).1; have h2 := Z6.out.lt; omega)
     have Zx := Lib.hid (Z6.out.below hx)
     have Zo := Lib.hid (Zbb.out.below hx)
     have Zn := Lib.hid (Zba.out.below hx)
     have Zbe := Lib.hid (Zbj.out.below hx)
     have Zbd := Lib.hid (Zbc.out.below hx)
     have Z2 := Lib.hid (belowThen Zbm.out (Nat.le_refl _) hx)
     have Z0 : Blk Zg g3 26 (ndC xa) ∧ Blk Zg g4 26 (ndC xm) := ⟨Zo.out, Zn.out⟩
     clear hx hle
     refine ⟨_, rfl, ?_⟩
     refine ⟨Z0, ?_⟩
     try simp only [Act.put, List.setIfInBounds_toArray, List.set_cons_succ, List.set_cons_zero]
     refine held_one 6 rfl (by kernel_rfl) ?_
     refine step_put rfl rfl 26 _ _ rfl g7 (ndC ya) (ndC ndZ) rfl rfl Zy.out (nd_info _) rfl (ndC_one _) ?_
     intro Zd hb hx hs hk9
     have ho := Only.of_eq (S := (· = g7)) hx hs hk9 rfl
     have Zr := Lib.hid hb
     have Zs := Lib.hid (Agg.Blk.keepO Zx.out ho (fun e => HGG.out e.symm))
     have Zt := Lib.hid (LenT.only ho _ _ _ Zz.out (fun j hj e => H71.out j hj e))
     have Zv := Lib.hid (LenT.only ho _ _ _ Z1.out (fun j hj e => H72.out j hj e))
     have Ze := Lib.hid (Agg.Blk.keepO Zo.out ho (fun e => HM7.out.2.1 e))
     have Zf := Lib.hid (Agg.Blk.keepO Zn.out ho (fun e => HM7.out.2.2 e))
     have Zb := Lib.hid (Z2.out.trans (hx.mono HM7.out.1))
     have Z8 := Lib.hid (XA_3.out.below Zb.out)
     have Z9 := Lib.hid (XM_3.out.below Zb.out)
     have Zu : Blk Zd g3 26 (ndC xa) ∧ Blk Zd g4 26 (ndC xm) := ⟨Ze.out, Zf.out⟩
     clear hb hx hs hk9 ho
     refine ⟨Zu, ?_⟩
     try simp only [Act.put, List.setIfInBounds_toArray, List.set_cons_succ, List.set_cons_zero]
     refine held_one 7 rfl (by kernel_rfl) ?_
     refine step_put rfl rfl 26 _ _ rfl g8 (ndC yb) (ndC ndZ) rfl rfl Zs.out (nd_info _) rfl (ndC_one _) ?_
     intro Zc hb hx hs hk9
     have ho := Only.of_eq (S := (· = g8)) hx hs hk9 rfl
     have Zj := Lib.hid hb
     have Zk := Lib.hid (Agg.Blk.keepO Zr.out ho (fun e => HGG.out e))
     have Zi := Lib.hid (LenT.only ho _ _ _ Zt.out (fun j hj e => H81.out j hj e))
     have Zm := Lib.hid (LenT.only ho _ _ _ Zv.out (fun j hj e => H82.out j hj e))
     have Zp := Lib.hid (Agg.Blk.keepO Ze.out ho (fun e => HM8.out.2.1 e))
     have Zq := Lib.hid (Agg.Blk.keepO Zf.out ho (fun e => HM8.out.2.2 e))
     have Za := Lib.hid (Zb.out.trans (hx.mono HM8.out.1))
     have Z4 := Lib.hid (XA_3.out.below Za.out)
     have Z3 := Lib.hid (XM_3.out.below Za.out)
     have Zh : Blk Zc g3 26 (ndC xa) ∧ Blk Zc g4 26 (ndC xm) := ⟨Zp.out, Zq.out⟩
     clear hb hx hs hk9 ho
     refine ⟨Zh, ?_⟩
     try simp only [Act.put, List.setIfInBounds_toArray, List.set_cons_succ, List.set_cons_zero]
     refine held_end (by kernel_rfl) ?_
     simp only [ExPut, Act.put, List.setIfInBounds_toArray, List.set_cons_succ, List.set_cons_zero]
     exact ⟨g7, g8, ya, yb, _, _, cs, ds, Zk.out, Zj.out, Zi.out, Zm.out, Za.out, _, _, _, _, rfl⟩
    exact AllReadyH.nil
   refine held_cons rfl ?_ ?_
   ·refine step_zero rfl 26 rfl (ndC ndZ) nd_zero ?_
    intro g8 Zcj hb hx hg
    have Zbz := Lib.hid hb
    have H81 := Lib.hid (show ∀ j ∈ cs, j ≠ g8 from fun j hj e => by have h1 := (LenT.range _ _ _ L1_1.out j hj).2; omega)
    have Zb7 := Lib.hid (LenT.below hx L1_1.out)
    have HM8 := Lib.hid (show w3.heap.size ≤ g8 ∧ g3 ≠ g8 ∧ g4 ≠ g8 from ⟨Nat.le_trans Z_1.out.size hg, fun e => (by have := B_1.out.lt; omega), fun e => (by have := C_1.out.lt; omega)⟩)
    have Zb4 := Lib.hid (B_1.out.below hx)
    have Zb1 := Lib.hid (C_1.out.below hx)
    have Zcu := Lib.hid (P_1.out.below hx)
    have Zcf := Lib.hid (Q_1.out.below hx)
    have Zce := Lib.hid (belowThen Z_1.out (Nat.le_refl _) hx)
    have Zc0 : Blk Zcj g3 26 (ndC xa) ∧ Blk Zcj g4 26 (ndC xm) := ⟨Zb4.out, Zb1.out⟩
    clear hb hx hg
    refine ⟨Zc0, ?_⟩
    try simp only [Act.put, List.setIfInBounds_toArray, List.set_cons_succ, List.set_cons_zero]
    refine held_ready [3, 4] (by kernel_rfl) (by simp) ?_
    refine held_cons rfl ?_ ?_
    ·refine step_call rfl 9 _ _ rfl #[.agg (ndC xm)] (by simp only [List.map_toArray, List.map_cons, List.map_nil]; rfl) (fun W => HEL.out _ W) ?_
     refine (lentNode_any u hmu _ _ Zcf.out).mono ?_
     rintro e Zbq ⟨yb, ds, rfl, hle, hx⟩
     have Zbo := Lib.hid hle
     have R2 := Lib.hid (LenT.range _ _ _ hle)
     have Zbp := Lib.hid (LenT.below hx Zb7.out)
     have H82 := Lib.hid (show ∀ j ∈ ds, j ≠ g8 from fun j hj e => by have h1 := (R2.out j hj).1; have h2 := Zbz.out.lt; omega)
     have Zbt := Lib.hid (Zbz.out.below hx)
     have Zbn := Lib.hid (Zb4.out.below hx)
     have Zbk := Lib.hid (Zb1.out.below hx)
     have Zcc := Lib.hid (Zcu.out.below hx)
     have Zca := Lib.hid (Zcf.out.below hx)
     have Zbx := Lib.hid (belowThen Zce.out (Nat.le_refl _) hx)
     have Zb8 : Blk Zbq g3 26 (ndC xa) ∧ Blk Zbq g4 26 (ndC xm) := ⟨Zbn.out, Zbk.out⟩
     clear hx hle
     refine ⟨_, rfl, ?_⟩
     refine ⟨Zb8, ?_⟩
     try simp only [Act.put, List.setIfInBounds_toArray, List.set_cons_succ, List.set_cons_zero]
     refine held_one 4 rfl (by kernel_rfl) ?_
     refine step_zero rfl 26 rfl (ndC ndZ) nd_zero ?_
     intro g7 Zg hb hx hg
     have Zy := Lib.hid hb
     have H71 := Lib.hid (show ∀ j ∈ cs, j ≠ g7 from fun j hj e => by have h1 := (LenT.range _ _ _ Zbp.out j hj).2; omega)
     have Zz := Lib.hid (LenT.below hx Zbp.out)
     have H72 := Lib.hid (show ∀ j ∈ ds, j ≠ g7 from fun j hj e => by have h1 := (LenT.range _ _ _ Zbo.out j hj).2; omega)
     have Z1 := Lib.hid (LenT.below hx Zbo.out)
     have HGG := Lib.hid (show g7 ≠ g8 from fun e => by have h1 := Zbt.out.lt; omega)
     have Zx := Lib.hid (Zbt.out.below hx)
     have HM7 := Lib.hid (show w3.heap.size ≤ g7 ∧ g3 ≠ g7 ∧ g4 ≠ g7 from ⟨Nat.le_trans Zbx.out.size hg, fun e => (by have := Zbn.out.lt; omega), fun e => (by have := Zbk.out.lt; omega)⟩)
     have Zo := Lib.hid (Zbn.out.below hx)
     have Zn := Lib.hid (Zbk.out.below hx)
     have Zbe := Lib.hid (Zcc.out.below hx)
     have Zbd := Lib.hid (Zca.out.below hx)
     have Z2 := Lib.hid (belowThen Zbx.out (Nat.le_refl _) hx)
     have Z0 : Blk Zg g3 26 (ndC xa) ∧ Blk Zg g4 26 (ndC xm) := ⟨Zo.out, Zn.out⟩
     clear hb hx hg
     refine ⟨Z0, ?_⟩
     try simp only [Act.put, List.setIfInBounds_toArray, List.set_cons_succ, List.set_cons_zero]
     refine held_one 6 rfl (by kernel_rfl) ?_
     refine step_put rfl rfl 26 _ _ rfl g7 (ndC ya) (ndC ndZ) rfl rfl Zy.out (nd_info _) rfl (ndC_one _) ?_
     intro Zd hb hx hs hk9
     have ho := Only.of_eq (S := (· = g7)) hx hs hk9 rfl
     have Zr := Lib.hid hb
     have Zs := Lib.hid (Agg.Blk.keepO Zx.out ho (fun e => HGG.out e.symm))
     have Zt := Lib.hid (LenT.only ho _ _ _ Zz.out (fun j hj e => H71.out j hj e))
     have Zv := Lib.hid (LenT.only ho _ _ _ Z1.out (fun j hj e => H72.out j hj e))
     have Ze := Lib.hid (Agg.Blk.keepO Zo.out ho (fun e => HM7.out.2.1 e))
     have Zf := Lib.hid (Agg.Blk.keepO Zn.out ho (fun e => HM7.out.2.2 e))
     have Zb := Lib.hid (Z2.out.trans (hx.mono HM7.out.1))
     have Z8 := Lib.hid (XA_3.out.below Zb.out)
     have Z9 := Lib.hid (XM_3.out.below Zb.out)
     have Zu : Blk Zd g3 26 (ndC xa) ∧ Blk Zd g4 26 (ndC xm) := ⟨Ze.out, Zf.out⟩
     clear hb hx hs hk9 ho
     refine ⟨Zu, ?_⟩
     try simp only [Act.put, List.setIfInBounds_toArray, List.set_cons_succ, List.set_cons_zero]
     refine held_one 7 rfl (by kernel_rfl) ?_
     refine step_put rfl rfl 26 _ _ rfl g8 (ndC yb) (ndC ndZ) rfl rfl Zs.out (nd_info _) rfl (ndC_one _) ?_
     intro Zc hb hx hs hk9
     have ho := Only.of_eq (S := (· = g8)) hx hs hk9 rfl
     have Zj := Lib.hid hb
     have Zk := Lib.hid (Agg.Blk.keepO Zr.out ho (fun e => HGG.out e))
     have Zi := Lib.hid (LenT.only ho _ _ _ Zt.out (fun j hj e => H81.out j hj e))
     have Zm := Lib.hid (LenT.only ho _ _ _ Zv.out (fun j hj e => H82.out j hj e))
     have Zp := Lib.hid (Agg.Blk.keepO Ze.out ho (fun e => HM8.out.2.1 e))
     have Zq := Lib.hid (Agg.Blk.keepO Zf.out ho (fun e => HM8.out.2.2 e))
     have Za := Lib.hid (Zb.out.trans (hx.mono HM8.out.1))
     have Z4 := Lib.hid (XA_3.out.below Za.out)
     have Z3 := Lib.hid (XM_3.out.below Za.out)
     have Zh : Blk Zc g3 26 (ndC xa) ∧ Blk Zc g4 26 (ndC xm) := ⟨Zp.out, Zq.out⟩
     clear hb hx hs hk9 ho
     refine ⟨Zh, ?_⟩
     try simp only [Act.put, List.setIfInBounds_toArray, List.set_cons_succ, List.set_cons_zero]
     refine held_end (by kernel_rfl) ?_
     simp only [ExPut, Act.put, List.setIfInBounds_toArray, List.set_cons_succ, List.set_cons_zero]
     exact ⟨g7, g8, ya, yb, _, _, cs, ds, Zk.out, Zj.out, Zi.out, Zm.out, Za.out, _, _, _, _, rfl⟩
    refine held_cons rfl ?_ ?_
    ·refine step_zero rfl 26 rfl (ndC ndZ) nd_zero ?_
     intro g7 Z7 hb hx hg
     have Z5 := Lib.hid hb
     have H71 := Lib.hid (show ∀ j ∈ cs, j ≠ g7 from fun j hj e => by have h1 := (LenT.range _ _ _ Zb7.out j hj).2; omega)
     have Zbg := Lib.hid (LenT.below hx Zb7.out)
     have HGG := Lib.hid (show g7 ≠ g8 from fun e => by have h1 := Zbz.out.lt; omega)
     have Z6 := Lib.hid (Zbz.out.below hx)
     have HM7 := Lib.hid (show w3.heap.size ≤ g7 ∧ g3 ≠ g7 ∧ g4 ≠ g7 from ⟨Nat.le_trans Zce.out.size hg, fun e => (by have := Zb4.out.lt; omega), fun e => (by have := Zb1.out.lt; omega)⟩)
     have Zbb := Lib.hid (Zb4.out.below hx)
     have Zba := Lib.hid (Zb1.out.below hx)
     have Zbj := Lib.hid (Zcu.out.below hx)
     have Zbc := Lib.hid (Zcf.out.below hx)
     have Zbm := Lib.hid (belowThen Zce.out (Nat.le_refl _) hx)
     have Zbf : Blk Z7 g3 26 (ndC xa) ∧ Blk Z7 g4 26 (ndC xm) := ⟨Zbb.out, Zba.out⟩
     clear hb hx hg
     refine ⟨Zbf, ?_⟩
     try simp only [Act.put, List.setIfInBounds_toArray, List.set_cons_succ, List.set_cons_zero]
     refine held_one 3 rfl (by kernel_rfl) ?_
     refine step_call rfl 9 _ _ rfl #[.agg (ndC xm)] (by simp only [List.map_toArray, List.map_cons, List.map_nil]; rfl) (fun W => HEL.out _ W) ?_
     refine (lentNode_any u hmu _ _ Zbc.out).mono ?_
     rintro e Zg ⟨yb, ds, rfl, hle, hx⟩
     have Z1 := Lib.hid hle
     have R2 := Lib.hid (LenT.range _ _ _ hle)
     have Zz := Lib.hid (LenT.below hx Zbg.out)
     have H72 := Lib.hid (show ∀ j ∈ ds, j ≠ g7 from fun j hj e => by have h1 := (R2.out j hj).1; have h2 := Z5.out.lt; omega)
     have Zy := Lib.hid (Z5.out.below hx)
     have H82 := Lib.hid (show ∀ j ∈ ds, j ≠ g8 from fun j hj e => by have h1 := (R2.out j hj).1; have h2 := Z6.out.lt; omega)
     have Zx := Lib.hid (Z6.out.below hx)
     have Zo := Lib.hid (Zbb.out.below hx)
     have Zn := Lib.hid (Zba.out.below hx)
     have Zbe := Lib.hid (Zbj.out.below hx)
     have Zbd := Lib.hid (Zbc.out.below hx)
     have Z2 := Lib.hid (belowThen Zbm.out (Nat.le_refl _) hx)
     have Z0 : Blk Zg g3 26 (ndC xa) ∧ Blk Zg g4 26 (ndC xm) := ⟨Zo.out, Zn.out⟩
     clear hx hle
     refine ⟨_, rfl, ?_⟩
     refine ⟨Z0, ?_⟩
     try simp only [Act.put, List.setIfInBounds_toArray, List.set_cons_succ, List.set_cons_zero]
     refine held_one 6 rfl (by kernel_rfl) ?_
     refine step_put rfl rfl 26 _ _ rfl g7 (ndC ya) (ndC ndZ) rfl rfl Zy.out (nd_info _) rfl (ndC_one _) ?_
     intro Zd hb hx hs hk9
     have ho := Only.of_eq (S := (· = g7)) hx hs hk9 rfl
     have Zr := Lib.hid hb
     have Zs := Lib.hid (Agg.Blk.keepO Zx.out ho (fun e => HGG.out e.symm))
     have Zt := Lib.hid (LenT.only ho _ _ _ Zz.out (fun j hj e => H71.out j hj e))
     have Zv := Lib.hid (LenT.only ho _ _ _ Z1.out (fun j hj e => H72.out j hj e))
     have Ze := Lib.hid (Agg.Blk.keepO Zo.out ho (fun e => HM7.out.2.1 e))
     have Zf := Lib.hid (Agg.Blk.keepO Zn.out ho (fun e => HM7.out.2.2 e))
     have Zb := Lib.hid (Z2.out.trans (hx.mono HM7.out.1))
     have Z8 := Lib.hid (XA_3.out.below Zb.out)
     have Z9 := Lib.hid (XM_3.out.below Zb.out)
     have Zu : Blk Zd g3 26 (ndC xa) ∧ Blk Zd g4 26 (ndC xm) := ⟨Ze.out, Zf.out⟩
     clear hb hx hs hk9 ho
     refine ⟨Zu, ?_⟩
     try simp only [Act.put, List.setIfInBounds_toArray, List.set_cons_succ, List.set_cons_zero]
     refine held_one 7 rfl (by kernel_rfl) ?_
     refine step_put rfl rfl 26 _ _ rfl g8 (ndC yb) (ndC ndZ) rfl rfl Zs.out (nd_info _) rfl (ndC_one _) ?_
     intro Zc hb hx hs hk9
     have ho := Only.of_eq (S := (· = g8)) hx hs hk9 rfl
     have Zj := Lib.hid hb
     have Zk := Lib.hid (Agg.Blk.keepO Zr.out ho (fun e => HGG.out e))
     have Zi := Lib.hid (LenT.only ho _ _ _ Zt.out (fun j hj e => H81.out j hj e))
     have Zm := Lib.hid (LenT.only ho _ _ _ Zv.out (fun j hj e => H82.out j hj e))
     have Zp := Lib.hid (Agg.Blk.keepO Ze.out ho (fun e => HM8.out.2.1 e))
     have Zq := Lib.hid (Agg.Blk.keepO Zf.out ho (fun e => HM8.out.2.2 e))
     have Za := Lib.hid (Zb.out.trans (hx.mono HM8.out.1))
     have Z4 := Lib.hid (XA_3.out.below Za.out)
     have Z3 := Lib.hid (XM_3.out.below Za.out)
     have Zh : Blk Zc g3 26 (ndC xa) ∧ Blk Zc g4 26 (ndC xm) := ⟨Zp.out, Zq.out⟩
     clear hb hx hs hk9 ho
     refine ⟨Zh, ?_⟩
     try simp only [Act.put, List.setIfInBounds_toArray, List.set_cons_succ, List.set_cons_zero]
     refine held_end (by kernel_rfl) ?_
     simp only [ExPut, Act.put, List.setIfInBounds_toArray, List.set_cons_succ, List.set_cons_zero]
     exact ⟨g7, g8, ya, yb, _, _, cs, ds, Zk.out, Zj.out, Zi.out, Zm.out, Za.out, _, _, _, _, rfl⟩
    exact AllReadyH.nil
   exact AllReadyH.nil
  refine held_cons rfl ?_ ?_
  ·refine step_zero rfl 26 rfl (ndC ndZ) nd_zero ?_
   intro g7 wa_4 hb hx hg
   have N7_4 := Lib.hid hb
   have HM7 := Lib.hid (show w3.heap.size ≤ g7 ∧ g3 ≠ g7 ∧ g4 ≠ g7 from ⟨Nat.le_trans Z_.out.size hg, fun e => (by have := B_.out.lt; omega), fun e => (by have := C_.out.lt; omega)⟩)
   have B_4 := Lib.hid (B_.out.below hx)
   have C_4 := Lib.hid (C_.out.below hx)
   have P_4 := Lib.hid (P_.out.below hx)
   have Q_4 := Lib.hid (Q_.out.below hx)
   have Z_4 := Lib.hid (belowThen Z_.out (Nat.le_refl _) hx)
   have hS_4 : Blk wa_4 g3 26 (ndC xa) ∧ Blk wa_4 g4 26 (ndC xm) := ⟨B_4.out, C_4.out⟩
   clear hb hx hg
   refine ⟨hS_4, ?_⟩
   try simp only [Act.put, List.setIfInBounds_toArray, List.set_cons_succ, List.set_cons_zero]
   refine held_ready [1, 5] (by kernel_rfl) (by simp) ?_
   refine held_cons rfl ?_ ?_
   ·refine step_call rfl 9 _ _ rfl #[.agg (ndC xa)] (by simp only [List.map_toArray, List.map_cons, List.map_nil]; rfl) (fun W => HEL.out _ W) ?_
    refine (lentNode_any t hmt _ _ P_4.out).mono ?_
    rintro e Zci ⟨ya, cs, rfl, hle, hx⟩
    have Zb5 := Lib.hid hle
    have R1 := Lib.hid (LenT.range _ _ _ hle)
    have H71 := Lib.hid (show ∀ j ∈ cs, j ≠ g7 from fun j hj e => by have h1 := (R1.out j hj).1; have h2 := N7_4.out.lt; omega)
    have Zb0 := Lib.hid (N7_4.out.below hx)
    have Zb3 := Lib.hid (B_4.out.below hx)
    have Zb2 := Lib.hid (C_4.out.below hx)
    have Zcv := Lib.hid (P_4.out.below hx)
    have Zcd := Lib.hid (Q_4.out.below hx)
    have Zcg := Lib.hid (belowThen Z_4.out (Nat.le_refl _) hx)
    have Zcz : Blk Zci g3 26 (ndC xa) ∧ Blk Zci g4 26 (ndC xm) := ⟨Zb3.out, Zb2.out⟩
    clear hx hle
    refine ⟨_, rfl, ?_⟩
    refine ⟨Zcz, ?_⟩
    try simp only [Act.put, List.setIfInBounds_toArray, List.set_cons_succ, List.set_cons_zero]
    refine held_ready [3, 5] (by kernel_rfl) (by simp) ?_
    refine held_cons rfl ?_ ?_
    ·refine step_call rfl 9 _ _ rfl #[.agg (ndC xm)] (by simp only [List.map_toArray, List.map_cons, List.map_nil]; rfl) (fun W => HEL.out _ W) ?_
     refine (lentNode_any u hmu _ _ Zcd.out).mono ?_
     rintro e Zbv ⟨yb, ds, rfl, hle, hx⟩
     have Zbr := Lib.hid hle
     have R2 := Lib.hid (LenT.range _ _ _ hle)
     have Zbs := Lib.hid (LenT.below hx Zb5.out)
     have H72 := Lib.hid (show ∀ j ∈ ds, j ≠ g7 from fun j hj e => by have h1 := (R2.out j hj).1; have h2 := Zb0.out.lt; omega)
     have Zbu := Lib.hid (Zb0.out.below hx)
     have Zbi := Lib.hid (Zb3.out.below hx)
     have Zbh := Lib.hid (Zb2.out.below hx)
     have Zb9 := Lib.hid (Zcv.out.below hx)
     have Zcb := Lib.hid (Zcd.out.below hx)
     have Zby := Lib.hid (belowThen Zcg.out (Nat.le_refl _) hx)
     have Zb6 : Blk Zbv g3 26 (ndC xa) ∧ Blk Zbv g4 26 (ndC xm) := ⟨Zbi.out, Zbh.out⟩
     clear hx hle
     refine ⟨_, rfl, ?_⟩
     refine ⟨Zb6, ?_⟩
     try simp only [Act.put, List.setIfInBounds_toArray, List.set_cons_succ, List.set_cons_zero]
     refine held_one 5 rfl (by kernel_rfl) ?_
     refine step_zero rfl 26 rfl (ndC ndZ) nd_zero ?_
     intro g8 Zg hb hx hg
     have Zx := Lib.hid hb
     have H81 := Lib.hid (show ∀ j ∈ cs, j ≠ g8 from fun j hj e => by have h1 := (LenT.range _ _ _ Zbs.out j hj).2; omega)
     have Zz := Lib.hid (LenT.below hx Zbs.out)
     have H82 := Lib.hid (show ∀ j ∈ ds, j ≠ g8 from fun j hj e => by have h1 := (LenT.range _ _ _ Zbr.out j hj).2; omega)
     have Z1 := Lib.hid (LenT.below hx Zbr.out)
     have HGG := Lib.hid (show g7 ≠ g8 from fun e => by have h1 := Zbu.out.lt; omega)
     have Zy := Lib.hid (Zbu.out.below hx)
     have HM8 := Lib.hid (show w3.heap.size ≤ g8 ∧ g3 ≠ g8 ∧ g4 ≠ g8 from ⟨Nat.le_trans Zby.out.size hg, fun e => (by have := Zbi.out.lt; omega), fun e => (by have := Zbh.out.lt; omega)⟩)
     have Zo := Lib.hid (Zbi.out.below hx)
     have Zn := Lib.hid (Zbh.out.below hx)
     have Zbe := Lib.hid (Zb9.out.below hx)
     have Zbd := Lib.hid (Zcb.out.below hx)
     have Z2 := Lib.hid (belowThen Zby.out (Nat.le_refl _) hx)
     have Z0 : Blk Zg g3 26 (ndC xa) ∧ Blk Zg g4 26 (ndC xm) := ⟨Zo.out, Zn.out⟩
     clear hb hx hg
     refine ⟨Z0, ?_⟩
     try simp only [Act.put, List.setIfInBounds_toArray, List.set_cons_succ, List.set_cons_zero]
     refine held_one 6 rfl (by kernel_rfl) ?_
     refine step_put rfl rfl 26 _ _ rfl g7 (ndC ya) (ndC ndZ) rfl rfl Zy.out (nd_info _) rfl (ndC_one _) ?_
     intro Zd hb hx hs hk9
     have ho := Only.of_eq (S := (· = g7)) hx hs hk9 rfl
     have Zr := Lib.hid hb
     have Zs := Lib.hid (Agg.Blk.keepO Zx.out ho (fun e => HGG.out e.symm))
     have Zt := Lib.hid (LenT.only ho _ _ _ Zz.out (fun j hj e => H71.out j hj e))
     have Zv := Lib.hid (LenT.only ho _ _ _ Z1.out (fun j hj e => H72.out j hj e))
     have Ze := Lib.hid (Agg.Blk.keepO Zo.out ho (fun e => HM7.out.2.1 e))
     have Zf := Lib.hid (Agg.Blk.keepO Zn.out ho (fun e => HM7.out.2.2 e))
     have Zb := Lib.hid (Z2.out.trans (hx.mono HM7.out.1))
     have Z8 := Lib.hid (XA_3.out.below Zb.out)
     have Z9 := Lib.hid (XM_3.out.below Zb.out)
     have Zu : Blk Zd g3 26 (ndC xa) ∧ Blk Zd g4 26 (ndC xm) := ⟨Ze.out, Zf.out⟩
     clear hb hx hs hk9 ho
     refine ⟨Zu, ?_⟩
     try simp only [Act.put, List.setIfInBounds_toArray, List.set_cons_succ, List.set_cons_zero]
     refine held_one 7 rfl (by kernel_rfl) ?_
     refine step_put rfl rfl 26 _ _ rfl g8 (ndC yb) (ndC ndZ) rfl rfl Zs.out (nd_info _) rfl (ndC_one _) ?_
     intro Zc hb hx hs hk9
     have ho := Only.of_eq (S := (· = g8)) hx hs hk9 rfl
     have Zj := Lib.hid hb
     have Zk := Lib.hid (Agg.Blk.keepO Zr.out ho (fun e => HGG.out e))
     have Zi := Lib.hid (LenT.only ho _ _ _ Zt.out (fun j hj e => H81.out j hj e))
     have Zm := Lib.hid (LenT.only ho _ _ _ Zv.out (fun j hj e => H82.out j hj e))
     have Zp := Lib.hid (Agg.Blk.keepO Ze.out ho (fun e => HM8.out.2.1 e))
     have Zq := Lib.hid (Agg.Blk.keepO Zf.out ho (fun e => HM8.out.2.2 e))
     have Za := Lib.hid (Zb.out.trans (hx.mono HM8.out.1))
     have Z4 := Lib.hid (XA_3.out.below Za.out)
     have Z3 := Lib.hid (XM_3.out.below Za.out)
     have Zh : Blk Zc g3 26 (ndC xa) ∧ Blk Zc g4 26 (ndC xm) := ⟨Zp.out, Zq.out⟩
     clear hb hx hs hk9 ho
     refine ⟨Zh, ?_⟩
     try simp only [Act.put, List.setIfInBounds_toArray, List.set_cons_succ, List.set_cons_zero]
     refine held_end (by kernel_rfl) ?_
     simp only [ExPut, Act.put, List.setIfInBounds_toArray, List.set_cons_succ, List.set_cons_zero]
     exact ⟨g7, g8, ya, yb, _, _, cs, ds, Zk.out, Zj.out, Zi.out, Zm.out, Za.out, _, _, _, _, rfl⟩
    refine held_cons rfl ?_ ?_
    ·refine step_zero rfl 26 rfl (ndC ndZ) nd_zero ?_
     intro g8 Z7 hb hx hg
     have Z6 := Lib.hid hb
     have H81 := Lib.hid (show ∀ j ∈ cs, j ≠ g8 from fun j hj e => by have h1 := (LenT.range _ _ _ Zb5.out j hj).2; omega)
     have Zbg := Lib.hid (LenT.below hx Zb5.out)
     have HGG := Lib.hid (show g7 ≠ g8 from fun e => by have h1 := Zb0.out.lt; omega)
     have Z5 := Lib.hid (Zb0.out.below hx)
     have HM8 := Lib.hid (show w3.heap.size ≤ g8 ∧ g3 ≠ g8 ∧ g4 ≠ g8 from ⟨Nat.le_trans Zcg.out.size hg, fun e => (by have := Zb3.out.lt; omega), fun e => (by have := Zb2.out.lt; omega)⟩)
     have Zbb := Lib.hid (Zb3.out.below hx)
     have Zba := Lib.hid (Zb2.out.below hx)
     have Zbj := Lib.hid (Zcv.out.below hx)
     have Zbc := Lib.hid (Zcd.out.below hx)
     have Zbm := Lib.hid (belowThen Zcg.out (Nat.le_refl _) hx)
     have Zbf : Blk Z7 g3 26 (ndC xa) ∧ Blk Z7 g4 26 (ndC xm) := ⟨Zbb.out, Zba.out⟩
     clear hb hx hg
     refine ⟨Zbf, ?_⟩
     try simp only [Act.put, List.setIfInBounds_toArray, List.set_cons_succ, List.set_cons_zero]
     refine held_one 3 rfl (by kernel_rfl) ?_
     refine step_call rfl 9 _ _ rfl #[.agg (ndC xm)] (by simp only [List.map_toArray, List.map_cons, List.map_nil]; rfl) (fun W => HEL.out _ W) ?_
     refine (lentNode_any u hmu _ _ Zbc.out).mono ?_
     rintro e Zg ⟨yb, ds, rfl, hle, hx⟩
     have Z1 := Lib.hid hle
     have R2 := Lib.hid (LenT.range _ _ _ hle)
     have Zz := Lib.hid (LenT.below hx Zbg.out)
     have H72 := Lib.hid (show ∀ j ∈ ds, j ≠ g7 from fun j hj e => by have h1 := (R2.out j hj).1; have h2 := Z5.out.lt; omega)
     have Zy := Lib.hid (Z5.out.below hx)
     have H82 := Lib.hid (show ∀ j ∈ ds, j ≠ g8 from fun j hj e => by have h1 := (R2.out j hj).1; have h2 := Z6.out.lt; omega)
     have Zx := Lib.hid (Z6.out.below hx)
     have Zo := Lib.hid (Zbb.out.below hx)
     have Zn := Lib.hid (Zba.out.below hx)
     have Zbe := Lib.hid (Zbj.out.below hx)
     have Zbd := Lib.hid (Zbc.out.below hx)
     have Z2 := Lib.hid (belowThen Zbm.out (Nat.le_refl _) hx)
     have Z0 : Blk Zg g3 26 (ndC xa) ∧ Blk Zg g4 26 (ndC xm) := ⟨Zo.out, Zn.out⟩
     clear hx hle
     refine ⟨_, rfl, ?_⟩
     refine ⟨Z0, ?_⟩
     try simp only [Act.put, List.setIfInBounds_toArray, List.set_cons_succ, List.set_cons_zero]
     refine held_one 6 rfl (by kernel_rfl) ?_
     refine step_put rfl rfl 26 _ _ rfl g7 (ndC ya) (ndC ndZ) rfl rfl Zy.out (nd_info _) rfl (ndC_one _) ?_
     intro Zd hb hx hs hk9
     have ho := Only.of_eq (S := (· = g7)) hx hs hk9 rfl
     have Zr := Lib.hid hb
     have Zs := Lib.hid (Agg.Blk.keepO Zx.out ho (fun e => HGG.out e.symm))
     have Zt := Lib.hid (LenT.only ho _ _ _ Zz.out (fun j hj e => H71.out j hj e))
     have Zv := Lib.hid (LenT.only ho _ _ _ Z1.out (fun j hj e => H72.out j hj e))
     have Ze := Lib.hid (Agg.Blk.keepO Zo.out ho (fun e => HM7.out.2.1 e))
     have Zf := Lib.hid (Agg.Blk.keepO Zn.out ho (fun e => HM7.out.2.2 e))
     have Zb := Lib.hid (Z2.out.trans (hx.mono HM7.out.1))
     have Z8 := Lib.hid (XA_3.out.below Zb.out)
     have Z9 := Lib.hid (XM_3.out.below Zb.out)
     have Zu : Blk Zd g3 26 (ndC xa) ∧ Blk Zd g4 26 (ndC xm) := ⟨Ze.out, Zf.out⟩
     clear hb hx hs hk9 ho
     refine ⟨Zu, ?_⟩
     try simp only [Act.put, List.setIfInBounds_toArray, List.set_cons_succ, List.set_cons_zero]
     refine held_one 7 rfl (by kernel_rfl) ?_
     refine step_put rfl rfl 26 _ _ rfl g8 (ndC yb) (ndC ndZ) rfl rfl Zs.out (nd_info _) rfl (ndC_one _) ?_
     intro Zc hb hx hs hk9
     have ho := Only.of_eq (S := (· = g8)) hx hs hk9 rfl
     have Zj := Lib.hid hb
     have Zk := Lib.hid (Agg.Blk.keepO Zr.out ho (fun e => HGG.out e))
     have Zi := Lib.hid (LenT.only ho _ _ _ Zt.out (fun j hj e => H81.out j hj e))
     have Zm := Lib.hid (LenT.only ho _ _ _ Zv.out (fun j hj e => H82.out j hj e))
     have Zp := Lib.hid (Agg.Blk.keepO Ze.out ho (fun e => HM8.out.2.1 e))
     have Zq := Lib.hid (Agg.Blk.keepO Zf.out ho (fun e => HM8.out.2.2 e))
     have Za := Lib.hid (Zb.out.trans (hx.mono HM8.out.1))
     have Z4 := Lib.hid (XA_3.out.below Za.out)
     have Z3 := Lib.hid (XM_3.out.below Za.out)
     have Zh : Blk Zc g3 26 (ndC xa) ∧ Blk Zc g4 26 (ndC xm) := ⟨Zp.out, Zq.out⟩
     clear hb hx hs hk9 ho
     refine ⟨Zh, ?_⟩
     try simp only [Act.put, List.setIfInBounds_toArray, List.set_cons_succ, List.set_cons_zero]
     refine held_end (by kernel_rfl) ?_
     simp only [ExPut, Act.put, List.setIfInBounds_toArray, List.set_cons_succ, List.set_cons_zero]
     exact ⟨g7, g8, ya, yb, _, _, cs, ds, Zk.out, Zj.out, Zi.out, Zm.out, Za.out, _, _, _, _, rfl⟩
    exact AllReadyH.nil
   refine held_cons rfl ?_ ?_
   ·refine step_zero rfl 26 rfl (ndC ndZ) nd_zero ?_
    intro g8 Zcm hb hx hg
    have Zch := Lib.hid hb
    have HGG := Lib.hid (show g7 ≠ g8 from fun e => by have h1 := N7_4.out.lt; omega)
    have Zck := Lib.hid (N7_4.out.below hx)
    have HM8 := Lib.hid (show w3.heap.size ≤ g8 ∧ g3 ≠ g8 ∧ g4 ≠ g8 from ⟨Nat.le_trans Z_4.out.size hg, fun e => (by have := B_4.out.lt; omega), fun e => (by have := C_4.out.lt; omega)⟩)
    have Zcs := Lib.hid (B_4.out.below hx)
    have Zco := Lib.hid (C_4.out.below hx)
    have Zcp := Lib.hid (P_4.out.below hx)
    have Zc1 := Lib.hid (Q_4.out.below hx)
    have Zc2 := Lib.hid (belowThen Z_4.out (Nat.le_refl _) hx)
    have Zcy : Blk Zcm g3 26 (ndC xa) ∧ Blk Zcm g4 26 (ndC xm) := ⟨Zcs.out, Zco.out⟩
    clear hb hx hg
    refine ⟨Zcy, ?_⟩
    try simp only [Act.put, List.setIfInBounds_toArray, List.set_cons_succ, List.set_cons_zero]
    refine held_one 1 rfl (by kernel_rfl) ?_
    refine step_call rfl 9 _ _ rfl #[.agg (ndC xa)] (by simp only [List.map_toArray, List.map_cons, List.map_nil]; rfl) (fun W => HEL.out _ W) ?_
    refine (lentNode_any t hmt _ _ Zcp.out).mono ?_
    rintro e Z7 ⟨ya, cs, rfl, hle, hx⟩
    have Zbg := Lib.hid hle
    have R1 := Lib.hid (LenT.range _ _ _ hle)
    have H71 := Lib.hid (show ∀ j ∈ cs, j ≠ g7 from fun j hj e => by have h1 := (R1.out j hj).1; have h2 := Zck.out.lt; omega)
    have Z5 := Lib.hid (Zck.out.below hx)
    have H81 := Lib.hid (show ∀ j ∈ cs, j ≠ g8 from fun j hj e => by have h1 := (R1.out j hj).1; have h2 := Zch.out.lt; omega)
    have Z6 := Lib.hid (Zch.out.below hx)
    have Zbb := Lib.hid (Zcs.out.below hx)
    have Zba := Lib.hid (Zco.out.below hx)
    have Zbj := Lib.hid (Zcp.out.below hx)
    have Zbc := Lib.hid (Zc1.out.below hx)
    have Zbm := Lib.hid (belowThen Zc2.out (Nat.le_refl _) hx)
    have Zbf : Blk Z7 g3 26 (ndC xa) ∧ Blk Z7 g4 26 (ndC xm) := ⟨Zbb.out, Zba.out⟩
    clear hx hle
    refine ⟨_, rfl, ?_⟩
    refine ⟨Zbf, ?_⟩
    try simp only [Act.put, List.setIfInBounds_toArray, List.set_cons_succ, List.set_cons_zero]
    refine held_one 3 rfl (by kernel_rfl) ?_
    refine step_call rfl 9 _ _ rfl #[.agg (ndC xm)] (by simp only [List.map_toArray, List.map_cons, List.map_nil]; rfl) (fun W => HEL.out _ W) ?_
    refine (lentNode_any u hmu _ _ Zbc.out).mono ?_
    rintro e Zg ⟨yb, ds, rfl, hle, hx⟩
    have Z1 := Lib.hid hle
    have R2 := Lib.hid (LenT.range _ _ _ hle)
    have Zz := Lib.hid (LenT.below hx Zbg.out)
    have H72 := Lib.hid (show ∀ j ∈ ds, j ≠ g7 from fun j hj e => by have h1 := (R2.out j hj).1; have h2 := Z5.out.lt; omega)
    have Zy := Lib.hid (Z5.out.below hx)
    have H82 := Lib.hid (show ∀ j ∈ ds, j ≠ g8 from fun j hj e => by have h1 := (R2.out j hj).1; have h2 := Z6.out.lt; omega)
    have Zx := Lib.hid (Z6.out.below hx)
    have Zo := Lib.hid (Zbb.out.below hx)
    have Zn := Lib.hid (Zba.out.below hx)
    have Zbe := Lib.hid (Zbj.out.below hx)
    have Zbd := Lib.hid (Zbc.out.below hx)
    have Z2 := Lib.hid (belowThen Zbm.out (Nat.le_refl _) hx)
    have Z0 : Blk Zg g3 26 (ndC xa) ∧ Blk Zg g4 26 (ndC xm) := ⟨Zo.out, Zn.out⟩
    clear hx hle
    refine ⟨_, rfl, ?_⟩
    refine ⟨Z0, ?_⟩
    try simp only [Act.put, List.setIfInBounds_toArray, List.set_cons_succ, List.set_cons_zero]
    refine held_one 6 rfl (by kernel_rfl) ?_
    refine step_put rfl rfl 26 _ _ rfl g7 (ndC ya) (ndC ndZ) rfl rfl Zy.out (nd_info _) rfl (ndC_one _) ?_
    intro Zd hb hx hs hk9
    have ho := Only.of_eq (S := (· = g7)) hx hs hk9 rfl
    have Zr := Lib.hid hb
    have Zs := Lib.hid (Agg.Blk.keepO Zx.out ho (fun e => HGG.out e.symm))
    have Zt := Lib.hid (LenT.only ho _ _ _ Zz.out (fun j hj e => H71.out j hj e))
    have Zv := Lib.hid (LenT.only ho _ _ _ Z1.out (fun j hj e => H72.out j hj e))
    have Ze := Lib.hid (Agg.Blk.keepO Zo.out ho (fun e => HM7.out.2.1 e))
    have Zf := Lib.hid (Agg.Blk.keepO Zn.out ho (fun e => HM7.out.2.2 e))
    have Zb := Lib.hid (Z2.out.trans (hx.mono HM7.out.1))
    have Z8 := Lib.hid (XA_3.out.below Zb.out)
    have Z9 := Lib.hid (XM_3.out.below Zb.out)
    have Zu : Blk Zd g3 26 (ndC xa) ∧ Blk Zd g4 26 (ndC xm) := ⟨Ze.out, Zf.out⟩
    clear hb hx hs hk9 ho
    refine ⟨Zu, ?_⟩
    try simp only [Act.put, List.setIfInBounds_toArray, List.set_cons_succ, List.set_cons_zero]
    refine held_one 7 rfl (by kernel_rfl) ?_
    refine step_put rfl rfl 26 _ _ rfl g8 (ndC yb) (ndC ndZ) rfl rfl Zs.out (nd_info _) rfl (ndC_one _) ?_
    intro Zc hb hx hs hk9
    have ho := Only.of_eq (S := (· = g8)) hx hs hk9 rfl
    have Zj := Lib.hid hb
    have Zk := Lib.hid (Agg.Blk.keepO Zr.out ho (fun e => HGG.out e))
    have Zi := Lib.hid (LenT.only ho _ _ _ Zt.out (fun j hj e => H81.out j hj e))
    have Zm := Lib.hid (LenT.only ho _ _ _ Zv.out (fun j hj e => H82.out j hj e))
    have Zp := Lib.hid (Agg.Blk.keepO Ze.out ho (fun e => HM8.out.2.1 e))
    have Zq := Lib.hid (Agg.Blk.keepO Zf.out ho (fun e => HM8.out.2.2 e))
    have Za := Lib.hid (Zb.out.trans (hx.mono HM8.out.1))
    have Z4 := Lib.hid (XA_3.out.below Za.out)
    have Z3 := Lib.hid (XM_3.out.below Za.out)
    have Zh : Blk Zc g3 26 (ndC xa) ∧ Blk Zc g4 26 (ndC xm) := ⟨Zp.out, Zq.out⟩
    clear hb hx hs hk9 ho
    refine ⟨Zh, ?_⟩
    try simp only [Act.put, List.setIfInBounds_toArray, List.set_cons_succ, List.set_cons_zero]
    refine held_end (by kernel_rfl) ?_
    simp only [ExPut, Act.put, List.setIfInBounds_toArray, List.set_cons_succ, List.set_cons_zero]
    exact ⟨g7, g8, ya, yb, _, _, cs, ds, Zk.out, Zj.out, Zi.out, Zm.out, Za.out, _, _, _, _, rfl⟩
   exact AllReadyH.nil
  refine held_cons rfl ?_ ?_
  ·refine step_zero rfl 26 rfl (ndC ndZ) nd_zero ?_
   intro g8 wa_5 hb hx hg
   have N8_5 := Lib.hid hb
   have HM8 := Lib.hid (show w3.heap.size ≤ g8 ∧ g3 ≠ g8 ∧ g4 ≠ g8 from ⟨Nat.le_trans Z_.out.size hg, fun e => (by have := B_.out.lt; omega), fun e => (by have := C_.out.lt; omega)⟩)
   have B_5 := Lib.hid (B_.out.below hx)
   have C_5 := Lib.hid (C_.out.below hx)
   have P_5 := Lib.hid (P_.out.below hx)
   have Q_5 := Lib.hid (Q_.out.below hx)
   have Z_5 := Lib.hid (belowThen Z_.out (Nat.le_refl _) hx)
   have hS_5 : Blk wa_5 g3 26 (ndC xa) ∧ Blk wa_5 g4 26 (ndC xm) := ⟨B_5.out, C_5.out⟩
   clear hb hx hg
   refine ⟨hS_5, ?_⟩
   try simp only [Act.put, List.setIfInBounds_toArray, List.set_cons_succ, List.set_cons_zero]
   refine held_ready [1, 4] (by kernel_rfl) (by simp) ?_
   refine held_cons rfl ?_ ?_
   ·refine step_call rfl 9 _ _ rfl #[.agg (ndC xa)] (by simp only [List.map_toArray, List.map_cons, List.map_nil]; rfl) (fun W => HEL.out _ W) ?_
    refine (lentNode_any t hmt _ _ P_5.out).mono ?_
    rintro e Zcj ⟨ya, cs, rfl, hle, hx⟩
    have Zb7 := Lib.hid hle
    have R1 := Lib.hid (LenT.range _ _ _ hle)
    have H81 := Lib.hid (show ∀ j ∈ cs, j ≠ g8 from fun j hj e => by have h1 := (R1.out j hj).1; have h2 := N8_5.out.lt; omega)
    have Zbz := Lib.hid (N8_5.out.below hx)
    have Zb4 := Lib.hid (B_5.out.below hx)
    have Zb1 := Lib.hid (C_5.out.below hx)
    have Zcu := Lib.hid (P_5.out.below hx)
    have Zcf := Lib.hid (Q_5.out.below hx)
    have Zce := Lib.hid (belowThen Z_5.out (Nat.le_refl _) hx)
    have Zc0 : Blk Zcj g3 26 (ndC xa) ∧ Blk Zcj g4 26 (ndC xm) := ⟨Zb4.out, Zb1.out⟩
    clear hx hle
    refine ⟨_, rfl, ?_⟩
    refine ⟨Zc0, ?_⟩
    try simp only [Act.put, List.setIfInBounds_toArray, List.set_cons_succ, List.set_cons_zero]
    refine held_ready [3, 4] (by kernel_rfl) (by simp) ?_
    refine held_cons rfl ?_ ?_
    ·refine step_call rfl 9 _ _ rfl #[.agg (ndC xm)] (by simp only [List.map_toArray, List.map_cons, List.map_nil]; rfl) (fun W => HEL.out _ W) ?_
     refine (lentNode_any u hmu _ _ Zcf.out).mono ?_
     rintro e Zbq ⟨yb, ds, rfl, hle, hx⟩
     have Zbo := Lib.hid hle
     have R2 := Lib.hid (LenT.range _ _ _ hle)
     have Zbp := Lib.hid (LenT.below hx Zb7.out)
     have H82 := Lib.hid (show ∀ j ∈ ds, j ≠ g8 from fun j hj e => by have h1 := (R2.out j hj).1; have h2 := Zbz.out.lt; omega)
     have Zbt := Lib.hid (Zbz.out.below hx)
     have Zbn := Lib.hid (Zb4.out.below hx)
     have Zbk := Lib.hid (Zb1.out.below hx)
     have Zcc := Lib.hid (Zcu.out.below hx)
     have Zca := Lib.hid (Zcf.out.below hx)
     have Zbx := Lib.hid (belowThen Zce.out (Nat.le_refl _) hx)
     have Zb8 : Blk Zbq g3 26 (ndC xa) ∧ Blk Zbq g4 26 (ndC xm) := ⟨Zbn.out, Zbk.out⟩
     clear hx hle
     refine ⟨_, rfl, ?_⟩
     refine ⟨Zb8, ?_⟩
     try simp only [Act.put, List.setIfInBounds_toArray, List.set_cons_succ, List.set_cons_zero]
     refine held_one 4 rfl (by kernel_rfl) ?_
     refine step_zero rfl 26 rfl (ndC ndZ) nd_zero ?_
     intro g7 Zg hb hx hg
     have Zy := Lib.hid hb
     have H71 := Lib.hid (show ∀ j ∈ cs, j ≠ g7 from fun j hj e => by have h1 := (LenT.range _ _ _ Zbp.out j hj).2; omega)
     have Zz := Lib.hid (LenT.below hx Zbp.out)
     have H72 := Lib.hid (show ∀ j ∈ ds, j ≠ g7 from fun j hj e => by have h1 := (LenT.range _ _ _ Zbo.out j hj).2; omega)
     have Z1 := Lib.hid (LenT.below hx Zbo.out)
     have HGG := Lib.hid (show g7 ≠ g8 from fun e => by have h1 := Zbt.out.lt; omega)
     have Zx := Lib.hid (Zbt.out.below hx)
     have HM7 := Lib.hid (show w3.heap.size ≤ g7 ∧ g3 ≠ g7 ∧ g4 ≠ g7 from ⟨Nat.le_trans Zbx.out.size hg, fun e => (by have := Zbn.out.lt; omega), fun e => (by have := Zbk.out.lt; omega)⟩)
     have Zo := Lib.hid (Zbn.out.below hx)
     have Zn := Lib.hid (Zbk.out.below hx)
     have Zbe := Lib.hid (Zcc.out.below hx)
     have Zbd := Lib.hid (Zca.out.below hx)
     have Z2 := Lib.hid (belowThen Zbx.out (Nat.le_refl _) hx)
     have Z0 : Blk Zg g3 26 (ndC xa) ∧ Blk Zg g4 26 (ndC xm) := ⟨Zo.out, Zn.out⟩
     clear hb hx hg
     refine ⟨Z0, ?_⟩
     try simp only [Act.put, List.setIfInBounds_toArray, List.set_cons_succ, List.set_cons_zero]
     refine held_one 6 rfl (by kernel_rfl) ?_
     refine step_put rfl rfl 26 _ _ rfl g7 (ndC ya) (ndC ndZ) rfl rfl Zy.out (nd_info _) rfl (ndC_one _) ?_
     intro Zd hb hx hs hk9
     have ho := Only.of_eq (S := (· = g7)) hx hs hk9 rfl
     have Zr := Lib.hid hb
     have Zs := Lib.hid (Agg.Blk.keepO Zx.out ho (fun e => HGG.out e.symm))
     have Zt := Lib.hid (LenT.only ho _ _ _ Zz.out (fun j hj e => H71.out j hj e))
     have Zv := Lib.hid (LenT.only ho _ _ _ Z1.out (fun j hj e => H72.out j hj e))
     have Ze := Lib.hid (Agg.Blk.keepO Zo.out ho (fun e => HM7.out.2.1 e))
     have Zf := Lib.hid (Agg.Blk.keepO Zn.out ho (fun e => HM7.out.2.2 e))
     have Zb := Lib.hid (Z2.out.trans (hx.mono HM7.out.1))
     have Z8 := Lib.hid (XA_3.out.below Zb.out)
     have Z9 := Lib.hid (XM_3.out.below Zb.out)
     have Zu : Blk Zd g3 26 (ndC xa) ∧ Blk Zd g4 26 (ndC xm) := ⟨Ze.out, Zf.out⟩
     clear hb hx hs hk9 ho
     refine ⟨Zu, ?_⟩
     try simp only [Act.put, List.setIfInBounds_toArray, List.set_cons_succ, List.set_cons_zero]
     refine held_one 7 rfl (by kernel_rfl) ?_
     refine step_put rfl rfl 26 _ _ rfl g8 (ndC yb) (ndC ndZ) rfl rfl Zs.out (nd_info _) rfl (ndC_one _) ?_
     intro Zc hb hx hs hk9
     have ho := Only.of_eq (S := (· = g8)) hx hs hk9 rfl
     have Zj := Lib.hid hb
     have Zk := Lib.hid (Agg.Blk.keepO Zr.out ho (fun e => HGG.out e))
     have Zi := Lib.hid (LenT.only ho _ _ _ Zt.out (fun j hj e => H81.out j hj e))
     have Zm := Lib.hid (LenT.only ho _ _ _ Zv.out (fun j hj e => H82.out j hj e))
     have Zp := Lib.hid (Agg.Blk.keepO Ze.out ho (fun e => HM8.out.2.1 e))
     have Zq := Lib.hid (Agg.Blk.keepO Zf.out ho (fun e => HM8.out.2.2 e))
     have Za := Lib.hid (Zb.out.trans (hx.mono HM8.out.1))
     have Z4 := Lib.hid (XA_3.out.below Za.out)
     have Z3 := Lib.hid (XM_3.out.below Za.out)
     have Zh : Blk Zc g3 26 (ndC xa) ∧ Blk Zc g4 26 (ndC xm) := ⟨Zp.out, Zq.out⟩
     clear hb hx hs hk9 ho
     refine ⟨Zh, ?_⟩
     try simp only [Act.put, List.setIfInBounds_toArray, List.set_cons_succ, List.set_cons_zero]
     refine held_end (by kernel_rfl) ?_
     simp only [ExPut, Act.put, List.setIfInBounds_toArray, List.set_cons_succ, List.set_cons_zero]
     exact ⟨g7, g8, ya, yb, _, _, cs, ds, Zk.out, Zj.out, Zi.out, Zm.out, Za.out, _, _, _, _, rfl⟩
    refine held_cons rfl ?_ ?_
    ·refine step_zero rfl 26 rfl (ndC ndZ) nd_zero ?_
     intro g7 Z7 hb hx hg
     have Z5 := Lib.hid hb
     have H71 := Lib.hid (show ∀ j ∈ cs, j ≠ g7 from fun j hj e => by have h1 := (LenT.range _ _ _ Zb7.out j hj).2; omega)
     have Zbg := Lib.hid (LenT.below hx Zb7.out)
     have HGG := Lib.hid (show g7 ≠ g8 from fun e => by have h1 := Zbz.out.lt; omega)
     have Z6 := Lib.hid (Zbz.out.below hx)
     have HM7 := Lib.hid (show w3.heap.size ≤ g7 ∧ g3 ≠ g7 ∧ g4 ≠ g7 from ⟨Nat.le_trans Zce.out.size hg, fun e => (by have := Zb4.out.lt; omega), fun e => (by have := Zb1.out.lt; omega)⟩)
     have Zbb := Lib.hid (Zb4.out.below hx)
     have Zba := Lib.hid (Zb1.out.below hx)
     have Zbj := Lib.hid (Zcu.out.below hx)
     have Zbc := Lib.hid (Zcf.out.below hx)
     have Zbm := Lib.hid (belowThen Zce.out (Nat.le_refl _) hx)
     have Zbf : Blk Z7 g3 26 (ndC xa) ∧ Blk Z7 g4 26 (ndC xm) := ⟨Zbb.out, Zba.out⟩
     clear hb hx hg
     refine ⟨Zbf, ?_⟩
     try simp only [Act.put, List.setIfInBounds_toArray, List.set_cons_succ, List.set_cons_zero]
     refine held_one 3 rfl (by kernel_rfl) ?_
     refine step_call rfl 9 _ _ rfl #[.agg (ndC xm)] (by simp only [List.map_toArray, List.map_cons, List.map_nil]; rfl) (fun W => HEL.out _ W) ?_
     refine (lentNode_any u hmu _ _ Zbc.out).mono ?_
     rintro e Zg ⟨yb, ds, rfl, hle, hx⟩
     have Z1 := Lib.hid hle
     have R2 := Lib.hid (LenT.range _ _ _ hle)
     have Zz := Lib.hid (LenT.below hx Zbg.out)
     have H72 := Lib.hid (show ∀ j ∈ ds, j ≠ g7 from fun j hj e => by have h1 := (R2.out j hj).1; have h2 := Z5.out.lt; omega)
     have Zy := Lib.hid (Z5.out.below hx)
     have H82 := Lib.hid (show ∀ j ∈ ds, j ≠ g8 from fun j hj e => by have h1 := (R2.out j hj).1; have h2 := Z6.out.lt; omega)
     have Zx := Lib.hid (Z6.out.below hx)
     have Zo := Lib.hid (Zbb.out.below hx)
     have Zn := Lib.hid (Zba.out.below hx)
     have Zbe := Lib.hid (Zbj.out.below hx)
     have Zbd := Lib.hid (Zbc.out.below hx)
     have Z2 := Lib.hid (belowThen Zbm.out (Nat.le_refl _) hx)
     have Z0 : Blk Zg g3 26 (ndC xa) ∧ Blk Zg g4 26 (ndC xm) := ⟨Zo.out, Zn.out⟩
     clear hx hle
     refine ⟨_, rfl, ?_⟩
     refine ⟨Z0, ?_⟩
     try simp only [Act.put, List.setIfInBounds_toArray, List.set_cons_succ, List.set_cons_zero]
     refine held_one 6 rfl (by kernel_rfl) ?_
     refine step_put rfl rfl 26 _ _ rfl g7 (ndC ya) (ndC ndZ) rfl rfl Zy.out (nd_info _) rfl (ndC_one _) ?_
     intro Zd hb hx hs hk9
     have ho := Only.of_eq (S := (· = g7)) hx hs hk9 rfl
     have Zr := Lib.hid hb
     have Zs := Lib.hid (Agg.Blk.keepO Zx.out ho (fun e => HGG.out e.symm))
     have Zt := Lib.hid (LenT.only ho _ _ _ Zz.out (fun j hj e => H71.out j hj e))
     have Zv := Lib.hid (LenT.only ho _ _ _ Z1.out (fun j hj e => H72.out j hj e))
     have Ze := Lib.hid (Agg.Blk.keepO Zo.out ho (fun e => HM7.out.2.1 e))
     have Zf := Lib.hid (Agg.Blk.keepO Zn.out ho (fun e => HM7.out.2.2 e))
     have Zb := Lib.hid (Z2.out.trans (hx.mono HM7.out.1))
     have Z8 := Lib.hid (XA_3.out.below Zb.out)
     have Z9 := Lib.hid (XM_3.out.below Zb.out)
     have Zu : Blk Zd g3 26 (ndC xa) ∧ Blk Zd g4 26 (ndC xm) := ⟨Ze.out, Zf.out⟩
     clear hb hx hs hk9 ho
     refine ⟨Zu, ?_⟩
     try simp only [Act.put, List.setIfInBounds_toArray, List.set_cons_succ, List.set_cons_zero]
     refine held_one 7 rfl (by kernel_rfl) ?_
     refine step_put rfl rfl 26 _ _ rfl g8 (ndC yb) (ndC ndZ) rfl rfl Zs.out (nd_info _) rfl (ndC_one _) ?_
     intro Zc hb hx hs hk9
     have ho := Only.of_eq (S := (· = g8)) hx hs hk9 rfl
     have Zj := Lib.hid hb
     have Zk := Lib.hid (Agg.Blk.keepO Zr.out ho (fun e => HGG.out e))
     have Zi := Lib.hid (LenT.only ho _ _ _ Zt.out (fun j hj e => H81.out j hj e))
     have Zm := Lib.hid (LenT.only ho _ _ _ Zv.out (fun j hj e => H82.out j hj e))
     have Zp := Lib.hid (Agg.Blk.keepO Ze.out ho (fun e => HM8.out.2.1 e))
     have Zq := Lib.hid (Agg.Blk.keepO Zf.out ho (fun e => HM8.out.2.2 e))
     have Za := Lib.hid (Zb.out.trans (hx.mono HM8.out.1))
     have Z4 := Lib.hid (XA_3.out.below Za.out)
     have Z3 := Lib.hid (XM_3.out.below Za.out)
     have Zh : Blk Zc g3 26 (ndC xa) ∧ Blk Zc g4 26 (ndC xm) := ⟨Zp.out, Zq.out⟩
     clear hb hx hs hk9 ho
     refine ⟨Zh, ?_⟩
     try simp only [Act.put, List.setIfInBounds_toArray, List.set_cons_succ, List.set_cons_zero]
     refine held_end (by kernel_rfl) ?_
     simp only [ExPut, Act.put, List.setIfInBounds_toArray, List.set_cons_succ, List.set_cons_zero]
     exact ⟨g7, g8, ya, yb, _, _, cs, ds, Zk.out, Zj.out, Zi.out, Zm.out, Za.out, _, _, _, _, rfl⟩
    exact AllReadyH.nil
   refine held_cons rfl ?_ ?_
   ·refine step_zero rfl 26 rfl (ndC ndZ) nd_zero ?_
    intro g7 Zcm hb hx hg
    have Zck := Lib.hid hb
    have HGG := Lib.hid (show g7 ≠ g8 from fun e => by have h1 := N8_5.out.lt; omega)
    have Zch := Lib.hid (N8_5.out.below hx)
    have HM7 := Lib.hid (show w3.heap.size ≤ g7 ∧ g3 ≠ g7 ∧ g4 ≠ g7 from ⟨Nat.le_trans Z_5.out.size hg, fun e => (by have := B_5.out.lt; omega), fun e => (by have := C_5.out.lt; omega)⟩)
    have Zcs := Lib.hid (B_5.out.below hx)
    have Zco := Lib.hid (C_5.out.below hx)
    have Zcp := Lib.hid (P_5.out.below hx)
    have Zc1 := Lib.hid (Q_5.out.below hx)
    have Zc2 := Lib.hid (belowThen Z_5.out (Nat.le_refl _) hx)
    have Zcy : Blk Zcm g3 26 (ndC xa) ∧ Blk Zcm g4 26 (ndC xm) := ⟨Zcs.out, Zco.out⟩
    clear hb hx hg
    refine ⟨Zcy, ?_⟩
    try simp only [Act.put, List.setIfInBounds_toArray, List.set_cons_succ, List.set_cons_zero]
    refine held_one 1 rfl (by kernel_rfl) ?_
    refine step_call rfl 9 _ _ rfl #[.agg (ndC xa)] (by simp only [List.map_toArray, List.map_cons, List.map_nil]; rfl) (fun W => HEL.out _ W) ?_
    refine (lentNode_any t hmt _ _ Zcp.out).mono ?_
    rintro e Z7 ⟨ya, cs, rfl, hle, hx⟩
    have Zbg := Lib.hid hle
    have R1 := Lib.hid (LenT.range _ _ _ hle)
    have H71 := Lib.hid (show ∀ j ∈ cs, j ≠ g7 from fun j hj e => by have h1 := (R1.out j hj).1; have h2 := Zck.out.lt; omega)
    have Z5 := Lib.hid (Zck.out.below hx)
    have H81 := Lib.hid (show ∀ j ∈ cs, j ≠ g8 from fun j hj e => by have h1 := (R1.out j hj).1; have h2 := Zch.out.lt; omega)
    have Z6 := Lib.hid (Zch.out.below hx)
    have Zbb := Lib.hid (Zcs.out.below hx)
    have Zba := Lib.hid (Zco.out.below hx)
    have Zbj := Lib.hid (Zcp.out.below hx)
    have Zbc := Lib.hid (Zc1.out.below hx)
    have Zbm := Lib.hid (belowThen Zc2.out (Nat.le_refl _) hx)
    have Zbf : Blk Z7 g3 26 (ndC xa) ∧ Blk Z7 g4 26 (ndC xm) := ⟨Zbb.out, Zba.out⟩
    clear hx hle
    refine ⟨_, rfl, ?_⟩
    refine ⟨Zbf, ?_⟩
    try simp only [Act.put, List.setIfInBounds_toArray, List.set_cons_succ, List.set_cons_zero]
    refine held_one 3 rfl (by kernel_rfl) ?_
    refine step_call rfl 9 _ _ rfl #[.agg (ndC xm)] (by simp only [List.map_toArray, List.map_cons, List.map_nil]; rfl) (fun W => HEL.out _ W) ?_
    refine (lentNode_any u hmu _ _ Zbc.out).mono ?_
    rintro e Zg ⟨yb, ds, rfl, hle, hx⟩
    have Z1 := Lib.hid hle
    have R2 := Lib.hid (LenT.range _ _ _ hle)
    have Zz := Lib.hid (LenT.below hx Zbg.out)
    have H72 := Lib.hid (show ∀ j ∈ ds, j ≠ g7 from fun j hj e => by have h1 := (R2.out j hj).1; have h2 := Z5.out.lt; omega)
    have Zy := Lib.hid (Z5.out.below hx)
    have H82 := Lib.hid (show ∀ j ∈ ds, j ≠ g8 from fun j hj e => by have h1 := (R2.out j hj).1; have h2 := Z6.out.lt; omega)
    have Zx := Lib.hid (Z6.out.below hx)
    have Zo := Lib.hid (Zbb.out.below hx)
    have Zn := Lib.hid (Zba.out.below hx)
    have Zbe := Lib.hid (Zbj.out.below hx)
    have Zbd := Lib.hid (Zbc.out.below hx)
    have Z2 := Lib.hid (belowThen Zbm.out (Nat.le_refl _) hx)
    have Z0 : Blk Zg g3 26 (ndC xa) ∧ Blk Zg g4 26 (ndC xm) := ⟨Zo.out, Zn.out⟩
    clear hx hle
    refine ⟨_, rfl, ?_⟩
    refine ⟨Z0, ?_⟩
    try simp only [Act.put, List.setIfInBounds_toArray, List.set_cons_succ, List.set_cons_zero]
    refine held_one 6 rfl (by kernel_rfl) ?_
    refine step_put rfl rfl 26 _ _ rfl g7 (ndC ya) (ndC ndZ) rfl rfl Zy.out (nd_info _) rfl (ndC_one _) ?_
    intro Zd hb hx hs hk9
    have ho := Only.of_eq (S := (· = g7)) hx hs hk9 rfl
    have Zr := Lib.hid hb
    have Zs := Lib.hid (Agg.Blk.keepO Zx.out ho (fun e => HGG.out e.symm))
    have Zt := Lib.hid (LenT.only ho _ _ _ Zz.out (fun j hj e => H71.out j hj e))
    have Zv := Lib.hid (LenT.only ho _ _ _ Z1.out (fun j hj e => H72.out j hj e))
    have Ze := Lib.hid (Agg.Blk.keepO Zo.out ho (fun e => HM7.out.2.1 e))
    have Zf := Lib.hid (Agg.Blk.keepO Zn.out ho (fun e => HM7.out.2.2 e))
    have Zb := Lib.hid (Z2.out.trans (hx.mono HM7.out.1))
    have Z8 := Lib.hid (XA_3.out.below Zb.out)
    have Z9 := Lib.hid (XM_3.out.below Zb.out)
    have Zu : Blk Zd g3 26 (ndC xa) ∧ Blk Zd g4 26 (ndC xm) := ⟨Ze.out, Zf.out⟩
    clear hb hx hs hk9 ho
    refine ⟨Zu, ?_⟩
    try simp only [Act.put, List.setIfInBounds_toArray, List.set_cons_succ, List.set_cons_zero]
    refine held_one 7 rfl (by kernel_rfl) ?_
    refine step_put rfl rfl 26 _ _ rfl g8 (ndC yb) (ndC ndZ) rfl rfl Zs.out (nd_info _) rfl (ndC_one _) ?_
    intro Zc hb hx hs hk9
    have ho := Only.of_eq (S := (· = g8)) hx hs hk9 rfl
    have Zj := Lib.hid hb
    have Zk := Lib.hid (Agg.Blk.keepO Zr.out ho (fun e => HGG.out e))
    have Zi := Lib.hid (LenT.only ho _ _ _ Zt.out (fun j hj e => H81.out j hj e))
    have Zm := Lib.hid (LenT.only ho _ _ _ Zv.out (fun j hj e => H82.out j hj e))
    have Zp := Lib.hid (Agg.Blk.keepO Ze.out ho (fun e => HM8.out.2.1 e))
    have Zq := Lib.hid (Agg.Blk.keepO Zf.out ho (fun e => HM8.out.2.2 e))
    have Za := Lib.hid (Zb.out.trans (hx.mono HM8.out.1))
    have Z4 := Lib.hid (XA_3.out.below Za.out)
    have Z3 := Lib.hid (XM_3.out.below Za.out)
    have Zh : Blk Zc g3 26 (ndC xa) ∧ Blk Zc g4 26 (ndC xm) := ⟨Zp.out, Zq.out⟩
    clear hb hx hs hk9 ho
    refine ⟨Zh, ?_⟩
    try simp only [Act.put, List.setIfInBounds_toArray, List.set_cons_succ, List.set_cons_zero]
    refine held_end (by kernel_rfl) ?_
    simp only [ExPut, Act.put, List.setIfInBounds_toArray, List.set_cons_succ, List.set_cons_zero]
    exact ⟨g7, g8, ya, yb, _, _, cs, ds, Zk.out, Zj.out, Zi.out, Zm.out, Za.out, _, _, _, _, rfl⟩
   exact AllReadyH.nil
  exact AllReadyH.nil
 ·rintro a' w4 ⟨g7, g8, ya, yb, b1, b2, cs, ds, h1, h2, h3, h4, hx, hex⟩
  simp only [ExPut, Act.put, List.setIfInBounds_toArray, List.set_cons_succ, List.set_cons_zero] at hex
  obtain ⟨y34, y35, y36, y37, rfl⟩ := hex
  have XA_4 := Lib.hid (XA_3.out.below hx)
  have XM_4 := Lib.hid (XM_3.out.below hx)
  have X_4 := Lib.hid (belowThen X_3.out (Nat.le_refl _) hx)
  have GA_4 := Lib.hid (GA_3.out.below hx)
  have GM_4 := Lib.hid (GM_3.out.below hx)
  have G7_4 := Lib.hid h1
  have G8_4 := Lib.hid h2
  have YA_4 := Lib.hid (show NodeAt w4 (.agg (ndC ya)) t from ⟨ya, rfl, LenT.reads _ _ _ h3⟩)
  have YB_4 := Lib.hid (show NodeAt w4 (.agg (ndC yb)) u from ⟨yb, rfl, LenT.reads _ _ _ h4⟩)
  have HL1 := Lib.hid h3
  have HL2 := Lib.hid h4
  have HLOW := Lib.hid (show (g3 < w4.heap.size ∧ g4 < w4.heap.size ∧ g7 < w4.heap.size ∧ g8 < w4.heap.size) ∧ (∀ j ∈ cs, j < w4.heap.size) ∧ (∀ j ∈ ds, j < w4.heap.size) from ⟨⟨GA_4.out.lt, GM_4.out.lt, h1.lt, h2.lt⟩, fun j hj => (LenT.range _ _ _ h3 j hj).2, fun j hj => (LenT.range _ _ _ h4 j hj).2⟩)
  clear h1 h2 h3 h4 hx XA_3 XM_3 X_3 GA_3 GM_3
  have V_4 := Lib.hid (Below.refl w4.heap.size w4)
  obtain ⟨E1, hE1⟩ : ∃ e, fdE t s = e := ⟨_, rfl⟩
  obtain ⟨E2, hE2⟩ : ∃ e, ptE t s u = e := ⟨_, rfl⟩
  obtain ⟨E3, hE3⟩ : ∃ e, tkE t s = e := ⟨_, rfl⟩
  have HE := Lib.hid (And.intro hE1 (And.intro hE2 hE3))
  clear hE1 hE2 hE3
  have hmF := fd_msz t s
  have hmP := pt_msz t s u
  have hmT := tk_msz t s
  obtain ⟨TF, hTF⟩ : ∃ x, fdT t s = x := ⟨_, rfl⟩
  obtain ⟨TP, hTP⟩ : ∃ x, ptT t s u = x := ⟨_, rfl⟩
  obtain ⟨TT, hTT⟩ : ∃ x, tkT t s = x := ⟨_, rfl⟩
  rw [hTF] at hmF
  rw [hTP] at hmP
  rw [hTT] at hmT
  have HT := Lib.hid (And.intro hTF (And.intro hTP hTT))
  clear hTF hTP hTT
  go_wp2_with (first | (with_reducible refine wpList_loadL (NdL.of_blk G7_4.out).all rfl _ rfl rfl ?_))
  have HZ0 := Lib.hid X_4.out.size
  refine ((by have h := tfind_any t s hs _ _ YA_4.out; rw [HE.out.1, HT.out.1] at h; exact h : Calls Tryd.prog 10 #[.agg (ndC ya), .string ⟨s.toArray⟩] w4 fun e w' => ∃ x', e = .returned (.tuple #[.agg (ndC x'), .int .i64 (E1 : Int)]) ∧ OwnN w4.heap.size w' x' TF ∧ Below w4.heap.size w4 w')).mono ?_
  rintro e w5 ⟨x9, rfl, hon, hx⟩
  have XA_5 := Lib.hid (XA_4.out.below hx)
  have XM_5 := Lib.hid (XM_4.out.below hx)
  have X_5 := Lib.hid (belowThen X_4.out (Nat.le_refl _) hx)
  have GA_5 := Lib.hid (GA_4.out.below hx)
  have GM_5 := Lib.hid (GM_4.out.below hx)
  have G7_5 := Lib.hid (G7_4.out.below hx)
  have G8_5 := Lib.hid (G8_4.out.below hx)
  have YA_5 := Lib.hid (YA_4.out.below hx)
  have YB_5 := Lib.hid (YB_4.out.below hx)
  have V_5 := Lib.hid (belowThen V_4.out (Nat.le_refl _) hx)
  have NF_5 := Lib.hid (show NodeAt _ (.agg (ndC x9)) TF from ⟨x9, rfl, hon.reads⟩)
  have ZF_5 := Lib.hid (hx.size)
  clear hx  XA_4 XM_4 X_4 GA_4 GM_4 G7_4 G8_4 YA_4 YB_4 V_4
  obtain ⟨bsF, hot, hbn⟩ := hon
  have OF_5 := Lib.hid hot
  have HRF := Lib.hid (And.intro (OwnT.range _ _ _ hot) hbn)
  clear hot hbn
  go_wp2_with (first | (refine wpList_new rfl rfl rfl 26 9 42 rfl rfl rfl (by decide) (ndC ndZ) (ndC x9) nd_zero (rfl) (nd_info _) (ndC_one _) rfl (by first | (simp; done) | simp [Act.put]) ?_; intro g9 w6 hb hx hg; have XA_6 := Lib.hid (XA_5.out.below hx); have XM_6 := Lib.hid (XM_5.out.below hx); have X_6 := Lib.hid (belowThen X_5.out (Nat.le_refl _) hx); have GA_6 := Lib.hid (GA_5.out.below hx); have GM_6 := Lib.hid (GM_5.out.below hx); have G7_6 := Lib.hid (G7_5.out.below hx); have G8_6 := Lib.hid (G8_5.out.below hx); have YA_6 := Lib.hid (YA_5.out.below hx); have YB_6 := Lib.hid (YB_5.out.below hx); have V_6 := Lib.hid (belowThen V_5.out (Nat.le_refl _) hx); have NF_6 := Lib.hid (NF_5.out.below hx); have OF_6 := Lib.hid (OwnT.below hx OF_5.out); have GF_6 := Lib.hid (hb); have CF_6 := Lib.hid (Below.refl w6.heap.size w6); have HGF := Lib.hid (show w5.heap.size ≤ g9 ∧ g9 < w6.heap.size from ⟨hg, hb.lt⟩); clear hb hx hg XA_5 XM_5 X_5 GA_5 GM_5 G7_5 G8_5 YA_5 YB_5 V_5 NF_5 OF_5) | (with_reducible refine wpList_loadL (NdL.of_blk GA_6.out).all rfl _ rfl rfl ?_))
  refine ((by have h := rfind_any t hmt s hs _ _ XA_6.out; rw [HE.out.1, HT.out.1] at h; exact h : Calls Tryd.prog 11 #[.agg (ndC xa), .string ⟨s.toArray⟩] w6 fun e w' => ∃ x', e = .returned (.tuple #[.agg (ndC x'), .int .i64 (E1 : Int)]) ∧ OwnN w6.heap.size w' x' TF ∧ Below w6.heap.size w6 w')).mono ?_
  rintro e w7 ⟨x11, rfl, hon, hx⟩
  have XA_7 := Lib.hid (XA_6.out.below hx)
  have XM_7 := Lib.hid (XM_6.out.below hx)
  have X_7 := Lib.hid (belowThen X_6.out (Nat.le_refl _) hx)
  have GA_7 := Lib.hid (GA_6.out.below hx)
  have GM_7 := Lib.hid (GM_6.out.below hx)
  have G7_7 := Lib.hid (G7_6.out.below hx)
  have G8_7 := Lib.hid (G8_6.out.below hx)
  have YA_7 := Lib.hid (YA_6.out.below hx)
  have YB_7 := Lib.hid (YB_6.out.below hx)
  have V_7 := Lib.hid (belowThen V_6.out (Nat.le_refl _) hx)
  have NF_7 := Lib.hid (NF_6.out.below hx)
  have OF_7 := Lib.hid (OwnT.below hx OF_6.out)
  have GF_7 := Lib.hid (GF_6.out.below hx)
  have CF_7 := Lib.hid (belowThen CF_6.out (Nat.le_refl _) hx)
  have NF2_7 := Lib.hid (show NodeAt _ (.agg (ndC x11)) TF from ⟨x11, rfl, hon.reads⟩)
  clear hx hon XA_6 XM_6 X_6 GA_6 GM_6 G7_6 G8_6 YA_6 YB_6 V_6 NF_6 OF_6 GF_6 CF_6
  go_wp2_with (first | (refine wpList_new rfl rfl rfl 26 11 48 rfl rfl rfl (by decide) (ndC ndZ) (ndC x11) nd_zero (rfl) (nd_info _) (ndC_one _) rfl (by first | (simp; done) | simp [Act.put]) ?_; intro g11 w8 hb hx hg; have XA_8 := Lib.hid (XA_7.out.below hx); have XM_8 := Lib.hid (XM_7.out.below hx); have X_8 := Lib.hid (belowThen X_7.out (Nat.le_refl _) hx); have GA_8 := Lib.hid (GA_7.out.below hx); have GM_8 := Lib.hid (GM_7.out.below hx); have G7_8 := Lib.hid (G7_7.out.below hx); have G8_8 := Lib.hid (G8_7.out.below hx); have YA_8 := Lib.hid (YA_7.out.below hx); have YB_8 := Lib.hid (YB_7.out.below hx); have V_8 := Lib.hid (belowThen V_7.out (Nat.le_refl _) hx); have NF_8 := Lib.hid (NF_7.out.below hx); have OF_8 := Lib.hid (OwnT.below hx OF_7.out); have GF_8 := Lib.hid (GF_7.out.below hx); have CF_8 := Lib.hid (belowThen CF_7.out (Nat.le_refl _) hx); have NF2_8 := Lib.hid (NF2_7.out.below hx); have GF2_8 := Lib.hid (hb); clear hb hx hg XA_7 XM_7 X_7 GA_7 GM_7 G7_7 G8_7 YA_7 YB_7 V_7 NF_7 OF_7 GF_7 CF_7 NF2_7) | (with_reducible refine wpList_loadL (NdL.of_blk G7_8.out).all rfl _ rfl rfl ?_) | (with_reducible refine wpList_loadL (NdL.of_blk G8_8.out).all rfl _ rfl rfl ?_))
  have HZF2 := Lib.hid CF_8.out.size
  clear CF_8
  refine ((by have h := tput_any t u s hs _ _ _ YA_8.out YB_8.out; rw [HE.out.2.1, HT.out.2.1] at h; exact h : Calls Tryd.prog 12 #[.agg (ndC ya), .string ⟨s.toArray⟩, .agg (ndC yb)] w8 fun e w' => ∃ x', e = .returned (.tuple #[.agg (ndC x'), .int .i64 (E2 : Int)]) ∧ OwnN w8.heap.size w' x' TP ∧ Below w8.heap.size w8 w')).mono ?_
  rintro e w9 ⟨x13, rfl, hon, hx⟩
  have XA_9 := Lib.hid (XA_8.out.below hx)
  have XM_9 := Lib.hid (XM_8.out.below hx)
  have X_9 := Lib.hid (belowThen X_8.out (Nat.le_refl _) hx)
  have GA_9 := Lib.hid (GA_8.out.below hx)
  have GM_9 := Lib.hid (GM_8.out.below hx)
  have G7_9 := Lib.hid (G7_8.out.below hx)
  have G8_9 := Lib.hid (G8_8.out.below hx)
  have YA_9 := Lib.hid (YA_8.out.below hx)
  have YB_9 := Lib.hid (YB_8.out.below hx)
  have V_9 := Lib.hid (belowThen V_8.out (Nat.le_refl _) hx)
  have NF_9 := Lib.hid (NF_8.out.below hx)
  have OF_9 := Lib.hid (OwnT.below hx OF_8.out)
  have GF_9 := Lib.hid (GF_8.out.below hx)
  have NF2_9 := Lib.hid (NF2_8.out.below hx)
  have GF2_9 := Lib.hid (GF2_8.out.below hx)
  have NP_9 := Lib.hid (show NodeAt _ (.agg (ndC x13)) TP from ⟨x13, rfl, hon.reads⟩)
  have ZP_9 := Lib.hid (hx.size)
  clear hx  XA_8 XM_8 X_8 GA_8 GM_8 G7_8 G8_8 YA_8 YB_8 V_8 NF_8 OF_8 GF_8 NF2_8 GF2_8
  obtain ⟨bsP, hot, hbn⟩ := hon
  have OP_9 := Lib.hid hot
  have HRP := Lib.hid (And.intro (OwnT.range _ _ _ hot) hbn)
  clear hot hbn
  go_wp2_with (first | (refine wpList_new rfl rfl rfl 26 13 55 rfl rfl rfl (by decide) (ndC ndZ) (ndC x13) nd_zero (rfl) (nd_info _) (ndC_one _) rfl (by first | (simp; done) | simp [Act.put]) ?_; intro g13 w10 hb hx hg; have XA_10 := Lib.hid (XA_9.out.below hx); have XM_10 := Lib.hid (XM_9.out.below hx); have X_10 := Lib.hid (belowThen X_9.out (Nat.le_refl _) hx); have GA_10 := Lib.hid (GA_9.out.below hx); have GM_10 := Lib.hid (GM_9.out.below hx); have G7_10 := Lib.hid (G7_9.out.below hx); have G8_10 := Lib.hid (G8_9.out.below hx); have YA_10 := Lib.hid (YA_9.out.below hx); have YB_10 := Lib.hid (YB_9.out.below hx); have V_10 := Lib.hid (belowThen V_9.out (Nat.le_refl _) hx); have NF_10 := Lib.hid (NF_9.out.below hx); have OF_10 := Lib.hid (OwnT.below hx OF_9.out); have GF_10 := Lib.hid (GF_9.out.below hx); have NF2_10 := Lib.hid (NF2_9.out.below hx); have GF2_10 := Lib.hid (GF2_9.out.below hx); have NP_10 := Lib.hid (NP_9.out.below hx); have OP_10 := Lib.hid (OwnT.below hx OP_9.out); have GP_10 := Lib.hid (hb); have CP_10 := Lib.hid (Below.refl w10.heap.size w10); have HGP := Lib.hid (show w9.heap.size ≤ g13 ∧ g13 < w10.heap.size from ⟨hg, hb.lt⟩); clear hb hx hg XA_9 XM_9 X_9 GA_9 GM_9 G7_9 G8_9 YA_9 YB_9 V_9 NF_9 OF_9 GF_9 NF2_9 GF2_9 NP_9 OP_9) | (with_reducible refine wpList_loadL (NdL.of_blk GA_10.out).all rfl _ rfl rfl ?_) | (with_reducible refine wpList_loadL (NdL.of_blk GM_10.out).all rfl _ rfl rfl ?_))
  refine ((by have h := rput08_any t u hmt hmu s hs _ _ _ XA_10.out XM_10.out; rw [HE.out.2.1, HT.out.2.1] at h; exact h : Calls Tryd.prog 13 #[.agg (ndC xa), .string ⟨s.toArray⟩, .agg (ndC xm)] w10 fun e w' => ∃ x', e = .returned (.tuple #[.agg (ndC x'), .int .i64 (E2 : Int)]) ∧ OwnN w10.heap.size w' x' TP ∧ Below w10.heap.size w10 w')).mono ?_
  rintro e w11 ⟨x15, rfl, hon, hx⟩
  have XA_11 := Lib.hid (XA_10.out.below hx)
  have XM_11 := Lib.hid (XM_10.out.below hx)
  have X_11 := Lib.hid (belowThen X_10.out (Nat.le_refl _) hx)
  have GA_11 := Lib.hid (GA_10.out.below hx)
  have GM_11 := Lib.hid (GM_10.out.below hx)
  have G7_11 := Lib.hid (G7_10.out.below hx)
  have G8_11 := Lib.hid (G8_10.out.below hx)
  have YA_11 := Lib.hid (YA_10.out.below hx)
  have YB_11 := Lib.hid (YB_10.out.below hx)
  have V_11 := Lib.hid (belowThen V_10.out (Nat.le_refl _) hx)
  have NF_11 := Lib.hid (NF_10.out.below hx)
  have OF_11 := Lib.hid (OwnT.below hx OF_10.out)
  have GF_11 := Lib.hid (GF_10.out.below hx)
  have NF2_11 := Lib.hid (NF2_10.out.below hx)
  have GF2_11 := Lib.hid (GF2_10.out.below hx)
  have NP_11 := Lib.hid (NP_10.out.below hx)
  have OP_11 := Lib.hid (OwnT.below hx OP_10.out)
  have GP_11 := Lib.hid (GP_10.out.below hx)
  have CP_11 := Lib.hid (belowThen CP_10.out (Nat.le_refl _) hx)
  have NP2_11 := Lib.hid (show NodeAt _ (.agg (ndC x15)) TP from ⟨x15, rfl, hon.reads⟩)
  clear hx hon XA_10 XM_10 X_10 GA_10 GM_10 G7_10 G8_10 YA_10 YB_10 V_10 NF_10 OF_10 GF_10 NF2_10 GF2_10 NP_10 OP_10 GP_10 CP_10
  go_wp2_with (first | (refine wpList_new rfl rfl rfl 26 15 62 rfl rfl rfl (by decide) (ndC ndZ) (ndC x15) nd_zero (rfl) (nd_info _) (ndC_one _) rfl (by first | (simp; done) | simp [Act.put]) ?_; intro g15 w12 hb hx hg; have XA_12 := Lib.hid (XA_11.out.below hx); have XM_12 := Lib.hid (XM_11.out.below hx); have X_12 := Lib.hid (belowThen X_11.out (Nat.le_refl _) hx); have GA_12 := Lib.hid (GA_11.out.below hx); have GM_12 := Lib.hid (GM_11.out.below hx); have G7_12 := Lib.hid (G7_11.out.below hx); have G8_12 := Lib.hid (G8_11.out.below hx); have YA_12 := Lib.hid (YA_11.out.below hx); have YB_12 := Lib.hid (YB_11.out.below hx); have V_12 := Lib.hid (belowThen V_11.out (Nat.le_refl _) hx); have NF_12 := Lib.hid (NF_11.out.below hx); have OF_12 := Lib.hid (OwnT.below hx OF_11.out); have GF_12 := Lib.hid (GF_11.out.below hx); have NF2_12 := Lib.hid (NF2_11.out.below hx); have GF2_12 := Lib.hid (GF2_11.out.below hx); have NP_12 := Lib.hid (NP_11.out.below hx); have OP_12 := Lib.hid (OwnT.below hx OP_11.out); have GP_12 := Lib.hid (GP_11.out.below hx); have CP_12 := Lib.hid (belowThen CP_11.out (Nat.le_refl _) hx); have NP2_12 := Lib.hid (NP2_11.out.below hx); have GP2_12 := Lib.hid (hb); clear hb hx hg XA_11 XM_11 X_11 GA_11 GM_11 G7_11 G8_11 YA_11 YB_11 V_11 NF_11 OF_11 GF_11 NF2_11 GF2_11 NP_11 OP_11 GP_11 CP_11 NP2_11) | (with_reducible refine wpList_loadL (NdL.of_blk G7_12.out).all rfl _ rfl rfl ?_))
  have HZP2 := Lib.hid CP_12.out.size
  clear CP_12
  refine ((by have h := take_any t s hs _ _ YA_12.out; rw [HE.out.2.2, HT.out.2.2] at h; exact h : Calls Tryd.prog 14 #[.agg (ndC ya), .string ⟨s.toArray⟩] w12 fun e w' => ∃ x', e = .returned (.tuple #[.agg (ndC x'), .int .i64 (E3 : Int)]) ∧ OwnN w12.heap.size w' x' TT ∧ Below w12.heap.size w12 w')).mono ?_
  rintro e w13 ⟨x17, rfl, hon, hx⟩
  have XA_13 := Lib.hid (XA_12.out.below hx)
  have XM_13 := Lib.hid (XM_12.out.below hx)
  have X_13 := Lib.hid (belowThen X_12.out (Nat.le_refl _) hx)
  have GA_13 := Lib.hid (GA_12.out.below hx)
  have GM_13 := Lib.hid (GM_12.out.below hx)
  have G7_13 := Lib.hid (G7_12.out.below hx)
  have G8_13 := Lib.hid (G8_12.out.below hx)
  have YA_13 := Lib.hid (YA_12.out.below hx)
  have YB_13 := Lib.hid (YB_12.out.below hx)
  have V_13 := Lib.hid (belowThen V_12.out (Nat.le_refl _) hx)
  have NF_13 := Lib.hid (NF_12.out.below hx)
  have OF_13 := Lib.hid (OwnT.below hx OF_12.out)
  have GF_13 := Lib.hid (GF_12.out.below hx)
  have NF2_13 := Lib.hid (NF2_12.out.below hx)
  have GF2_13 := Lib.hid (GF2_12.out.below hx)
  have NP_13 := Lib.hid (NP_12.out.below hx)
  have OP_13 := Lib.hid (OwnT.below hx OP_12.out)
  have GP_13 := Lib.hid (GP_12.out.below hx)
  have NP2_13 := Lib.hid (NP2_12.out.below hx)
  have GP2_13 := Lib.hid (GP2_12.out.below hx)
  have NT_13 := Lib.hid (show NodeAt _ (.agg (ndC x17)) TT from ⟨x17, rfl, hon.reads⟩)
  have ZT_13 := Lib.hid (hx.size)
  clear hx  XA_12 XM_12 X_12 GA_12 GM_12 G7_12 G8_12 YA_12 YB_12 V_12 NF_12 OF_12 GF_12 NF2_12 GF2_12 NP_12 OP_12 GP_12 NP2_12 GP2_12
  obtain ⟨bsT, hot, hbn⟩ := hon
  have OT_13 := Lib.hid hot
  have HRT := Lib.hid (And.intro (OwnT.range _ _ _ hot) hbn)
  clear hot hbn
  go_wp2_with (first | (refine wpList_new rfl rfl rfl 26 17 68 rfl rfl rfl (by decide) (ndC ndZ) (ndC x17) nd_zero (rfl) (nd_info _) (ndC_one _) rfl (by first | (simp; done) | simp [Act.put]) ?_; intro g17 w14 hb hx hg; have XA_14 := Lib.hid (XA_13.out.below hx); have XM_14 := Lib.hid (XM_13.out.below hx); have X_14 := Lib.hid (belowThen X_13.out (Nat.le_refl _) hx); have GA_14 := Lib.hid (GA_13.out.below hx); have GM_14 := Lib.hid (GM_13.out.below hx); have G7_14 := Lib.hid (G7_13.out.below hx); have G8_14 := Lib.hid (G8_13.out.below hx); have YA_14 := Lib.hid (YA_13.out.below hx); have YB_14 := Lib.hid (YB_13.out.below hx); have V_14 := Lib.hid (belowThen V_13.out (Nat.le_refl _) hx); have NF_14 := Lib.hid (NF_13.out.below hx); have OF_14 := Lib.hid (OwnT.below hx OF_13.out); have GF_14 := Lib.hid (GF_13.out.below hx); have NF2_14 := Lib.hid (NF2_13.out.below hx); have GF2_14 := Lib.hid (GF2_13.out.below hx); have NP_14 := Lib.hid (NP_13.out.below hx); have OP_14 := Lib.hid (OwnT.below hx OP_13.out); have GP_14 := Lib.hid (GP_13.out.below hx); have NP2_14 := Lib.hid (NP2_13.out.below hx); have GP2_14 := Lib.hid (GP2_13.out.below hx); have NT_14 := Lib.hid (NT_13.out.below hx); have OT_14 := Lib.hid (OwnT.below hx OT_13.out); have GT_14 := Lib.hid (hb); have CT_14 := Lib.hid (Below.refl w14.heap.size w14); have HGT := Lib.hid (show w13.heap.size ≤ g17 ∧ g17 < w14.heap.size from ⟨hg, hb.lt⟩); clear hb hx hg XA_13 XM_13 X_13 GA_13 GM_13 G7_13 G8_13 YA_13 YB_13 V_13 NF_13 OF_13 GF_13 NF2_13 GF2_13 NP_13 OP_13 GP_13 NP2_13 GP2_13 NT_13 OT_13) | (with_reducible refine wpList_loadL (NdL.of_blk GA_14.out).all rfl _ rfl rfl ?_))
  refine ((by have h := rtake08_any t hmt s hs _ _ XA_14.out; rw [HE.out.2.2, HT.out.2.2] at h; exact h : Calls Tryd.prog 15 #[.agg (ndC xa), .string ⟨s.toArray⟩] w14 fun e w' => ∃ x', e = .returned (.tuple #[.agg (ndC x'), .int .i64 (E3 : Int)]) ∧ OwnN w14.heap.size w' x' TT ∧ Below w14.heap.size w14 w')).mono ?_
  rintro e w15 ⟨x19, rfl, hon, hx⟩
  have XA_15 := Lib.hid (XA_14.out.below hx)
  have XM_15 := Lib.hid (XM_14.out.below hx)
  have X_15 := Lib.hid (belowThen X_14.out (Nat.le_refl _) hx)
  have GA_15 := Lib.hid (GA_14.out.below hx)
  have GM_15 := Lib.hid (GM_14.out.below hx)
  have G7_15 := Lib.hid (G7_14.out.below hx)
  have G8_15 := Lib.hid (G8_14.out.below hx)
  have YA_15 := Lib.hid (YA_14.out.below hx)
  have YB_15 := Lib.hid (YB_14.out.below hx)
  have V_15 := Lib.hid (belowThen V_14.out (Nat.le_refl _) hx)
  have NF_15 := Lib.hid (NF_14.out.below hx)
  have OF_15 := Lib.hid (OwnT.below hx OF_14.out)
  have GF_15 := Lib.hid (GF_14.out.below hx)
  have NF2_15 := Lib.hid (NF2_14.out.below hx)
  have GF2_15 := Lib.hid (GF2_14.out.below hx)
  have NP_15 := Lib.hid (NP_14.out.below hx)
  have OP_15 := Lib.hid (OwnT.below hx OP_14.out)
  have GP_15 := Lib.hid (GP_14.out.below hx)
  have NP2_15 := Lib.hid (NP2_14.out.below hx)
  have GP2_15 := Lib.hid (GP2_14.out.below hx)
  have NT_15 := Lib.hid (NT_14.out.below hx)
  have OT_15 := Lib.hid (OwnT.below hx OT_14.out)
  have GT_15 := Lib.hid (GT_14.out.below hx)
  have CT_15 := Lib.hid (belowThen CT_14.out (Nat.le_refl _) hx)
  have NT2_15 := Lib.hid (show NodeAt _ (.agg (ndC x19)) TT from ⟨x19, rfl, hon.reads⟩)
  clear hx hon XA_14 XM_14 X_14 GA_14 GM_14 G7_14 G8_14 YA_14 YB_14 V_14 NF_14 OF_14 GF_14 NF2_14 GF2_14 NP_14 OP_14 GP_14 NP2_14 GP2_14 NT_14 OT_14 GT_14 CT_14
  go_wp2_with (first | (refine wpList_new rfl rfl rfl 26 19 74 rfl rfl rfl (by decide) (ndC ndZ) (ndC x19) nd_zero (rfl) (nd_info _) (ndC_one _) rfl (by first | (simp; done) | simp [Act.put]) ?_; intro g19 w16 hb hx hg; have XA_16 := Lib.hid (XA_15.out.below hx); have XM_16 := Lib.hid (XM_15.out.below hx); have X_16 := Lib.hid (belowThen X_15.out (Nat.le_refl _) hx); have GA_16 := Lib.hid (GA_15.out.below hx); have GM_16 := Lib.hid (GM_15.out.below hx); have G7_16 := Lib.hid (G7_15.out.below hx); have G8_16 := Lib.hid (G8_15.out.below hx); have YA_16 := Lib.hid (YA_15.out.below hx); have YB_16 := Lib.hid (YB_15.out.below hx); have V_16 := Lib.hid (belowThen V_15.out (Nat.le_refl _) hx); have NF_16 := Lib.hid (NF_15.out.below hx); have OF_16 := Lib.hid (OwnT.below hx OF_15.out); have GF_16 := Lib.hid (GF_15.out.below hx); have NF2_16 := Lib.hid (NF2_15.out.below hx); have GF2_16 := Lib.hid (GF2_15.out.below hx); have NP_16 := Lib.hid (NP_15.out.below hx); have OP_16 := Lib.hid (OwnT.below hx OP_15.out); have GP_16 := Lib.hid (GP_15.out.below hx); have NP2_16 := Lib.hid (NP2_15.out.below hx); have GP2_16 := Lib.hid (GP2_15.out.below hx); have NT_16 := Lib.hid (NT_15.out.below hx); have OT_16 := Lib.hid (OwnT.below hx OT_15.out); have GT_16 := Lib.hid (GT_15.out.below hx); have CT_16 := Lib.hid (belowThen CT_15.out (Nat.le_refl _) hx); have NT2_16 := Lib.hid (NT2_15.out.below hx); have GT2_16 := Lib.hid (hb); clear hb hx hg XA_15 XM_15 X_15 GA_15 GM_15 G7_15 G8_15 YA_15 YB_15 V_15 NF_15 OF_15 GF_15 NF2_15 GF2_15 NP_15 OP_15 GP_15 NP2_15 GP2_15 NT_15 OT_15 GT_15 CT_15 NT2_15) | (with_reducible refine wpList_loadL (NdL.of_blk GF_16.out).all rfl _ rfl rfl ?_) | (with_reducible refine wpList_loadL (NdL.of_blk GF2_16.out).all rfl _ rfl rfl ?_))
  refine (sameNode_any TF TF hmF hmF _ _ _ NF_16.out NF2_16.out).mono ?_
  rintro e w17 ⟨rfl, hx⟩
  have XA_17 := Lib.hid (XA_16.out.below hx)
  have XM_17 := Lib.hid (XM_16.out.below hx)
  have X_17 := Lib.hid (belowThen X_16.out (Nat.le_refl _) hx)
  have GA_17 := Lib.hid (GA_16.out.below hx)
  have GM_17 := Lib.hid (GM_16.out.below hx)
  have G7_17 := Lib.hid (G7_16.out.below hx)
  have G8_17 := Lib.hid (G8_16.out.below hx)
  have YA_17 := Lib.hid (YA_16.out.below hx)
  have YB_17 := Lib.hid (YB_16.out.below hx)
  have V_17 := Lib.hid (belowThen V_16.out (Nat.le_refl _) hx)
  have NF_17 := Lib.hid (NF_16.out.below hx)
  have OF_17 := Lib.hid (OwnT.below hx OF_16.out)
  have GF_17 := Lib.hid (GF_16.out.below hx)
  have NF2_17 := Lib.hid (NF2_16.out.below hx)
  have GF2_17 := Lib.hid (GF2_16.out.below hx)
  have NP_17 := Lib.hid (NP_16.out.below hx)
  have OP_17 := Lib.hid (OwnT.below hx OP_16.out)
  have GP_17 := Lib.hid (GP_16.out.below hx)
  have NP2_17 := Lib.hid (NP2_16.out.below hx)
  have GP2_17 := Lib.hid (GP2_16.out.below hx)
  have NT_17 := Lib.hid (NT_16.out.below hx)
  have OT_17 := Lib.hid (OwnT.below hx OT_16.out)
  have GT_17 := Lib.hid (GT_16.out.below hx)
  have CT_17 := Lib.hid (belowThen CT_16.out (Nat.le_refl _) hx)
  have NT2_17 := Lib.hid (NT2_16.out.below hx)
  have GT2_17 := Lib.hid (GT2_16.out.below hx)
  clear hx  XA_16 XM_16 X_16 GA_16 GM_16 G7_16 G8_16 YA_16 YB_16 V_16 NF_16 OF_16 GF_16 NF2_16 GF2_16 NP_16 OP_16 GP_16 NP2_16 GP2_16 NT_16 OT_16 GT_16 CT_16 NT2_16 GT2_16
  rw [(same_iff TF TF).2 rfl]
  go_wp2_with (first | (with_reducible refine wpList_loadL (NdL.of_blk GP_17.out).all rfl _ rfl rfl ?_) | (with_reducible refine wpList_loadL (NdL.of_blk GP2_17.out).all rfl _ rfl rfl ?_))
  refine (sameNode_any TP TP hmP hmP _ _ _ NP_17.out NP2_17.out).mono ?_
  rintro e w18 ⟨rfl, hx⟩
  have XA_18 := Lib.hid (XA_17.out.below hx)
  have XM_18 := Lib.hid (XM_17.out.below hx)
  have X_18 := Lib.hid (belowThen X_17.out (Nat.le_refl _) hx)
  have GA_18 := Lib.hid (GA_17.out.below hx)
  have GM_18 := Lib.hid (GM_17.out.below hx)
  have G7_18 := Lib.hid (G7_17.out.below hx)
  have G8_18 := Lib.hid (G8_17.out.below hx)
  have YA_18 := Lib.hid (YA_17.out.below hx)
  have YB_18 := Lib.hid (YB_17.out.below hx)
  have V_18 := Lib.hid (belowThen V_17.out (Nat.le_refl _) hx)
  have NF_18 := Lib.hid (NF_17.out.below hx)
  have OF_18 := Lib.hid (OwnT.below hx OF_17.out)
  have GF_18 := Lib.hid (GF_17.out.below hx)
  have NF2_18 := Lib.hid (NF2_17.out.below hx)
  have GF2_18 := Lib.hid (GF2_17.out.below hx)
  have NP_18 := Lib.hid (NP_17.out.below hx)
  have OP_18 := Lib.hid (OwnT.below hx OP_17.out)
  have GP_18 := Lib.hid (GP_17.out.below hx)
  have NP2_18 := Lib.hid (NP2_17.out.below hx)
  have GP2_18 := Lib.hid (GP2_17.out.below hx)
  have NT_18 := Lib.hid (NT_17.out.below hx)
  have OT_18 := Lib.hid (OwnT.below hx OT_17.out)
  have GT_18 := Lib.hid (GT_17.out.below hx)
  have CT_18 := Lib.hid (belowThen CT_17.out (Nat.le_refl _) hx)
  have NT2_18 := Lib.hid (NT2_17.out.below hx)
  have GT2_18 := Lib.hid (GT2_17.out.below hx)
  clear hx  XA_17 XM_17 X_17 GA_17 GM_17 G7_17 G8_17 YA_17 YB_17 V_17 NF_17 OF_17 GF_17 NF2_17 GF2_17 NP_17 OP_17 GP_17 NP2_17 GP2_17 NT_17 OT_17 GT_17 CT_17 NT2_17 GT2_17
  rw [(same_iff TP TP).2 rfl]
  go_wp2_with (first | (with_reducible refine wpList_loadL (NdL.of_blk GT_18.out).all rfl _ rfl rfl ?_) | (with_reducible refine wpList_loadL (NdL.of_blk GT2_18.out).all rfl _ rfl rfl ?_))
  refine (sameNode_any TT TT hmT hmT _ _ _ NT_18.out NT2_18.out).mono ?_
  rintro e w19 ⟨rfl, hx⟩
  have XA_19 := Lib.hid (XA_18.out.below hx)
  have XM_19 := Lib.hid (XM_18.out.below hx)
  have X_19 := Lib.hid (belowThen X_18.out (Nat.le_refl _) hx)
  have GA_19 := Lib.hid (GA_18.out.below hx)
  have GM_19 := Lib.hid (GM_18.out.below hx)
  have G7_19 := Lib.hid (G7_18.out.below hx)
  have G8_19 := Lib.hid (G8_18.out.below hx)
  have YA_19 := Lib.hid (YA_18.out.below hx)
  have YB_19 := Lib.hid (YB_18.out.below hx)
  have V_19 := Lib.hid (belowThen V_18.out (Nat.le_refl _) hx)
  have NF_19 := Lib.hid (NF_18.out.below hx)
  have OF_19 := Lib.hid (OwnT.below hx OF_18.out)
  have GF_19 := Lib.hid (GF_18.out.below hx)
  have NF2_19 := Lib.hid (NF2_18.out.below hx)
  have GF2_19 := Lib.hid (GF2_18.out.below hx)
  have NP_19 := Lib.hid (NP_18.out.below hx)
  have OP_19 := Lib.hid (OwnT.below hx OP_18.out)
  have GP_19 := Lib.hid (GP_18.out.below hx)
  have NP2_19 := Lib.hid (NP2_18.out.below hx)
  have GP2_19 := Lib.hid (GP2_18.out.below hx)
  have NT_19 := Lib.hid (NT_18.out.below hx)
  have OT_19 := Lib.hid (OwnT.below hx OT_18.out)
  have GT_19 := Lib.hid (GT_18.out.below hx)
  have CT_19 := Lib.hid (belowThen CT_18.out (Nat.le_refl _) hx)
  have NT2_19 := Lib.hid (NT2_18.out.below hx)
  have GT2_19 := Lib.hid (GT2_18.out.below hx)
  clear hx  XA_18 XM_18 X_18 GA_18 GM_18 G7_18 G8_18 YA_18 YB_18 V_18 NF_18 OF_18 GF_18 NF2_18 GF2_18 NP_18 OP_18 GP_18 NP2_18 GP2_18 NT_18 OT_18 GT_18 CT_18 NT2_18 GT2_18
  rw [(same_iff TT TT).2 rfl]
  go_wp2_with (first | (with_reducible refine wpList_loadL (NdL.of_blk GF_19.out).all rfl _ rfl rfl ?_))
  have HORD := Lib.hid (show w4.heap.size ≤ w5.heap.size ∧ w5.heap.size ≤ g9 ∧ g9 < w8.heap.size ∧ w8.heap.size ≤ w9.heap.size ∧ w9.heap.size ≤ g13 ∧ g13 < w12.heap.size ∧ w12.heap.size ≤ w13.heap.size ∧ w13.heap.size ≤ g17 ∧ w0.heap.size ≤ w4.heap.size from ⟨ZF_5.out, HGF.out.1, Nat.lt_of_lt_of_le HGF.out.2 HZF2.out, ZP_9.out, HGP.out.1, Nat.lt_of_lt_of_le HGP.out.2 HZP2.out, ZT_13.out, HGT.out.1, HZ0.out⟩)
  have HL1_19 := Lib.hid (LenT.below V_19.out HL1.out)
  have HL2_19 := Lib.hid (LenT.below V_19.out HL2.out)
  refine (overNode_all (count TF) TF (Nat.le_refl _) hmF x9 bsF _ _ OF_19.out HRF.out.2).mono ?_
  rintro e w20 ⟨⟨r20, rfl⟩, ho⟩
  have hrg := HRF.out.1
  have hord := HORD.out
  have hlow := HLOW.out
  have GA_20 := Lib.hid (Agg.Blk.keepO GA_19.out ho (fun e => by have h1 := hrg _ e; omega))
  have GM_20 := Lib.hid (Agg.Blk.keepO GM_19.out ho (fun e => by have h1 := hrg _ e; omega))
  have G7_20 := Lib.hid (Agg.Blk.keepO G7_19.out ho (fun e => by have h1 := hrg _ e; omega))
  have G8_20 := Lib.hid (Agg.Blk.keepO G8_19.out ho (fun e => by have h1 := hrg _ e; omega))
  have GP_20 := Lib.hid (Agg.Blk.keepO GP_19.out ho (fun e => by have h1 := hrg _ e; omega))
  have GT_20 := Lib.hid (Agg.Blk.keepO GT_19.out ho (fun e => by have h1 := hrg _ e; omega))
  have OP_20 := Lib.hid (OwnT.only ho _ _ _ OP_19.out (fun j hj e => by have h1 := hrg _ e; have h2 := HRP.out.1 j hj; omega))
  have OT_20 := Lib.hid (OwnT.only ho _ _ _ OT_19.out (fun j hj e => by have h1 := hrg _ e; have h2 := HRT.out.1 j hj; omega))
  have HL1_20 := Lib.hid (LenT.only ho _ _ _ HL1_19.out (fun j hj e => by have h1 := hrg _ e; have h2 := hlow.2.1 j hj; omega))
  have HL2_20 := Lib.hid (LenT.only ho _ _ _ HL2_19.out (fun j hj e => by have h1 := hrg _ e; have h2 := hlow.2.2 j hj; omega))
  have X_20 := Lib.hid (X_19.out.trans (ho.below (B := w0.heap.size) X_19.out.size (fun i hi => by have h1 := hrg i hi; omega)))
  clear ho hrg hord hlow
  go_wp2_with (first | (with_reducible refine wpList_loadL (NdL.of_blk GP_20.out).all rfl _ rfl rfl ?_))
  refine (overNode_all (count TP) TP (Nat.le_refl _) hmP x13 bsP _ _ OP_20.out HRP.out.2).mono ?_
  rintro e w21 ⟨⟨r21, rfl⟩, ho⟩
  have hrg := HRP.out.1
  have hord := HORD.out
  have hlow := HLOW.out
  have GA_21 := Lib.hid (Agg.Blk.keepO GA_20.out ho (fun e => by have h1 := hrg _ e; omega))
  have GM_21 := Lib.hid (Agg.Blk.keepO GM_20.out ho (fun e => by have h1 := hrg _ e; omega))
  have G7_21 := Lib.hid (Agg.Blk.keepO G7_20.out ho (fun e => by have h1 := hrg _ e; omega))
  have G8_21 := Lib.hid (Agg.Blk.keepO G8_20.out ho (fun e => by have h1 := hrg _ e; omega))
  have GT_21 := Lib.hid (Agg.Blk.keepO GT_20.out ho (fun e => by have h1 := hrg _ e; omega))
  have OT_21 := Lib.hid (OwnT.only ho _ _ _ OT_20.out (fun j hj e => by have h1 := hrg _ e; have h2 := HRT.out.1 j hj; omega))
  have HL1_21 := Lib.hid (LenT.only ho _ _ _ HL1_20.out (fun j hj e => by have h1 := hrg _ e; have h2 := hlow.2.1 j hj; omega))
  have HL2_21 := Lib.hid (LenT.only ho _ _ _ HL2_20.out (fun j hj e => by have h1 := hrg _ e; have h2 := hlow.2.2 j hj; omega))
  have X_21 := Lib.hid (X_20.out.trans (ho.below (B := w0.heap.size) X_20.out.size (fun i hi => by have h1 := hrg i hi; omega)))
  clear ho hrg hord hlow
  go_wp2_with (first | (with_reducible refine wpList_loadL (NdL.of_blk GT_21.out).all rfl _ rfl rfl ?_))
  refine (overNode_all (count TT) TT (Nat.le_refl _) hmT x17 bsT _ _ OT_21.out HRT.out.2).mono ?_
  rintro e w22 ⟨⟨r22, rfl⟩, ho⟩
  have hrg := HRT.out.1
  have hord := HORD.out
  have hlow := HLOW.out
  have GA_22 := Lib.hid (Agg.Blk.keepO GA_21.out ho (fun e => by have h1 := hrg _ e; omega))
  have GM_22 := Lib.hid (Agg.Blk.keepO GM_21.out ho (fun e => by have h1 := hrg _ e; omega))
  have G7_22 := Lib.hid (Agg.Blk.keepO G7_21.out ho (fun e => by have h1 := hrg _ e; omega))
  have G8_22 := Lib.hid (Agg.Blk.keepO G8_21.out ho (fun e => by have h1 := hrg _ e; omega))
  have HL1_22 := Lib.hid (LenT.only ho _ _ _ HL1_21.out (fun j hj e => by have h1 := hrg _ e; have h2 := hlow.2.1 j hj; omega))
  have HL2_22 := Lib.hid (LenT.only ho _ _ _ HL2_21.out (fun j hj e => by have h1 := hrg _ e; have h2 := hlow.2.2 j hj; omega))
  have X_22 := Lib.hid (X_21.out.trans (ho.below (B := w0.heap.size) X_21.out.size (fun i hi => by have h1 := hrg i hi; omega)))
  clear ho hrg hord hlow
  go_wp2_with (first | (with_reducible refine wpList_loadL (NdL.of_blk G7_22.out).all rfl _ rfl rfl ?_) | (with_reducible refine wpList_loadL (NdL.of_blk GA_22.out).all rfl _ rfl rfl ?_))
  refine (keptNode_all (count t) t (Nat.le_refl _) hmt ya xa cs _ _ HL1_22.out (NodeV.below X_22.out _ _ HVA.out)).mono ?_
  rintro e w23 ⟨rfl, hx⟩
  have X_23 := Lib.hid (belowThen X_22.out (Nat.le_refl _) hx)
  have G8_23 := Lib.hid (G8_22.out.below hx)
  have GM_23 := Lib.hid (GM_22.out.below hx)
  have HL2_23 := Lib.hid (LenT.below hx HL2_22.out)
  clear hx
  go_wp2_with (first | (with_reducible refine wpList_loadL (NdL.of_blk G8_23.out).all rfl _ rfl rfl ?_) | (with_reducible refine wpList_loadL (NdL.of_blk GM_23.out).all rfl _ rfl rfl ?_))
  refine (keptNode_all (count u) u (Nat.le_refl _) hmu yb xm ds _ _ HL2_23.out (NodeV.below X_23.out _ _ HVM.out)).mono ?_
  rintro e w24 ⟨rfl, hx⟩
  have X_24 := Lib.hid (belowThen X_23.out (Nat.le_refl _) hx)
  clear hx
  go_wp2_with fail
  refine (awake08_any _).mono ?_
  rintro e w25 ⟨rfl, hx⟩
  have X_25 := Lib.hid (belowThen X_24.out (Nat.le_refl _) hx)
  clear hx
  go_wp2_with fail
  go_ret
  exact ⟨rfl, X_25.out⟩
end Go.Proofs.YtfiadgdinhmgbaaDoor
