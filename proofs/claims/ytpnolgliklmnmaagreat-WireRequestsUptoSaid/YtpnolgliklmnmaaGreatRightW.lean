/- wire.Right of any request: the walk. -/
import Derived.Test.YtpnolgliklmnmaaGreatGAK
namespace Go.Proofs.YtpnolgliklmnmaaGreat
open Go.RowKit Pl Go.Agg
set_option maxRecDepth 100000 in
set_option maxHeartbeats 4000000 in
theorem right_34 (k u wh : Int) (nm : List UInt8) (vb : Value) (bs ph pn ch : List UInt8) (hP : partsN k = 34) (hl : ph.length = 20) (hc : ch.length = 20) (w : World) (hb : BytesAt w vb bs) :
    Calls Tryz.prog 13 #[.agg (rqG k u wh nm vb ph pn ch)] w fun e w' => e = .returned (.bool (rightN k u wh nm bs.length ph pn ch)) ∧ Below w.heap.size w w' := by
  have hlen := fun W => bytes_len hb W
  have HP := Lib.hid (fun W => (show Calls Tryz.prog 37 #[.int .i64 k] W fun e w' => e = .returned (.int .u8 34) ∧ w' = W by have := parts_any k W; rwa [hP] at this))
  have HPE := Lib.hid hP
  obtain ⟨a1, ha1⟩ : ∃ b, (decide ((1 : Int) ≤ k) && decide (k ≤ 10)) = b := ⟨_, rfl⟩
  obtain ⟨a2, ha2⟩ : ∃ b, (decide ((1 : Int) ≤ u) && decide (u ≤ 8)) = b := ⟨_, rfl⟩
  obtain ⟨a3, ha3⟩ : ∃ b, (decide ((1 : Int) ≤ wh) && decide (wh ≤ 16)) = b := ⟨_, rfl⟩
  obtain ⟨a5, ha5⟩ : ∃ b, isName nm = b := ⟨_, rfl⟩
  obtain ⟨a7, ha7⟩ : ∃ b, (ph == z20 && pn == []) = b := ⟨_, rfl⟩
  obtain ⟨a8, ha8⟩ : ∃ b, namedN ph pn false = b := ⟨_, rfl⟩
  obtain ⟨a9, ha9⟩ : ∃ b, (ch == z20) = b := ⟨_, rfl⟩
  have H1 := Lib.hid ha1
  have H2 := Lib.hid ha2
  have H3 := Lib.hid ha3
  have H5 := Lib.hid ha5
  have H7 := Lib.hid ha7
  have H8 := Lib.hid ha8
  have H9 := Lib.hid ha9
  have hnm := name_any nm
  rw [ha5] at hnm
  have HNM := Lib.hid hnm
  have hnp : ∀ W, (binOp .neq 27 (.agg (pC ph pn)) (.agg (pC z20 []))).run Tryz.prog W = .ok (.bool (!a7)) W := fun W => by rw [neq_path ph pn z20 [] hl rfl W, ha7]
  have hnh : ∀ W, (binOp .neq 25 (.agg (hC ch)) (.agg (hC z20))).run Tryz.prog W = .ok (.bool (!a9)) W := fun W => by rw [neq_hash ch z20 hc rfl W, ha9]
  have HMO := Lib.hid (fun W => most_any k W)
  have HNP := Lib.hid hnp
  have HNH := Lib.hid hnh
  have HND := Lib.hid (fun W => (show Calls Tryz.prog 66 #[.agg (pC ph pn), .bool false] W fun e w' => e = .returned (.bool a8) ∧ Below W.heap.size W w' by have := named_any ph pn false hl W; rwa [ha8] at this))
  clear hP ha1 ha2 ha3 ha5 ha7 ha8 ha9 hnm hnp hnh
  go_enter Tryz.func13, Tryz.ntmps13
  go_wp2_with (first | (with_reducible refine Agg.wpList_box rfl 29 _ rfl (rqG k u wh nm vb ph pn ch) rfl ?_; intro g w1 hb1 hx1 hg; have HL := Lib.hid (RqG.of_blk hb1 hl hc); have HW := Lib.hid hx1; clear hb1 hx1 hg) | (with_reducible refine Agg.wpList_loadL HL.out.kind rfl _ rfl rfl ?_))
  refine (HP.out _).mono ?_
  rintro e w2 ⟨rfl, rfl⟩
  go_wp2_with (first | (with_reducible refine Agg.wpList_loadL HL.out.kind rfl _ rfl rfl ?_))
  refine (withinB H1.out _).mono ?_
  rintro e w3 ⟨rfl, rfl⟩
  cases a1 with
  | false =>
    have HR := Lib.hid (show rightN k u wh nm bs.length ph pn ch = false from rightN_bad (b := !(decide (1 ≤ k) && decide (k ≤ 10))) (by simp [rT]) (by rw [H1.out]; rfl))
    go_wp2_with fail
    go_ret
    exact ⟨ret_bool HR.out.symm, HW.out⟩
  | true =>
  go_wp2_with (first | (with_reducible refine Agg.wpList_loadL HL.out.user rfl _ rfl rfl ?_))
  refine (withinB H2.out _).mono ?_
  rintro e w4 ⟨rfl, rfl⟩
  cases a2 with
  | false =>
    have HR := Lib.hid (show rightN k u wh nm bs.length ph pn ch = false from rightN_bad (b := !(decide (1 ≤ u) && decide (u ≤ 8))) (by simp [rT]) (by rw [H2.out]; rfl))
    go_wp2_with fail
    go_ret
    exact ⟨ret_bool HR.out.symm, HW.out⟩
  | true =>
  cases a3 with
  | true =>
    have HR := Lib.hid (show rightN k u wh nm bs.length ph pn ch = false from rightN_bad (b := hasN (partsN k) 1 != (decide (1 ≤ wh) && decide (wh ≤ 16))) (by simp [rT]) (by rw [HPE.out, H3.out]; decide))
    go_wp2_with fail
    try simp only [Act.put, List.setIfInBounds_toArray, List.set_cons_succ, List.set_cons_zero]
    refine Agg.wp_region_later_lit (by kernel_rfl) (by kernel_rfl) ?_
    repeat (first | go_big_quiet_skip | ((first | (with_reducible refine Agg.wpQuiet_loadL HL.out.who rfl _ rfl rfl ?_)); simp only [Act.put, List.setIfInBounds_toArray, List.set_cons_succ, List.set_cons_zero]) | go_big_quiet_step ((first | (go_at_call 39; first | exact Agg.Calls.later (sameBelow (hasB (P := 34) (c := 1) (b := false) (by omega) (by omega) (by decide) _)) | exact Agg.Calls.later (sameBelow (hasB (P := 34) (c := 2) (b := true) (by omega) (by omega) (by decide) _)) | exact Agg.Calls.later (sameBelow (hasB (P := 34) (c := 12) (b := false) (by omega) (by omega) (by decide) _)) | exact Agg.Calls.later (sameBelow (hasB (P := 34) (c := 8) (b := false) (by omega) (by omega) (by decide) _)) | exact Agg.Calls.later (sameBelow (hasB (P := 34) (c := 16) (b := false) (by omega) (by omega) (by decide) _)) | exact Agg.Calls.later (sameBelow (hasB (P := 34) (c := 32) (b := true) (by omega) (by omega) (by decide) _))) | (go_at_call 64; exact Agg.Calls.later (sameBelow (withinB H3.out _))) | (go_at_call 65; exact Agg.Calls.later (HNM.out _)) | (go_at_call 66; exact Agg.Calls.later (HND.out _)) | (go_at_call 57; exact Agg.Calls.later (sameBelow (HMO.out _))))))
    refine wpQuiet_nil ?_
    intro _ hw'
    obtain ⟨x5, rfl⟩ := hw'
    have HL := Lib.hid (HL.out.below x5.h)
    have HW := Lib.hid (Agg.belowThen HW.out (Nat.le_refl _) x5.h)
    generalize x5.w = v5 at *
    go_wp2_with fail
    go_ret
    exact ⟨ret_bool HR.out.symm, HW.out⟩
  | false =>
  go_wp2_with fail
  try simp only [Act.put, List.setIfInBounds_toArray, List.set_cons_succ, List.set_cons_zero]
  refine Agg.wp_region_later_lit (by kernel_rfl) (by kernel_rfl) ?_
  repeat (first | go_big_quiet_skip | ((first | (with_reducible refine Agg.wpQuiet_loadL HL.out.who rfl _ rfl rfl ?_)); simp only [Act.put, List.setIfInBounds_toArray, List.set_cons_succ, List.set_cons_zero]) | go_big_quiet_step ((first | (go_at_call 39; first | exact Agg.Calls.later (sameBelow (hasB (P := 34) (c := 1) (b := false) (by omega) (by omega) (by decide) _)) | exact Agg.Calls.later (sameBelow (hasB (P := 34) (c := 2) (b := true) (by omega) (by omega) (by decide) _)) | exact Agg.Calls.later (sameBelow (hasB (P := 34) (c := 12) (b := false) (by omega) (by omega) (by decide) _)) | exact Agg.Calls.later (sameBelow (hasB (P := 34) (c := 8) (b := false) (by omega) (by omega) (by decide) _)) | exact Agg.Calls.later (sameBelow (hasB (P := 34) (c := 16) (b := false) (by omega) (by omega) (by decide) _)) | exact Agg.Calls.later (sameBelow (hasB (P := 34) (c := 32) (b := true) (by omega) (by omega) (by decide) _))) | (go_at_call 64; exact Agg.Calls.later (sameBelow (withinB H3.out _))) | (go_at_call 65; exact Agg.Calls.later (HNM.out _)) | (go_at_call 66; exact Agg.Calls.later (HND.out _)) | (go_at_call 57; exact Agg.Calls.later (sameBelow (HMO.out _))))))
  refine wpQuiet_nil ?_
  intro _ hw'
  obtain ⟨x6, rfl⟩ := hw'
  have HL := Lib.hid (HL.out.below x6.h)
  have HW := Lib.hid (Agg.belowThen HW.out (Nat.le_refl _) x6.h)
  generalize x6.w = v6 at *
  go_wp2_with fail
  refine (hasB (P := 34) (c := 1) (b := false) (by omega) (by omega) (by decide) _).mono ?_
  rintro e u8 ⟨rfl, rfl⟩
  by_cases hw0 : wh = 0
  rotate_left
  · have hq0 : (wh != 0) = true := by simp [hw0]
    have HR := Lib.hid (show rightN k u wh nm bs.length ph pn ch = false from rightN_bad (b := !hasN (partsN k) 1 && (wh != 0)) (by simp [rT]) (by rw [HPE.out, hq0]; decide))
    clear hw0
    go_wp2_with (first | (with_reducible refine Agg.wpList_loadL HL.out.who rfl _ rfl rfl ?_))
    go_ret
    exact ⟨ret_bool HR.out.symm, HW.out⟩
  have HW0 := Lib.hid hw0
  have hq0 : (wh != 0) = false := by simp [hw0]
  clear hw0
  go_wp2_with (first | (with_reducible refine Agg.wpList_loadL HL.out.who rfl _ rfl rfl ?_))
  cases a5 with
  | false =>
    have HR := Lib.hid (show rightN k u wh nm bs.length ph pn ch = false from rightN_bad (b := hasN (partsN k) 2 != isName nm) (by simp [rT]) (by rw [HPE.out, H5.out]; decide))
    try simp only [Act.put, List.setIfInBounds_toArray, List.set_cons_succ, List.set_cons_zero]
    refine Agg.wp_region_later_lit (by kernel_rfl) (by kernel_rfl) ?_
    repeat (first | go_big_quiet_skip | ((first | (with_reducible refine Agg.wpQuiet_loadL HL.out.name rfl _ rfl rfl ?_)); simp only [Act.put, List.setIfInBounds_toArray, List.set_cons_succ, List.set_cons_zero]) | go_big_quiet_step ((first | (go_at_call 39; first | exact Agg.Calls.later (sameBelow (hasB (P := 34) (c := 1) (b := false) (by omega) (by omega) (by decide) _)) | exact Agg.Calls.later (sameBelow (hasB (P := 34) (c := 2) (b := true) (by omega) (by omega) (by decide) _)) | exact Agg.Calls.later (sameBelow (hasB (P := 34) (c := 12) (b := false) (by omega) (by omega) (by decide) _)) | exact Agg.Calls.later (sameBelow (hasB (P := 34) (c := 8) (b := false) (by omega) (by omega) (by decide) _)) | exact Agg.Calls.later (sameBelow (hasB (P := 34) (c := 16) (b := false) (by omega) (by omega) (by decide) _)) | exact Agg.Calls.later (sameBelow (hasB (P := 34) (c := 32) (b := true) (by omega) (by omega) (by decide) _))) | (go_at_call 64; exact Agg.Calls.later (sameBelow (withinB H3.out _))) | (go_at_call 65; exact Agg.Calls.later (HNM.out _)) | (go_at_call 66; exact Agg.Calls.later (HND.out _)) | (go_at_call 57; exact Agg.Calls.later (sameBelow (HMO.out _))))))
    refine wpQuiet_nil ?_
    intro _ hw'
    obtain ⟨x8, rfl⟩ := hw'
    have HL := Lib.hid (HL.out.below x8.h)
    have HW := Lib.hid (Agg.belowThen HW.out (Nat.le_refl _) x8.h)
    generalize x8.w = v8 at *
    go_wp2_with fail
    go_ret
    exact ⟨ret_bool HR.out.symm, HW.out⟩
  | true =>
  try simp only [Act.put, List.setIfInBounds_toArray, List.set_cons_succ, List.set_cons_zero]
  refine Agg.wp_region_later_lit (by kernel_rfl) (by kernel_rfl) ?_
  repeat (first | go_big_quiet_skip | ((first | (with_reducible refine Agg.wpQuiet_loadL HL.out.name rfl _ rfl rfl ?_)); simp only [Act.put, List.setIfInBounds_toArray, List.set_cons_succ, List.set_cons_zero]) | go_big_quiet_step ((first | (go_at_call 39; first | exact Agg.Calls.later (sameBelow (hasB (P := 34) (c := 1) (b := false) (by omega) (by omega) (by decide) _)) | exact Agg.Calls.later (sameBelow (hasB (P := 34) (c := 2) (b := true) (by omega) (by omega) (by decide) _)) | exact Agg.Calls.later (sameBelow (hasB (P := 34) (c := 12) (b := false) (by omega) (by omega) (by decide) _)) | exact Agg.Calls.later (sameBelow (hasB (P := 34) (c := 8) (b := false) (by omega) (by omega) (by decide) _)) | exact Agg.Calls.later (sameBelow (hasB (P := 34) (c := 16) (b := false) (by omega) (by omega) (by decide) _)) | exact Agg.Calls.later (sameBelow (hasB (P := 34) (c := 32) (b := true) (by omega) (by omega) (by decide) _))) | (go_at_call 64; exact Agg.Calls.later (sameBelow (withinB H3.out _))) | (go_at_call 65; exact Agg.Calls.later (HNM.out _)) | (go_at_call 66; exact Agg.Calls.later (HND.out _)) | (go_at_call 57; exact Agg.Calls.later (sameBelow (HMO.out _))))))
  refine wpQuiet_nil ?_
  intro _ hw'
  obtain ⟨x9, rfl⟩ := hw'
  have HL := Lib.hid (HL.out.below x9.h)
  have HW := Lib.hid (Agg.belowThen HW.out (Nat.le_refl _) x9.h)
  generalize x9.w = v9 at *
  go_wp2_with fail
  refine (hasB (P := 34) (c := 2) (b := true) (by omega) (by omega) (by decide) _).mono ?_
  rintro e u11 ⟨rfl, rfl⟩
  go_wp2_with (first | (with_reducible refine Agg.wpList_loadL HL.out.name rfl _ rfl rfl ?_))
  refine (hasB (P := 34) (c := 12) (b := false) (by omega) (by omega) (by decide) _).mono ?_
  rintro e u12 ⟨rfl, rfl⟩
  cases a7 with
  | false =>
    have HR := Lib.hid (show rightN k u wh nm bs.length ph pn ch = false from rightN_bad (b := !hasN (partsN k) 12 && !(ph == z20 && pn == [])) (by simp [rT]) (by rw [HPE.out, H7.out]; decide))
    go_wp2_with (first | (with_reducible refine Agg.wpList_loadL HL.out.path rfl _ rfl rfl ?_) | (with_reducible refine Agg.wpList_build0 27 rfl rfl (.agg (pC z20 [])) build_p0 ?_) | (with_reducible refine Agg.wpList_neqw 27 27 _ _ rfl rfl (pC ph pn) (pC z20 []) rfl rfl (!false) (by kernel_rfl) HNP.out ?_))
    go_ret
    exact ⟨ret_bool HR.out.symm, HW.out⟩
  | true =>
  go_wp2_with (first | (with_reducible refine Agg.wpList_loadL HL.out.path rfl _ rfl rfl ?_) | (with_reducible refine Agg.wpList_build0 27 rfl rfl (.agg (pC z20 [])) build_p0 ?_) | (with_reducible refine Agg.wpList_neqw 27 27 _ _ rfl rfl (pC ph pn) (pC z20 []) rfl rfl (!true) (by kernel_rfl) HNP.out ?_))
  try simp only [Act.put, List.setIfInBounds_toArray, List.set_cons_succ, List.set_cons_zero]
  refine Agg.wp_region_later_lit (by kernel_rfl) (by kernel_rfl) ?_
  repeat (first | go_big_quiet_skip | ((first | (with_reducible refine Agg.wpQuiet_loadL HL.out.path rfl _ rfl rfl ?_)); simp only [Act.put, List.setIfInBounds_toArray, List.set_cons_succ, List.set_cons_zero]) | go_big_quiet_step ((first | (go_at_call 39; first | exact Agg.Calls.later (sameBelow (hasB (P := 34) (c := 1) (b := false) (by omega) (by omega) (by decide) _)) | exact Agg.Calls.later (sameBelow (hasB (P := 34) (c := 2) (b := true) (by omega) (by omega) (by decide) _)) | exact Agg.Calls.later (sameBelow (hasB (P := 34) (c := 12) (b := false) (by omega) (by omega) (by decide) _)) | exact Agg.Calls.later (sameBelow (hasB (P := 34) (c := 8) (b := false) (by omega) (by omega) (by decide) _)) | exact Agg.Calls.later (sameBelow (hasB (P := 34) (c := 16) (b := false) (by omega) (by omega) (by decide) _)) | exact Agg.Calls.later (sameBelow (hasB (P := 34) (c := 32) (b := true) (by omega) (by omega) (by decide) _))) | (go_at_call 64; exact Agg.Calls.later (sameBelow (withinB H3.out _))) | (go_at_call 65; exact Agg.Calls.later (HNM.out _)) | (go_at_call 66; exact Agg.Calls.later (HND.out _)) | (go_at_call 57; exact Agg.Calls.later (sameBelow (HMO.out _))))))
  refine wpQuiet_nil ?_
  intro _ hw'
  obtain ⟨x12, rfl⟩ := hw'
  have HL := Lib.hid (HL.out.below x12.h)
  have HW := Lib.hid (Agg.belowThen HW.out (Nat.le_refl _) x12.h)
  generalize x12.w = v12 at *
  go_wp2_with fail
  refine (hasB (P := 34) (c := 16) (b := false) (by omega) (by omega) (by decide) _).mono ?_
  rintro e u14 ⟨rfl, rfl⟩
  cases a9 with
  | false =>
    have HR := Lib.hid (show rightN k u wh nm bs.length ph pn ch = false from rightN_bad (b := !hasN (partsN k) 16 && !(ch == z20)) (by simp [rT]) (by rw [HPE.out, H9.out]; decide))
    go_wp2_with (first | (with_reducible refine Agg.wpList_loadL HL.out.cls rfl _ rfl rfl ?_) | (with_reducible refine Agg.wpList_build0 25 rfl rfl (.agg (hC z20)) build_zero ?_) | (with_reducible refine Agg.wpList_neqw 25 25 _ _ rfl rfl (hC ch) (hC z20) rfl rfl (!false) (by kernel_rfl) HNH.out ?_))
    go_ret
    exact ⟨ret_bool HR.out.symm, HW.out⟩
  | true =>
  go_wp2_with (first | (with_reducible refine Agg.wpList_loadL HL.out.cls rfl _ rfl rfl ?_) | (with_reducible refine Agg.wpList_build0 25 rfl rfl (.agg (hC z20)) build_zero ?_) | (with_reducible refine Agg.wpList_neqw 25 25 _ _ rfl rfl (hC ch) (hC z20) rfl rfl (!true) (by kernel_rfl) HNH.out ?_))
  have HR := Lib.hid (show rightN k u wh nm bs.length ph pn ch = decide (bs.length ≤ mostN k) by
    unfold rightN
    have e : (rT k u wh nm ph pn ch).all (fun b => !b) = true := by simp only [rT, HPE.out, H1.out, H2.out, H3.out, H5.out, H8.out, hq0, H7.out, H9.out, show hasN 34 1 = false from by decide, show hasN 34 2 = true from by decide, show hasN 34 12 = false from by decide, show hasN 34 8 = false from by decide, show hasN 34 16 = false from by decide]; simp
    rw [e, Bool.true_and])
  obtain ⟨M, hM⟩ : ∃ M, mostN k = M := ⟨_, rfl⟩
  have HMO := Lib.hid (fun W => (show Calls Tryz.prog 57 #[.int .i64 k] W fun e w' => e = .returned (.int .i64 (M : Int)) ∧ w' = W by rw [← hM]; exact most_any k W))
  have HR := Lib.hid (show rightN k u wh nm bs.length ph pn ch = decide (bs.length ≤ M) by rw [HR.out, hM])
  clear hM
  try simp only [Act.put, List.setIfInBounds_toArray, List.set_cons_succ, List.set_cons_zero]
  refine Agg.wp_region_later_lit (by kernel_rfl) (by kernel_rfl) ?_
  repeat (first | go_big_quiet_skip | ((first | (with_reducible refine Agg.wpQuiet_loadL HL.out.bytes rfl _ rfl rfl ?_) | (with_reducible refine Agg.wpQuiet_loadL HL.out.kind rfl _ rfl rfl ?_)); simp only [Act.put, List.setIfInBounds_toArray, List.set_cons_succ, List.set_cons_zero]) | go_big_quiet_step ((first | (go_at_call 39; first | exact Agg.Calls.later (sameBelow (hasB (P := 34) (c := 1) (b := false) (by omega) (by omega) (by decide) _)) | exact Agg.Calls.later (sameBelow (hasB (P := 34) (c := 2) (b := true) (by omega) (by omega) (by decide) _)) | exact Agg.Calls.later (sameBelow (hasB (P := 34) (c := 12) (b := false) (by omega) (by omega) (by decide) _)) | exact Agg.Calls.later (sameBelow (hasB (P := 34) (c := 8) (b := false) (by omega) (by omega) (by decide) _)) | exact Agg.Calls.later (sameBelow (hasB (P := 34) (c := 16) (b := false) (by omega) (by omega) (by decide) _)) | exact Agg.Calls.later (sameBelow (hasB (P := 34) (c := 32) (b := true) (by omega) (by omega) (by decide) _))) | (go_at_call 64; exact Agg.Calls.later (sameBelow (withinB H3.out _))) | (go_at_call 65; exact Agg.Calls.later (HNM.out _)) | (go_at_call 66; exact Agg.Calls.later (HND.out _)) | (go_at_call 57; exact Agg.Calls.later (sameBelow (HMO.out _))))))
  refine wpQuiet_nil ?_
  intro _ hw'
  obtain ⟨x14, rfl⟩ := hw'
  have HL := Lib.hid (HL.out.below x14.h)
  have HW := Lib.hid (Agg.belowThen HW.out (Nat.le_refl _) x14.h)
  generalize x14.w = v14 at *
  go_wp2_with fail
  go_ret
  exact ⟨ret_bool HR.out.symm, HW.out⟩
set_option maxRecDepth 100000 in
set_option maxHeartbeats 4000000 in
theorem right_32 (k u wh : Int) (nm : List UInt8) (vb : Value) (bs ph pn ch : List UInt8) (hP : partsN k = 32) (hl : ph.length = 20) (hc : ch.length = 20) (w : World) (hb : BytesAt w vb bs) :
    Calls Tryz.prog 13 #[.agg (rqG k u wh nm vb ph pn ch)] w fun e w' => e = .returned (.bool (rightN k u wh nm bs.length ph pn ch)) ∧ Below w.heap.size w w' := by
  have hlen := fun W => bytes_len hb W
  have HP := Lib.hid (fun W => (show Calls Tryz.prog 37 #[.int .i64 k] W fun e w' => e = .returned (.int .u8 32) ∧ w' = W by have := parts_any k W; rwa [hP] at this))
  have HPE := Lib.hid hP
  obtain ⟨a1, ha1⟩ : ∃ b, (decide ((1 : Int) ≤ k) && decide (k ≤ 10)) = b := ⟨_, rfl⟩
  obtain ⟨a2, ha2⟩ : ∃ b, (decide ((1 : Int) ≤ u) && decide (u ≤ 8)) = b := ⟨_, rfl⟩
  obtain ⟨a3, ha3⟩ : ∃ b, (decide ((1 : Int) ≤ wh) && decide (wh ≤ 16)) = b := ⟨_, rfl⟩
  obtain ⟨a5, ha5⟩ : ∃ b, isName nm = b := ⟨_, rfl⟩
  obtain ⟨a7, ha7⟩ : ∃ b, (ph == z20 && pn == []) = b := ⟨_, rfl⟩
  obtain ⟨a8, ha8⟩ : ∃ b, namedN ph pn false = b := ⟨_, rfl⟩
  obtain ⟨a9, ha9⟩ : ∃ b, (ch == z20) = b := ⟨_, rfl⟩
  have H1 := Lib.hid ha1
  have H2 := Lib.hid ha2
  have H3 := Lib.hid ha3
  have H5 := Lib.hid ha5
  have H7 := Lib.hid ha7
  have H8 := Lib.hid ha8
  have H9 := Lib.hid ha9
  have hnm := name_any nm
  rw [ha5] at hnm
  have HNM := Lib.hid hnm
  have hnp : ∀ W, (binOp .neq 27 (.agg (pC ph pn)) (.agg (pC z20 []))).run Tryz.prog W = .ok (.bool (!a7)) W := fun W => by rw [neq_path ph pn z20 [] hl rfl W, ha7]
  have hnh : ∀ W, (binOp .neq 25 (.agg (hC ch)) (.agg (hC z20))).run Tryz.prog W = .ok (.bool (!a9)) W := fun W => by rw [neq_hash ch z20 hc rfl W, ha9]
  have HMO := Lib.hid (fun W => most_any k W)
  have HNP := Lib.hid hnp
  have HNH := Lib.hid hnh
  have HND := Lib.hid (fun W => (show Calls Tryz.prog 66 #[.agg (pC ph pn), .bool false] W fun e w' => e = .returned (.bool a8) ∧ Below W.heap.size W w' by have := named_any ph pn false hl W; rwa [ha8] at this))
  clear hP ha1 ha2 ha3 ha5 ha7 ha8 ha9 hnm hnp hnh
  go_enter Tryz.func13, Tryz.ntmps13
  go_wp2_with (first | (with_reducible refine Agg.wpList_box rfl 29 _ rfl (rqG k u wh nm vb ph pn ch) rfl ?_; intro g w1 hb1 hx1 hg; have HL := Lib.hid (RqG.of_blk hb1 hl hc); have HW := Lib.hid hx1; clear hb1 hx1 hg) | (with_reducible refine Agg.wpList_loadL HL.out.kind rfl _ rfl rfl ?_))
  refine (HP.out _).mono ?_
  rintro e w2 ⟨rfl, rfl⟩
  go_wp2_with (first | (with_reducible refine Agg.wpList_loadL HL.out.kind rfl _ rfl rfl ?_))
  refine (withinB H1.out _).mono ?_
  rintro e w3 ⟨rfl, rfl⟩
  cases a1 with
  | false =>
    have HR := Lib.hid (show rightN k u wh nm bs.length ph pn ch = false from rightN_bad (b := !(decide (1 ≤ k) && decide (k ≤ 10))) (by simp [rT]) (by rw [H1.out]; rfl))
    go_wp2_with fail
    go_ret
    exact ⟨ret_bool HR.out.symm, HW.out⟩
  | true =>
  go_wp2_with (first | (with_reducible refine Agg.wpList_loadL HL.out.user rfl _ rfl rfl ?_))
  refine (withinB H2.out _).mono ?_
  rintro e w4 ⟨rfl, rfl⟩
  cases a2 with
  | false =>
    have HR := Lib.hid (show rightN k u wh nm bs.length ph pn ch = false from rightN_bad (b := !(decide (1 ≤ u) && decide (u ≤ 8))) (by simp [rT]) (by rw [H2.out]; rfl))
    go_wp2_with fail
    go_ret
    exact ⟨ret_bool HR.out.symm, HW.out⟩
  | true =>
  cases a3 with
  | true =>
    have HR := Lib.hid (show rightN k u wh nm bs.length ph pn ch = false from rightN_bad (b := hasN (partsN k) 1 != (decide (1 ≤ wh) && decide (wh ≤ 16))) (by simp [rT]) (by rw [HPE.out, H3.out]; decide))
    go_wp2_with fail
    try simp only [Act.put, List.setIfInBounds_toArray, List.set_cons_succ, List.set_cons_zero]
    refine Agg.wp_region_later_lit (by kernel_rfl) (by kernel_rfl) ?_
    repeat (first | go_big_quiet_skip | ((first | (with_reducible refine Agg.wpQuiet_loadL HL.out.who rfl _ rfl rfl ?_)); simp only [Act.put, List.setIfInBounds_toArray, List.set_cons_succ, List.set_cons_zero]) | go_big_quiet_step ((first | (go_at_call 39; first | exact Agg.Calls.later (sameBelow (hasB (P := 32) (c := 1) (b := false) (by omega) (by omega) (by decide) _)) | exact Agg.Calls.later (sameBelow (hasB (P := 32) (c := 2) (b := false) (by omega) (by omega) (by decide) _)) | exact Agg.Calls.later (sameBelow (hasB (P := 32) (c := 12) (b := false) (by omega) (by omega) (by decide) _)) | exact Agg.Calls.later (sameBelow (hasB (P := 32) (c := 8) (b := false) (by omega) (by omega) (by decide) _)) | exact Agg.Calls.later (sameBelow (hasB (P := 32) (c := 16) (b := false) (by omega) (by omega) (by decide) _)) | exact Agg.Calls.later (sameBelow (hasB (P := 32) (c := 32) (b := true) (by omega) (by omega) (by decide) _))) | (go_at_call 64; exact Agg.Calls.later (sameBelow (withinB H3.out _))) | (go_at_call 65; exact Agg.Calls.later (HNM.out _)) | (go_at_call 66; exact Agg.Calls.later (HND.out _)) | (go_at_call 57; exact Agg.Calls.later (sameBelow (HMO.out _))))))
    refine wpQuiet_nil ?_
    intro _ hw'
    obtain ⟨x5, rfl⟩ := hw'
    have HL := Lib.hid (HL.out.below x5.h)
    have HW := Lib.hid (Agg.belowThen HW.out (Nat.le_refl _) x5.h)
    generalize x5.w = v5 at *
    go_wp2_with fail
    go_ret
    exact ⟨ret_bool HR.out.symm, HW.out⟩
  | false =>
  go_wp2_with fail
  try simp only [Act.put, List.setIfInBounds_toArray, List.set_cons_succ, List.set_cons_zero]
  refine Agg.wp_region_later_lit (by kernel_rfl) (by kernel_rfl) ?_
  repeat (first | go_big_quiet_skip | ((first | (with_reducible refine Agg.wpQuiet_loadL HL.out.who rfl _ rfl rfl ?_)); simp only [Act.put, List.setIfInBounds_toArray, List.set_cons_succ, List.set_cons_zero]) | go_big_quiet_step ((first | (go_at_call 39; first | exact Agg.Calls.later (sameBelow (hasB (P := 32) (c := 1) (b := false) (by omega) (by omega) (by decide) _)) | exact Agg.Calls.later (sameBelow (hasB (P := 32) (c := 2) (b := false) (by omega) (by omega) (by decide) _)) | exact Agg.Calls.later (sameBelow (hasB (P := 32) (c := 12) (b := false) (by omega) (by omega) (by decide) _)) | exact Agg.Calls.later (sameBelow (hasB (P := 32) (c := 8) (b := false) (by omega) (by omega) (by decide) _)) | exact Agg.Calls.later (sameBelow (hasB (P := 32) (c := 16) (b := false) (by omega) (by omega) (by decide) _)) | exact Agg.Calls.later (sameBelow (hasB (P := 32) (c := 32) (b := true) (by omega) (by omega) (by decide) _))) | (go_at_call 64; exact Agg.Calls.later (sameBelow (withinB H3.out _))) | (go_at_call 65; exact Agg.Calls.later (HNM.out _)) | (go_at_call 66; exact Agg.Calls.later (HND.out _)) | (go_at_call 57; exact Agg.Calls.later (sameBelow (HMO.out _))))))
  refine wpQuiet_nil ?_
  intro _ hw'
  obtain ⟨x6, rfl⟩ := hw'
  have HL := Lib.hid (HL.out.below x6.h)
  have HW := Lib.hid (Agg.belowThen HW.out (Nat.le_refl _) x6.h)
  generalize x6.w = v6 at *
  go_wp2_with fail
  refine (hasB (P := 32) (c := 1) (b := false) (by omega) (by omega) (by decide) _).mono ?_
  rintro e u8 ⟨rfl, rfl⟩
  by_cases hw0 : wh = 0
  rotate_left
  · have hq0 : (wh != 0) = true := by simp [hw0]
    have HR := Lib.hid (show rightN k u wh nm bs.length ph pn ch = false from rightN_bad (b := !hasN (partsN k) 1 && (wh != 0)) (by simp [rT]) (by rw [HPE.out, hq0]; decide))
    clear hw0
    go_wp2_with (first | (with_reducible refine Agg.wpList_loadL HL.out.who rfl _ rfl rfl ?_))
    go_ret
    exact ⟨ret_bool HR.out.symm, HW.out⟩
  have HW0 := Lib.hid hw0
  have hq0 : (wh != 0) = false := by simp [hw0]
  clear hw0
  go_wp2_with (first | (with_reducible refine Agg.wpList_loadL HL.out.who rfl _ rfl rfl ?_))
  cases a5 with
  | true =>
    have HR := Lib.hid (show rightN k u wh nm bs.length ph pn ch = false from rightN_bad (b := hasN (partsN k) 2 != isName nm) (by simp [rT]) (by rw [HPE.out, H5.out]; decide))
    try simp only [Act.put, List.setIfInBounds_toArray, List.set_cons_succ, List.set_cons_zero]
    refine Agg.wp_region_later_lit (by kernel_rfl) (by kernel_rfl) ?_
    repeat (first | go_big_quiet_skip | ((first | (with_reducible refine Agg.wpQuiet_loadL HL.out.name rfl _ rfl rfl ?_)); simp only [Act.put, List.setIfInBounds_toArray, List.set_cons_succ, List.set_cons_zero]) | go_big_quiet_step ((first | (go_at_call 39; first | exact Agg.Calls.later (sameBelow (hasB (P := 32) (c := 1) (b := false) (by omega) (by omega) (by decide) _)) | exact Agg.Calls.later (sameBelow (hasB (P := 32) (c := 2) (b := false) (by omega) (by omega) (by decide) _)) | exact Agg.Calls.later (sameBelow (hasB (P := 32) (c := 12) (b := false) (by omega) (by omega) (by decide) _)) | exact Agg.Calls.later (sameBelow (hasB (P := 32) (c := 8) (b := false) (by omega) (by omega) (by decide) _)) | exact Agg.Calls.later (sameBelow (hasB (P := 32) (c := 16) (b := false) (by omega) (by omega) (by decide) _)) | exact Agg.Calls.later (sameBelow (hasB (P := 32) (c := 32) (b := true) (by omega) (by omega) (by decide) _))) | (go_at_call 64; exact Agg.Calls.later (sameBelow (withinB H3.out _))) | (go_at_call 65; exact Agg.Calls.later (HNM.out _)) | (go_at_call 66; exact Agg.Calls.later (HND.out _)) | (go_at_call 57; exact Agg.Calls.later (sameBelow (HMO.out _))))))
    refine wpQuiet_nil ?_
    intro _ hw'
    obtain ⟨x8, rfl⟩ := hw'
    have HL := Lib.hid (HL.out.below x8.h)
    have HW := Lib.hid (Agg.belowThen HW.out (Nat.le_refl _) x8.h)
    generalize x8.w = v8 at *
    go_wp2_with fail
    go_ret
    exact ⟨ret_bool HR.out.symm, HW.out⟩
  | false =>
  try simp only [Act.put, List.setIfInBounds_toArray, List.set_cons_succ, List.set_cons_zero]
  refine Agg.wp_region_later_lit (by kernel_rfl) (by kernel_rfl) ?_
  repeat (first | go_big_quiet_skip | ((first | (with_reducible refine Agg.wpQuiet_loadL HL.out.name rfl _ rfl rfl ?_)); simp only [Act.put, List.setIfInBounds_toArray, List.set_cons_succ, List.set_cons_zero]) | go_big_quiet_step ((first | (go_at_call 39; first | exact Agg.Calls.later (sameBelow (hasB (P := 32) (c := 1) (b := false) (by omega) (by omega) (by decide) _)) | exact Agg.Calls.later (sameBelow (hasB (P := 32) (c := 2) (b := false) (by omega) (by omega) (by decide) _)) | exact Agg.Calls.later (sameBelow (hasB (P := 32) (c := 12) (b := false) (by omega) (by omega) (by decide) _)) | exact Agg.Calls.later (sameBelow (hasB (P := 32) (c := 8) (b := false) (by omega) (by omega) (by decide) _)) | exact Agg.Calls.later (sameBelow (hasB (P := 32) (c := 16) (b := false) (by omega) (by omega) (by decide) _)) | exact Agg.Calls.later (sameBelow (hasB (P := 32) (c := 32) (b := true) (by omega) (by omega) (by decide) _))) | (go_at_call 64; exact Agg.Calls.later (sameBelow (withinB H3.out _))) | (go_at_call 65; exact Agg.Calls.later (HNM.out _)) | (go_at_call 66; exact Agg.Calls.later (HND.out _)) | (go_at_call 57; exact Agg.Calls.later (sameBelow (HMO.out _))))))
  refine wpQuiet_nil ?_
  intro _ hw'
  obtain ⟨x9, rfl⟩ := hw'
  have HL := Lib.hid (HL.out.below x9.h)
  have HW := Lib.hid (Agg.belowThen HW.out (Nat.le_refl _) x9.h)
  generalize x9.w = v9 at *
  go_wp2_with fail
  refine (hasB (P := 32) (c := 2) (b := false) (by omega) (by omega) (by decide) _).mono ?_
  rintro e u11 ⟨rfl, rfl⟩
  by_cases hn0 : nm.isEmpty = true
  rotate_left
  · have hn1 : nm.isEmpty = false := by simpa using hn0
    have HQ1 := Lib.hid (show (nm != []) = true by cases nm with | nil => exact absurd hn1 (by decide) | cons _ _ => rfl)
    have HR := Lib.hid (show rightN k u wh nm bs.length ph pn ch = false from rightN_bad (b := !hasN (partsN k) 2 && (nm != [])) (by simp [rT]) (by rw [HPE.out, HQ1.out]; decide))
    clear hn0
    go_wp2_with (first | (with_reducible refine Agg.wpList_loadL HL.out.name rfl _ rfl rfl ?_))
    go_ret
    exact ⟨ret_bool HR.out.symm, HW.out⟩
  have HQ1 := Lib.hid (show (nm != []) = false by cases nm with | nil => rfl | cons _ _ => exact absurd hn0 (by simp))
  go_wp2_with (first | (with_reducible refine Agg.wpList_loadL HL.out.name rfl _ rfl rfl ?_))
  refine (hasB (P := 32) (c := 12) (b := false) (by omega) (by omega) (by decide) _).mono ?_
  rintro e u12 ⟨rfl, rfl⟩
  cases a7 with
  | false =>
    have HR := Lib.hid (show rightN k u wh nm bs.length ph pn ch = false from rightN_bad (b := !hasN (partsN k) 12 && !(ph == z20 && pn == [])) (by simp [rT]) (by rw [HPE.out, H7.out]; decide))
    go_wp2_with (first | (with_reducible refine Agg.wpList_loadL HL.out.path rfl _ rfl rfl ?_) | (with_reducible refine Agg.wpList_build0 27 rfl rfl (.agg (pC z20 [])) build_p0 ?_) | (with_reducible refine Agg.wpList_neqw 27 27 _ _ rfl rfl (pC ph pn) (pC z20 []) rfl rfl (!false) (by kernel_rfl) HNP.out ?_))
    go_ret
    exact ⟨ret_bool HR.out.symm, HW.out⟩
  | true =>
  go_wp2_with (first | (with_reducible refine Agg.wpList_loadL HL.out.path rfl _ rfl rfl ?_) | (with_reducible refine Agg.wpList_build0 27 rfl rfl (.agg (pC z20 [])) build_p0 ?_) | (with_reducible refine Agg.wpList_neqw 27 27 _ _ rfl rfl (pC ph pn) (pC z20 []) rfl rfl (!true) (by kernel_rfl) HNP.out ?_))
  try simp only [Act.put, List.setIfInBounds_toArray, List.set_cons_succ, List.set_cons_zero]
  refine Agg.wp_region_later_lit (by kernel_rfl) (by kernel_rfl) ?_
  repeat (first | go_big_quiet_skip | ((first | (with_reducible refine Agg.wpQuiet_loadL HL.out.path rfl _ rfl rfl ?_)); simp only [Act.put, List.setIfInBounds_toArray, List.set_cons_succ, List.set_cons_zero]) | go_big_quiet_step ((first | (go_at_call 39; first | exact Agg.Calls.later (sameBelow (hasB (P := 32) (c := 1) (b := false) (by omega) (by omega) (by decide) _)) | exact Agg.Calls.later (sameBelow (hasB (P := 32) (c := 2) (b := false) (by omega) (by omega) (by decide) _)) | exact Agg.Calls.later (sameBelow (hasB (P := 32) (c := 12) (b := false) (by omega) (by omega) (by decide) _)) | exact Agg.Calls.later (sameBelow (hasB (P := 32) (c := 8) (b := false) (by omega) (by omega) (by decide) _)) | exact Agg.Calls.later (sameBelow (hasB (P := 32) (c := 16) (b := false) (by omega) (by omega) (by decide) _)) | exact Agg.Calls.later (sameBelow (hasB (P := 32) (c := 32) (b := true) (by omega) (by omega) (by decide) _))) | (go_at_call 64; exact Agg.Calls.later (sameBelow (withinB H3.out _))) | (go_at_call 65; exact Agg.Calls.later (HNM.out _)) | (go_at_call 66; exact Agg.Calls.later (HND.out _)) | (go_at_call 57; exact Agg.Calls.later (sameBelow (HMO.out _))))))
  refine wpQuiet_nil ?_
  intro _ hw'
  obtain ⟨x12, rfl⟩ := hw'
  have HL := Lib.hid (HL.out.below x12.h)
  have HW := Lib.hid (Agg.belowThen HW.out (Nat.le_refl _) x12.h)
  generalize x12.w = v12 at *
  go_wp2_with fail
  refine (hasB (P := 32) (c := 16) (b := false) (by omega) (by omega) (by decide) _).mono ?_
  rintro e u14 ⟨rfl, rfl⟩
  cases a9 with
  | false =>
    have HR := Lib.hid (show rightN k u wh nm bs.length ph pn ch = false from rightN_bad (b := !hasN (partsN k) 16 && !(ch == z20)) (by simp [rT]) (by rw [HPE.out, H9.out]; decide))
    go_wp2_with (first | (with_reducible refine Agg.wpList_loadL HL.out.cls rfl _ rfl rfl ?_) | (with_reducible refine Agg.wpList_build0 25 rfl rfl (.agg (hC z20)) build_zero ?_) | (with_reducible refine Agg.wpList_neqw 25 25 _ _ rfl rfl (hC ch) (hC z20) rfl rfl (!false) (by kernel_rfl) HNH.out ?_))
    go_ret
    exact ⟨ret_bool HR.out.symm, HW.out⟩
  | true =>
  go_wp2_with (first | (with_reducible refine Agg.wpList_loadL HL.out.cls rfl _ rfl rfl ?_) | (with_reducible refine Agg.wpList_build0 25 rfl rfl (.agg (hC z20)) build_zero ?_) | (with_reducible refine Agg.wpList_neqw 25 25 _ _ rfl rfl (hC ch) (hC z20) rfl rfl (!true) (by kernel_rfl) HNH.out ?_))
  have HR := Lib.hid (show rightN k u wh nm bs.length ph pn ch = decide (bs.length ≤ mostN k) by
    unfold rightN
    have e : (rT k u wh nm ph pn ch).all (fun b => !b) = true := by simp only [rT, HPE.out, H1.out, H2.out, H3.out, H5.out, H8.out, hq0, HQ1.out, H7.out, H9.out, show hasN 32 1 = false from by decide, show hasN 32 2 = false from by decide, show hasN 32 12 = false from by decide, show hasN 32 8 = false from by decide, show hasN 32 16 = false from by decide]; simp
    rw [e, Bool.true_and])
  obtain ⟨M, hM⟩ : ∃ M, mostN k = M := ⟨_, rfl⟩
  have HMO := Lib.hid (fun W => (show Calls Tryz.prog 57 #[.int .i64 k] W fun e w' => e = .returned (.int .i64 (M : Int)) ∧ w' = W by rw [← hM]; exact most_any k W))
  have HR := Lib.hid (show rightN k u wh nm bs.length ph pn ch = decide (bs.length ≤ M) by rw [HR.out, hM])
  clear hM
  try simp only [Act.put, List.setIfInBounds_toArray, List.set_cons_succ, List.set_cons_zero]
  refine Agg.wp_region_later_lit (by kernel_rfl) (by kernel_rfl) ?_
  repeat (first | go_big_quiet_skip | ((first | (with_reducible refine Agg.wpQuiet_loadL HL.out.bytes rfl _ rfl rfl ?_) | (with_reducible refine Agg.wpQuiet_loadL HL.out.kind rfl _ rfl rfl ?_)); simp only [Act.put, List.setIfInBounds_toArray, List.set_cons_succ, List.set_cons_zero]) | go_big_quiet_step ((first | (go_at_call 39; first | exact Agg.Calls.later (sameBelow (hasB (P := 32) (c := 1) (b := false) (by omega) (by omega) (by decide) _)) | exact Agg.Calls.later (sameBelow (hasB (P := 32) (c := 2) (b := false) (by omega) (by omega) (by decide) _)) | exact Agg.Calls.later (sameBelow (hasB (P := 32) (c := 12) (b := false) (by omega) (by omega) (by decide) _)) | exact Agg.Calls.later (sameBelow (hasB (P := 32) (c := 8) (b := false) (by omega) (by omega) (by decide) _)) | exact Agg.Calls.later (sameBelow (hasB (P := 32) (c := 16) (b := false) (by omega) (by omega) (by decide) _)) | exact Agg.Calls.later (sameBelow (hasB (P := 32) (c := 32) (b := true) (by omega) (by omega) (by decide) _))) | (go_at_call 64; exact Agg.Calls.later (sameBelow (withinB H3.out _))) | (go_at_call 65; exact Agg.Calls.later (HNM.out _)) | (go_at_call 66; exact Agg.Calls.later (HND.out _)) | (go_at_call 57; exact Agg.Calls.later (sameBelow (HMO.out _))))))
  refine wpQuiet_nil ?_
  intro _ hw'
  obtain ⟨x14, rfl⟩ := hw'
  have HL := Lib.hid (HL.out.below x14.h)
  have HW := Lib.hid (Agg.belowThen HW.out (Nat.le_refl _) x14.h)
  generalize x14.w = v14 at *
  go_wp2_with fail
  go_ret
  exact ⟨ret_bool HR.out.symm, HW.out⟩
set_option maxRecDepth 100000 in
set_option maxHeartbeats 4000000 in
theorem right_16 (k u wh : Int) (nm : List UInt8) (vb : Value) (bs ph pn ch : List UInt8) (hP : partsN k = 16) (hl : ph.length = 20) (hc : ch.length = 20) (w : World) (hb : BytesAt w vb bs) :
    Calls Tryz.prog 13 #[.agg (rqG k u wh nm vb ph pn ch)] w fun e w' => e = .returned (.bool (rightN k u wh nm bs.length ph pn ch)) ∧ Below w.heap.size w w' := by
  have hlen := fun W => bytes_len hb W
  have HP := Lib.hid (fun W => (show Calls Tryz.prog 37 #[.int .i64 k] W fun e w' => e = .returned (.int .u8 16) ∧ w' = W by have := parts_any k W; rwa [hP] at this))
  have HPE := Lib.hid hP
  obtain ⟨a1, ha1⟩ : ∃ b, (decide ((1 : Int) ≤ k) && decide (k ≤ 10)) = b := ⟨_, rfl⟩
  obtain ⟨a2, ha2⟩ : ∃ b, (decide ((1 : Int) ≤ u) && decide (u ≤ 8)) = b := ⟨_, rfl⟩
  obtain ⟨a3, ha3⟩ : ∃ b, (decide ((1 : Int) ≤ wh) && decide (wh ≤ 16)) = b := ⟨_, rfl⟩
  obtain ⟨a5, ha5⟩ : ∃ b, isName nm = b := ⟨_, rfl⟩
  obtain ⟨a7, ha7⟩ : ∃ b, (ph == z20 && pn == []) = b := ⟨_, rfl⟩
  obtain ⟨a8, ha8⟩ : ∃ b, namedN ph pn false = b := ⟨_, rfl⟩
  obtain ⟨a9, ha9⟩ : ∃ b, (ch == z20) = b := ⟨_, rfl⟩
  have H1 := Lib.hid ha1
  have H2 := Lib.hid ha2
  have H3 := Lib.hid ha3
  have H5 := Lib.hid ha5
  have H7 := Lib.hid ha7
  have H8 := Lib.hid ha8
  have H9 := Lib.hid ha9
  have hnm := name_any nm
  rw [ha5] at hnm
  have HNM := Lib.hid hnm
  have hnp : ∀ W, (binOp .neq 27 (.agg (pC ph pn)) (.agg (pC z20 []))).run Tryz.prog W = .ok (.bool (!a7)) W := fun W => by rw [neq_path ph pn z20 [] hl rfl W, ha7]
  have hnh : ∀ W, (binOp .neq 25 (.agg (hC ch)) (.agg (hC z20))).run Tryz.prog W = .ok (.bool (!a9)) W := fun W => by rw [neq_hash ch z20 hc rfl W, ha9]
  have HMO := Lib.hid (fun W => most_any k W)
  have HNP := Lib.hid hnp
  have HNH := Lib.hid hnh
  have HND := Lib.hid (fun W => (show Calls Tryz.prog 66 #[.agg (pC ph pn), .bool false] W fun e w' => e = .returned (.bool a8) ∧ Below W.heap.size W w' by have := named_any ph pn false hl W; rwa [ha8] at this))
  clear hP ha1 ha2 ha3 ha5 ha7 ha8 ha9 hnm hnp hnh
  go_enter Tryz.func13, Tryz.ntmps13
  go_wp2_with (first | (with_reducible refine Agg.wpList_box rfl 29 _ rfl (rqG k u wh nm vb ph pn ch) rfl ?_; intro g w1 hb1 hx1 hg; have HL := Lib.hid (RqG.of_blk hb1 hl hc); have HW := Lib.hid hx1; clear hb1 hx1 hg) | (with_reducible refine Agg.wpList_loadL HL.out.kind rfl _ rfl rfl ?_))
  refine (HP.out _).mono ?_
  rintro e w2 ⟨rfl, rfl⟩
  go_wp2_with (first | (with_reducible refine Agg.wpList_loadL HL.out.kind rfl _ rfl rfl ?_))
  refine (withinB H1.out _).mono ?_
  rintro e w3 ⟨rfl, rfl⟩
  cases a1 with
  | false =>
    have HR := Lib.hid (show rightN k u wh nm bs.length ph pn ch = false from rightN_bad (b := !(decide (1 ≤ k) && decide (k ≤ 10))) (by simp [rT]) (by rw [H1.out]; rfl))
    go_wp2_with fail
    go_ret
    exact ⟨ret_bool HR.out.symm, HW.out⟩
  | true =>
  go_wp2_with (first | (with_reducible refine Agg.wpList_loadL HL.out.user rfl _ rfl rfl ?_))
  refine (withinB H2.out _).mono ?_
  rintro e w4 ⟨rfl, rfl⟩
  cases a2 with
  | false =>
    have HR := Lib.hid (show rightN k u wh nm bs.length ph pn ch = false from rightN_bad (b := !(decide (1 ≤ u) && decide (u ≤ 8))) (by simp [rT]) (by rw [H2.out]; rfl))
    go_wp2_with fail
    go_ret
    exact ⟨ret_bool HR.out.symm, HW.out⟩
  | true =>
  cases a3 with
  | true =>
    have HR := Lib.hid (show rightN k u wh nm bs.length ph pn ch = false from rightN_bad (b := hasN (partsN k) 1 != (decide (1 ≤ wh) && decide (wh ≤ 16))) (by simp [rT]) (by rw [HPE.out, H3.out]; decide))
    go_wp2_with fail
    try simp only [Act.put, List.setIfInBounds_toArray, List.set_cons_succ, List.set_cons_zero]
    refine Agg.wp_region_later_lit (by kernel_rfl) (by kernel_rfl) ?_
    repeat (first | go_big_quiet_skip | ((first | (with_reducible refine Agg.wpQuiet_loadL HL.out.who rfl _ rfl rfl ?_)); simp only [Act.put, List.setIfInBounds_toArray, List.set_cons_succ, List.set_cons_zero]) | go_big_quiet_step ((first | (go_at_call 39; first | exact Agg.Calls.later (sameBelow (hasB (P := 16) (c := 1) (b := false) (by omega) (by omega) (by decide) _)) | exact Agg.Calls.later (sameBelow (hasB (P := 16) (c := 2) (b := false) (by omega) (by omega) (by decide) _)) | exact Agg.Calls.later (sameBelow (hasB (P := 16) (c := 12) (b := false) (by omega) (by omega) (by decide) _)) | exact Agg.Calls.later (sameBelow (hasB (P := 16) (c := 8) (b := false) (by omega) (by omega) (by decide) _)) | exact Agg.Calls.later (sameBelow (hasB (P := 16) (c := 16) (b := true) (by omega) (by omega) (by decide) _)) | exact Agg.Calls.later (sameBelow (hasB (P := 16) (c := 32) (b := false) (by omega) (by omega) (by decide) _))) | (go_at_call 64; exact Agg.Calls.later (sameBelow (withinB H3.out _))) | (go_at_call 65; exact Agg.Calls.later (HNM.out _)) | (go_at_call 66; exact Agg.Calls.later (HND.out _)) | (go_at_call 57; exact Agg.Calls.later (sameBelow (HMO.out _))))))
    refine wpQuiet_nil ?_
    intro _ hw'
    obtain ⟨x5, rfl⟩ := hw'
    have HL := Lib.hid (HL.out.below x5.h)
    have HW := Lib.hid (Agg.belowThen HW.out (Nat.le_refl _) x5.h)
    generalize x5.w = v5 at *
    go_wp2_with fail
    go_ret
    exact ⟨ret_bool HR.out.symm, HW.out⟩
  | false =>
  go_wp2_with fail
  try simp only [Act.put, List.setIfInBounds_toArray, List.set_cons_succ, List.set_cons_zero]
  refine Agg.wp_region_later_lit (by kernel_rfl) (by kernel_rfl) ?_
  repeat (first | go_big_quiet_skip | ((first | (with_reducible refine Agg.wpQuiet_loadL HL.out.who rfl _ rfl rfl ?_)); simp only [Act.put, List.setIfInBounds_toArray, List.set_cons_succ, List.set_cons_zero]) | go_big_quiet_step ((first | (go_at_call 39; first | exact Agg.Calls.later (sameBelow (hasB (P := 16) (c := 1) (b := false) (by omega) (by omega) (by decide) _)) | exact Agg.Calls.later (sameBelow (hasB (P := 16) (c := 2) (b := false) (by omega) (by omega) (by decide) _)) | exact Agg.Calls.later (sameBelow (hasB (P := 16) (c := 12) (b := false) (by omega) (by omega) (by decide) _)) | exact Agg.Calls.later (sameBelow (hasB (P := 16) (c := 8) (b := false) (by omega) (by omega) (by decide) _)) | exact Agg.Calls.later (sameBelow (hasB (P := 16) (c := 16) (b := true) (by omega) (by omega) (by decide) _)) | exact Agg.Calls.later (sameBelow (hasB (P := 16) (c := 32) (b := false) (by omega) (by omega) (by decide) _))) | (go_at_call 64; exact Agg.Calls.later (sameBelow (withinB H3.out _))) | (go_at_call 65; exact Agg.Calls.later (HNM.out _)) | (go_at_call 66; exact Agg.Calls.later (HND.out _)) | (go_at_call 57; exact Agg.Calls.later (sameBelow (HMO.out _))))))
  refine wpQuiet_nil ?_
  intro _ hw'
  obtain ⟨x6, rfl⟩ := hw'
  have HL := Lib.hid (HL.out.below x6.h)
  have HW := Lib.hid (Agg.belowThen HW.out (Nat.le_refl _) x6.h)
  generalize x6.w = v6 at *
  go_wp2_with fail
  refine (hasB (P := 16) (c := 1) (b := false) (by omega) (by omega) (by decide) _).mono ?_
  rintro e u8 ⟨rfl, rfl⟩
  by_cases hw0 : wh = 0
  rotate_left
  · have hq0 : (wh != 0) = true := by simp [hw0]
    have HR := Lib.hid (show rightN k u wh nm bs.length ph pn ch = false from rightN_bad (b := !hasN (partsN k) 1 && (wh != 0)) (by simp [rT]) (by rw [HPE.out, hq0]; decide))
    clear hw0
    go_wp2_with (first | (with_reducible refine Agg.wpList_loadL HL.out.who rfl _ rfl rfl ?_))
    go_ret
    exact ⟨ret_bool HR.out.symm, HW.out⟩
  have HW0 := Lib.hid hw0
  have hq0 : (wh != 0) = false := by simp [hw0]
  clear hw0
  go_wp2_with (first | (with_reducible refine Agg.wpList_loadL HL.out.who rfl _ rfl rfl ?_))
  cases a5 with
  | true =>
    have HR := Lib.hid (show rightN k u wh nm bs.length ph pn ch = false from rightN_bad (b := hasN (partsN k) 2 != isName nm) (by simp [rT]) (by rw [HPE.out, H5.out]; decide))
    try simp only [Act.put, List.setIfInBounds_toArray, List.set_cons_succ, List.set_cons_zero]
    refine Agg.wp_region_later_lit (by kernel_rfl) (by kernel_rfl) ?_
    repeat (first | go_big_quiet_skip | ((first | (with_reducible refine Agg.wpQuiet_loadL HL.out.name rfl _ rfl rfl ?_)); simp only [Act.put, List.setIfInBounds_toArray, List.set_cons_succ, List.set_cons_zero]) | go_big_quiet_step ((first | (go_at_call 39; first | exact Agg.Calls.later (sameBelow (hasB (P := 16) (c := 1) (b := false) (by omega) (by omega) (by decide) _)) | exact Agg.Calls.later (sameBelow (hasB (P := 16) (c := 2) (b := false) (by omega) (by omega) (by decide) _)) | exact Agg.Calls.later (sameBelow (hasB (P := 16) (c := 12) (b := false) (by omega) (by omega) (by decide) _)) | exact Agg.Calls.later (sameBelow (hasB (P := 16) (c := 8) (b := false) (by omega) (by omega) (by decide) _)) | exact Agg.Calls.later (sameBelow (hasB (P := 16) (c := 16) (b := true) (by omega) (by omega) (by decide) _)) | exact Agg.Calls.later (sameBelow (hasB (P := 16) (c := 32) (b := false) (by omega) (by omega) (by decide) _))) | (go_at_call 64; exact Agg.Calls.later (sameBelow (withinB H3.out _))) | (go_at_call 65; exact Agg.Calls.later (HNM.out _)) | (go_at_call 66; exact Agg.Calls.later (HND.out _)) | (go_at_call 57; exact Agg.Calls.later (sameBelow (HMO.out _))))))
    refine wpQuiet_nil ?_
    intro _ hw'
    obtain ⟨x8, rfl⟩ := hw'
    have HL := Lib.hid (HL.out.below x8.h)
    have HW := Lib.hid (Agg.belowThen HW.out (Nat.le_refl _) x8.h)
    generalize x8.w = v8 at *
    go_wp2_with fail
    go_ret
    exact ⟨ret_bool HR.out.symm, HW.out⟩
  | false =>
  try simp only [Act.put, List.setIfInBounds_toArray, List.set_cons_succ, List.set_cons_zero]
  refine Agg.wp_region_later_lit (by kernel_rfl) (by kernel_rfl) ?_
  repeat (first | go_big_quiet_skip | ((first | (with_reducible refine Agg.wpQuiet_loadL HL.out.name rfl _ rfl rfl ?_)); simp only [Act.put, List.setIfInBounds_toArray, List.set_cons_succ, List.set_cons_zero]) | go_big_quiet_step ((first | (go_at_call 39; first | exact Agg.Calls.later (sameBelow (hasB (P := 16) (c := 1) (b := false) (by omega) (by omega) (by decide) _)) | exact Agg.Calls.later (sameBelow (hasB (P := 16) (c := 2) (b := false) (by omega) (by omega) (by decide) _)) | exact Agg.Calls.later (sameBelow (hasB (P := 16) (c := 12) (b := false) (by omega) (by omega) (by decide) _)) | exact Agg.Calls.later (sameBelow (hasB (P := 16) (c := 8) (b := false) (by omega) (by omega) (by decide) _)) | exact Agg.Calls.later (sameBelow (hasB (P := 16) (c := 16) (b := true) (by omega) (by omega) (by decide) _)) | exact Agg.Calls.later (sameBelow (hasB (P := 16) (c := 32) (b := false) (by omega) (by omega) (by decide) _))) | (go_at_call 64; exact Agg.Calls.later (sameBelow (withinB H3.out _))) | (go_at_call 65; exact Agg.Calls.later (HNM.out _)) | (go_at_call 66; exact Agg.Calls.later (HND.out _)) | (go_at_call 57; exact Agg.Calls.later (sameBelow (HMO.out _))))))
  refine wpQuiet_nil ?_
  intro _ hw'
  obtain ⟨x9, rfl⟩ := hw'
  have HL := Lib.hid (HL.out.below x9.h)
  have HW := Lib.hid (Agg.belowThen HW.out (Nat.le_refl _) x9.h)
  generalize x9.w = v9 at *
  go_wp2_with fail
  refine (hasB (P := 16) (c := 2) (b := false) (by omega) (by omega) (by decide) _).mono ?_
  rintro e u11 ⟨rfl, rfl⟩
  by_cases hn0 : nm.isEmpty = true
  rotate_left
  · have hn1 : nm.isEmpty = false := by simpa using hn0
    have HQ1 := Lib.hid (show (nm != []) = true by cases nm with | nil => exact absurd hn1 (by decide) | cons _ _ => rfl)
    have HR := Lib.hid (show rightN k u wh nm bs.length ph pn ch = false from rightN_bad (b := !hasN (partsN k) 2 && (nm != [])) (by simp [rT]) (by rw [HPE.out, HQ1.out]; decide))
    clear hn0
    go_wp2_with (first | (with_reducible refine Agg.wpList_loadL HL.out.name rfl _ rfl rfl ?_))
    go_ret
    exact ⟨ret_bool HR.out.symm, HW.out⟩
  have HQ1 := Lib.hid (show (nm != []) = false by cases nm with | nil => rfl | cons _ _ => exact absurd hn0 (by simp))
  go_wp2_with (first | (with_reducible refine Agg.wpList_loadL HL.out.name rfl _ rfl rfl ?_))
  refine (hasB (P := 16) (c := 12) (b := false) (by omega) (by omega) (by decide) _).mono ?_
  rintro e u12 ⟨rfl, rfl⟩
  cases a7 with
  | false =>
    have HR := Lib.hid (show rightN k u wh nm bs.length ph pn ch = false from rightN_bad (b := !hasN (partsN k) 12 && !(ph == z20 && pn == [])) (by simp [rT]) (by rw [HPE.out, H7.out]; decide))
    go_wp2_with (first | (with_reducible refine Agg.wpList_loadL HL.out.path rfl _ rfl rfl ?_) | (with_reducible refine Agg.wpList_build0 27 rfl rfl (.agg (pC z20 [])) build_p0 ?_) | (with_reducible refine Agg.wpList_neqw 27 27 _ _ rfl rfl (pC ph pn) (pC z20 []) rfl rfl (!false) (by kernel_rfl) HNP.out ?_))
    go_ret
    exact ⟨ret_bool HR.out.symm, HW.out⟩
  | true =>
  go_wp2_with (first | (with_reducible refine Agg.wpList_loadL HL.out.path rfl _ rfl rfl ?_) | (with_reducible refine Agg.wpList_build0 27 rfl rfl (.agg (pC z20 [])) build_p0 ?_) | (with_reducible refine Agg.wpList_neqw 27 27 _ _ rfl rfl (pC ph pn) (pC z20 []) rfl rfl (!true) (by kernel_rfl) HNP.out ?_))
  try simp only [Act.put, List.setIfInBounds_toArray, List.set_cons_succ, List.set_cons_zero]
  refine Agg.wp_region_later_lit (by kernel_rfl) (by kernel_rfl) ?_
  repeat (first | go_big_quiet_skip | ((first | (with_reducible refine Agg.wpQuiet_loadL HL.out.path rfl _ rfl rfl ?_)); simp only [Act.put, List.setIfInBounds_toArray, List.set_cons_succ, List.set_cons_zero]) | go_big_quiet_step ((first | (go_at_call 39; first | exact Agg.Calls.later (sameBelow (hasB (P := 16) (c := 1) (b := false) (by omega) (by omega) (by decide) _)) | exact Agg.Calls.later (sameBelow (hasB (P := 16) (c := 2) (b := false) (by omega) (by omega) (by decide) _)) | exact Agg.Calls.later (sameBelow (hasB (P := 16) (c := 12) (b := false) (by omega) (by omega) (by decide) _)) | exact Agg.Calls.later (sameBelow (hasB (P := 16) (c := 8) (b := false) (by omega) (by omega) (by decide) _)) | exact Agg.Calls.later (sameBelow (hasB (P := 16) (c := 16) (b := true) (by omega) (by omega) (by decide) _)) | exact Agg.Calls.later (sameBelow (hasB (P := 16) (c := 32) (b := false) (by omega) (by omega) (by decide) _))) | (go_at_call 64; exact Agg.Calls.later (sameBelow (withinB H3.out _))) | (go_at_call 65; exact Agg.Calls.later (HNM.out _)) | (go_at_call 66; exact Agg.Calls.later (HND.out _)) | (go_at_call 57; exact Agg.Calls.later (sameBelow (HMO.out _))))))
  refine wpQuiet_nil ?_
  intro _ hw'
  obtain ⟨x12, rfl⟩ := hw'
  have HL := Lib.hid (HL.out.below x12.h)
  have HW := Lib.hid (Agg.belowThen HW.out (Nat.le_refl _) x12.h)
  generalize x12.w = v12 at *
  go_wp2_with fail
  refine (hasB (P := 16) (c := 16) (b := true) (by omega) (by omega) (by decide) _).mono ?_
  rintro e u14 ⟨rfl, rfl⟩
  go_wp2_with fail
  have HR := Lib.hid (show rightN k u wh nm bs.length ph pn ch = decide (bs.length ≤ mostN k) by
    unfold rightN
    have e : (rT k u wh nm ph pn ch).all (fun b => !b) = true := by simp only [rT, HPE.out, H1.out, H2.out, H3.out, H5.out, H8.out, hq0, HQ1.out, H7.out, show hasN 16 1 = false from by decide, show hasN 16 2 = false from by decide, show hasN 16 12 = false from by decide, show hasN 16 8 = false from by decide, show hasN 16 16 = true from by decide]; simp
    rw [e, Bool.true_and])
  obtain ⟨M, hM⟩ : ∃ M, mostN k = M := ⟨_, rfl⟩
  have HMO := Lib.hid (fun W => (show Calls Tryz.prog 57 #[.int .i64 k] W fun e w' => e = .returned (.int .i64 (M : Int)) ∧ w' = W by rw [← hM]; exact most_any k W))
  have HR := Lib.hid (show rightN k u wh nm bs.length ph pn ch = decide (bs.length ≤ M) by rw [HR.out, hM])
  clear hM
  try simp only [Act.put, List.setIfInBounds_toArray, List.set_cons_succ, List.set_cons_zero]
  refine Agg.wp_region_later_lit (by kernel_rfl) (by kernel_rfl) ?_
  repeat (first | go_big_quiet_skip | ((first | (with_reducible refine Agg.wpQuiet_loadL HL.out.bytes rfl _ rfl rfl ?_) | (with_reducible refine Agg.wpQuiet_loadL HL.out.kind rfl _ rfl rfl ?_)); simp only [Act.put, List.setIfInBounds_toArray, List.set_cons_succ, List.set_cons_zero]) | go_big_quiet_step ((first | (go_at_call 39; first | exact Agg.Calls.later (sameBelow (hasB (P := 16) (c := 1) (b := false) (by omega) (by omega) (by decide) _)) | exact Agg.Calls.later (sameBelow (hasB (P := 16) (c := 2) (b := false) (by omega) (by omega) (by decide) _)) | exact Agg.Calls.later (sameBelow (hasB (P := 16) (c := 12) (b := false) (by omega) (by omega) (by decide) _)) | exact Agg.Calls.later (sameBelow (hasB (P := 16) (c := 8) (b := false) (by omega) (by omega) (by decide) _)) | exact Agg.Calls.later (sameBelow (hasB (P := 16) (c := 16) (b := true) (by omega) (by omega) (by decide) _)) | exact Agg.Calls.later (sameBelow (hasB (P := 16) (c := 32) (b := false) (by omega) (by omega) (by decide) _))) | (go_at_call 64; exact Agg.Calls.later (sameBelow (withinB H3.out _))) | (go_at_call 65; exact Agg.Calls.later (HNM.out _)) | (go_at_call 66; exact Agg.Calls.later (HND.out _)) | (go_at_call 57; exact Agg.Calls.later (sameBelow (HMO.out _))))))
  refine wpQuiet_nil ?_
  intro _ hw'
  obtain ⟨x14, rfl⟩ := hw'
  have HL := Lib.hid (HL.out.below x14.h)
  have HW := Lib.hid (Agg.belowThen HW.out (Nat.le_refl _) x14.h)
  generalize x14.w = v14 at *
  go_wp2_with fail
  go_ret
  exact ⟨ret_bool HR.out.symm, HW.out⟩
end Go.Proofs.YtpnolgliklmnmaaGreat
