/- wire.Get, Put: there and back, as the theorem asks it. (Several texts in one.) -/
import Derived.Test.YtpnolgliklmnmaaGreatGBB
import Derived.Test.YtpnolgliklmnmaaGreatGAT
import Derived.Test.YtpnolgliklmnmaaGreatGBA
import Derived.Test.YtpnolgliklmnmaaGreatMid
import Derived.Test.YtpnolgliklmnmaaGreatReqG1
import Derived.Test.YtpnolgliklmnmaaGreatReqG2
/-! wire.Get of any bytes. -/
namespace Go.Proofs.YtpnolgliklmnmaaGreat
open Go.RowKit Pl Go.Agg
set_option maxRecDepth 100000 in
set_option maxHeartbeats 4000000 in
theorem rget_36 (v : Value) (b : List UInt8) (m : Int) (hP : partsN ((sNum 10 (some b)).1 : Int) = 36) (w : World) (hl : b.length ≤ 16777216) (hm : w.cell? ⟨0, 0, none⟩ = some (.int .i64 m)) (hb : BytesAt w v b) :
    Calls Tryz.prog 11 #[v] w fun e w' => ∃ vb, e = .returned (.tuple #[.agg (rqG (rqOut b).k (rqOut b).u (rqOut b).wh (rqOut b).nm vb (rqOut b).ph (rqOut b).pn (rqOut b).ch), .int .i64 (rqErr b : Int)]) ∧ Own EB w.heap.size w' vb (rqOut b).bs ∧ Below w.heap.size w w' := by
  obtain ⟨k, s1, hk⟩ : ∃ k s, sNum 10 (some b) = (k, s) := ⟨_, _, rfl⟩
  rw [hk] at hP
  have HPE := Lib.hid (show partsN (k : Int) = 36 from hP)
  have hle := sNum_len 10 (some b)
  rw [hk] at hle
  have hl1 : stLen s1 ≤ 16777216 := Nat.le_trans hle hl
  have hl0 : stLen (some b) ≤ 16777216 := hl
  have HQ1 := Lib.hid hk
  have HP := Lib.hid (fun W => (show Calls Tryz.prog 37 #[.int .i64 k] W fun e w' => e = .returned (.int .u8 36) ∧ w' = W by have := parts_any (k : Int) W; rwa [HPE.out] at this))
  have HM := Lib.hid hm
  have HBY := Lib.hid hb
  clear hP hle hk hm hb
  go_enter Tryz.func11, Tryz.ntmps11
  go_wp2_with (first | (with_reducible refine Agg.wpList_zero rfl 29 rfl (rqG 0 0 0 [] (.slice none 0 0) z20 [] z20) rq_zero ?_; intro gr w1 hb1 hx1 hgr; have hlt1 := hb1.lt; have HB1 := Lib.hid hb1; have HX1 := Lib.hid hx1; clear hb1 hx1))
  refine (over_any v b _ hl (HBY.out.below HX1.out)).mono ?_
  rintro e w2 ⟨gc, v2, rfl, hgc, hcu, hx2⟩
  have HC2 := Lib.hid (CuS.good hcu)
  have hltc := hcu.blk.lt
  have HB2 := Lib.hid (HB1.out.below hx2)
  have HK2 := Lib.hid (Agg.belowThen HX1.out (Nat.le_refl _) hx2)
  have hs1 := HX1.out.size
  have hs2 := hx2.size
  clear hcu hx2
  go_wp2_with (first | (with_reducible refine Agg.wpList_build1 89 0 _ rfl rfl (.pointer (some ⟨gc, 0, none⟩)) rfl (.agg (gtC gc false)) (gt_build gc) ?_) | (with_reducible refine Agg.wpList_box rfl 89 _ rfl (gtC gc false) rfl ?_; intro gg w3 hb3 hx3 hgg; have HS3 := Lib.hid (⟨⟨hb3, HC2.out.below hx3⟩, HB2.out.below hx3, Agg.belowThen HK2.out (Nat.le_refl _) hx3, by omega, by omega, hgr, by omega, by omega⟩ : GeS 29 w w1.heap.size gr gg gc w3 (some b) false (rqG 0 0 0 [] (.slice none 0 0) z20 [] z20)); clear hb3 hx3) | (with_reducible refine Agg.wpList_loadL HS3.out.gt.ptr rfl _ rfl rfl ?_))
  refine (snum_any w1.heap.size gc 10 (some b) _ hl (by omega) HS3.out.gt.cur).mono ?_
  rintro e w4 ⟨rfl, hc, ho⟩
  rw [HQ1.out] at hc ⊢
  have HS4 := Lib.hid (HS3.out.step ho hc)
  clear hc ho
  go_wp2_with (first | (obtain ⟨w5, hrun, hb, ho⟩ := rqB_kind HS4.out.blk (k : Int); refine Agg.wpList_store rfl rfl 22 _ _ rfl (.pointer (some ⟨gr, 0, none⟩)) _ rfl rfl hrun ?_; have HS5 := Lib.hid (HS4.out.store hb ho (by decide) (by decide) (by decide)); clear hb ho hrun) | (with_reducible refine Agg.wpList_loadL HS5.out.gt.ptr rfl _ rfl rfl ?_))
  refine (snum_any w1.heap.size gc 8 s1 _ hl1 (by omega) HS5.out.gt.cur).mono ?_
  rintro e w6 ⟨rfl, hc, ho⟩
  obtain ⟨u, s2, hk⟩ : ∃ k s, sNum 8 s1 = (k, s) := ⟨_, _, rfl⟩
  have hle := sNum_len 8 s1
  rw [hk] at hc hle ⊢
  have hs2 : stLen s2 ≤ 16777216 := Nat.le_trans hle hl1
  have HQ2 := Lib.hid hk
  clear hle hk
  have HS6 := Lib.hid (HS5.out.step ho hc)
  clear hc ho
  go_wp2_with (first | (obtain ⟨w7, hrun, hb, ho⟩ := rqB_user HS6.out.blk (u : Int); refine Agg.wpList_store rfl rfl 3 _ _ rfl (.pointer (some ⟨gr, 1, none⟩)) _ rfl rfl hrun ?_; have HS7 := Lib.hid (HS6.out.store hb ho (by decide) (by decide) (by decide)); clear hb ho hrun) | (with_reducible refine Agg.wpList_loadL (RqG.of_blk HS7.out.blk z20_length z20_length).kind rfl _ rfl rfl ?_))
  refine (HP.out _).mono ?_
  rintro e u3 ⟨rfl, rfl⟩
  go_wp2_with fail
  refine (hasB (P := 36) (c := 1) (b := false) (by omega) (by omega) (by decide) _).mono ?_
  rintro e u8 ⟨rfl, rfl⟩
  go_wp2_with fail
  refine (hasB (P := 36) (c := 2) (b := false) (by omega) (by omega) (by decide) _).mono ?_
  rintro e u9 ⟨rfl, rfl⟩
  go_wp2_with fail
  refine (hasB (P := 36) (c := 12) (b := true) (by omega) (by omega) (by decide) _).mono ?_
  rintro e u10 ⟨rfl, rfl⟩
  go_wp2_with fail
  refine (gpath_any w1.heap.size gg gc s2 false m _ hs2 (HS7.out.cell HM.out) HS7.out.gt).mono ?_
  rintro e w11 ⟨rfl, hg, ho⟩
  obtain ⟨t, s5, hk⟩ : ∃ k s, sText 57 s2 = (k, s) := ⟨_, _, rfl⟩
  have hle := sText_len 57 s2
  rw [hk] at hg hle ⊢
  obtain ⟨od, hod⟩ : ∃ x, textOdd t = x := ⟨_, rfl⟩
  rw [Bool.false_or, hod] at hg
  have hs5 : stLen s5 ≤ 16777216 := Nat.le_trans hle hs2
  have HQ5 := Lib.hid hk
  have HOD := Lib.hid hod
  have HS11 := Lib.hid (HS7.out.stepG ho (fun _ h => h) hg)
  have HPL := Lib.hid (parseH_length t)
  clear hle hk hg ho hod
  go_wp2_with (first | (obtain ⟨w12, hrun, hb, ho⟩ := rqB_path HS11.out.blk z20_length (parseH t) (parseN t) HPL.out; refine Agg.wpList_store rfl rfl 27 _ _ rfl (.pointer (some ⟨gr, 5, none⟩)) _ rfl rfl hrun ?_; have HS12 := Lib.hid (HS11.out.store hb ho (by decide) (by decide) (by decide)); clear hb ho hrun))
  refine (hasB (P := 36) (c := 16) (b := false) (by omega) (by omega) (by decide) _).mono ?_
  rintro e u13 ⟨rfl, rfl⟩
  go_wp2_with fail
  refine (hasB (P := 36) (c := 32) (b := true) (by omega) (by omega) (by decide) _).mono ?_
  rintro e u14 ⟨rfl, rfl⟩
  go_wp2_with fail
  have HMO := Lib.hid (most_le (k : Int))
  have HLK := Lib.hid (RqG.of_blk HS12.out.blk HPL.out z20_length)
  refine Agg.wp_region_row 7 (fun w' => ∃ x : Later _, w' = x.w) (by kernel_rfl) (by kernel_rfl) ⟨⟨_, (Below.refl _ _).drew⟩, rfl⟩ ?_
  simp only [List.take_succ_cons, List.take_zero, List.drop_succ_cons, List.drop_zero]
  repeat (first | go_big_quiet_skip | ((first | (with_reducible refine Agg.wpQuiet_loadL HS12.out.gt.ptr rfl _ rfl rfl ?_) | (with_reducible refine Agg.wpQuiet_loadL HLK.out.kind rfl _ rfl rfl ?_)); simp only [Act.put, List.setIfInBounds_toArray, List.set_cons_succ, List.set_cons_zero]) | go_big_quiet_step ((go_at_call 57; exact Agg.Calls.later_same ((most_any (k : Int) _).mono fun _ _ h => ⟨h.1, h.2.symm⟩))))
  refine wpQuiet_nil ?_
  intro _ hw'
  obtain ⟨x, rfl⟩ := hw'
  have HS15 := Lib.hid (HS12.out.later x.h)
  go_wp2_with fail
  refine (stext_any w1.heap.size gc (mostN (k : Int)) s5 _ hs5 HS15.out.gt.cur).mono ?_
  rintro e w16 ⟨ub, rfl, hu, hc, ho⟩
  obtain ⟨bs, s7, hk⟩ : ∃ k' s, sText (mostN (k : Int)) s5 = (k', s) := ⟨_, _, rfl⟩
  have hle := sText_le (mostN (k : Int)) s5
  rw [hk] at hc hle hu
  have HQ7 := Lib.hid hk
  have HS16 := Lib.hid (HS15.out.step ho hc)
  have HU7 := Lib.hid hu.slice
  have hbl : bs.length ≤ 4096 := Nat.le_trans hle HMO.out
  clear hle hk hc ho hu
  go_wp2_with fail
  refine (bclone_any ub bs _ (by omega) HU7.out).mono ?_
  rintro e w17 ⟨vb, rfl, hvb, hx⟩
  have HS17 := Lib.hid (HS16.out.later hx)
  have HVB := Lib.hid (hvb.lower (HS16.out.below.size))
  obtain ⟨pv, cv, hvf⟩ := hvb.slice.form
  have HVC := Lib.hid (show vb.cells = #[vb] ∧ vb.oneCell' = true from by subst hvf; exact ⟨rfl, rfl⟩)
  clear hvb hx hvf
  go_wp2_with (first | (obtain ⟨w18, hrun, hb, ho⟩ := rqB_bytes HS17.out.blk vb HVC.out.1 HVC.out.2; refine Agg.wpList_store rfl rfl 23 _ _ rfl (.pointer (some ⟨gr, 4, none⟩)) _ rfl rfl hrun ?_; have HS18 := Lib.hid (HS17.out.store hb ho (by decide) (by decide) (by decide)); have HVB := Lib.hid (own_keepT HVB.out ho HS17.out.blk (by decide)); clear hb ho hrun))
  refine (gok_any w1.heap.size gg gc s7 od _ HS18.out.gt).mono ?_
  rintro e wk ⟨rfl, rfl⟩
  have HG := Lib.hid (get_parts HQ1.out HPE.out HQ2.out (show pW 36 s2 = (0, s2) from rfl) (show pN 36 s2 = ([], s2) from rfl) (show pT 36 s2 = (t, s5) from HQ5.out) (show pH 36 s5 = (z20, s5) from rfl) (show pB 36 (mostN (k : Int)) s5 = (bs, s7) from HQ7.out))
  obtain ⟨ok, hok⟩ : ∃ x, (decide (s7 = some []) && !od) = x := ⟨_, rfl⟩
  rw [hok]
  have HOK := Lib.hid hok
  clear hok
  cases ok with
  | false =>
    have HN := Lib.hid (show getRq b = none from by
      have h := HOK.out
      rw [HG.out, if_neg]
      rintro ⟨h1, h2, _⟩
      rw [HOD.out] at h2
      simp only [h1, h2, decide_true, Bool.not_false, Bool.and_true, reduceCtorEq] at h)
    go_wp2_with (first | (with_reducible refine Agg.wpList_build0 29 rfl rfl (.agg (rqG 0 0 0 [] (.slice none 0 0) z20 [] z20)) rq_build0 ?_) | (refine Agg.wpList_put rfl rfl 29 _ _ rfl gr (rqG 0 0 0 [] (.slice none 0 0) z20 [] z20) _ rfl rfl HS18.out.blk (rq_info z20_length z20_length) (by rw [rqG_size HPL.out z20_length, rqG_size z20_length z20_length]) (by kernel_rfl) ?_; intro w90 hb90 hx90 hs90 hk90))
    have hx := HS18.out.below.trans (hx90.mono HS18.out.gr_ge)
    refine Agg.post_row_tmp rfl rfl rfl hb90 rq_under rfl (rq_info z20_length z20_length) rfl ⟨.slice none 0 0, ?_, ?_, hx⟩
    · rw [(rqOut_none HN.out).1, (rqOut_none HN.out).2]; rfl
    · rw [(rqOut_none HN.out).1]; exact Own.nil _ _ _
  | true =>
    have HBS := Lib.hid (show BytesAt wk vb bs from (HVB.out : Own EB w.heap.size wk vb bs).slice)
    go_wp2_with (first | (with_reducible refine Agg.wpList_loadL (RqG.of_blk HS18.out.blk HPL.out z20_length).all rfl _ rfl rfl ?_))
    refine (right_any k u 0 [] vb bs (parseH t) (parseN t) z20 HPL.out z20_length _ HBS.out).mono ?_
    rintro e w91 ⟨rfl, hx91⟩
    have HS91 := Lib.hid (HS18.out.later hx91)
    have HO91 := Lib.hid ((HVB.out : Own EB w.heap.size wk vb bs).below hx91)
    clear hx91
    cases hr : rightN k u 0 [] bs.length (parseH t) (parseN t) z20 with
    | false =>
      have HN := Lib.hid (show getRq b = none from by
        rw [HG.out, if_neg]
        rintro ⟨_, _, h3⟩
        have h3 : rightN k u 0 [] bs.length (parseH t) (parseN t) z20 = true := h3
        rw [hr] at h3
        exact absurd h3 (by decide))
      go_wp2_with (first | (with_reducible refine Agg.wpList_build0 29 rfl rfl (.agg (rqG 0 0 0 [] (.slice none 0 0) z20 [] z20)) rq_build0 ?_) | (refine Agg.wpList_put rfl rfl 29 _ _ rfl gr (rqG 0 0 0 [] (.slice none 0 0) z20 [] z20) _ rfl rfl HS91.out.blk (rq_info z20_length z20_length) (by rw [rqG_size HPL.out z20_length, rqG_size z20_length z20_length]) (by kernel_rfl) ?_; intro w90 hb90 hx90 hs90 hk90))
      have hx := HS91.out.below.trans (hx90.mono HS91.out.gr_ge)
      refine Agg.post_row_tmp rfl rfl rfl hb90 rq_under rfl (rq_info z20_length z20_length) rfl ⟨.slice none 0 0, ?_, ?_, hx⟩
      · rw [(rqOut_none HN.out).1, (rqOut_none HN.out).2]; rfl
      · rw [(rqOut_none HN.out).1]; exact Own.nil _ _ _
    | true =>
      have HY := Lib.hid (show getRq b = some ⟨k, u, 0, [], bs, parseH t, parseN t, z20⟩ from by
        have h := HOK.out
        simp only [Bool.and_eq_true, decide_eq_true_eq, Bool.not_eq_true'] at h
        exact HG.out.trans (if_pos ⟨h.1, HOD.out.trans h.2, hr⟩))
      go_wp2_with (first | (with_reducible refine Agg.wpList_loadL (RqG.of_blk HS91.out.blk HPL.out z20_length).all rfl _ rfl rfl ?_) | (refine Agg.wpList_put rfl rfl 29 _ _ rfl gr (rqG k u 0 [] vb (parseH t) (parseN t) z20) _ rfl rfl HS91.out.blk (rq_info HPL.out z20_length) rfl (rq_one HBS.out _ _ _ _ _ _ _) ?_; intro w90 hb90 hx90 hs90 hk90))
      have hx := HS91.out.below.trans (hx90.mono HS91.out.gr_ge)
      have ho90 : Only (· = gr) _ w90 := Only.of_eq hx90 hs90 hk90 rfl
      refine Agg.post_row_tmp rfl rfl rfl hb90 rq_under rfl (rq_info HPL.out z20_length) rfl ⟨vb, ?_, ?_, hx⟩
      · rw [(rqOut_some HY.out).1, (rqOut_some HY.out).2]; rfl
      · rw [(rqOut_some HY.out).1]; exact own_keepT HO91.out ho90 HS91.out.blk (by decide)
set_option maxRecDepth 100000 in
set_option maxHeartbeats 4000000 in
theorem rget_8 (v : Value) (b : List UInt8) (m : Int) (hP : partsN ((sNum 10 (some b)).1 : Int) = 8) (w : World) (hl : b.length ≤ 16777216) (hm : w.cell? ⟨0, 0, none⟩ = some (.int .i64 m)) (hb : BytesAt w v b) :
    Calls Tryz.prog 11 #[v] w fun e w' => ∃ vb, e = .returned (.tuple #[.agg (rqG (rqOut b).k (rqOut b).u (rqOut b).wh (rqOut b).nm vb (rqOut b).ph (rqOut b).pn (rqOut b).ch), .int .i64 (rqErr b : Int)]) ∧ Own EB w.heap.size w' vb (rqOut b).bs ∧ Below w.heap.size w w' := by
  obtain ⟨k, s1, hk⟩ : ∃ k s, sNum 10 (some b) = (k, s) := ⟨_, _, rfl⟩
  rw [hk] at hP
  have HPE := Lib.hid (show partsN (k : Int) = 8 from hP)
  have hle := sNum_len 10 (some b)
  rw [hk] at hle
  have hl1 : stLen s1 ≤ 16777216 := Nat.le_trans hle hl
  have hl0 : stLen (some b) ≤ 16777216 := hl
  have HQ1 := Lib.hid hk
  have HP := Lib.hid (fun W => (show Calls Tryz.prog 37 #[.int .i64 k] W fun e w' => e = .returned (.int .u8 8) ∧ w' = W by have := parts_any (k : Int) W; rwa [HPE.out] at this))
  have HM := Lib.hid hm
  have HBY := Lib.hid hb
  clear hP hle hk hm hb
  go_enter Tryz.func11, Tryz.ntmps11
  go_wp2_with (first | (with_reducible refine Agg.wpList_zero rfl 29 rfl (rqG 0 0 0 [] (.slice none 0 0) z20 [] z20) rq_zero ?_; intro gr w1 hb1 hx1 hgr; have hlt1 := hb1.lt; have HB1 := Lib.hid hb1; have HX1 := Lib.hid hx1; clear hb1 hx1))
  refine (over_any v b _ hl (HBY.out.below HX1.out)).mono ?_
  rintro e w2 ⟨gc, v2, rfl, hgc, hcu, hx2⟩
  have HC2 := Lib.hid (CuS.good hcu)
  have hltc := hcu.blk.lt
  have HB2 := Lib.hid (HB1.out.below hx2)
  have HK2 := Lib.hid (Agg.belowThen HX1.out (Nat.le_refl _) hx2)
  have hs1 := HX1.out.size
  have hs2 := hx2.size
  clear hcu hx2
  go_wp2_with (first | (with_reducible refine Agg.wpList_build1 89 0 _ rfl rfl (.pointer (some ⟨gc, 0, none⟩)) rfl (.agg (gtC gc false)) (gt_build gc) ?_) | (with_reducible refine Agg.wpList_box rfl 89 _ rfl (gtC gc false) rfl ?_; intro gg w3 hb3 hx3 hgg; have HS3 := Lib.hid (⟨⟨hb3, HC2.out.below hx3⟩, HB2.out.below hx3, Agg.belowThen HK2.out (Nat.le_refl _) hx3, by omega, by omega, hgr, by omega, by omega⟩ : GeS 29 w w1.heap.size gr gg gc w3 (some b) false (rqG 0 0 0 [] (.slice none 0 0) z20 [] z20)); clear hb3 hx3) | (with_reducible refine Agg.wpList_loadL HS3.out.gt.ptr rfl _ rfl rfl ?_))
  refine (snum_any w1.heap.size gc 10 (some b) _ hl (by omega) HS3.out.gt.cur).mono ?_
  rintro e w4 ⟨rfl, hc, ho⟩
  rw [HQ1.out] at hc ⊢
  have HS4 := Lib.hid (HS3.out.step ho hc)
  clear hc ho
  go_wp2_with (first | (obtain ⟨w5, hrun, hb, ho⟩ := rqB_kind HS4.out.blk (k : Int); refine Agg.wpList_store rfl rfl 22 _ _ rfl (.pointer (some ⟨gr, 0, none⟩)) _ rfl rfl hrun ?_; have HS5 := Lib.hid (HS4.out.store hb ho (by decide) (by decide) (by decide)); clear hb ho hrun) | (with_reducible refine Agg.wpList_loadL HS5.out.gt.ptr rfl _ rfl rfl ?_))
  refine (snum_any w1.heap.size gc 8 s1 _ hl1 (by omega) HS5.out.gt.cur).mono ?_
  rintro e w6 ⟨rfl, hc, ho⟩
  obtain ⟨u, s2, hk⟩ : ∃ k s, sNum 8 s1 = (k, s) := ⟨_, _, rfl⟩
  have hle := sNum_len 8 s1
  rw [hk] at hc hle ⊢
  have hs2 : stLen s2 ≤ 16777216 := Nat.le_trans hle hl1
  have HQ2 := Lib.hid hk
  clear hle hk
  have HS6 := Lib.hid (HS5.out.step ho hc)
  clear hc ho
  go_wp2_with (first | (obtain ⟨w7, hrun, hb, ho⟩ := rqB_user HS6.out.blk (u : Int); refine Agg.wpList_store rfl rfl 3 _ _ rfl (.pointer (some ⟨gr, 1, none⟩)) _ rfl rfl hrun ?_; have HS7 := Lib.hid (HS6.out.store hb ho (by decide) (by decide) (by decide)); clear hb ho hrun) | (with_reducible refine Agg.wpList_loadL (RqG.of_blk HS7.out.blk z20_length z20_length).kind rfl _ rfl rfl ?_))
  refine (HP.out _).mono ?_
  rintro e u3 ⟨rfl, rfl⟩
  go_wp2_with fail
  refine (hasB (P := 8) (c := 1) (b := false) (by omega) (by omega) (by decide) _).mono ?_
  rintro e u8 ⟨rfl, rfl⟩
  go_wp2_with fail
  refine (hasB (P := 8) (c := 2) (b := false) (by omega) (by omega) (by decide) _).mono ?_
  rintro e u9 ⟨rfl, rfl⟩
  go_wp2_with fail
  refine (hasB (P := 8) (c := 12) (b := true) (by omega) (by omega) (by decide) _).mono ?_
  rintro e u10 ⟨rfl, rfl⟩
  go_wp2_with fail
  refine (gpath_any w1.heap.size gg gc s2 false m _ hs2 (HS7.out.cell HM.out) HS7.out.gt).mono ?_
  rintro e w11 ⟨rfl, hg, ho⟩
  obtain ⟨t, s5, hk⟩ : ∃ k s, sText 57 s2 = (k, s) := ⟨_, _, rfl⟩
  have hle := sText_len 57 s2
  rw [hk] at hg hle ⊢
  obtain ⟨od, hod⟩ : ∃ x, textOdd t = x := ⟨_, rfl⟩
  rw [Bool.false_or, hod] at hg
  have hs5 : stLen s5 ≤ 16777216 := Nat.le_trans hle hs2
  have HQ5 := Lib.hid hk
  have HOD := Lib.hid hod
  have HS11 := Lib.hid (HS7.out.stepG ho (fun _ h => h) hg)
  have HPL := Lib.hid (parseH_length t)
  clear hle hk hg ho hod
  go_wp2_with (first | (obtain ⟨w12, hrun, hb, ho⟩ := rqB_path HS11.out.blk z20_length (parseH t) (parseN t) HPL.out; refine Agg.wpList_store rfl rfl 27 _ _ rfl (.pointer (some ⟨gr, 5, none⟩)) _ rfl rfl hrun ?_; have HS12 := Lib.hid (HS11.out.store hb ho (by decide) (by decide) (by decide)); clear hb ho hrun))
  refine (hasB (P := 8) (c := 16) (b := false) (by omega) (by omega) (by decide) _).mono ?_
  rintro e u13 ⟨rfl, rfl⟩
  go_wp2_with fail
  refine (hasB (P := 8) (c := 32) (b := false) (by omega) (by omega) (by decide) _).mono ?_
  rintro e u14 ⟨rfl, rfl⟩
  go_wp2_with fail
  refine (gok_any w1.heap.size gg gc s5 od _ HS12.out.gt).mono ?_
  rintro e wk ⟨rfl, rfl⟩
  have HG := Lib.hid (get_parts HQ1.out HPE.out HQ2.out (show pW 8 s2 = (0, s2) from rfl) (show pN 8 s2 = ([], s2) from rfl) (show pT 8 s2 = (t, s5) from HQ5.out) (show pH 8 s5 = (z20, s5) from rfl) (show pB 8 (mostN (k : Int)) s5 = ([], s5) from rfl))
  obtain ⟨ok, hok⟩ : ∃ x, (decide (s5 = some []) && !od) = x := ⟨_, rfl⟩
  rw [hok]
  have HOK := Lib.hid hok
  clear hok
  cases ok with
  | false =>
    have HN := Lib.hid (show getRq b = none from by
      have h := HOK.out
      rw [HG.out, if_neg]
      rintro ⟨h1, h2, _⟩
      rw [HOD.out] at h2
      simp only [h1, h2, decide_true, Bool.not_false, Bool.and_true, reduceCtorEq] at h)
    go_wp2_with (first | (with_reducible refine Agg.wpList_build0 29 rfl rfl (.agg (rqG 0 0 0 [] (.slice none 0 0) z20 [] z20)) rq_build0 ?_) | (refine Agg.wpList_put rfl rfl 29 _ _ rfl gr (rqG 0 0 0 [] (.slice none 0 0) z20 [] z20) _ rfl rfl HS12.out.blk (rq_info z20_length z20_length) (by rw [rqG_size HPL.out z20_length, rqG_size z20_length z20_length]) (by kernel_rfl) ?_; intro w90 hb90 hx90 hs90 hk90))
    have hx := HS12.out.below.trans (hx90.mono HS12.out.gr_ge)
    refine Agg.post_row_tmp rfl rfl rfl hb90 rq_under rfl (rq_info z20_length z20_length) rfl ⟨.slice none 0 0, ?_, ?_, hx⟩
    · rw [(rqOut_none HN.out).1, (rqOut_none HN.out).2]; rfl
    · rw [(rqOut_none HN.out).1]; exact Own.nil _ _ _
  | true =>
    have HBS := Lib.hid (show BytesAt wk (.slice none 0 0) [] from (Own.nil _ _ _ : Own EB w.heap.size wk (.slice none 0 0) []).slice)
    go_wp2_with (first | (with_reducible refine Agg.wpList_loadL (RqG.of_blk HS12.out.blk HPL.out z20_length).all rfl _ rfl rfl ?_))
    refine (right_any k u 0 [] (.slice none 0 0) [] (parseH t) (parseN t) z20 HPL.out z20_length _ HBS.out).mono ?_
    rintro e w91 ⟨rfl, hx91⟩
    have HS91 := Lib.hid (HS12.out.later hx91)
    have HO91 := Lib.hid ((Own.nil _ _ _ : Own EB w.heap.size wk (.slice none 0 0) []).below hx91)
    clear hx91
    cases hr : rightN k u 0 [] ([] : List UInt8).length (parseH t) (parseN t) z20 with
    | false =>
      have HN := Lib.hid (show getRq b = none from by
        rw [HG.out, if_neg]
        rintro ⟨_, _, h3⟩
        have h3 : rightN k u 0 [] ([] : List UInt8).length (parseH t) (parseN t) z20 = true := h3
        rw [hr] at h3
        exact absurd h3 (by decide))
      go_wp2_with (first | (with_reducible refine Agg.wpList_build0 29 rfl rfl (.agg (rqG 0 0 0 [] (.slice none 0 0) z20 [] z20)) rq_build0 ?_) | (refine Agg.wpList_put rfl rfl 29 _ _ rfl gr (rqG 0 0 0 [] (.slice none 0 0) z20 [] z20) _ rfl rfl HS91.out.blk (rq_info z20_length z20_length) (by rw [rqG_size HPL.out z20_length, rqG_size z20_length z20_length]) (by kernel_rfl) ?_; intro w90 hb90 hx90 hs90 hk90))
      have hx := HS91.out.below.trans (hx90.mono HS91.out.gr_ge)
      refine Agg.post_row_tmp rfl rfl rfl hb90 rq_under rfl (rq_info z20_length z20_length) rfl ⟨.slice none 0 0, ?_, ?_, hx⟩
      · rw [(rqOut_none HN.out).1, (rqOut_none HN.out).2]; rfl
      · rw [(rqOut_none HN.out).1]; exact Own.nil _ _ _
    | true =>
      have HY := Lib.hid (show getRq b = some ⟨k, u, 0, [], [], parseH t, parseN t, z20⟩ from by
        have h := HOK.out
        simp only [Bool.and_eq_true, decide_eq_true_eq, Bool.not_eq_true'] at h
        exact HG.out.trans (if_pos ⟨h.1, HOD.out.trans h.2, hr⟩))
      go_wp2_with (first | (with_reducible refine Agg.wpList_loadL (RqG.of_blk HS91.out.blk HPL.out z20_length).all rfl _ rfl rfl ?_) | (refine Agg.wpList_put rfl rfl 29 _ _ rfl gr (rqG k u 0 [] (.slice none 0 0) (parseH t) (parseN t) z20) _ rfl rfl HS91.out.blk (rq_info HPL.out z20_length) rfl (rq_one HBS.out _ _ _ _ _ _ _) ?_; intro w90 hb90 hx90 hs90 hk90))
      have hx := HS91.out.below.trans (hx90.mono HS91.out.gr_ge)
      have ho90 : Only (· = gr) _ w90 := Only.of_eq hx90 hs90 hk90 rfl
      refine Agg.post_row_tmp rfl rfl rfl hb90 rq_under rfl (rq_info HPL.out z20_length) rfl ⟨(.slice none 0 0), ?_, ?_, hx⟩
      · rw [(rqOut_some HY.out).1, (rqOut_some HY.out).2]; rfl
      · rw [(rqOut_some HY.out).1]; exact own_keepT HO91.out ho90 HS91.out.blk (by decide)
set_option maxRecDepth 100000 in
set_option maxHeartbeats 4000000 in
theorem rget_0 (v : Value) (b : List UInt8) (m : Int) (hP : partsN ((sNum 10 (some b)).1 : Int) = 0) (w : World) (hl : b.length ≤ 16777216) (hm : w.cell? ⟨0, 0, none⟩ = some (.int .i64 m)) (hb : BytesAt w v b) :
    Calls Tryz.prog 11 #[v] w fun e w' => ∃ vb, e = .returned (.tuple #[.agg (rqG (rqOut b).k (rqOut b).u (rqOut b).wh (rqOut b).nm vb (rqOut b).ph (rqOut b).pn (rqOut b).ch), .int .i64 (rqErr b : Int)]) ∧ Own EB w.heap.size w' vb (rqOut b).bs ∧ Below w.heap.size w w' := by
  obtain ⟨k, s1, hk⟩ : ∃ k s, sNum 10 (some b) = (k, s) := ⟨_, _, rfl⟩
  rw [hk] at hP
  have HPE := Lib.hid (show partsN (k : Int) = 0 from hP)
  have hle := sNum_len 10 (some b)
  rw [hk] at hle
  have hl1 : stLen s1 ≤ 16777216 := Nat.le_trans hle hl
  have hl0 : stLen (some b) ≤ 16777216 := hl
  have HQ1 := Lib.hid hk
  have HP := Lib.hid (fun W => (show Calls Tryz.prog 37 #[.int .i64 k] W fun e w' => e = .returned (.int .u8 0) ∧ w' = W by have := parts_any (k : Int) W; rwa [HPE.out] at this))
  have HM := Lib.hid hm
  have HBY := Lib.hid hb
  clear hP hle hk hm hb
  go_enter Tryz.func11, Tryz.ntmps11
  go_wp2_with (first | (with_reducible refine Agg.wpList_zero rfl 29 rfl (rqG 0 0 0 [] (.slice none 0 0) z20 [] z20) rq_zero ?_; intro gr w1 hb1 hx1 hgr; have hlt1 := hb1.lt; have HB1 := Lib.hid hb1; have HX1 := Lib.hid hx1; clear hb1 hx1))
  refine (over_any v b _ hl (HBY.out.below HX1.out)).mono ?_
  rintro e w2 ⟨gc, v2, rfl, hgc, hcu, hx2⟩
  have HC2 := Lib.hid (CuS.good hcu)
  have hltc := hcu.blk.lt
  have HB2 := Lib.hid (HB1.out.below hx2)
  have HK2 := Lib.hid (Agg.belowThen HX1.out (Nat.le_refl _) hx2)
  have hs1 := HX1.out.size
  have hs2 := hx2.size
  clear hcu hx2
  go_wp2_with (first | (with_reducible refine Agg.wpList_build1 89 0 _ rfl rfl (.pointer (some ⟨gc, 0, none⟩)) rfl (.agg (gtC gc false)) (gt_build gc) ?_) | (with_reducible refine Agg.wpList_box rfl 89 _ rfl (gtC gc false) rfl ?_; intro gg w3 hb3 hx3 hgg; have HS3 := Lib.hid (⟨⟨hb3, HC2.out.below hx3⟩, HB2.out.below hx3, Agg.belowThen HK2.out (Nat.le_refl _) hx3, by omega, by omega, hgr, by omega, by omega⟩ : GeS 29 w w1.heap.size gr gg gc w3 (some b) false (rqG 0 0 0 [] (.slice none 0 0) z20 [] z20)); clear hb3 hx3) | (with_reducible refine Agg.wpList_loadL HS3.out.gt.ptr rfl _ rfl rfl ?_))
  refine (snum_any w1.heap.size gc 10 (some b) _ hl (by omega) HS3.out.gt.cur).mono ?_
  rintro e w4 ⟨rfl, hc, ho⟩
  rw [HQ1.out] at hc ⊢
  have HS4 := Lib.hid (HS3.out.step ho hc)
  clear hc ho
  go_wp2_with (first | (obtain ⟨w5, hrun, hb, ho⟩ := rqB_kind HS4.out.blk (k : Int); refine Agg.wpList_store rfl rfl 22 _ _ rfl (.pointer (some ⟨gr, 0, none⟩)) _ rfl rfl hrun ?_; have HS5 := Lib.hid (HS4.out.store hb ho (by decide) (by decide) (by decide)); clear hb ho hrun) | (with_reducible refine Agg.wpList_loadL HS5.out.gt.ptr rfl _ rfl rfl ?_))
  refine (snum_any w1.heap.size gc 8 s1 _ hl1 (by omega) HS5.out.gt.cur).mono ?_
  rintro e w6 ⟨rfl, hc, ho⟩
  obtain ⟨u, s2, hk⟩ : ∃ k s, sNum 8 s1 = (k, s) := ⟨_, _, rfl⟩
  have hle := sNum_len 8 s1
  rw [hk] at hc hle ⊢
  have hs2 : stLen s2 ≤ 16777216 := Nat.le_trans hle hl1
  have HQ2 := Lib.hid hk
  clear hle hk
  have HS6 := Lib.hid (HS5.out.step ho hc)
  clear hc ho
  go_wp2_with (first | (obtain ⟨w7, hrun, hb, ho⟩ := rqB_user HS6.out.blk (u : Int); refine Agg.wpList_store rfl rfl 3 _ _ rfl (.pointer (some ⟨gr, 1, none⟩)) _ rfl rfl hrun ?_; have HS7 := Lib.hid (HS6.out.store hb ho (by decide) (by decide) (by decide)); clear hb ho hrun) | (with_reducible refine Agg.wpList_loadL (RqG.of_blk HS7.out.blk z20_length z20_length).kind rfl _ rfl rfl ?_))
  refine (HP.out _).mono ?_
  rintro e u3 ⟨rfl, rfl⟩
  go_wp2_with fail
  refine (hasB (P := 0) (c := 1) (b := false) (by omega) (by omega) (by decide) _).mono ?_
  rintro e u8 ⟨rfl, rfl⟩
  go_wp2_with fail
  refine (hasB (P := 0) (c := 2) (b := false) (by omega) (by omega) (by decide) _).mono ?_
  rintro e u9 ⟨rfl, rfl⟩
  go_wp2_with fail
  refine (hasB (P := 0) (c := 12) (b := false) (by omega) (by omega) (by decide) _).mono ?_
  rintro e u10 ⟨rfl, rfl⟩
  go_wp2_with fail
  refine (hasB (P := 0) (c := 16) (b := false) (by omega) (by omega) (by decide) _).mono ?_
  rintro e u11 ⟨rfl, rfl⟩
  go_wp2_with fail
  refine (hasB (P := 0) (c := 32) (b := false) (by omega) (by omega) (by decide) _).mono ?_
  rintro e u12 ⟨rfl, rfl⟩
  go_wp2_with fail
  refine (gok_any w1.heap.size gg gc s2 false _ HS7.out.gt).mono ?_
  rintro e wk ⟨rfl, rfl⟩
  have HG := Lib.hid (get_parts HQ1.out HPE.out HQ2.out (show pW 0 s2 = (0, s2) from rfl) (show pN 0 s2 = ([], s2) from rfl) (show pT 0 s2 = ([], s2) from rfl) (show pH 0 s2 = (z20, s2) from rfl) (show pB 0 (mostN (k : Int)) s2 = ([], s2) from rfl))
  obtain ⟨ok, hok⟩ : ∃ x, (decide (s2 = some []) && !false) = x := ⟨_, rfl⟩
  rw [hok]
  have HOK := Lib.hid hok
  clear hok
  cases ok with
  | false =>
    have HN := Lib.hid (show getRq b = none from by
      have h := HOK.out
      rw [HG.out, if_neg]
      rintro ⟨h1, h2, _⟩
      clear h2
      simp only [h1, decide_true, Bool.not_false, Bool.and_true, reduceCtorEq] at h)
    go_wp2_with (first | (with_reducible refine Agg.wpList_build0 29 rfl rfl (.agg (rqG 0 0 0 [] (.slice none 0 0) z20 [] z20)) rq_build0 ?_) | (refine Agg.wpList_put rfl rfl 29 _ _ rfl gr (rqG 0 0 0 [] (.slice none 0 0) z20 [] z20) _ rfl rfl HS7.out.blk (rq_info z20_length z20_length) (by rw [rqG_size z20_length z20_length, rqG_size z20_length z20_length]) (by kernel_rfl) ?_; intro w90 hb90 hx90 hs90 hk90))
    have hx := HS7.out.below.trans (hx90.mono HS7.out.gr_ge)
    refine Agg.post_row_tmp rfl rfl rfl hb90 rq_under rfl (rq_info z20_length z20_length) rfl ⟨.slice none 0 0, ?_, ?_, hx⟩
    · rw [(rqOut_none HN.out).1, (rqOut_none HN.out).2]; rfl
    · rw [(rqOut_none HN.out).1]; exact Own.nil _ _ _
  | true =>
    have HBS := Lib.hid (show BytesAt wk (.slice none 0 0) [] from (Own.nil _ _ _ : Own EB w.heap.size wk (.slice none 0 0) []).slice)
    go_wp2_with (first | (with_reducible refine Agg.wpList_loadL (RqG.of_blk HS7.out.blk z20_length z20_length).all rfl _ rfl rfl ?_))
    refine (right_any k u 0 [] (.slice none 0 0) [] z20 [] z20 z20_length z20_length _ HBS.out).mono ?_
    rintro e w91 ⟨rfl, hx91⟩
    have HS91 := Lib.hid (HS7.out.later hx91)
    have HO91 := Lib.hid ((Own.nil _ _ _ : Own EB w.heap.size wk (.slice none 0 0) []).below hx91)
    clear hx91
    cases hr : rightN k u 0 [] ([] : List UInt8).length z20 [] z20 with
    | false =>
      have HN := Lib.hid (show getRq b = none from by
        rw [HG.out, if_neg]
        rintro ⟨_, _, h3⟩
        have h3 : rightN k u 0 [] ([] : List UInt8).length z20 [] z20 = true := h3
        rw [hr] at h3
        exact absurd h3 (by decide))
      go_wp2_with (first | (with_reducible refine Agg.wpList_build0 29 rfl rfl (.agg (rqG 0 0 0 [] (.slice none 0 0) z20 [] z20)) rq_build0 ?_) | (refine Agg.wpList_put rfl rfl 29 _ _ rfl gr (rqG 0 0 0 [] (.slice none 0 0) z20 [] z20) _ rfl rfl HS91.out.blk (rq_info z20_length z20_length) (by rw [rqG_size z20_length z20_length, rqG_size z20_length z20_length]) (by kernel_rfl) ?_; intro w90 hb90 hx90 hs90 hk90))
      have hx := HS91.out.below.trans (hx90.mono HS91.out.gr_ge)
      refine Agg.post_row_tmp rfl rfl rfl hb90 rq_under rfl (rq_info z20_length z20_length) rfl ⟨.slice none 0 0, ?_, ?_, hx⟩
      · rw [(rqOut_none HN.out).1, (rqOut_none HN.out).2]; rfl
      · rw [(rqOut_none HN.out).1]; exact Own.nil _ _ _
    | true =>
      have HY := Lib.hid (show getRq b = some ⟨k, u, 0, [], [], parseH [], parseN [], z20⟩ from by
        have h := HOK.out
        simp only [Bool.and_eq_true, decide_eq_true_eq, Bool.not_eq_true'] at h
        exact HG.out.trans (if_pos ⟨h.1, rfl, hr⟩))
      go_wp2_with (first | (with_reducible refine Agg.wpList_loadL (RqG.of_blk HS91.out.blk z20_length z20_length).all rfl _ rfl rfl ?_) | (refine Agg.wpList_put rfl rfl 29 _ _ rfl gr (rqG k u 0 [] (.slice none 0 0) z20 [] z20) _ rfl rfl HS91.out.blk (rq_info z20_length z20_length) rfl (rq_one HBS.out _ _ _ _ _ _ _) ?_; intro w90 hb90 hx90 hs90 hk90))
      have hx := HS91.out.below.trans (hx90.mono HS91.out.gr_ge)
      have ho90 : Only (· = gr) _ w90 := Only.of_eq hx90 hs90 hk90 rfl
      refine Agg.post_row_tmp rfl rfl rfl hb90 rq_under rfl (rq_info z20_length z20_length) rfl ⟨(.slice none 0 0), ?_, ?_, hx⟩
      · rw [(rqOut_some HY.out).1, (rqOut_some HY.out).2]; rfl
      · rw [(rqOut_some HY.out).1]; exact own_keepT HO91.out ho90 HS91.out.blk (by decide)
end Go.Proofs.YtpnolgliklmnmaaGreat
/-! wire.Get of any bytes. -/
namespace Go.Proofs.YtpnolgliklmnmaaGreat
open Go.RowKit Pl Go.Agg
theorem rget_any (v : Value) (b : List UInt8) (m : Int) (w : World) (hl : b.length ≤ 16777216) (hm : w.cell? ⟨0, 0, none⟩ = some (.int .i64 m)) (hb : BytesAt w v b) :
    Calls Tryz.prog 11 #[v] w fun e w' => ∃ vb, e = .returned (.tuple #[.agg (rqG (rqOut b).k (rqOut b).u (rqOut b).wh (rqOut b).nm vb (rqOut b).ph (rqOut b).pn (rqOut b).ch), .int .i64 (rqErr b : Int)]) ∧ Own EB w.heap.size w' vb (rqOut b).bs ∧ Below w.heap.size w w' := by
  rcases parts_cases ((sNum 10 (some b)).1 : Int) with h | h | h | h | h | h | h | h | h
  · exact rget_34 v b m h w hl hm hb
  · exact rget_32 v b m h w hl hm hb
  · exact rget_16 v b m h w hl hm hb
  · exact rget_1 v b m h w hl hm hb
  · exact rget_6 v b m h w hl hm hb
  · exact rget_2 v b m h w hl hm hb
  · exact rget_36 v b m h w hl hm hb
  · exact rget_8 v b m h w hl hm hb
  · exact rget_0 v b m h w hl hm hb
end Go.Proofs.YtpnolgliklmnmaaGreat
/-! wire.Get, Put: there and back, as the theorem asks it. -/
namespace Go.Proofs.YtpnolgliklmnmaaGreat
open Go.RowKit Pl Go.Agg
theorem rqOut_hash (b : List UInt8) : (rqOut b).ph.length = 20 ∧ (rqOut b).ch.length = 20 := by
  cases h : getRq b with
  | none => rw [(rqOut_none h).1]; exact ⟨rfl, rfl⟩
  | some q => rw [(rqOut_some h).1]; exact ⟨(put_get h).2.2.1, (put_get h).2.2.2⟩
theorem rq_back (b : List UInt8) : rqErr b = 4 ∨ (rqErr b = 0 ∧ rqCode (rqOut b) = 0 ∧ rqBytes (rqOut b) = b) := by
  cases h : getRq b with
  | none => exact .inl (rqOut_none h).2
  | some q =>
    refine .inr ⟨(rqOut_some h).2, ?_⟩
    rw [(rqOut_some h).1]
    obtain ⟨h1, h2, _⟩ := put_get h
    simp [rqCode, rqBytes, h1, h2]
theorem rq_got {q : Rq} (hr : q.right = true) (hp : q.ph.length = 20) (hc : q.ch.length = 20) : rqOut (putRq q) = q ∧ rqErr (putRq q) = 0 := rqOut_some (get_put hr hp hc)
theorem rq_less {q : Rq} (hr : q.right = true) (hp : q.ph.length = 20) (hc : q.ch.length = 20) {j : Nat} (hj : (putRq q).length = j + 1) : rqOut ((putRq q).take j) = Rq.zero ∧ rqErr ((putRq q).take j) = 4 := by
  refine rqOut_none (get_less hr hp hc (x := (putRq q).take j) (y := (putRq q).drop j) (fun h => ?_) (List.take_append_drop _ _).symm)
  have := congrArg List.length h
  simp only [List.length_drop, List.length_nil] at this
  omega
theorem rq_more {q : Rq} (hr : q.right = true) (hp : q.ph.length = 20) (hc : q.ch.length = 20) : rqOut (putRq q ++ [0]) = Rq.zero ∧ rqErr (putRq q ++ [0]) = 4 := rqOut_none (get_more hr hp hc (by simp))
theorem ite_le (c : Bool) (l : List UInt8) : (if c = true then l else []).length ≤ l.length := by split <;> simp
theorem encT_len (l : List UInt8) : (encT l).length = (encN l.length).length + l.length := by simp [encT]
theorem putRq_len {q : Rq} (hr : q.right = true) (hc : q.ch.length = 20) : (putRq q).length ≤ 5000 := by
  obtain ⟨h1, h2, h3, h4, h5⟩ := right_bounds (k := q.k) (u := q.u) (wh := q.wh) (nm := q.nm) (bs := q.bs) (ph := q.ph) (pn := q.pn) (ch := q.ch) hr
  have hpl := pathS_le (n := q.pn) q.ph
  have e1 := encN_len (n := q.k.toNat) (by omega)
  have e2 := encN_len (n := q.u.toNat) (by omega)
  have e3 := encN_len (n := q.wh.toNat) (by omega)
  have e4 := encN_len (n := q.nm.length) (by omega)
  have e5 := encN_len (n := q.bs.length) (by omega)
  have e6 := encN_len (n := (pathS q.ph q.pn).length) (by omega)
  have i1 := ite_le (hasN (partsN q.k) 1) (encN q.wh.toNat)
  have i2 := ite_le (hasN (partsN q.k) 2) (encT q.nm)
  have i3 := ite_le (hasN (partsN q.k) 12) (encT (pathS q.ph q.pn))
  have i4 := ite_le (hasN (partsN q.k) 16) q.ch
  have i5 := ite_le (hasN (partsN q.k) 32) (encT q.bs)
  rw [encT_len] at i2 i3 i5
  unfold putRq putP
  simp only [List.length_append]
  omega
theorem len_pos {l : List UInt8} (h : l ≠ []) : ∃ j, l.length = j + 1 := ⟨l.length - 1, by have := List.length_pos_iff.2 h; omega⟩
/-- Get, of bytes of which it is known what they are -/
theorem rget_of {b : List UInt8} {q : Rq} {c : Nat} (hq : rqOut b = q ∧ rqErr b = c) (v : Value) (m : Int) (w : World) (hl : b.length ≤ 16777216) (hm : w.cell? ⟨0, 0, none⟩ = some (.int .i64 m)) (hb : BytesAt w v b) :
    Calls Tryz.prog 11 #[v] w fun e w' => ∃ vb, e = .returned (.tuple #[.agg (rqG q.k q.u q.wh q.nm vb q.ph q.pn q.ch), .int .i64 (c : Int)]) ∧ Own EB w.heap.size w' vb q.bs ∧ Below w.heap.size w w' := by
  obtain ⟨rfl, rfl⟩ := hq
  exact rget_any v b m w hl hm hb
/-- Put, of a request of which it is known whether it is right -/
theorem rput_of {q : Rq} {c : Nat} {b : List UInt8} (hq : rqCode q = c ∧ rqBytes q = b) (vb : Value) (hl : q.ph.length = 20) (hc : q.ch.length = 20) (w : World) (hb : BytesAt w vb q.bs) :
    Calls Tryz.prog 9 #[.agg (rqG q.k q.u q.wh q.nm vb q.ph q.pn q.ch)] w fun e w' => ∃ v', e = .returned (.tuple #[v', .int .i64 (c : Int)]) ∧ Own EB w.heap.size w' v' b ∧ Below w.heap.size w w' := by
  obtain ⟨rfl, rfl⟩ := hq
  exact rput_any q.k q.u q.wh q.nm vb q.bs q.ph q.pn q.ch hl hc w hb
end Go.Proofs.YtpnolgliklmnmaaGreat
