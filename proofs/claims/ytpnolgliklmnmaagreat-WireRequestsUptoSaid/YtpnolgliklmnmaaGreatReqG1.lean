/- wire.Get of any bytes. -/
import Derived.Test.YtpnolgliklmnmaaGreatGBB
import Derived.Test.YtpnolgliklmnmaaGreatGAT
import Derived.Test.YtpnolgliklmnmaaGreatGBA
import Derived.Test.YtpnolgliklmnmaaGreatMid
namespace Go.Proofs.YtpnolgliklmnmaaGreat
open Go.RowKit Pl Go.Agg
set_option maxRecDepth 100000 in
set_option maxHeartbeats 4000000 in
theorem rget_34 (v : Value) (b : List UInt8) (m : Int) (hP : partsN ((sNum 10 (some b)).1 : Int) = 34) (w : World) (hl : b.length ≤ 16777216) (hm : w.cell? ⟨0, 0, none⟩ = some (.int .i64 m)) (hb : BytesAt w v b) :
    Calls Tryz.prog 11 #[v] w fun e w' => ∃ vb, e = .returned (.tuple #[.agg (rqG (rqOut b).k (rqOut b).u (rqOut b).wh (rqOut b).nm vb (rqOut b).ph (rqOut b).pn (rqOut b).ch), .int .i64 (rqErr b : Int)]) ∧ Own EB w.heap.size w' vb (rqOut b).bs ∧ Below w.heap.size w w' := by
  obtain ⟨k, s1, hk⟩ : ∃ k s, sNum 10 (some b) = (k, s) := ⟨_, _, rfl⟩
  rw [hk] at hP
  have HPE := Lib.hid (show partsN (k : Int) = 34 from hP)
  have hle := sNum_len 10 (some b)
  rw [hk] at hle
  have hl1 : stLen s1 ≤ 16777216 := Nat.le_trans hle hl
  have hl0 : stLen (some b) ≤ 16777216 := hl
  have HQ1 := Lib.hid hk
  have HP := Lib.hid (fun W => (show Calls Tryz.prog 37 #[.int .i64 k] W fun e w' => e = .returned (.int .u8 34) ∧ w' = W by have := parts_any (k : Int) W; rwa [HPE.out] at this))
  have HM := Lib.hid hm
  have HBY := Lib.hid hb
  clear hP hle hk hm hb
  go_enter Tryz.func11, Tryz.ntmps11
  go_wp2_with (first | (with_reducible refine Agg.wpList_zero rfl 29 rfl (rqG 0 0 0 [] (.slice none 0 0) z20 [] z20) rq_zero ?_; intro gr w1 hb1 hx1 hgr; have hlt1 := hb1.lt; have HB1 := Lib.hid hb1; have HX1 := Lib.hid hx1; clear hb1 hx1))
  refine (over_any v b _ hl (HBY.out.below HX1.out)).mono ?_
  rintro e w2 ⟨gc, v2, rfl, hgc, hcu, hx2⟩
  have HC2 := Lib.hid (CuS.good hcu)
  have hltc := hcu.blk.lt
  have HB2 := Lib.hid (HB1.out.below hx2)
  have HK2 := Lib.hid (Agg.belowThen HX1.out (Nat.le_refl _) hx2)
  have hs1 := HX1.out.size
  have hs2 := hx2.size
  clear hcu hx2
  go_wp2_with (first | (with_reducible refine Agg.wpList_build1 89 0 _ rfl rfl (.pointer (some ⟨gc, 0, none⟩)) rfl (.agg (gtC gc false)) (gt_build gc) ?_) | (with_reducible refine Agg.wpList_box rfl 89 _ rfl (gtC gc false) rfl ?_; intro gg w3 hb3 hx3 hgg; have HS3 := Lib.hid (⟨⟨hb3, HC2.out.below hx3⟩, HB2.out.below hx3, Agg.belowThen HK2.out (Nat.le_refl _) hx3, by omega, by omega, hgr, by omega, by omega⟩ : GeS 29 w w1.heap.size gr gg gc w3 (some b) false (rqG 0 0 0 [] (.slice none 0 0) z20 [] z20)); clear hb3 hx3) | (with_reducible refine Agg.wpList_loadL HS3.out.gt.ptr rfl _ rfl rfl ?_))
  refine (snum_any w1.heap.size gc 10 (some b) _ hl (by omega) HS3.out.gt.cur).mono ?_
  rintro e w4 ⟨rfl, hc, ho⟩
  rw [HQ1.out] at hc ⊢
  have HS4 := Lib.hid (HS3.out.step ho hc)
  clear hc ho
  go_wp2_with (first | (obtain ⟨w5, hrun, hb, ho⟩ := rqB_kind HS4.out.blk (k : Int); refine Agg.wpList_store rfl rfl 22 _ _ rfl (.pointer (some ⟨gr, 0, none⟩)) _ rfl rfl hrun ?_; have HS5 := Lib.hid (HS4.out.store hb ho (by decide) (by decide) (by decide)); clear hb ho hrun) | (with_reducible refine Agg.wpList_loadL HS5.out.gt.ptr rfl _ rfl rfl ?_))
  refine (snum_any w1.heap.size gc 8 s1 _ hl1 (by omega) HS5.out.gt.cur).mono ?_
  rintro e w6 ⟨rfl, hc, ho⟩
  obtain ⟨u, s2, hk⟩ : ∃ k s, sNum 8 s1 = (k, s) := ⟨_, _, rfl⟩
  have hle := sNum_len 8 s1
  rw [hk] at hc hle ⊢
  have hs2 : stLen s2 ≤ 16777216 := Nat.le_trans hle hl1
  have HQ2 := Lib.hid hk
  clear hle hk
  have HS6 := Lib.hid (HS5.out.step ho hc)
  clear hc ho
  go_wp2_with (first | (obtain ⟨w7, hrun, hb, ho⟩ := rqB_user HS6.out.blk (u : Int); refine Agg.wpList_store rfl rfl 3 _ _ rfl (.pointer (some ⟨gr, 1, none⟩)) _ rfl rfl hrun ?_; have HS7 := Lib.hid (HS6.out.store hb ho (by decide) (by decide) (by decide)); clear hb ho hrun) | (with_reducible refine Agg.wpList_loadL (RqG.of_blk HS7.out.blk z20_length z20_length).kind rfl _ rfl rfl ?_))
  refine (HP.out _).mono ?_
  rintro e u3 ⟨rfl, rfl⟩
  go_wp2_with fail
  refine (hasB (P := 34) (c := 1) (b := false) (by omega) (by omega) (by decide) _).mono ?_
  rintro e u8 ⟨rfl, rfl⟩
  go_wp2_with fail
  refine (hasB (P := 34) (c := 2) (b := true) (by omega) (by omega) (by decide) _).mono ?_
  rintro e u9 ⟨rfl, rfl⟩
  go_wp2_with (first | (with_reducible refine Agg.wpList_loadL HS7.out.gt.ptr rfl _ rfl rfl ?_))
  refine (stext_any w1.heap.size gc 24 s2 _ hs2 HS7.out.gt.cur).mono ?_
  rintro e w10 ⟨un, rfl, hu, hc, ho⟩
  obtain ⟨nm, s4, hk⟩ : ∃ k s, sText 24 s2 = (k, s) := ⟨_, _, rfl⟩
  have hle := sText_len 24 s2
  rw [hk] at hc hle hu
  have hs4 : stLen s4 ≤ 16777216 := Nat.le_trans hle hs2
  have HQ4 := Lib.hid hk
  have HU4 := Lib.hid hu.slice
  have HS10 := Lib.hid (HS7.out.step ho hc)
  clear hle hk hc ho hu
  go_wp2_with (first | (with_reducible refine wpList_toStr HU4.out _ rfl (by kernel_rfl) rfl ?_) | (obtain ⟨w11, hrun, hb, ho⟩ := rqB_name HS10.out.blk nm; refine Agg.wpList_store rfl rfl 9 _ _ rfl (.pointer (some ⟨gr, 3, none⟩)) _ rfl rfl hrun ?_; have HS11 := Lib.hid (HS10.out.store hb ho (by decide) (by decide) (by decide)); clear hb ho hrun))
  refine (hasB (P := 34) (c := 12) (b := false) (by omega) (by omega) (by decide) _).mono ?_
  rintro e u12 ⟨rfl, rfl⟩
  go_wp2_with fail
  refine (hasB (P := 34) (c := 16) (b := false) (by omega) (by omega) (by decide) _).mono ?_
  rintro e u13 ⟨rfl, rfl⟩
  go_wp2_with fail
  refine (hasB (P := 34) (c := 32) (b := true) (by omega) (by omega) (by decide) _).mono ?_
  rintro e u14 ⟨rfl, rfl⟩
  go_wp2_with fail
  have HMO := Lib.hid (most_le (k : Int))
  have HLK := Lib.hid (RqG.of_blk HS11.out.blk z20_length z20_length)
  refine Agg.wp_region_row 7 (fun w' => ∃ x : Later _, w' = x.w) (by kernel_rfl) (by kernel_rfl) ⟨⟨_, (Below.refl _ _).drew⟩, rfl⟩ ?_
  simp only [List.take_succ_cons, List.take_zero, List.drop_succ_cons, List.drop_zero]
  repeat (first | go_big_quiet_skip | ((first | (with_reducible refine Agg.wpQuiet_loadL HS11.out.gt.ptr rfl _ rfl rfl ?_) | (with_reducible refine Agg.wpQuiet_loadL HLK.out.kind rfl _ rfl rfl ?_)); simp only [Act.put, List.setIfInBounds_toArray, List.set_cons_succ, List.set_cons_zero]) | go_big_quiet_step ((go_at_call 57; exact Agg.Calls.later_same ((most_any (k : Int) _).mono fun _ _ h => ⟨h.1, h.2.symm⟩))))
  refine wpQuiet_nil ?_
  intro _ hw'
  obtain ⟨x, rfl⟩ := hw'
  have HS15 := Lib.hid (HS11.out.later x.h)
  go_wp2_with fail
  refine (stext_any w1.heap.size gc (mostN (k : Int)) s4 _ hs4 HS15.out.gt.cur).mono ?_
  rintro e w16 ⟨ub, rfl, hu, hc, ho⟩
  obtain ⟨bs, s7, hk⟩ : ∃ k' s, sText (mostN (k : Int)) s4 = (k', s) := ⟨_, _, rfl⟩
  have hle := sText_le (mostN (k : Int)) s4
  rw [hk] at hc hle hu
  have HQ7 := Lib.hid hk
  have HS16 := Lib.hid (HS15.out.step ho hc)
  have HU7 := Lib.hid hu.slice
  have hbl : bs.length ≤ 4096 := Nat.le_trans hle HMO.out
  clear hle hk hc ho hu
  go_wp2_with fail
  refine (bclone_any ub bs _ (by omega) HU7.out).mono ?_
  rintro e w17 ⟨vb, rfl, hvb, hx⟩
  have HS17 := Lib.hid (HS16.out.later hx)
  have HVB := Lib.hid (hvb.lower (HS16.out.below.size))
  obtain ⟨pv, cv, hvf⟩ := hvb.slice.form
  have HVC := Lib.hid (show vb.cells = #[vb] ∧ vb.oneCell' = true from by subst hvf; exact ⟨rfl, rfl⟩)
  clear hvb hx hvf
  go_wp2_with (first | (obtain ⟨w18, hrun, hb, ho⟩ := rqB_bytes HS17.out.blk vb HVC.out.1 HVC.out.2; refine Agg.wpList_store rfl rfl 23 _ _ rfl (.pointer (some ⟨gr, 4, none⟩)) _ rfl rfl hrun ?_; have HS18 := Lib.hid (HS17.out.store hb ho (by decide) (by decide) (by decide)); have HVB := Lib.hid (own_keepT HVB.out ho HS17.out.blk (by decide)); clear hb ho hrun))
  refine (gok_any w1.heap.size gg gc s7 false _ HS18.out.gt).mono ?_
  rintro e wk ⟨rfl, rfl⟩
  have HG := Lib.hid (get_parts HQ1.out HPE.out HQ2.out (show pW 34 s2 = (0, s2) from rfl) (show pN 34 s2 = (nm, s4) from HQ4.out) (show pT 34 s4 = ([], s4) from rfl) (show pH 34 s4 = (z20, s4) from rfl) (show pB 34 (mostN (k : Int)) s4 = (bs, s7) from HQ7.out))
  obtain ⟨ok, hok⟩ : ∃ x, (decide (s7 = some []) && !false) = x := ⟨_, rfl⟩
  rw [hok]
  have HOK := Lib.hid hok
  clear hok
  cases ok with
  | false =>
    have HN := Lib.hid (show getRq b = none from by
      have h := HOK.out
      rw [HG.out, if_neg]
      rintro ⟨h1, h2, _⟩
      clear h2
      simp only [h1, decide_true, Bool.not_false, Bool.and_true, reduceCtorEq] at h)
    go_wp2_with (first | (with_reducible refine Agg.wpList_build0 29 rfl rfl (.agg (rqG 0 0 0 [] (.slice none 0 0) z20 [] z20)) rq_build0 ?_) | (refine Agg.wpList_put rfl rfl 29 _ _ rfl gr (rqG 0 0 0 [] (.slice none 0 0) z20 [] z20) _ rfl rfl HS18.out.blk (rq_info z20_length z20_length) (by rw [rqG_size z20_length z20_length, rqG_size z20_length z20_length]) (by kernel_rfl) ?_; intro w90 hb90 hx90 hs90 hk90))
    have hx := HS18.out.below.trans (hx90.mono HS18.out.gr_ge)
    refine Agg.post_row_tmp rfl rfl rfl hb90 rq_under rfl (rq_info z20_length z20_length) rfl ⟨.slice none 0 0, ?_, ?_, hx⟩
    · rw [(rqOut_none HN.out).1, (rqOut_none HN.out).2]; rfl
    · rw [(rqOut_none HN.out).1]; exact Own.nil _ _ _
  | true =>
    have HBS := Lib.hid (show BytesAt wk vb bs from (HVB.out : Own EB w.heap.size wk vb bs).slice)
    go_wp2_with (first | (with_reducible refine Agg.wpList_loadL (RqG.of_blk HS18.out.blk z20_length z20_length).all rfl _ rfl rfl ?_))
    refine (right_any k u 0 nm vb bs z20 [] z20 z20_length z20_length _ HBS.out).mono ?_
    rintro e w91 ⟨rfl, hx91⟩
    have HS91 := Lib.hid (HS18.out.later hx91)
    have HO91 := Lib.hid ((HVB.out : Own EB w.heap.size wk vb bs).below hx91)
    clear hx91
    cases hr : rightN k u 0 nm bs.length z20 [] z20 with
    | false =>
      have HN := Lib.hid (show getRq b = none from by
        rw [HG.out, if_neg]
        rintro ⟨_, _, h3⟩
        have h3 : rightN k u 0 nm bs.length z20 [] z20 = true := h3
        rw [hr] at h3
        exact absurd h3 (by decide))
      go_wp2_with (first | (with_reducible refine Agg.wpList_build0 29 rfl rfl (.agg (rqG 0 0 0 [] (.slice none 0 0) z20 [] z20)) rq_build0 ?_) | (refine Agg.wpList_put rfl rfl 29 _ _ rfl gr (rqG 0 0 0 [] (.slice none 0 0) z20 [] z20) _ rfl rfl HS91.out.blk (rq_info z20_length z20_length) (by rw [rqG_size z20_length z20_length, rqG_size z20_length z20_length]) (by kernel_rfl) ?_; intro w90 hb90 hx90 hs90 hk90))
      have hx := HS91.out.below.trans (hx90.mono HS91.out.gr_ge)
      refine Agg.post_row_tmp rfl rfl rfl hb90 rq_under rfl (rq_info z20_length z20_length) rfl ⟨.slice none 0 0, ?_, ?_, hx⟩
      · rw [(rqOut_none HN.out).1, (rqOut_none HN.out).2]; rfl
      · rw [(rqOut_none HN.out).1]; exact Own.nil _ _ _
    | true =>
      have HY := Lib.hid (show getRq b = some ⟨k, u, 0, nm, bs, parseH [], parseN [], z20⟩ from by
        have h := HOK.out
        simp only [Bool.and_eq_true, decide_eq_true_eq, Bool.not_eq_true'] at h
        exact HG.out.trans (if_pos ⟨h.1, rfl, hr⟩))
      go_wp2_with (first | (with_reducible refine Agg.wpList_loadL (RqG.of_blk HS91.out.blk z20_length z20_length).all rfl _ rfl rfl ?_) | (refine Agg.wpList_put rfl rfl 29 _ _ rfl gr (rqG k u 0 nm vb z20 [] z20) _ rfl rfl HS91.out.blk (rq_info z20_length z20_length) rfl (rq_one HBS.out _ _ _ _ _ _ _) ?_; intro w90 hb90 hx90 hs90 hk90))
      have hx := HS91.out.below.trans (hx90.mono HS91.out.gr_ge)
      have ho90 : Only (· = gr) _ w90 := Only.of_eq hx90 hs90 hk90 rfl
      refine Agg.post_row_tmp rfl rfl rfl hb90 rq_under rfl (rq_info z20_length z20_length) rfl ⟨vb, ?_, ?_, hx⟩
      · rw [(rqOut_some HY.out).1, (rqOut_some HY.out).2]; rfl
      · rw [(rqOut_some HY.out).1]; exact own_keepT HO91.out ho90 HS91.out.blk (by decide)
set_option maxRecDepth 100000 in
set_option maxHeartbeats 4000000 in
theorem rget_32 (v : Value) (b : List UInt8) (m : Int) (hP : partsN ((sNum 10 (some b)).1 : Int) = 32) (w : World) (hl : b.length ≤ 16777216) (hm : w.cell? ⟨0, 0, none⟩ = some (.int .i64 m)) (hb : BytesAt w v b) :
    Calls Tryz.prog 11 #[v] w fun e w' => ∃ vb, e = .returned (.tuple #[.agg (rqG (rqOut b).k (rqOut b).u (rqOut b).wh (rqOut b).nm vb (rqOut b).ph (rqOut b).pn (rqOut b).ch), .int .i64 (rqErr b : Int)]) ∧ Own EB w.heap.size w' vb (rqOut b).bs ∧ Below w.heap.size w w' := by
  obtain ⟨k, s1, hk⟩ : ∃ k s, sNum 10 (some b) = (k, s) := ⟨_, _, rfl⟩
  rw [hk] at hP
  have HPE := Lib.hid (show partsN (k : Int) = 32 from hP)
  have hle := sNum_len 10 (some b)
  rw [hk] at hle
  have hl1 : stLen s1 ≤ 16777216 := Nat.le_trans hle hl
  have hl0 : stLen (some b) ≤ 16777216 := hl
  have HQ1 := Lib.hid hk
  have HP := Lib.hid (fun W => (show Calls Tryz.prog 37 #[.int .i64 k] W fun e w' => e = .returned (.int .u8 32) ∧ w' = W by have := parts_any (k : Int) W; rwa [HPE.out] at this))
  have HM := Lib.hid hm
  have HBY := Lib.hid hb
  clear hP hle hk hm hb
  go_enter Tryz.func11, Tryz.ntmps11
  go_wp2_with (first | (with_reducible refine Agg.wpList_zero rfl 29 rfl (rqG 0 0 0 [] (.slice none 0 0) z20 [] z20) rq_zero ?_; intro gr w1 hb1 hx1 hgr; have hlt1 := hb1.lt; have HB1 := Lib.hid hb1; have HX1 := Lib.hid hx1; clear hb1 hx1))
  refine (over_any v b _ hl (HBY.out.below HX1.out)).mono ?_
  rintro e w2 ⟨gc, v2, rfl, hgc, hcu, hx2⟩
  have HC2 := Lib.hid (CuS.good hcu)
  have hltc := hcu.blk.lt
  have HB2 := Lib.hid (HB1.out.below hx2)
  have HK2 := Lib.hid (Agg.belowThen HX1.out (Nat.le_refl _) hx2)
  have hs1 := HX1.out.size
  have hs2 := hx2.size
  clear hcu hx2
  go_wp2_with (first | (with_reducible refine Agg.wpList_build1 89 0 _ rfl rfl (.pointer (some ⟨gc, 0, none⟩)) rfl (.agg (gtC gc false)) (gt_build gc) ?_) | (with_reducible refine Agg.wpList_box rfl 89 _ rfl (gtC gc false) rfl ?_; intro gg w3 hb3 hx3 hgg; have HS3 := Lib.hid (⟨⟨hb3, HC2.out.below hx3⟩, HB2.out.below hx3, Agg.belowThen HK2.out (Nat.le_refl _) hx3, by omega, by omega, hgr, by omega, by omega⟩ : GeS 29 w w1.heap.size gr gg gc w3 (some b) false (rqG 0 0 0 [] (.slice none 0 0) z20 [] z20)); clear hb3 hx3) | (with_reducible refine Agg.wpList_loadL HS3.out.gt.ptr rfl _ rfl rfl ?_))
  refine (snum_any w1.heap.size gc 10 (some b) _ hl (by omega) HS3.out.gt.cur).mono ?_
  rintro e w4 ⟨rfl, hc, ho⟩
  rw [HQ1.out] at hc ⊢
  have HS4 := Lib.hid (HS3.out.step ho hc)
  clear hc ho
  go_wp2_with (first | (obtain ⟨w5, hrun, hb, ho⟩ := rqB_kind HS4.out.blk (k : Int); refine Agg.wpList_store rfl rfl 22 _ _ rfl (.pointer (some ⟨gr, 0, none⟩)) _ rfl rfl hrun ?_; have HS5 := Lib.hid (HS4.out.store hb ho (by decide) (by decide) (by decide)); clear hb ho hrun) | (with_reducible refine Agg.wpList_loadL HS5.out.gt.ptr rfl _ rfl rfl ?_))
  refine (snum_any w1.heap.size gc 8 s1 _ hl1 (by omega) HS5.out.gt.cur).mono ?_
  rintro e w6 ⟨rfl, hc, ho⟩
  obtain ⟨u, s2, hk⟩ : ∃ k s, sNum 8 s1 = (k, s) := ⟨_, _, rfl⟩
  have hle := sNum_len 8 s1
  rw [hk] at hc hle ⊢
  have hs2 : stLen s2 ≤ 16777216 := Nat.le_trans hle hl1
  have HQ2 := Lib.hid hk
  clear hle hk
  have HS6 := Lib.hid (HS5.out.step ho hc)
  clear hc ho
  go_wp2_with (first | (obtain ⟨w7, hrun, hb, ho⟩ := rqB_user HS6.out.blk (u : Int); refine Agg.wpList_store rfl rfl 3 _ _ rfl (.pointer (some ⟨gr, 1, none⟩)) _ rfl rfl hrun ?_; have HS7 := Lib.hid (HS6.out.store hb ho (by decide) (by decide) (by decide)); clear hb ho hrun) | (with_reducible refine Agg.wpList_loadL (RqG.of_blk HS7.out.blk z20_length z20_length).kind rfl _ rfl rfl ?_))
  refine (HP.out _).mono ?_
  rintro e u3 ⟨rfl, rfl⟩
  go_wp2_with fail
  refine (hasB (P := 32) (c := 1) (b := false) (by omega) (by omega) (by decide) _).mono ?_
  rintro e u8 ⟨rfl, rfl⟩
  go_wp2_with fail
  refine (hasB (P := 32) (c := 2) (b := false) (by omega) (by omega) (by decide) _).mono ?_
  rintro e u9 ⟨rfl, rfl⟩
  go_wp2_with fail
  refine (hasB (P := 32) (c := 12) (b := false) (by omega) (by omega) (by decide) _).mono ?_
  rintro e u10 ⟨rfl, rfl⟩
  go_wp2_with fail
  refine (hasB (P := 32) (c := 16) (b := false) (by omega) (by omega) (by decide) _).mono ?_
  rintro e u11 ⟨rfl, rfl⟩
  go_wp2_with fail
  refine (hasB (P := 32) (c := 32) (b := true) (by omega) (by omega) (by decide) _).mono ?_
  rintro e u12 ⟨rfl, rfl⟩
  go_wp2_with fail
  have HMO := Lib.hid (most_le (k : Int))
  have HLK := Lib.hid (RqG.of_blk HS7.out.blk z20_length z20_length)
  refine Agg.wp_region_row 7 (fun w' => ∃ x : Later _, w' = x.w) (by kernel_rfl) (by kernel_rfl) ⟨⟨_, (Below.refl _ _).drew⟩, rfl⟩ ?_
  simp only [List.take_succ_cons, List.take_zero, List.drop_succ_cons, List.drop_zero]
  repeat (first | go_big_quiet_skip | ((first | (with_reducible refine Agg.wpQuiet_loadL HS7.out.gt.ptr rfl _ rfl rfl ?_) | (with_reducible refine Agg.wpQuiet_loadL HLK.out.kind rfl _ rfl rfl ?_)); simp only [Act.put, List.setIfInBounds_toArray, List.set_cons_succ, List.set_cons_zero]) | go_big_quiet_step ((go_at_call 57; exact Agg.Calls.later_same ((most_any (k : Int) _).mono fun _ _ h => ⟨h.1, h.2.symm⟩))))
  refine wpQuiet_nil ?_
  intro _ hw'
  obtain ⟨x, rfl⟩ := hw'
  have HS13 := Lib.hid (HS7.out.later x.h)
  go_wp2_with fail
  refine (stext_any w1.heap.size gc (mostN (k : Int)) s2 _ hs2 HS13.out.gt.cur).mono ?_
  rintro e w14 ⟨ub, rfl, hu, hc, ho⟩
  obtain ⟨bs, s7, hk⟩ : ∃ k' s, sText (mostN (k : Int)) s2 = (k', s) := ⟨_, _, rfl⟩
  have hle := sText_le (mostN (k : Int)) s2
  rw [hk] at hc hle hu
  have HQ7 := Lib.hid hk
  have HS14 := Lib.hid (HS13.out.step ho hc)
  have HU7 := Lib.hid hu.slice
  have hbl : bs.length ≤ 4096 := Nat.le_trans hle HMO.out
  clear hle hk hc ho hu
  go_wp2_with fail
  refine (bclone_any ub bs _ (by omega) HU7.out).mono ?_
  rintro e w15 ⟨vb, rfl, hvb, hx⟩
  have HS15 := Lib.hid (HS14.out.later hx)
  have HVB := Lib.hid (hvb.lower (HS14.out.below.size))
  obtain ⟨pv, cv, hvf⟩ := hvb.slice.form
  have HVC := Lib.hid (show vb.cells = #[vb] ∧ vb.oneCell' = true from by subst hvf; exact ⟨rfl, rfl⟩)
  clear hvb hx hvf
  go_wp2_with (first | (obtain ⟨w16, hrun, hb, ho⟩ := rqB_bytes HS15.out.blk vb HVC.out.1 HVC.out.2; refine Agg.wpList_store rfl rfl 23 _ _ rfl (.pointer (some ⟨gr, 4, none⟩)) _ rfl rfl hrun ?_; have HS16 := Lib.hid (HS15.out.store hb ho (by decide) (by decide) (by decide)); have HVB := Lib.hid (own_keepT HVB.out ho HS15.out.blk (by decide)); clear hb ho hrun))
  refine (gok_any w1.heap.size gg gc s7 false _ HS16.out.gt).mono ?_
  rintro e wk ⟨rfl, rfl⟩
  have HG := Lib.hid (get_parts HQ1.out HPE.out HQ2.out (show pW 32 s2 = (0, s2) from rfl) (show pN 32 s2 = ([], s2) from rfl) (show pT 32 s2 = ([], s2) from rfl) (show pH 32 s2 = (z20, s2) from rfl) (show pB 32 (mostN (k : Int)) s2 = (bs, s7) from HQ7.out))
  obtain ⟨ok, hok⟩ : ∃ x, (decide (s7 = some []) && !false) = x := ⟨_, rfl⟩
  rw [hok]
  have HOK := Lib.hid hok
  clear hok
  cases ok with
  | false =>
    have HN := Lib.hid (show getRq b = none from by
      have h := HOK.out
      rw [HG.out, if_neg]
      rintro ⟨h1, h2, _⟩
      clear h2
      simp only [h1, decide_true, Bool.not_false, Bool.and_true, reduceCtorEq] at h)
    go_wp2_with (first | (with_reducible refine Agg.wpList_build0 29 rfl rfl (.agg (rqG 0 0 0 [] (.slice none 0 0) z20 [] z20)) rq_build0 ?_) | (refine Agg.wpList_put rfl rfl 29 _ _ rfl gr (rqG 0 0 0 [] (.slice none 0 0) z20 [] z20) _ rfl rfl HS16.out.blk (rq_info z20_length z20_length) (by rw [rqG_size z20_length z20_length, rqG_size z20_length z20_length]) (by kernel_rfl) ?_; intro w90 hb90 hx90 hs90 hk90))
    have hx := HS16.out.below.trans (hx90.mono HS16.out.gr_ge)
    refine Agg.post_row_tmp rfl rfl rfl hb90 rq_under rfl (rq_info z20_length z20_length) rfl ⟨.slice none 0 0, ?_, ?_, hx⟩
    · rw [(rqOut_none HN.out).1, (rqOut_none HN.out).2]; rfl
    · rw [(rqOut_none HN.out).1]; exact Own.nil _ _ _
  | true =>
    have HBS := Lib.hid (show BytesAt wk vb bs from (HVB.out : Own EB w.heap.size wk vb bs).slice)
    go_wp2_with (first | (with_reducible refine Agg.wpList_loadL (RqG.of_blk HS16.out.blk z20_length z20_length).all rfl _ rfl rfl ?_))
    refine (right_any k u 0 [] vb bs z20 [] z20 z20_length z20_length _ HBS.out).mono ?_
    rintro e w91 ⟨rfl, hx91⟩
    have HS91 := Lib.hid (HS16.out.later hx91)
    have HO91 := Lib.hid ((HVB.out : Own EB w.heap.size wk vb bs).below hx91)
    clear hx91
    cases hr : rightN k u 0 [] bs.length z20 [] z20 with
    | false =>
      have HN := Lib.hid (show getRq b = none from by
        rw [HG.out, if_neg]
        rintro ⟨_, _, h3⟩
        have h3 : rightN k u 0 [] bs.length z20 [] z20 = true := h3
        rw [hr] at h3
        exact absurd h3 (by decide))
      go_wp2_with (first | (with_reducible refine Agg.wpList_build0 29 rfl rfl (.agg (rqG 0 0 0 [] (.slice none 0 0) z20 [] z20)) rq_build0 ?_) | (refine Agg.wpList_put rfl rfl 29 _ _ rfl gr (rqG 0 0 0 [] (.slice none 0 0) z20 [] z20) _ rfl rfl HS91.out.blk (rq_info z20_length z20_length) (by rw [rqG_size z20_length z20_length, rqG_size z20_length z20_length]) (by kernel_rfl) ?_; intro w90 hb90 hx90 hs90 hk90))
      have hx := HS91.out.below.trans (hx90.mono HS91.out.gr_ge)
      refine Agg.post_row_tmp rfl rfl rfl hb90 rq_under rfl (rq_info z20_length z20_length) rfl ⟨.slice none 0 0, ?_, ?_, hx⟩
      · rw [(rqOut_none HN.out).1, (rqOut_none HN.out).2]; rfl
      · rw [(rqOut_none HN.out).1]; exact Own.nil _ _ _
    | true =>
      have HY := Lib.hid (show getRq b = some ⟨k, u, 0, [], bs, parseH [], parseN [], z20⟩ from by
        have h := HOK.out
        simp only [Bool.and_eq_true, decide_eq_true_eq, Bool.not_eq_true'] at h
        exact HG.out.trans (if_pos ⟨h.1, rfl, hr⟩))
      go_wp2_with (first | (with_reducible refine Agg.wpList_loadL (RqG.of_blk HS91.out.blk z20_length z20_length).all rfl _ rfl rfl ?_) | (refine Agg.wpList_put rfl rfl 29 _ _ rfl gr (rqG k u 0 [] vb z20 [] z20) _ rfl rfl HS91.out.blk (rq_info z20_length z20_length) rfl (rq_one HBS.out _ _ _ _ _ _ _) ?_; intro w90 hb90 hx90 hs90 hk90))
      have hx := HS91.out.below.trans (hx90.mono HS91.out.gr_ge)
      have ho90 : Only (· = gr) _ w90 := Only.of_eq hx90 hs90 hk90 rfl
      refine Agg.post_row_tmp rfl rfl rfl hb90 rq_under rfl (rq_info z20_length z20_length) rfl ⟨vb, ?_, ?_, hx⟩
      · rw [(rqOut_some HY.out).1, (rqOut_some HY.out).2]; rfl
      · rw [(rqOut_some HY.out).1]; exact own_keepT HO91.out ho90 HS91.out.blk (by decide)
set_option maxRecDepth 100000 in
set_option maxHeartbeats 4000000 in
theorem rget_16 (v : Value) (b : List UInt8) (m : Int) (hP : partsN ((sNum 10 (some b)).1 : Int) = 16) (w : World) (hl : b.length ≤ 16777216) (hm : w.cell? ⟨0, 0, none⟩ = some (.int .i64 m)) (hb : BytesAt w v b) :
    Calls Tryz.prog 11 #[v] w fun e w' => ∃ vb, e = .returned (.tuple #[.agg (rqG (rqOut b).k (rqOut b).u (rqOut b).wh (rqOut b).nm vb (rqOut b).ph (rqOut b).pn (rqOut b).ch), .int .i64 (rqErr b : Int)]) ∧ Own EB w.heap.size w' vb (rqOut b).bs ∧ Below w.heap.size w w' := by
  obtain ⟨k, s1, hk⟩ : ∃ k s, sNum 10 (some b) = (k, s) := ⟨_, _, rfl⟩
  rw [hk] at hP
  have HPE := Lib.hid (show partsN (k : Int) = 16 from hP)
  have hle := sNum_len 10 (some b)
  rw [hk] at hle
  have hl1 : stLen s1 ≤ 16777216 := Nat.le_trans hle hl
  have hl0 : stLen (some b) ≤ 16777216 := hl
  have HQ1 := Lib.hid hk
  have HP := Lib.hid (fun W => (show Calls Tryz.prog 37 #[.int .i64 k] W fun e w' => e = .returned (.int .u8 16) ∧ w' = W by have := parts_any (k : Int) W; rwa [HPE.out] at this))
  have HM := Lib.hid hm
  have HBY := Lib.hid hb
  clear hP hle hk hm hb
  go_enter Tryz.func11, Tryz.ntmps11
  go_wp2_with (first | (with_reducible refine Agg.wpList_zero rfl 29 rfl (rqG 0 0 0 [] (.slice none 0 0) z20 [] z20) rq_zero ?_; intro gr w1 hb1 hx1 hgr; have hlt1 := hb1.lt; have HB1 := Lib.hid hb1; have HX1 := Lib.hid hx1; clear hb1 hx1))
  refine (over_any v b _ hl (HBY.out.below HX1.out)).mono ?_
  rintro e w2 ⟨gc, v2, rfl, hgc, hcu, hx2⟩
  have HC2 := Lib.hid (CuS.good hcu)
  have hltc := hcu.blk.lt
  have HB2 := Lib.hid (HB1.out.below hx2)
  have HK2 := Lib.hid (Agg.belowThen HX1.out (Nat.le_refl _) hx2)
  have hs1 := HX1.out.size
  have hs2 := hx2.size
  clear hcu hx2
  go_wp2_with (first | (with_reducible refine Agg.wpList_build1 89 0 _ rfl rfl (.pointer (some ⟨gc, 0, none⟩)) rfl (.agg (gtC gc false)) (gt_build gc) ?_) | (with_reducible refine Agg.wpList_box rfl 89 _ rfl (gtC gc false) rfl ?_; intro gg w3 hb3 hx3 hgg; have HS3 := Lib.hid (⟨⟨hb3, HC2.out.below hx3⟩, HB2.out.below hx3, Agg.belowThen HK2.out (Nat.le_refl _) hx3, by omega, by omega, hgr, by omega, by omega⟩ : GeS 29 w w1.heap.size gr gg gc w3 (some b) false (rqG 0 0 0 [] (.slice none 0 0) z20 [] z20)); clear hb3 hx3) | (with_reducible refine Agg.wpList_loadL HS3.out.gt.ptr rfl _ rfl rfl ?_))
  refine (snum_any w1.heap.size gc 10 (some b) _ hl (by omega) HS3.out.gt.cur).mono ?_
  rintro e w4 ⟨rfl, hc, ho⟩
  rw [HQ1.out] at hc ⊢
  have HS4 := Lib.hid (HS3.out.step ho hc)
  clear hc ho
  go_wp2_with (first | (obtain ⟨w5, hrun, hb, ho⟩ := rqB_kind HS4.out.blk (k : Int); refine Agg.wpList_store rfl rfl 22 _ _ rfl (.pointer (some ⟨gr, 0, none⟩)) _ rfl rfl hrun ?_; have HS5 := Lib.hid (HS4.out.store hb ho (by decide) (by decide) (by decide)); clear hb ho hrun) | (with_reducible refine Agg.wpList_loadL HS5.out.gt.ptr rfl _ rfl rfl ?_))
  refine (snum_any w1.heap.size gc 8 s1 _ hl1 (by omega) HS5.out.gt.cur).mono ?_
  rintro e w6 ⟨rfl, hc, ho⟩
  obtain ⟨u, s2, hk⟩ : ∃ k s, sNum 8 s1 = (k, s) := ⟨_, _, rfl⟩
  have hle := sNum_len 8 s1
  rw [hk] at hc hle ⊢
  have hs2 : stLen s2 ≤ 16777216 := Nat.le_trans hle hl1
  have HQ2 := Lib.hid hk
  clear hle hk
  have HS6 := Lib.hid (HS5.out.step ho hc)
  clear hc ho
  go_wp2_with (first | (obtain ⟨w7, hrun, hb, ho⟩ := rqB_user HS6.out.blk (u : Int); refine Agg.wpList_store rfl rfl 3 _ _ rfl (.pointer (some ⟨gr, 1, none⟩)) _ rfl rfl hrun ?_; have HS7 := Lib.hid (HS6.out.store hb ho (by decide) (by decide) (by decide)); clear hb ho hrun) | (with_reducible refine Agg.wpList_loadL (RqG.of_blk HS7.out.blk z20_length z20_length).kind rfl _ rfl rfl ?_))
  refine (HP.out _).mono ?_
  rintro e u3 ⟨rfl, rfl⟩
  go_wp2_with fail
  refine (hasB (P := 16) (c := 1) (b := false) (by omega) (by omega) (by decide) _).mono ?_
  rintro e u8 ⟨rfl, rfl⟩
  go_wp2_with fail
  refine (hasB (P := 16) (c := 2) (b := false) (by omega) (by omega) (by decide) _).mono ?_
  rintro e u9 ⟨rfl, rfl⟩
  go_wp2_with fail
  refine (hasB (P := 16) (c := 12) (b := false) (by omega) (by omega) (by decide) _).mono ?_
  rintro e u10 ⟨rfl, rfl⟩
  go_wp2_with fail
  refine (hasB (P := 16) (c := 16) (b := true) (by omega) (by omega) (by decide) _).mono ?_
  rintro e u11 ⟨rfl, rfl⟩
  go_wp2_with fail
  refine (ghash_any w1.heap.size gg gc s2 false _ hs2 HS7.out.gt).mono ?_
  rintro e w12 ⟨rfl, hg, ho⟩
  obtain ⟨ch, s6, hk⟩ : ∃ k s, sHash s2 = (k, s) := ⟨_, _, rfl⟩
  have hcl := sHash_length s2
  rw [hk] at hg hcl ⊢
  have HCL := Lib.hid (show ch.length = 20 from hcl)
  have HQ6 := Lib.hid hk
  have HS12 := Lib.hid (HS7.out.stepG ho (fun _ h => .inl h) hg)
  clear hk hg ho hcl
  go_wp2_with (first | (obtain ⟨w13, hrun, hb, ho⟩ := rqB_class HS12.out.blk z20_length z20_length ch HCL.out; refine Agg.wpList_store rfl rfl 25 _ _ rfl (.pointer (some ⟨gr, 26, none⟩)) _ rfl rfl hrun ?_; have HS13 := Lib.hid (HS12.out.store hb ho (by decide) (by decide) (by decide)); clear hb ho hrun))
  refine (hasB (P := 16) (c := 32) (b := false) (by omega) (by omega) (by decide) _).mono ?_
  rintro e u14 ⟨rfl, rfl⟩
  go_wp2_with fail
  refine (gok_any w1.heap.size gg gc s6 false _ HS13.out.gt).mono ?_
  rintro e wk ⟨rfl, rfl⟩
  have HG := Lib.hid (get_parts HQ1.out HPE.out HQ2.out (show pW 16 s2 = (0, s2) from rfl) (show pN 16 s2 = ([], s2) from rfl) (show pT 16 s2 = ([], s2) from rfl) (show pH 16 s2 = (ch, s6) from HQ6.out) (show pB 16 (mostN (k : Int)) s6 = ([], s6) from rfl))
  obtain ⟨ok, hok⟩ : ∃ x, (decide (s6 = some []) && !false) = x := ⟨_, rfl⟩
  rw [hok]
  have HOK := Lib.hid hok
  clear hok
  cases ok with
  | false =>
    have HN := Lib.hid (show getRq b = none from by
      have h := HOK.out
      rw [HG.out, if_neg]
      rintro ⟨h1, h2, _⟩
      clear h2
      simp only [h1, decide_true, Bool.not_false, Bool.and_true, reduceCtorEq] at h)
    go_wp2_with (first | (with_reducible refine Agg.wpList_build0 29 rfl rfl (.agg (rqG 0 0 0 [] (.slice none 0 0) z20 [] z20)) rq_build0 ?_) | (refine Agg.wpList_put rfl rfl 29 _ _ rfl gr (rqG 0 0 0 [] (.slice none 0 0) z20 [] z20) _ rfl rfl HS13.out.blk (rq_info z20_length z20_length) (by rw [rqG_size z20_length HCL.out, rqG_size z20_length z20_length]) (by kernel_rfl) ?_; intro w90 hb90 hx90 hs90 hk90))
    have hx := HS13.out.below.trans (hx90.mono HS13.out.gr_ge)
    refine Agg.post_row_tmp rfl rfl rfl hb90 rq_under rfl (rq_info z20_length z20_length) rfl ⟨.slice none 0 0, ?_, ?_, hx⟩
    · rw [(rqOut_none HN.out).1, (rqOut_none HN.out).2]; rfl
    · rw [(rqOut_none HN.out).1]; exact Own.nil _ _ _
  | true =>
    have HBS := Lib.hid (show BytesAt wk (.slice none 0 0) [] from (Own.nil _ _ _ : Own EB w.heap.size wk (.slice none 0 0) []).slice)
    go_wp2_with (first | (with_reducible refine Agg.wpList_loadL (RqG.of_blk HS13.out.blk z20_length HCL.out).all rfl _ rfl rfl ?_))
    refine (right_any k u 0 [] (.slice none 0 0) [] z20 [] ch z20_length HCL.out _ HBS.out).mono ?_
    rintro e w91 ⟨rfl, hx91⟩
    have HS91 := Lib.hid (HS13.out.later hx91)
    have HO91 := Lib.hid ((Own.nil _ _ _ : Own EB w.heap.size wk (.slice none 0 0) []).below hx91)
    clear hx91
    cases hr : rightN k u 0 [] ([] : List UInt8).length z20 [] ch with
    | false =>
      have HN := Lib.hid (show getRq b = none from by
        rw [HG.out, if_neg]
        rintro ⟨_, _, h3⟩
        have h3 : rightN k u 0 [] ([] : List UInt8).length z20 [] ch = true := h3
        rw [hr] at h3
        exact absurd h3 (by decide))
      go_wp2_with (first | (with_reducible refine Agg.wpList_build0 29 rfl rfl (.agg (rqG 0 0 0 [] (.slice none 0 0) z20 [] z20)) rq_build0 ?_) | (refine Agg.wpList_put rfl rfl 29 _ _ rfl gr (rqG 0 0 0 [] (.slice none 0 0) z20 [] z20) _ rfl rfl HS91.out.blk (rq_info z20_length z20_length) (by rw [rqG_size z20_length HCL.out, rqG_size z20_length z20_length]) (by kernel_rfl) ?_; intro w90 hb90 hx90 hs90 hk90))
      have hx := HS91.out.below.trans (hx90.mono HS91.out.gr_ge)
      refine Agg.post_row_tmp rfl rfl rfl hb90 rq_under rfl (rq_info z20_length z20_length) rfl ⟨.slice none 0 0, ?_, ?_, hx⟩
      · rw [(rqOut_none HN.out).1, (rqOut_none HN.out).2]; rfl
      · rw [(rqOut_none HN.out).1]; exact Own.nil _ _ _
    | true =>
      have HY := Lib.hid (show getRq b = some ⟨k, u, 0, [], [], parseH [], parseN [], ch⟩ from by
        have h := HOK.out
        simp only [Bool.and_eq_true, decide_eq_true_eq, Bool.not_eq_true'] at h
        exact HG.out.trans (if_pos ⟨h.1, rfl, hr⟩))
      go_wp2_with (first | (with_reducible refine Agg.wpList_loadL (RqG.of_blk HS91.out.blk z20_length HCL.out).all rfl _ rfl rfl ?_) | (refine Agg.wpList_put rfl rfl 29 _ _ rfl gr (rqG k u 0 [] (.slice none 0 0) z20 [] ch) _ rfl rfl HS91.out.blk (rq_info z20_length HCL.out) rfl (rq_one HBS.out _ _ _ _ _ _ _) ?_; intro w90 hb90 hx90 hs90 hk90))
      have hx := HS91.out.below.trans (hx90.mono HS91.out.gr_ge)
      have ho90 : Only (· = gr) _ w90 := Only.of_eq hx90 hs90 hk90 rfl
      refine Agg.post_row_tmp rfl rfl rfl hb90 rq_under rfl (rq_info z20_length HCL.out) rfl ⟨(.slice none 0 0), ?_, ?_, hx⟩
      · rw [(rqOut_some HY.out).1, (rqOut_some HY.out).2]; rfl
      · rw [(rqOut_some HY.out).1]; exact own_keepT HO91.out ho90 HS91.out.blk (by decide)
end Go.Proofs.YtpnolgliklmnmaaGreat
