/- wire.Get of any bytes. -/
import Derived.Test.YtpnolgliklmnmaaGreatGBB
import Derived.Test.YtpnolgliklmnmaaGreatGAT
import Derived.Test.YtpnolgliklmnmaaGreatGBA
import Derived.Test.YtpnolgliklmnmaaGreatMid
namespace Go.Proofs.YtpnolgliklmnmaaGreat
open Go.RowKit Pl Go.Agg
set_option maxRecDepth 100000 in
set_option maxHeartbeats 4000000 in
theorem rget_1 (v : Value) (b : List UInt8) (m : Int) (hP : partsN ((sNum 10 (some b)).1 : Int) = 1) (w : World) (hl : b.length ≤ 16777216) (hm : w.cell? ⟨0, 0, none⟩ = some (.int .i64 m)) (hb : BytesAt w v b) :
    Calls Tryz.prog 11 #[v] w fun e w' => ∃ vb, e = .returned (.tuple #[.agg (rqG (rqOut b).k (rqOut b).u (rqOut b).wh (rqOut b).nm vb (rqOut b).ph (rqOut b).pn (rqOut b).ch), .int .i64 (rqErr b : Int)]) ∧ Own EB w.heap.size w' vb (rqOut b).bs ∧ Below w.heap.size w w' := by
  obtain ⟨k, s1, hk⟩ : ∃ k s, sNum 10 (some b) = (k, s) := ⟨_, _, rfl⟩
  rw [hk] at hP
  have HPE := Lib.hid (show partsN (k : Int) = 1 from hP)
  have hle := sNum_len 10 (some b)
  rw [hk] at hle
  have hl1 : stLen s1 ≤ 16777216 := Nat.le_trans hle hl
  have hl0 : stLen (some b) ≤ 16777216 := hl
  have HQ1 := Lib.hid hk
  have HP := Lib.hid (fun W => (show Calls Tryz.prog 37 #[.int .i64 k] W fun e w' => e = .returned (.int .u8 1) ∧ w' = W by have := parts_any (k : Int) W; rwa [HPE.out] at this))
  have HM := Lib.hid hm
  have HBY := Lib.hid hb
  clear hP hle hk hm hb
  go_enter Tryz.func11, Tryz.ntmps11
  go_wp2_with (first | (with_reducible refine Agg.wpList_zero rfl 29 rfl (rqG 0 0 0 [] (.slice none 0 0) z20 [] z20) rq_zero ?_; intro gr w1 hb1 hx1 hgr; have hlt1 := hb1.lt; have HB1 := Lib.hid hb1; have HX1 := Lib.hid hx1; clear hb1 hx1))
  refine (over_any v b _ hl (HBY.out.below HX1.out)).mono ?_
  rintro e w2 ⟨gc, v2, rfl, hgc, hcu, hx2⟩
  have HC2 := Lib.hid (CuS.good hcu)
  have hltc := hcu.blk.lt
  have HB2 := Lib.hid (HB1.out.below hx2)
  have HK2 := Lib.hid (Agg.belowThen HX1.out (Nat.le_refl _) hx2)
  have hs1 := HX1.out.size
  have hs2 := hx2.size
  clear hcu hx2
  go_wp2_with (first | (with_reducible refine Agg.wpList_build1 89 0 _ rfl rfl (.pointer (some ⟨gc, 0, none⟩)) rfl (.agg (gtC gc false)) (gt_build gc) ?_) | (with_reducible refine Agg.wpList_box rfl 89 _ rfl (gtC gc false) rfl ?_; intro gg w3 hb3 hx3 hgg; have HS3 := Lib.hid (⟨⟨hb3, HC2.out.below hx3⟩, HB2.out.below hx3, Agg.belowThen HK2.out (Nat.le_refl _) hx3, by omega, by omega, hgr, by omega, by omega⟩ : GeS 29 w w1.heap.size gr gg gc w3 (some b) false (rqG 0 0 0 [] (.slice none 0 0) z20 [] z20)); clear hb3 hx3) | (with_reducible refine Agg.wpList_loadL HS3.out.gt.ptr rfl _ rfl rfl ?_))
  refine (snum_any w1.heap.size gc 10 (some b) _ hl (by omega) HS3.out.gt.cur).mono ?_
  rintro e w4 ⟨rfl, hc, ho⟩
  rw [HQ1.out] at hc ⊢
  have HS4 := Lib.hid (HS3.out.step ho hc)
  clear hc ho
  go_wp2_with (first | (obtain ⟨w5, hrun, hb, ho⟩ := rqB_kind HS4.out.blk (k : Int); refine Agg.wpList_store rfl rfl 22 _ _ rfl (.pointer (some ⟨gr, 0, none⟩)) _ rfl rfl hrun ?_; have HS5 := Lib.hid (HS4.out.store hb ho (by decide) (by decide) (by decide)); clear hb ho hrun) | (with_reducible refine Agg.wpList_loadL HS5.out.gt.ptr rfl _ rfl rfl ?_))
  refine (snum_any w1.heap.size gc 8 s1 _ hl1 (by omega) HS5.out.gt.cur).mono ?_
  rintro e w6 ⟨rfl, hc, ho⟩
  obtain ⟨u, s2, hk⟩ : ∃ k s, sNum 8 s1 = (k, s) := ⟨_, _, rfl⟩
  have hle := sNum_len 8 s1
  rw [hk] at hc hle ⊢
  have hs2 : stLen s2 ≤ 16777216 := Nat.le_trans hle hl1
  have HQ2 := Lib.hid hk
  clear hle hk
  have HS6 := Lib.hid (HS5.out.step ho hc)
  clear hc ho
  go_wp2_with (first | (obtain ⟨w7, hrun, hb, ho⟩ := rqB_user HS6.out.blk (u : Int); refine Agg.wpList_store rfl rfl 3 _ _ rfl (.pointer (some ⟨gr, 1, none⟩)) _ rfl rfl hrun ?_; have HS7 := Lib.hid (HS6.out.store hb ho (by decide) (by decide) (by decide)); clear hb ho hrun) | (with_reducible refine Agg.wpList_loadL (RqG.of_blk HS7.out.blk z20_length z20_length).kind rfl _ rfl rfl ?_))
  refine (HP.out _).mono ?_
  rintro e u3 ⟨rfl, rfl⟩
  go_wp2_with fail
  refine (hasB (P := 1) (c := 1) (b := true) (by omega) (by omega) (by decide) _).mono ?_
  rintro e u8 ⟨rfl, rfl⟩
  go_wp2_with (first | (with_reducible refine Agg.wpList_loadL HS7.out.gt.ptr rfl _ rfl rfl ?_))
  refine (snum_any w1.heap.size gc 16 s2 _ hs2 (by omega) HS7.out.gt.cur).mono ?_
  rintro e w9 ⟨rfl, hc, ho⟩
  obtain ⟨wh, s3, hk⟩ : ∃ k s, sNum 16 s2 = (k, s) := ⟨_, _, rfl⟩
  have hle := sNum_len 16 s2
  rw [hk] at hc hle ⊢
  have hs3 : stLen s3 ≤ 16777216 := Nat.le_trans hle hs2
  have HQ3 := Lib.hid hk
  clear hle hk
  have HS9 := Lib.hid (HS7.out.step ho hc)
  clear hc ho
  go_wp2_with (first | (obtain ⟨w10, hrun, hb, ho⟩ := rqB_who HS9.out.blk (wh : Int); refine Agg.wpList_store rfl rfl 3 _ _ rfl (.pointer (some ⟨gr, 2, none⟩)) _ rfl rfl hrun ?_; have HS10 := Lib.hid (HS9.out.store hb ho (by decide) (by decide) (by decide)); clear hb ho hrun))
  refine (hasB (P := 1) (c := 2) (b := false) (by omega) (by omega) (by decide) _).mono ?_
  rintro e u11 ⟨rfl, rfl⟩
  go_wp2_with fail
  refine (hasB (P := 1) (c := 12) (b := false) (by omega) (by omega) (by decide) _).mono ?_
  rintro e u12 ⟨rfl, rfl⟩
  go_wp2_with fail
  refine (hasB (P := 1) (c := 16) (b := false) (by omega) (by omega) (by decide) _).mono ?_
  rintro e u13 ⟨rfl, rfl⟩
  go_wp2_with fail
  refine (hasB (P := 1) (c := 32) (b := false) (by omega) (by omega) (by decide) _).mono ?_
  rintro e u14 ⟨rfl, rfl⟩
  go_wp2_with fail
  refine (gok_any w1.heap.size gg gc s3 false _ HS10.out.gt).mono ?_
  rintro e wk ⟨rfl, rfl⟩
  have HG := Lib.hid (get_parts HQ1.out HPE.out HQ2.out (show pW 1 s2 = (wh, s3) from HQ3.out) (show pN 1 s3 = ([], s3) from rfl) (show pT 1 s3 = ([], s3) from rfl) (show pH 1 s3 = (z20, s3) from rfl) (show pB 1 (mostN (k : Int)) s3 = ([], s3) from rfl))
  obtain ⟨ok, hok⟩ : ∃ x, (decide (s3 = some []) && !false) = x := ⟨_, rfl⟩
  rw [hok]
  have HOK := Lib.hid hok
  clear hok
  cases ok with
  | false =>
    have HN := Lib.hid (show getRq b = none from by
      have h := HOK.out
      rw [HG.out, if_neg]
      rintro ⟨h1, h2, _⟩
      clear h2
      simp only [h1, decide_true, Bool.not_false, Bool.and_true, reduceCtorEq] at h)
    go_wp2_with (first | (with_reducible refine Agg.wpList_build0 29 rfl rfl (.agg (rqG 0 0 0 [] (.slice none 0 0) z20 [] z20)) rq_build0 ?_) | (refine Agg.wpList_put rfl rfl 29 _ _ rfl gr (rqG 0 0 0 [] (.slice none 0 0) z20 [] z20) _ rfl rfl HS10.out.blk (rq_info z20_length z20_length) (by rw [rqG_size z20_length z20_length, rqG_size z20_length z20_length]) (by kernel_rfl) ?_; intro w90 hb90 hx90 hs90 hk90))
    have hx := HS10.out.below.trans (hx90.mono HS10.out.gr_ge)
    refine Agg.post_row_tmp rfl rfl rfl hb90 rq_under rfl (rq_info z20_length z20_length) rfl ⟨.slice none 0 0, ?_, ?_, hx⟩
    · rw [(rqOut_none HN.out).1, (rqOut_none HN.out).2]; rfl
    · rw [(rqOut_none HN.out).1]; exact Own.nil _ _ _
  | true =>
    have HBS := Lib.hid (show BytesAt wk (.slice none 0 0) [] from (Own.nil _ _ _ : Own EB w.heap.size wk (.slice none 0 0) []).slice)
    go_wp2_with (first | (with_reducible refine Agg.wpList_loadL (RqG.of_blk HS10.out.blk z20_length z20_length).all rfl _ rfl rfl ?_))
    refine (right_any k u wh [] (.slice none 0 0) [] z20 [] z20 z20_length z20_length _ HBS.out).mono ?_
    rintro e w91 ⟨rfl, hx91⟩
    have HS91 := Lib.hid (HS10.out.later hx91)
    have HO91 := Lib.hid ((Own.nil _ _ _ : Own EB w.heap.size wk (.slice none 0 0) []).below hx91)
    clear hx91
    cases hr : rightN k u wh [] ([] : List UInt8).length z20 [] z20 with
    | false =>
      have HN := Lib.hid (show getRq b = none from by
        rw [HG.out, if_neg]
        rintro ⟨_, _, h3⟩
        have h3 : rightN k u wh [] ([] : List UInt8).length z20 [] z20 = true := h3
        rw [hr] at h3
        exact absurd h3 (by decide))
      go_wp2_with (first | (with_reducible refine Agg.wpList_build0 29 rfl rfl (.agg (rqG 0 0 0 [] (.slice none 0 0) z20 [] z20)) rq_build0 ?_) | (refine Agg.wpList_put rfl rfl 29 _ _ rfl gr (rqG 0 0 0 [] (.slice none 0 0) z20 [] z20) _ rfl rfl HS91.out.blk (rq_info z20_length z20_length) (by rw [rqG_size z20_length z20_length, rqG_size z20_length z20_length]) (by kernel_rfl) ?_; intro w90 hb90 hx90 hs90 hk90))
      have hx := HS91.out.below.trans (hx90.mono HS91.out.gr_ge)
      refine Agg.post_row_tmp rfl rfl rfl hb90 rq_under rfl (rq_info z20_length z20_length) rfl ⟨.slice none 0 0, ?_, ?_, hx⟩
      · rw [(rqOut_none HN.out).1, (rqOut_none HN.out).2]; rfl
      · rw [(rqOut_none HN.out).1]; exact Own.nil _ _ _
    | true =>
      have HY := Lib.hid (show getRq b = some ⟨k, u, wh, [], [], parseH [], parseN [], z20⟩ from by
        have h := HOK.out
        simp only [Bool.and_eq_true, decide_eq_true_eq, Bool.not_eq_true'] at h
        exact HG.out.trans (if_pos ⟨h.1, rfl, hr⟩))
      go_wp2_with (first | (with_reducible refine Agg.wpList_loadL (RqG.of_blk HS91.out.blk z20_length z20_length).all rfl _ rfl rfl ?_) | (refine Agg.wpList_put rfl rfl 29 _ _ rfl gr (rqG k u wh [] (.slice none 0 0) z20 [] z20) _ rfl rfl HS91.out.blk (rq_info z20_length z20_length) rfl (rq_one HBS.out _ _ _ _ _ _ _) ?_; intro w90 hb90 hx90 hs90 hk90))
      have hx := HS91.out.below.trans (hx90.mono HS91.out.gr_ge)
      have ho90 : Only (· = gr) _ w90 := Only.of_eq hx90 hs90 hk90 rfl
      refine Agg.post_row_tmp rfl rfl rfl hb90 rq_under rfl (rq_info z20_length z20_length) rfl ⟨(.slice none 0 0), ?_, ?_, hx⟩
      · rw [(rqOut_some HY.out).1, (rqOut_some HY.out).2]; rfl
      · rw [(rqOut_some HY.out).1]; exact own_keepT HO91.out ho90 HS91.out.blk (by decide)
set_option maxRecDepth 100000 in
set_option maxHeartbeats 4000000 in
theorem rget_6 (v : Value) (b : List UInt8) (m : Int) (hP : partsN ((sNum 10 (some b)).1 : Int) = 6) (w : World) (hl : b.length ≤ 16777216) (hm : w.cell? ⟨0, 0, none⟩ = some (.int .i64 m)) (hb : BytesAt w v b) :
    Calls Tryz.prog 11 #[v] w fun e w' => ∃ vb, e = .returned (.tuple #[.agg (rqG (rqOut b).k (rqOut b).u (rqOut b).wh (rqOut b).nm vb (rqOut b).ph (rqOut b).pn (rqOut b).ch), .int .i64 (rqErr b : Int)]) ∧ Own EB w.heap.size w' vb (rqOut b).bs ∧ Below w.heap.size w w' := by
  obtain ⟨k, s1, hk⟩ : ∃ k s, sNum 10 (some b) = (k, s) := ⟨_, _, rfl⟩
  rw [hk] at hP
  have HPE := Lib.hid (show partsN (k : Int) = 6 from hP)
  have hle := sNum_len 10 (some b)
  rw [hk] at hle
  have hl1 : stLen s1 ≤ 16777216 := Nat.le_trans hle hl
  have hl0 : stLen (some b) ≤ 16777216 := hl
  have HQ1 := Lib.hid hk
  have HP := Lib.hid (fun W => (show Calls Tryz.prog 37 #[.int .i64 k] W fun e w' => e = .returned (.int .u8 6) ∧ w' = W by have := parts_any (k : Int) W; rwa [HPE.out] at this))
  have HM := Lib.hid hm
  have HBY := Lib.hid hb
  clear hP hle hk hm hb
  go_enter Tryz.func11, Tryz.ntmps11
  go_wp2_with (first | (with_reducible refine Agg.wpList_zero rfl 29 rfl (rqG 0 0 0 [] (.slice none 0 0) z20 [] z20) rq_zero ?_; intro gr w1 hb1 hx1 hgr; have hlt1 := hb1.lt; have HB1 := Lib.hid hb1; have HX1 := Lib.hid hx1; clear hb1 hx1))
  refine (over_any v b _ hl (HBY.out.below HX1.out)).mono ?_
  rintro e w2 ⟨gc, v2, rfl, hgc, hcu, hx2⟩
  have HC2 := Lib.hid (CuS.good hcu)
  have hltc := hcu.blk.lt
  have HB2 := Lib.hid (HB1.out.below hx2)
  have HK2 := Lib.hid (Agg.belowThen HX1.out (Nat.le_refl _) hx2)
  have hs1 := HX1.out.size
  have hs2 := hx2.size
  clear hcu hx2
  go_wp2_with (first | (with_reducible refine Agg.wpList_build1 89 0 _ rfl rfl (.pointer (some ⟨gc, 0, none⟩)) rfl (.agg (gtC gc false)) (gt_build gc) ?_) | (with_reducible refine Agg.wpList_box rfl 89 _ rfl (gtC gc false) rfl ?_; intro gg w3 hb3 hx3 hgg; have HS3 := Lib.hid (⟨⟨hb3, HC2.out.below hx3⟩, HB2.out.below hx3, Agg.belowThen HK2.out (Nat.le_refl _) hx3, by omega, by omega, hgr, by omega, by omega⟩ : GeS 29 w w1.heap.size gr gg gc w3 (some b) false (rqG 0 0 0 [] (.slice none 0 0) z20 [] z20)); clear hb3 hx3) | (with_reducible refine Agg.wpList_loadL HS3.out.gt.ptr rfl _ rfl rfl ?_))
  refine (snum_any w1.heap.size gc 10 (some b) _ hl (by omega) HS3.out.gt.cur).mono ?_
  rintro e w4 ⟨rfl, hc, ho⟩
  rw [HQ1.out] at hc ⊢
  have HS4 := Lib.hid (HS3.out.step ho hc)
  clear hc ho
  go_wp2_with (first | (obtain ⟨w5, hrun, hb, ho⟩ := rqB_kind HS4.out.blk (k : Int); refine Agg.wpList_store rfl rfl 22 _ _ rfl (.pointer (some ⟨gr, 0, none⟩)) _ rfl rfl hrun ?_; have HS5 := Lib.hid (HS4.out.store hb ho (by decide) (by decide) (by decide)); clear hb ho hrun) | (with_reducible refine Agg.wpList_loadL HS5.out.gt.ptr rfl _ rfl rfl ?_))
  refine (snum_any w1.heap.size gc 8 s1 _ hl1 (by omega) HS5.out.gt.cur).mono ?_
  rintro e w6 ⟨rfl, hc, ho⟩
  obtain ⟨u, s2, hk⟩ : ∃ k s, sNum 8 s1 = (k, s) := ⟨_, _, rfl⟩
  have hle := sNum_len 8 s1
  rw [hk] at hc hle ⊢
  have hs2 : stLen s2 ≤ 16777216 := Nat.le_trans hle hl1
  have HQ2 := Lib.hid hk
  clear hle hk
  have HS6 := Lib.hid (HS5.out.step ho hc)
  clear hc ho
  go_wp2_with (first | (obtain ⟨w7, hrun, hb, ho⟩ := rqB_user HS6.out.blk (u : Int); refine Agg.wpList_store rfl rfl 3 _ _ rfl (.pointer (some ⟨gr, 1, none⟩)) _ rfl rfl hrun ?_; have HS7 := Lib.hid (HS6.out.store hb ho (by decide) (by decide) (by decide)); clear hb ho hrun) | (with_reducible refine Agg.wpList_loadL (RqG.of_blk HS7.out.blk z20_length z20_length).kind rfl _ rfl rfl ?_))
  refine (HP.out _).mono ?_
  rintro e u3 ⟨rfl, rfl⟩
  go_wp2_with fail
  refine (hasB (P := 6) (c := 1) (b := false) (by omega) (by omega) (by decide) _).mono ?_
  rintro e u8 ⟨rfl, rfl⟩
  go_wp2_with fail
  refine (hasB (P := 6) (c := 2) (b := true) (by omega) (by omega) (by decide) _).mono ?_
  rintro e u9 ⟨rfl, rfl⟩
  go_wp2_with (first | (with_reducible refine Agg.wpList_loadL HS7.out.gt.ptr rfl _ rfl rfl ?_))
  refine (stext_any w1.heap.size gc 24 s2 _ hs2 HS7.out.gt.cur).mono ?_
  rintro e w10 ⟨un, rfl, hu, hc, ho⟩
  obtain ⟨nm, s4, hk⟩ : ∃ k s, sText 24 s2 = (k, s) := ⟨_, _, rfl⟩
  have hle := sText_len 24 s2
  rw [hk] at hc hle hu
  have hs4 : stLen s4 ≤ 16777216 := Nat.le_trans hle hs2
  have HQ4 := Lib.hid hk
  have HU4 := Lib.hid hu.slice
  have HS10 := Lib.hid (HS7.out.step ho hc)
  clear hle hk hc ho hu
  go_wp2_with (first | (with_reducible refine wpList_toStr HU4.out _ rfl (by kernel_rfl) rfl ?_) | (obtain ⟨w11, hrun, hb, ho⟩ := rqB_name HS10.out.blk nm; refine Agg.wpList_store rfl rfl 9 _ _ rfl (.pointer (some ⟨gr, 3, none⟩)) _ rfl rfl hrun ?_; have HS11 := Lib.hid (HS10.out.store hb ho (by decide) (by decide) (by decide)); clear hb ho hrun))
  refine (hasB (P := 6) (c := 12) (b := true) (by omega) (by omega) (by decide) _).mono ?_
  rintro e u12 ⟨rfl, rfl⟩
  go_wp2_with fail
  refine (gpath_any w1.heap.size gg gc s4 false m _ hs4 (HS11.out.cell HM.out) HS11.out.gt).mono ?_
  rintro e w13 ⟨rfl, hg, ho⟩
  obtain ⟨t, s5, hk⟩ : ∃ k s, sText 57 s4 = (k, s) := ⟨_, _, rfl⟩
  have hle := sText_len 57 s4
  rw [hk] at hg hle ⊢
  obtain ⟨od, hod⟩ : ∃ x, textOdd t = x := ⟨_, rfl⟩
  rw [Bool.false_or, hod] at hg
  have hs5 : stLen s5 ≤ 16777216 := Nat.le_trans hle hs4
  have HQ5 := Lib.hid hk
  have HOD := Lib.hid hod
  have HS13 := Lib.hid (HS11.out.stepG ho (fun _ h => h) hg)
  have HPL := Lib.hid (parseH_length t)
  clear hle hk hg ho hod
  go_wp2_with (first | (obtain ⟨w14, hrun, hb, ho⟩ := rqB_path HS13.out.blk z20_length (parseH t) (parseN t) HPL.out; refine Agg.wpList_store rfl rfl 27 _ _ rfl (.pointer (some ⟨gr, 5, none⟩)) _ rfl rfl hrun ?_; have HS14 := Lib.hid (HS13.out.store hb ho (by decide) (by decide) (by decide)); clear hb ho hrun))
  refine (hasB (P := 6) (c := 16) (b := false) (by omega) (by omega) (by decide) _).mono ?_
  rintro e u15 ⟨rfl, rfl⟩
  go_wp2_with fail
  refine (hasB (P := 6) (c := 32) (b := false) (by omega) (by omega) (by decide) _).mono ?_
  rintro e u16 ⟨rfl, rfl⟩
  go_wp2_with fail
  refine (gok_any w1.heap.size gg gc s5 od _ HS14.out.gt).mono ?_
  rintro e wk ⟨rfl, rfl⟩
  have HG := Lib.hid (get_parts HQ1.out HPE.out HQ2.out (show pW 6 s2 = (0, s2) from rfl) (show pN 6 s2 = (nm, s4) from HQ4.out) (show pT 6 s4 = (t, s5) from HQ5.out) (show pH 6 s5 = (z20, s5) from rfl) (show pB 6 (mostN (k : Int)) s5 = ([], s5) from rfl))
  obtain ⟨ok, hok⟩ : ∃ x, (decide (s5 = some []) && !od) = x := ⟨_, rfl⟩
  rw [hok]
  have HOK := Lib.hid hok
  clear hok
  cases ok with
  | false =>
    have HN := Lib.hid (show getRq b = none from by
      have h := HOK.out
      rw [HG.out, if_neg]
      rintro ⟨h1, h2, _⟩
      rw [HOD.out] at h2
      simp only [h1, h2, decide_true, Bool.not_false, Bool.and_true, reduceCtorEq] at h)
    go_wp2_with (first | (with_reducible refine Agg.wpList_build0 29 rfl rfl (.agg (rqG 0 0 0 [] (.slice none 0 0) z20 [] z20)) rq_build0 ?_) | (refine Agg.wpList_put rfl rfl 29 _ _ rfl gr (rqG 0 0 0 [] (.slice none 0 0) z20 [] z20) _ rfl rfl HS14.out.blk (rq_info z20_length z20_length) (by rw [rqG_size HPL.out z20_length, rqG_size z20_length z20_length]) (by kernel_rfl) ?_; intro w90 hb90 hx90 hs90 hk90))
    have hx := HS14.out.below.trans (hx90.mono HS14.out.gr_ge)
    refine Agg.post_row_tmp rfl rfl rfl hb90 rq_under rfl (rq_info z20_length z20_length) rfl ⟨.slice none 0 0, ?_, ?_, hx⟩
    · rw [(rqOut_none HN.out).1, (rqOut_none HN.out).2]; rfl
    · rw [(rqOut_none HN.out).1]; exact Own.nil _ _ _
  | true =>
    have HBS := Lib.hid (show BytesAt wk (.slice none 0 0) [] from (Own.nil _ _ _ : Own EB w.heap.size wk (.slice none 0 0) []).slice)
    go_wp2_with (first | (with_reducible refine Agg.wpList_loadL (RqG.of_blk HS14.out.blk HPL.out z20_length).all rfl _ rfl rfl ?_))
    refine (right_any k u 0 nm (.slice none 0 0) [] (parseH t) (parseN t) z20 HPL.out z20_length _ HBS.out).mono ?_
    rintro e w91 ⟨rfl, hx91⟩
    have HS91 := Lib.hid (HS14.out.later hx91)
    have HO91 := Lib.hid ((Own.nil _ _ _ : Own EB w.heap.size wk (.slice none 0 0) []).below hx91)
    clear hx91
    cases hr : rightN k u 0 nm ([] : List UInt8).length (parseH t) (parseN t) z20 with
    | false =>
      have HN := Lib.hid (show getRq b = none from by
        rw [HG.out, if_neg]
        rintro ⟨_, _, h3⟩
        have h3 : rightN k u 0 nm ([] : List UInt8).length (parseH t) (parseN t) z20 = true := h3
        rw [hr] at h3
        exact absurd h3 (by decide))
      go_wp2_with (first | (with_reducible refine Agg.wpList_build0 29 rfl rfl (.agg (rqG 0 0 0 [] (.slice none 0 0) z20 [] z20)) rq_build0 ?_) | (refine Agg.wpList_put rfl rfl 29 _ _ rfl gr (rqG 0 0 0 [] (.slice none 0 0) z20 [] z20) _ rfl rfl HS91.out.blk (rq_info z20_length z20_length) (by rw [rqG_size HPL.out z20_length, rqG_size z20_length z20_length]) (by kernel_rfl) ?_; intro w90 hb90 hx90 hs90 hk90))
      have hx := HS91.out.below.trans (hx90.mono HS91.out.gr_ge)
      refine Agg.post_row_tmp rfl rfl rfl hb90 rq_under rfl (rq_info z20_length z20_length) rfl ⟨.slice none 0 0, ?_, ?_, hx⟩
      · rw [(rqOut_none HN.out).1, (rqOut_none HN.out).2]; rfl
      · rw [(rqOut_none HN.out).1]; exact Own.nil _ _ _
    | true =>
      have HY := Lib.hid (show getRq b = some ⟨k, u, 0, nm, [], parseH t, parseN t, z20⟩ from by
        have h := HOK.out
        simp only [Bool.and_eq_true, decide_eq_true_eq, Bool.not_eq_true'] at h
        exact HG.out.trans (if_pos ⟨h.1, HOD.out.trans h.2, hr⟩))
      go_wp2_with (first | (with_reducible refine Agg.wpList_loadL (RqG.of_blk HS91.out.blk HPL.out z20_length).all rfl _ rfl rfl ?_) | (refine Agg.wpList_put rfl rfl 29 _ _ rfl gr (rqG k u 0 nm (.slice none 0 0) (parseH t) (parseN t) z20) _ rfl rfl HS91.out.blk (rq_info HPL.out z20_length) rfl (rq_one HBS.out _ _ _ _ _ _ _) ?_; intro w90 hb90 hx90 hs90 hk90))
      have hx := HS91.out.below.trans (hx90.mono HS91.out.gr_ge)
      have ho90 : Only (· = gr) _ w90 := Only.of_eq hx90 hs90 hk90 rfl
      refine Agg.post_row_tmp rfl rfl rfl hb90 rq_under rfl (rq_info HPL.out z20_length) rfl ⟨(.slice none 0 0), ?_, ?_, hx⟩
      · rw [(rqOut_some HY.out).1, (rqOut_some HY.out).2]; rfl
      · rw [(rqOut_some HY.out).1]; exact own_keepT HO91.out ho90 HS91.out.blk (by decide)
set_option maxRecDepth 100000 in
set_option maxHeartbeats 4000000 in
theorem rget_2 (v : Value) (b : List UInt8) (m : Int) (hP : partsN ((sNum 10 (some b)).1 : Int) = 2) (w : World) (hl : b.length ≤ 16777216) (hm : w.cell? ⟨0, 0, none⟩ = some (.int .i64 m)) (hb : BytesAt w v b) :
    Calls Tryz.prog 11 #[v] w fun e w' => ∃ vb, e = .returned (.tuple #[.agg (rqG (rqOut b).k (rqOut b).u (rqOut b).wh (rqOut b).nm vb (rqOut b).ph (rqOut b).pn (rqOut b).ch), .int .i64 (rqErr b : Int)]) ∧ Own EB w.heap.size w' vb (rqOut b).bs ∧ Below w.heap.size w w' := by
  obtain ⟨k, s1, hk⟩ : ∃ k s, sNum 10 (some b) = (k, s) := ⟨_, _, rfl⟩
  rw [hk] at hP
  have HPE := Lib.hid (show partsN (k : Int) = 2 from hP)
  have hle := sNum_len 10 (some b)
  rw [hk] at hle
  have hl1 : stLen s1 ≤ 16777216 := Nat.le_trans hle hl
  have hl0 : stLen (some b) ≤ 16777216 := hl
  have HQ1 := Lib.hid hk
  have HP := Lib.hid (fun W => (show Calls Tryz.prog 37 #[.int .i64 k] W fun e w' => e = .returned (.int .u8 2) ∧ w' = W by have := parts_any (k : Int) W; rwa [HPE.out] at this))
  have HM := Lib.hid hm
  have HBY := Lib.hid hb
  clear hP hle hk hm hb
  go_enter Tryz.func11, Tryz.ntmps11
  go_wp2_with (first | (with_reducible refine Agg.wpList_zero rfl 29 rfl (rqG 0 0 0 [] (.slice none 0 0) z20 [] z20) rq_zero ?_; intro gr w1 hb1 hx1 hgr; have hlt1 := hb1.lt; have HB1 := Lib.hid hb1; have HX1 := Lib.hid hx1; clear hb1 hx1))
  refine (over_any v b _ hl (HBY.out.below HX1.out)).mono ?_
  rintro e w2 ⟨gc, v2, rfl, hgc, hcu, hx2⟩
  have HC2 := Lib.hid (CuS.good hcu)
  have hltc := hcu.blk.lt
  have HB2 := Lib.hid (HB1.out.below hx2)
  have HK2 := Lib.hid (Agg.belowThen HX1.out (Nat.le_refl _) hx2)
  have hs1 := HX1.out.size
  have hs2 := hx2.size
  clear hcu hx2
  go_wp2_with (first | (with_reducible refine Agg.wpList_build1 89 0 _ rfl rfl (.pointer (some ⟨gc, 0, none⟩)) rfl (.agg (gtC gc false)) (gt_build gc) ?_) | (with_reducible refine Agg.wpList_box rfl 89 _ rfl (gtC gc false) rfl ?_; intro gg w3 hb3 hx3 hgg; have HS3 := Lib.hid (⟨⟨hb3, HC2.out.below hx3⟩, HB2.out.below hx3, Agg.belowThen HK2.out (Nat.le_refl _) hx3, by omega, by omega, hgr, by omega, by omega⟩ : GeS 29 w w1.heap.size gr gg gc w3 (some b) false (rqG 0 0 0 [] (.slice none 0 0) z20 [] z20)); clear hb3 hx3) | (with_reducible refine Agg.wpList_loadL HS3.out.gt.ptr rfl _ rfl rfl ?_))
  refine (snum_any w1.heap.size gc 10 (some b) _ hl (by omega) HS3.out.gt.cur).mono ?_
  rintro e w4 ⟨rfl, hc, ho⟩
  rw [HQ1.out] at hc ⊢
  have HS4 := Lib.hid (HS3.out.step ho hc)
  clear hc ho
  go_wp2_with (first | (obtain ⟨w5, hrun, hb, ho⟩ := rqB_kind HS4.out.blk (k : Int); refine Agg.wpList_store rfl rfl 22 _ _ rfl (.pointer (some ⟨gr, 0, none⟩)) _ rfl rfl hrun ?_; have HS5 := Lib.hid (HS4.out.store hb ho (by decide) (by decide) (by decide)); clear hb ho hrun) | (with_reducible refine Agg.wpList_loadL HS5.out.gt.ptr rfl _ rfl rfl ?_))
  refine (snum_any w1.heap.size gc 8 s1 _ hl1 (by omega) HS5.out.gt.cur).mono ?_
  rintro e w6 ⟨rfl, hc, ho⟩
  obtain ⟨u, s2, hk⟩ : ∃ k s, sNum 8 s1 = (k, s) := ⟨_, _, rfl⟩
  have hle := sNum_len 8 s1
  rw [hk] at hc hle ⊢
  have hs2 : stLen s2 ≤ 16777216 := Nat.le_trans hle hl1
  have HQ2 := Lib.hid hk
  clear hle hk
  have HS6 := Lib.hid (HS5.out.step ho hc)
  clear hc ho
  go_wp2_with (first | (obtain ⟨w7, hrun, hb, ho⟩ := rqB_user HS6.out.blk (u : Int); refine Agg.wpList_store rfl rfl 3 _ _ rfl (.pointer (some ⟨gr, 1, none⟩)) _ rfl rfl hrun ?_; have HS7 := Lib.hid (HS6.out.store hb ho (by decide) (by decide) (by decide)); clear hb ho hrun) | (with_reducible refine Agg.wpList_loadL (RqG.of_blk HS7.out.blk z20_length z20_length).kind rfl _ rfl rfl ?_))
  refine (HP.out _).mono ?_
  rintro e u3 ⟨rfl, rfl⟩
  go_wp2_with fail
  refine (hasB (P := 2) (c := 1) (b := false) (by omega) (by omega) (by decide) _).mono ?_
  rintro e u8 ⟨rfl, rfl⟩
  go_wp2_with fail
  refine (hasB (P := 2) (c := 2) (b := true) (by omega) (by omega) (by decide) _).mono ?_
  rintro e u9 ⟨rfl, rfl⟩
  go_wp2_with (first | (with_reducible refine Agg.wpList_loadL HS7.out.gt.ptr rfl _ rfl rfl ?_))
  refine (stext_any w1.heap.size gc 24 s2 _ hs2 HS7.out.gt.cur).mono ?_
  rintro e w10 ⟨un, rfl, hu, hc, ho⟩
  obtain ⟨nm, s4, hk⟩ : ∃ k s, sText 24 s2 = (k, s) := ⟨_, _, rfl⟩
  have hle := sText_len 24 s2
  rw [hk] at hc hle hu
  have hs4 : stLen s4 ≤ 16777216 := Nat.le_trans hle hs2
  have HQ4 := Lib.hid hk
  have HU4 := Lib.hid hu.slice
  have HS10 := Lib.hid (HS7.out.step ho hc)
  clear hle hk hc ho hu
  go_wp2_with (first | (with_reducible refine wpList_toStr HU4.out _ rfl (by kernel_rfl) rfl ?_) | (obtain ⟨w11, hrun, hb, ho⟩ := rqB_name HS10.out.blk nm; refine Agg.wpList_store rfl rfl 9 _ _ rfl (.pointer (some ⟨gr, 3, none⟩)) _ rfl rfl hrun ?_; have HS11 := Lib.hid (HS10.out.store hb ho (by decide) (by decide) (by decide)); clear hb ho hrun))
  refine (hasB (P := 2) (c := 12) (b := false) (by omega) (by omega) (by decide) _).mono ?_
  rintro e u12 ⟨rfl, rfl⟩
  go_wp2_with fail
  refine (hasB (P := 2) (c := 16) (b := false) (by omega) (by omega) (by decide) _).mono ?_
  rintro e u13 ⟨rfl, rfl⟩
  go_wp2_with fail
  refine (hasB (P := 2) (c := 32) (b := false) (by omega) (by omega) (by decide) _).mono ?_
  rintro e u14 ⟨rfl, rfl⟩
  go_wp2_with fail
  refine (gok_any w1.heap.size gg gc s4 false _ HS11.out.gt).mono ?_
  rintro e wk ⟨rfl, rfl⟩
  have HG := Lib.hid (get_parts HQ1.out HPE.out HQ2.out (show pW 2 s2 = (0, s2) from rfl) (show pN 2 s2 = (nm, s4) from HQ4.out) (show pT 2 s4 = ([], s4) from rfl) (show pH 2 s4 = (z20, s4) from rfl) (show pB 2 (mostN (k : Int)) s4 = ([], s4) from rfl))
  obtain ⟨ok, hok⟩ : ∃ x, (decide (s4 = some []) && !false) = x := ⟨_, rfl⟩
  rw [hok]
  have HOK := Lib.hid hok
  clear hok
  cases ok with
  | false =>
    have HN := Lib.hid (show getRq b = none from by
      have h := HOK.out
      rw [HG.out, if_neg]
      rintro ⟨h1, h2, _⟩
      clear h2
      simp only [h1, decide_true, Bool.not_false, Bool.and_true, reduceCtorEq] at h)
    go_wp2_with (first | (with_reducible refine Agg.wpList_build0 29 rfl rfl (.agg (rqG 0 0 0 [] (.slice none 0 0) z20 [] z20)) rq_build0 ?_) | (refine Agg.wpList_put rfl rfl 29 _ _ rfl gr (rqG 0 0 0 [] (.slice none 0 0) z20 [] z20) _ rfl rfl HS11.out.blk (rq_info z20_length z20_length) (by rw [rqG_size z20_length z20_length, rqG_size z20_length z20_length]) (by kernel_rfl) ?_; intro w90 hb90 hx90 hs90 hk90))
    have hx := HS11.out.below.trans (hx90.mono HS11.out.gr_ge)
    refine Agg.post_row_tmp rfl rfl rfl hb90 rq_under rfl (rq_info z20_length z20_length) rfl ⟨.slice none 0 0, ?_, ?_, hx⟩
    · rw [(rqOut_none HN.out).1, (rqOut_none HN.out).2]; rfl
    · rw [(rqOut_none HN.out).1]; exact Own.nil _ _ _
  | true =>
    have HBS := Lib.hid (show BytesAt wk (.slice none 0 0) [] from (Own.nil _ _ _ : Own EB w.heap.size wk (.slice none 0 0) []).slice)
    go_wp2_with (first | (with_reducible refine Agg.wpList_loadL (RqG.of_blk HS11.out.blk z20_length z20_length).all rfl _ rfl rfl ?_))
    refine (right_any k u 0 nm (.slice none 0 0) [] z20 [] z20 z20_length z20_length _ HBS.out).mono ?_
    rintro e w91 ⟨rfl, hx91⟩
    have HS91 := Lib.hid (HS11.out.later hx91)
    have HO91 := Lib.hid ((Own.nil _ _ _ : Own EB w.heap.size wk (.slice none 0 0) []).below hx91)
    clear hx91
    cases hr : rightN k u 0 nm ([] : List UInt8).length z20 [] z20 with
    | false =>
      have HN := Lib.hid (show getRq b = none from by
        rw [HG.out, if_neg]
        rintro ⟨_, _, h3⟩
        have h3 : rightN k u 0 nm ([] : List UInt8).length z20 [] z20 = true := h3
        rw [hr] at h3
        exact absurd h3 (by decide))
      go_wp2_with (first | (with_reducible refine Agg.wpList_build0 29 rfl rfl (.agg (rqG 0 0 0 [] (.slice none 0 0) z20 [] z20)) rq_build0 ?_) | (refine Agg.wpList_put rfl rfl 29 _ _ rfl gr (rqG 0 0 0 [] (.slice none 0 0) z20 [] z20) _ rfl rfl HS91.out.blk (rq_info z20_length z20_length) (by rw [rqG_size z20_length z20_length, rqG_size z20_length z20_length]) (by kernel_rfl) ?_; intro w90 hb90 hx90 hs90 hk90))
      have hx := HS91.out.below.trans (hx90.mono HS91.out.gr_ge)
      refine Agg.post_row_tmp rfl rfl rfl hb90 rq_under rfl (rq_info z20_length z20_length) rfl ⟨.slice none 0 0, ?_, ?_, hx⟩
      · rw [(rqOut_none HN.out).1, (rqOut_none HN.out).2]; rfl
      · rw [(rqOut_none HN.out).1]; exact Own.nil _ _ _
    | true =>
      have HY := Lib.hid (show getRq b = some ⟨k, u, 0, nm, [], parseH [], parseN [], z20⟩ from by
        have h := HOK.out
        simp only [Bool.and_eq_true, decide_eq_true_eq, Bool.not_eq_true'] at h
        exact HG.out.trans (if_pos ⟨h.1, rfl, hr⟩))
      go_wp2_with (first | (with_reducible refine Agg.wpList_loadL (RqG.of_blk HS91.out.blk z20_length z20_length).all rfl _ rfl rfl ?_) | (refine Agg.wpList_put rfl rfl 29 _ _ rfl gr (rqG k u 0 nm (.slice none 0 0) z20 [] z20) _ rfl rfl HS91.out.blk (rq_info z20_length z20_length) rfl (rq_one HBS.out _ _ _ _ _ _ _) ?_; intro w90 hb90 hx90 hs90 hk90))
      have hx := HS91.out.below.trans (hx90.mono HS91.out.gr_ge)
      have ho90 : Only (· = gr) _ w90 := Only.of_eq hx90 hs90 hk90 rfl
      refine Agg.post_row_tmp rfl rfl rfl hb90 rq_under rfl (rq_info z20_length z20_length) rfl ⟨(.slice none 0 0), ?_, ?_, hx⟩
      · rw [(rqOut_some HY.out).1, (rqOut_some HY.out).2]; rfl
      · rw [(rqOut_some HY.out).1]; exact own_keepT HO91.out ho90 HS91.out.blk (by decide)
end Go.Proofs.YtpnolgliklmnmaaGreat
