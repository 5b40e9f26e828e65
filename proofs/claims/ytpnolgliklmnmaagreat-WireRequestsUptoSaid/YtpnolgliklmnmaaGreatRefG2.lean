/- spenceref28.Get of any bytes. -/
import Derived.Test.YtpnolgliklmnmaaGreatGBB
namespace Go.Proofs.YtpnolgliklmnmaaGreat
open Go.RowKit Pl Go.Agg
set_option maxRecDepth 100000 in
set_option maxHeartbeats 4000000 in
theorem refGet_1 (v : Value) (b : List UInt8) (hP : partsN ((sNum 10 (some b)).1 : Int) = 1) (w : World) (hl : b.length ≤ 16777216) (hb : BytesAt w v b) :
    Calls Tryz.prog 12 #[v] w fun e w' => ∃ vb, e = .returned (.tuple #[.agg (rqG (rqOut b).k (rqOut b).u (rqOut b).wh (rqOut b).nm vb (rqOut b).ph (rqOut b).pn (rqOut b).ch), .int .i64 (rqErr b : Int)]) ∧ Own EB w.heap.size w' vb (rqOut b).bs ∧ Below w.heap.size w w' := by
  obtain ⟨k, s1, hk⟩ : ∃ k s, sNum 10 (some b) = (k, s) := ⟨_, _, rfl⟩
  rw [hk] at hP
  have HPE := Lib.hid (show partsN (k : Int) = 1 from hP)
  have hle := sNum_len 10 (some b)
  rw [hk] at hle
  have hl1 : stLen s1 ≤ 16777216 := Nat.le_trans hle hl
  have hl0 : stLen (some b) ≤ 16777216 := hl
  have h63 : ([] : List UInt8).length + b.length ≤ 1099511627776 / 8 := by simp; omega
  have HQ1 := Lib.hid hk
  have HWD := Lib.hid (fun W => (show Calls Tryz.prog 44 #[.int .i64 k] W fun e w' => e = .returned (.string ⟨([119] : List UInt8).toArray⟩) ∧ w' = W by have := refHas_any k W; rwa [hP] at this))
  have HBY := Lib.hid hb
  clear hP hle hk hb
  go_enter Tryz.func12, Tryz.ntmps12
  go_wp2_with (first | (with_reducible refine Agg.wpList_zero rfl 29 rfl (rqG 0 0 0 [] (.slice none 0 0) z20 [] z20) rq_zero ?_; intro g0 w1 hb1 hx1 hg0; have hlt1 := hb1.lt; have HB1 := Lib.hid hb1; have HX1 := Lib.hid hx1; clear hb1 hx1) | (refine Agg.wpList_slice0 (base := w1.heap.size) EB rfl rfl (Nat.le_refl _) ?_; intro v0 w2 ho0 hx0 _; have HO0 := Lib.hid ho0; have HX0 := Lib.hid hx0; have HY0 := Lib.hid (SliceOf.below (SliceOf.below HBY.out HX1.out) hx0); have HB2 := Lib.hid (HB1.out.below hx0); have hsz0 := hx0.size; clear ho0 hx0) | (refine Agg.wpList_appendO (E := EB) (base := w1.heap.size) rfl _ _ rfl v rfl rfl b HO0.out HY0.out h63 (by decide) hsz0 ?_; intro v1 w3 ho1 hp1 _; have HR1 := Lib.hid (show Rest w1.heap.size w3 v1 b from by simpa using Rest.of_own ho1); have hvf : ∃ p n c, v1 = .slice p n c := (by obtain ⟨p, c, hf⟩ := ho1.slice.form; exact ⟨p, _, c, hf⟩); have HX3 := Lib.hid (Agg.belowThen HX1.out (Nat.le_refl _) (HX0.out.trans (hp1.below w1.heap.size (Nat.le_refl _) hsz0))); have HB3 : Hid (Blk w3 g0 29 (rqG 0 0 0 [] (.slice none 0 0) z20 [] z20)) := Lib.hid (hp1.blk g0 _ _ _ (by decide) HB2.out); have hsz3 : w1.heap.size ≤ w3.heap.size := Nat.le_trans hsz0 hp1.size; clear ho1 hp1) | (with_reducible refine Agg.wpList_build1 97 0 _ rfl rfl v1 rfl (.agg (cuC v1 0)) (cr_build hvf) ?_) | (with_reducible refine Agg.wpList_box rfl 97 _ rfl (cuC v1 0) rfl ?_; intro gc w4 hb4 hx4 hgc; have hlt4 := hb4.lt; have HC4 := Lib.hid (CrS.good ⟨hb4, HR1.out.below hx4⟩); have HB4 := Lib.hid (HB3.out.below hx4); have HX4 := Lib.hid (Agg.belowThen HX3.out (Nat.le_refl _) hx4); clear hb4 hx4))
  have hnum := rcnum_any w1.heap.size gc 10 (some b) _ hl0 (by omega) HC4.out
  rw [HQ1.out] at hnum
  dsimp only at hnum
  refine hnum.mono ?_
  rintro e w5 ⟨rfl, hc, ho⟩
  clear hnum h63 hvf
  have hsz1 := HX1.out.size
  have hsz4 := HX4.out.size
  have hgcw : w.heap.size ≤ gc := by omega
  have hz0 : g0 ≠ gc := by omega
  have HC5 := Lib.hid hc
  have HB5 := Lib.hid (HB4.out.only ho hz0)
  have HX5 := Lib.hid (HX4.out.trans (ho.below hsz4 fun _ e => e ▸ hgcw))
  have hlt5 : gc < w5.heap.size := hc.lt
  have hlt05 := HB5.out.lt
  clear hc ho
  go_wp2_with (first | (with_reducible refine Agg.wpList_build1 29 0 _ rfl rfl (.int .i64 (k : Int)) rfl (.agg (rqG k 0 0 [] (.slice none 0 0) z20 [] z20)) (rq_build1 k) ?_) | (refine Agg.wpList_new rfl rfl rfl 29 5 17 rfl rfl rfl (by decide) (rqG 0 0 0 [] (.slice none 0 0) z20 [] z20) (rqG k 0 0 [] (.slice none 0 0) z20 [] z20) rq_zero (by rw [rqG_size z20_length z20_length, rqG_size z20_length z20_length]) (rq_info z20_length z20_length) (rq_one (SliceOf.nil w none 0) _ _ _ _ _ _ _) rfl (by first | (simp; done) | simp [Act.put]) ?_; intro gr w6 hb6 hx6 hg6; have HS6 := Lib.hid (⟨HC5.out.below hx6, HB5.out.below hx6, hb6, Agg.belowThen HX5.out (Nat.le_refl _) hx6, by omega, by omega, by omega, by omega, by have := HX5.out.size; omega, by omega⟩ : GeR 29 w w1.heap.size g0 gr gc w6 s1 (rqG 0 0 0 [] (.slice none 0 0) z20 [] z20) (rqG k 0 0 [] (.slice none 0 0) z20 [] z20)); clear hb6 hx6))
  refine (rcnum_any w1.heap.size gc 8 s1 _ hl1 (by omega) HS6.out.cur).mono ?_
  rintro e w7 ⟨rfl, hc, ho⟩
  obtain ⟨u, s2, hk⟩ : ∃ k s, sNum 8 s1 = (k, s) := ⟨_, _, rfl⟩
  have hle := sNum_len 8 s1
  rw [hk] at hc hle ⊢
  have hs2 : stLen s2 ≤ 16777216 := Nat.le_trans hle hl1
  have HQ2 := Lib.hid hk
  clear hle hk
  have HS7 := Lib.hid (HS6.out.step ho hc)
  clear hc ho
  go_wp2_with (first | (obtain ⟨w8, hrun, hb, ho⟩ := rqB_user HS7.out.blk (u : Int); refine Agg.wpList_store rfl rfl 3 _ _ rfl (.pointer (some ⟨gr, 1, none⟩)) _ rfl rfl hrun ?_; have HS8 := Lib.hid (HS7.out.store hb ho (by decide) (by decide)); clear hb ho hrun) | (with_reducible refine Agg.wpList_loadL (RqG.of_blk HS8.out.blk z20_length z20_length).kind rfl _ rfl rfl ?_))
  refine (HWD.out _).mono ?_
  rintro e u3 ⟨rfl, rfl⟩
  go_wp2_with fail
  refine (refIn_is (s := [119]) (c := 119) (b := true) (by decide) (by decide) (by omega) _).mono ?_
  rintro e u9 ⟨rfl, rfl⟩
  go_wp2_with fail
  refine (rcnum_any w1.heap.size gc 16 s2 _ hs2 (by omega) HS8.out.cur).mono ?_
  rintro e w10 ⟨rfl, hc, ho⟩
  obtain ⟨wh, s3, hk⟩ : ∃ k s, sNum 16 s2 = (k, s) := ⟨_, _, rfl⟩
  have hle := sNum_len 16 s2
  rw [hk] at hc hle ⊢
  have hs3 : stLen s3 ≤ 16777216 := Nat.le_trans hle hs2
  have HQ3 := Lib.hid hk
  clear hle hk
  have HS10 := Lib.hid (HS8.out.step ho hc)
  clear hc ho
  go_wp2_with (first | (obtain ⟨w11, hrun, hb, ho⟩ := rqB_who HS10.out.blk (wh : Int); refine Agg.wpList_store rfl rfl 3 _ _ rfl (.pointer (some ⟨gr, 2, none⟩)) _ rfl rfl hrun ?_; have HS11 := Lib.hid (HS10.out.store hb ho (by decide) (by decide)); clear hb ho hrun))
  refine (refIn_is (s := [119]) (c := 110) (b := false) (by decide) (by decide) (by omega) _).mono ?_
  rintro e u12 ⟨rfl, rfl⟩
  go_wp2_with fail
  refine (refIn_is (s := [119]) (c := 112) (b := false) (by decide) (by decide) (by omega) _).mono ?_
  rintro e u13 ⟨rfl, rfl⟩
  go_wp2_with fail
  refine (refIn_is (s := [119]) (c := 122) (b := false) (by decide) (by decide) (by omega) _).mono ?_
  rintro e u14 ⟨rfl, rfl⟩
  go_wp2_with fail
  refine (refIn_is (s := [119]) (c := 99) (b := false) (by decide) (by decide) (by omega) _).mono ?_
  rintro e u15 ⟨rfl, rfl⟩
  go_wp2_with fail
  refine (refIn_is (s := [119]) (c := 98) (b := false) (by decide) (by decide) (by omega) _).mono ?_
  rintro e u16 ⟨rfl, rfl⟩
  go_wp2_with (first | (with_reducible refine Agg.wpList_loadL (RqG.of_blk HS11.out.blk z20_length z20_length).all rfl _ rfl rfl ?_))
  have HOB := Lib.hid HS11.out.own0
  have HG := Lib.hid (get_partsD HQ1.out HPE.out HQ2.out (show pW 1 s2 = (wh, s3) from HQ3.out) (show pN 1 s3 = ([], s3) from rfl) (show pT 1 s3 = ([], s3) from rfl) (show pH 1 s3 = (z20, s3) from rfl) (show pB 1 4096 s3 = ([], s3) from rfl))
  obtain ⟨q, hq⟩ : ∃ q : Rq, q = ⟨(k : Int), (u : Int), (wh : Int), [], ([] : List UInt8), z20, [], z20⟩ := ⟨_, rfl⟩
  refine (refPut_any k u wh [] (.slice none 0 0) ([] : List UInt8) z20 [] z20 z20_length z20_length (by simp) (by simp) _ HOB.out.slice).mono ?_
  rintro e w91 ⟨va, rfl, hva, hx91⟩
  have HS91 := Lib.hid (HS11.out.later hx91)
  have HO91 := Lib.hid (HOB.out.below hx91)
  obtain ⟨cd, hcd⟩ : ∃ x, rqCode ⟨(k : Int), (u : Int), (wh : Int), [], ([] : List UInt8), z20, [], z20⟩ = x := ⟨_, rfl⟩
  obtain ⟨ab, hab⟩ : ∃ x, rqBytes ⟨(k : Int), (u : Int), (wh : Int), [], ([] : List UInt8), z20, [], z20⟩ = x := ⟨_, rfl⟩
  rw [hcd] at ⊢
  rw [hab] at hva
  have HVA := Lib.hid hva.slice
  have HBA := Lib.hid (HBY.out.below HS91.out.below)
  clear hva hx91
  cases hr : Rq.right ⟨(k : Int), (u : Int), (wh : Int), [], ([] : List UInt8), z20, [], z20⟩ with
  | false =>
    obtain rfl : 2 = cd := by rw [← hcd]; simp [rqCode, hr]
    have HN := Lib.hid (show getRq b = none from by
      rw [HG.out, if_neg]
      rintro ⟨h3, _⟩
      have h3 : Rq.right ⟨(k : Int), (u : Int), (wh : Int), [], ([] : List UInt8), z20, [], z20⟩ = true := h3
      rw [hr] at h3
      exact absurd h3 (by decide))
    clear hcd hab hr
    go_wp2_with (first | (with_reducible refine Agg.wpList_build0 29 rfl rfl (.agg (rqG 0 0 0 [] (.slice none 0 0) z20 [] z20)) rq_build0 ?_) | (refine Agg.wpList_put rfl rfl 29 _ _ rfl g0 (rqG 0 0 0 [] (.slice none 0 0) z20 [] z20) (rqG 0 0 0 [] (.slice none 0 0) z20 [] z20) rfl rfl HS91.out.zero (rq_info z20_length z20_length) rfl (rq_one (SliceOf.nil w none 0) _ _ _ _ _ _ _) ?_; intro w93 hb93 hx93 hs93 hk93))
    have hx := HS91.out.below.trans (hx93.mono HS91.out.g0_ge)
    refine Agg.post_row_tmp rfl rfl rfl hb93 rq_under rfl (rq_info z20_length z20_length) rfl ⟨.slice none 0 0, ?_, ?_, hx⟩
    · rw [(rqOut_none HN.out).1, (rqOut_none HN.out).2]; rfl
    · rw [(rqOut_none HN.out).1]; exact Own.nil _ _ _
  | true =>
    obtain rfl : 0 = cd := by rw [← hcd]; simp [rqCode, hr]
    obtain rfl : putRq ⟨(k : Int), (u : Int), (wh : Int), [], ([] : List UInt8), z20, [], z20⟩ = ab := by rw [← hab]; simp [rqBytes, hr]
    have HRT := Lib.hid hr
    clear hcd hab hr
    go_wp2_with fail
    refine (rsend_any w1.heap.size gc s3 _ HS91.out.cur).mono ?_
    rintro e w92 ⟨⟨c, rfl, hc⟩, rfl⟩
    by_cases hc0 : c = 0
    · subst hc0
      have HE7 := Lib.hid (hc.1 rfl)
      clear hc
      obtain ⟨ab, hab⟩ : ∃ x, putRq ⟨(k : Int), (u : Int), (wh : Int), [], ([] : List UInt8), z20, [], z20⟩ = x := ⟨_, rfl⟩
      rw [hab] at HVA
      have hta := Agg.bytes_toList ab
      have htb := Agg.bytes_toList b
      cases hz : (ab == b) with
      | false =>
        have HN := Lib.hid (show getRq b = none from by
          rw [HG.out, if_neg]
          rintro ⟨_, _, h3⟩
          have h3 : putRq ⟨(k : Int), (u : Int), (wh : Int), [], ([] : List UInt8), z20, [], z20⟩ = b := h3
          rw [hab] at h3
          rw [h3] at hz
          simp at hz)
        clear hab
        have hz2 : (ab != b) = true := by rw [bne, hz]; rfl
        go_wp2_with (first | (with_reducible refine wpList_toStr HVA.out _ rfl (by kernel_rfl) rfl ?_) | (with_reducible refine wpList_toStr HBA.out _ rfl (by kernel_rfl) rfl ?_) | (with_reducible refine Agg.wpList_build0 29 rfl rfl (.agg (rqG 0 0 0 [] (.slice none 0 0) z20 [] z20)) rq_build0 ?_) | (refine Agg.wpList_put rfl rfl 29 _ _ rfl g0 (rqG 0 0 0 [] (.slice none 0 0) z20 [] z20) (rqG 0 0 0 [] (.slice none 0 0) z20 [] z20) rfl rfl HS91.out.zero (rq_info z20_length z20_length) rfl (rq_one (SliceOf.nil w none 0) _ _ _ _ _ _ _) ?_; intro w93 hb93 hx93 hs93 hk93))
        have hx := HS91.out.below.trans (hx93.mono HS91.out.g0_ge)
        refine Agg.post_row_tmp rfl rfl rfl hb93 rq_under rfl (rq_info z20_length z20_length) rfl ⟨.slice none 0 0, ?_, ?_, hx⟩
        · rw [(rqOut_none HN.out).1, (rqOut_none HN.out).2]; rfl
        · rw [(rqOut_none HN.out).1]; exact Own.nil _ _ _
      | true =>
        have hz1 : ab = b := by simpa using hz
        have HY := Lib.hid (show getRq b = some ⟨(k : Int), (u : Int), (wh : Int), [], ([] : List UInt8), z20, [], z20⟩ from HG.out.trans (if_pos ⟨HRT.out, HE7.out, hab.trans hz1⟩))
        clear hab
        have hz2 : (ab != b) = false := by rw [bne, hz]; rfl
        go_wp2_with (first | (with_reducible refine wpList_toStr HVA.out _ rfl (by kernel_rfl) rfl ?_) | (with_reducible refine wpList_toStr HBA.out _ rfl (by kernel_rfl) rfl ?_) | (with_reducible refine Agg.wpList_loadL (RqG.of_blk HS91.out.blk z20_length z20_length).all rfl _ rfl rfl ?_) | (refine Agg.wpList_put rfl rfl 29 _ _ rfl g0 (rqG k u wh [] (.slice none 0 0) z20 [] z20) (rqG 0 0 0 [] (.slice none 0 0) z20 [] z20) rfl rfl HS91.out.zero (rq_info z20_length z20_length) (by rw [rqG_size z20_length z20_length, rqG_size z20_length z20_length]) (rq_one HO91.out.slice _ _ _ _ _ _ _) ?_; intro w93 hb93 hx93 hs93 hk93))
        have hx := HS91.out.below.trans (hx93.mono HS91.out.g0_ge)
        have ho93 : Only (· = g0) _ w93 := Only.of_eq hx93 hs93 hk93 rfl
        refine Agg.post_row_tmp rfl rfl rfl hb93 rq_under rfl (rq_info z20_length z20_length) rfl ⟨(.slice none 0 0), ?_, ?_, hx⟩
        · rw [(rqOut_some HY.out).1, (rqOut_some HY.out).2]; rfl
        · rw [(rqOut_some HY.out).1]; exact own_keepT HO91.out ho93 HS91.out.zero (by decide)
    · have hcn : ((c : Int) != 0) = true := by rw [bne, beq_eq_false_iff_ne.2 (show (c : Int) ≠ 0 by omega)]; rfl
      have HN := Lib.hid (show getRq b = none from by
        rw [HG.out, if_neg]
        rintro ⟨_, h3, _⟩
        exact hc0 (hc.2 h3))
      clear hc
      go_wp2_with (first | (with_reducible refine Agg.wpList_build0 29 rfl rfl (.agg (rqG 0 0 0 [] (.slice none 0 0) z20 [] z20)) rq_build0 ?_) | (refine Agg.wpList_put rfl rfl 29 _ _ rfl g0 (rqG 0 0 0 [] (.slice none 0 0) z20 [] z20) (rqG 0 0 0 [] (.slice none 0 0) z20 [] z20) rfl rfl HS91.out.zero (rq_info z20_length z20_length) rfl (rq_one (SliceOf.nil w none 0) _ _ _ _ _ _ _) ?_; intro w93 hb93 hx93 hs93 hk93))
      have hx := HS91.out.below.trans (hx93.mono HS91.out.g0_ge)
      refine Agg.post_row_tmp rfl rfl rfl hb93 rq_under rfl (rq_info z20_length z20_length) rfl ⟨.slice none 0 0, ?_, ?_, hx⟩
      · rw [(rqOut_none HN.out).1, (rqOut_none HN.out).2]; rfl
      · rw [(rqOut_none HN.out).1]; exact Own.nil _ _ _
set_option maxRecDepth 100000 in
set_option maxHeartbeats 4000000 in
theorem refGet_6 (v : Value) (b : List UInt8) (hP : partsN ((sNum 10 (some b)).1 : Int) = 6) (w : World) (hl : b.length ≤ 16777216) (hb : BytesAt w v b) :
    Calls Tryz.prog 12 #[v] w fun e w' => ∃ vb, e = .returned (.tuple #[.agg (rqG (rqOut b).k (rqOut b).u (rqOut b).wh (rqOut b).nm vb (rqOut b).ph (rqOut b).pn (rqOut b).ch), .int .i64 (rqErr b : Int)]) ∧ Own EB w.heap.size w' vb (rqOut b).bs ∧ Below w.heap.size w w' := by
  obtain ⟨k, s1, hk⟩ : ∃ k s, sNum 10 (some b) = (k, s) := ⟨_, _, rfl⟩
  rw [hk] at hP
  have HPE := Lib.hid (show partsN (k : Int) = 6 from hP)
  have hle := sNum_len 10 (some b)
  rw [hk] at hle
  have hl1 : stLen s1 ≤ 16777216 := Nat.le_trans hle hl
  have hl0 : stLen (some b) ≤ 16777216 := hl
  have h63 : ([] : List UInt8).length + b.length ≤ 1099511627776 / 8 := by simp; omega
  have HQ1 := Lib.hid hk
  have HWD := Lib.hid (fun W => (show Calls Tryz.prog 44 #[.int .i64 k] W fun e w' => e = .returned (.string ⟨([110, 112] : List UInt8).toArray⟩) ∧ w' = W by have := refHas_any k W; rwa [hP] at this))
  have HBY := Lib.hid hb
  clear hP hle hk hb
  go_enter Tryz.func12, Tryz.ntmps12
  go_wp2_with (first | (with_reducible refine Agg.wpList_zero rfl 29 rfl (rqG 0 0 0 [] (.slice none 0 0) z20 [] z20) rq_zero ?_; intro g0 w1 hb1 hx1 hg0; have hlt1 := hb1.lt; have HB1 := Lib.hid hb1; have HX1 := Lib.hid hx1; clear hb1 hx1) | (refine Agg.wpList_slice0 (base := w1.heap.size) EB rfl rfl (Nat.le_refl _) ?_; intro v0 w2 ho0 hx0 _; have HO0 := Lib.hid ho0; have HX0 := Lib.hid hx0; have HY0 := Lib.hid (SliceOf.below (SliceOf.below HBY.out HX1.out) hx0); have HB2 := Lib.hid (HB1.out.below hx0); have hsz0 := hx0.size; clear ho0 hx0) | (refine Agg.wpList_appendO (E := EB) (base := w1.heap.size) rfl _ _ rfl v rfl rfl b HO0.out HY0.out h63 (by decide) hsz0 ?_; intro v1 w3 ho1 hp1 _; have HR1 := Lib.hid (show Rest w1.heap.size w3 v1 b from by simpa using Rest.of_own ho1); have hvf : ∃ p n c, v1 = .slice p n c := (by obtain ⟨p, c, hf⟩ := ho1.slice.form; exact ⟨p, _, c, hf⟩); have HX3 := Lib.hid (Agg.belowThen HX1.out (Nat.le_refl _) (HX0.out.trans (hp1.below w1.heap.size (Nat.le_refl _) hsz0))); have HB3 : Hid (Blk w3 g0 29 (rqG 0 0 0 [] (.slice none 0 0) z20 [] z20)) := Lib.hid (hp1.blk g0 _ _ _ (by decide) HB2.out); have hsz3 : w1.heap.size ≤ w3.heap.size := Nat.le_trans hsz0 hp1.size; clear ho1 hp1) | (with_reducible refine Agg.wpList_build1 97 0 _ rfl rfl v1 rfl (.agg (cuC v1 0)) (cr_build hvf) ?_) | (with_reducible refine Agg.wpList_box rfl 97 _ rfl (cuC v1 0) rfl ?_; intro gc w4 hb4 hx4 hgc; have hlt4 := hb4.lt; have HC4 := Lib.hid (CrS.good ⟨hb4, HR1.out.below hx4⟩); have HB4 := Lib.hid (HB3.out.below hx4); have HX4 := Lib.hid (Agg.belowThen HX3.out (Nat.le_refl _) hx4); clear hb4 hx4))
  have hnum := rcnum_any w1.heap.size gc 10 (some b) _ hl0 (by omega) HC4.out
  rw [HQ1.out] at hnum
  dsimp only at hnum
  refine hnum.mono ?_
  rintro e w5 ⟨rfl, hc, ho⟩
  clear hnum h63 hvf
  have hsz1 := HX1.out.size
  have hsz4 := HX4.out.size
  have hgcw : w.heap.size ≤ gc := by omega
  have hz0 : g0 ≠ gc := by omega
  have HC5 := Lib.hid hc
  have HB5 := Lib.hid (HB4.out.only ho hz0)
  have HX5 := Lib.hid (HX4.out.trans (ho.below hsz4 fun _ e => e ▸ hgcw))
  have hlt5 : gc < w5.heap.size := hc.lt
  have hlt05 := HB5.out.lt
  clear hc ho
  go_wp2_with (first | (with_reducible refine Agg.wpList_build1 29 0 _ rfl rfl (.int .i64 (k : Int)) rfl (.agg (rqG k 0 0 [] (.slice none 0 0) z20 [] z20)) (rq_build1 k) ?_) | (refine Agg.wpList_new rfl rfl rfl 29 5 17 rfl rfl rfl (by decide) (rqG 0 0 0 [] (.slice none 0 0) z20 [] z20) (rqG k 0 0 [] (.slice none 0 0) z20 [] z20) rq_zero (by rw [rqG_size z20_length z20_length, rqG_size z20_length z20_length]) (rq_info z20_length z20_length) (rq_one (SliceOf.nil w none 0) _ _ _ _ _ _ _) rfl (by first | (simp; done) | simp [Act.put]) ?_; intro gr w6 hb6 hx6 hg6; have HS6 := Lib.hid (⟨HC5.out.below hx6, HB5.out.below hx6, hb6, Agg.belowThen HX5.out (Nat.le_refl _) hx6, by omega, by omega, by omega, by omega, by have := HX5.out.size; omega, by omega⟩ : GeR 29 w w1.heap.size g0 gr gc w6 s1 (rqG 0 0 0 [] (.slice none 0 0) z20 [] z20) (rqG k 0 0 [] (.slice none 0 0) z20 [] z20)); clear hb6 hx6))
  refine (rcnum_any w1.heap.size gc 8 s1 _ hl1 (by omega) HS6.out.cur).mono ?_
  rintro e w7 ⟨rfl, hc, ho⟩
  obtain ⟨u, s2, hk⟩ : ∃ k s, sNum 8 s1 = (k, s) := ⟨_, _, rfl⟩
  have hle := sNum_len 8 s1
  rw [hk] at hc hle ⊢
  have hs2 : stLen s2 ≤ 16777216 := Nat.le_trans hle hl1
  have HQ2 := Lib.hid hk
  clear hle hk
  have HS7 := Lib.hid (HS6.out.step ho hc)
  clear hc ho
  go_wp2_with (first | (obtain ⟨w8, hrun, hb, ho⟩ := rqB_user HS7.out.blk (u : Int); refine Agg.wpList_store rfl rfl 3 _ _ rfl (.pointer (some ⟨gr, 1, none⟩)) _ rfl rfl hrun ?_; have HS8 := Lib.hid (HS7.out.store hb ho (by decide) (by decide)); clear hb ho hrun) | (with_reducible refine Agg.wpList_loadL (RqG.of_blk HS8.out.blk z20_length z20_length).kind rfl _ rfl rfl ?_))
  refine (HWD.out _).mono ?_
  rintro e u3 ⟨rfl, rfl⟩
  go_wp2_with fail
  refine (refIn_is (s := [110, 112]) (c := 119) (b := false) (by decide) (by decide) (by omega) _).mono ?_
  rintro e u9 ⟨rfl, rfl⟩
  go_wp2_with fail
  refine (refIn_is (s := [110, 112]) (c := 110) (b := true) (by decide) (by decide) (by omega) _).mono ?_
  rintro e u10 ⟨rfl, rfl⟩
  go_wp2_with fail
  refine (rctext_any w1.heap.size gc 24 s2 _ hs2 HS8.out.cur).mono ?_
  rintro e w11 ⟨un, rfl, hu, hc, ho⟩
  obtain ⟨nm, s4, hk⟩ : ∃ k s, sText 24 s2 = (k, s) := ⟨_, _, rfl⟩
  have hle := sText_len 24 s2
  have hnl := sText_le 24 s2
  rw [hk] at hc hle hu hnl
  have hs4 : stLen s4 ≤ 16777216 := Nat.le_trans hle hs2
  have hnm : nm.length ≤ 24 := hnl
  have HQ4 := Lib.hid hk
  have HU4 := Lib.hid hu.slice
  have HS11 := Lib.hid (HS8.out.step ho hc)
  clear hle hnl hk hc ho hu
  go_wp2_with (first | (with_reducible refine wpList_toStr HU4.out _ rfl (by kernel_rfl) rfl ?_) | (obtain ⟨w12, hrun, hb, ho⟩ := rqB_name HS11.out.blk nm; refine Agg.wpList_store rfl rfl 9 _ _ rfl (.pointer (some ⟨gr, 3, none⟩)) _ rfl rfl hrun ?_; have HS12 := Lib.hid (HS11.out.store hb ho (by decide) (by decide)); clear hb ho hrun))
  refine (refIn_is (s := [110, 112]) (c := 112) (b := true) (by decide) (by decide) (by omega) _).mono ?_
  rintro e u13 ⟨rfl, rfl⟩
  go_wp2_with fail
  refine (refGetPath_any w1.heap.size gc s4 _ hs4 HS12.out.cur).mono ?_
  rintro e w14 ⟨rfl, hg, ho⟩
  obtain ⟨t, s5, hk⟩ : ∃ k s, sText 57 s4 = (k, s) := ⟨_, _, rfl⟩
  have hle := sText_len 57 s4
  rw [hk] at hg hle ⊢
  have hs5 : stLen s5 ≤ 16777216 := Nat.le_trans hle hs4
  have HQ5 := Lib.hid hk
  have HS14 := Lib.hid (HS12.out.step ho hg)
  have HPL := Lib.hid (parseH_length t)
  clear hle hk hg ho
  go_wp2_with (first | (obtain ⟨w15, hrun, hb, ho⟩ := rqB_path HS14.out.blk z20_length (parseH t) (parseN t) HPL.out; refine Agg.wpList_store rfl rfl 27 _ _ rfl (.pointer (some ⟨gr, 5, none⟩)) _ rfl rfl hrun ?_; have HS15 := Lib.hid (HS14.out.store hb ho (by decide) (by decide)); clear hb ho hrun))
  refine (refIn_is (s := [110, 112]) (c := 99) (b := false) (by decide) (by decide) (by omega) _).mono ?_
  rintro e u16 ⟨rfl, rfl⟩
  go_wp2_with fail
  refine (refIn_is (s := [110, 112]) (c := 98) (b := false) (by decide) (by decide) (by omega) _).mono ?_
  rintro e u17 ⟨rfl, rfl⟩
  go_wp2_with (first | (with_reducible refine Agg.wpList_loadL (RqG.of_blk HS15.out.blk HPL.out z20_length).all rfl _ rfl rfl ?_))
  have HOB := Lib.hid HS15.out.own0
  have HG := Lib.hid (get_partsD HQ1.out HPE.out HQ2.out (show pW 6 s2 = (0, s2) from rfl) (show pN 6 s2 = (nm, s4) from HQ4.out) (show pT 6 s4 = (t, s5) from HQ5.out) (show pH 6 s5 = (z20, s5) from rfl) (show pB 6 4096 s5 = ([], s5) from rfl))
  obtain ⟨q, hq⟩ : ∃ q : Rq, q = ⟨(k : Int), (u : Int), 0, nm, ([] : List UInt8), (parseH t), (parseN t), z20⟩ := ⟨_, rfl⟩
  refine (refPut_any k u 0 nm (.slice none 0 0) ([] : List UInt8) (parseH t) (parseN t) z20 HPL.out z20_length (by omega) (Nat.le_trans (parseN_le _) (by omega)) _ HOB.out.slice).mono ?_
  rintro e w91 ⟨va, rfl, hva, hx91⟩
  have HS91 := Lib.hid (HS15.out.later hx91)
  have HO91 := Lib.hid (HOB.out.below hx91)
  obtain ⟨cd, hcd⟩ : ∃ x, rqCode ⟨(k : Int), (u : Int), 0, nm, ([] : List UInt8), (parseH t), (parseN t), z20⟩ = x := ⟨_, rfl⟩
  obtain ⟨ab, hab⟩ : ∃ x, rqBytes ⟨(k : Int), (u : Int), 0, nm, ([] : List UInt8), (parseH t), (parseN t), z20⟩ = x := ⟨_, rfl⟩
  rw [hcd] at ⊢
  rw [hab] at hva
  have HVA := Lib.hid hva.slice
  have HBA := Lib.hid (HBY.out.below HS91.out.below)
  clear hva hx91
  cases hr : Rq.right ⟨(k : Int), (u : Int), 0, nm, ([] : List UInt8), (parseH t), (parseN t), z20⟩ with
  | false =>
    obtain rfl : 2 = cd := by rw [← hcd]; simp [rqCode, hr]
    have HN := Lib.hid (show getRq b = none from by
      rw [HG.out, if_neg]
      rintro ⟨h3, _⟩
      have h3 : Rq.right ⟨(k : Int), (u : Int), 0, nm, ([] : List UInt8), (parseH t), (parseN t), z20⟩ = true := h3
      rw [hr] at h3
      exact absurd h3 (by decide))
    clear hcd hab hr
    go_wp2_with (first | (with_reducible refine Agg.wpList_build0 29 rfl rfl (.agg (rqG 0 0 0 [] (.slice none 0 0) z20 [] z20)) rq_build0 ?_) | (refine Agg.wpList_put rfl rfl 29 _ _ rfl g0 (rqG 0 0 0 [] (.slice none 0 0) z20 [] z20) (rqG 0 0 0 [] (.slice none 0 0) z20 [] z20) rfl rfl HS91.out.zero (rq_info z20_length z20_length) rfl (rq_one (SliceOf.nil w none 0) _ _ _ _ _ _ _) ?_; intro w93 hb93 hx93 hs93 hk93))
    have hx := HS91.out.below.trans (hx93.mono HS91.out.g0_ge)
    refine Agg.post_row_tmp rfl rfl rfl hb93 rq_under rfl (rq_info z20_length z20_length) rfl ⟨.slice none 0 0, ?_, ?_, hx⟩
    · rw [(rqOut_none HN.out).1, (rqOut_none HN.out).2]; rfl
    · rw [(rqOut_none HN.out).1]; exact Own.nil _ _ _
  | true =>
    obtain rfl : 0 = cd := by rw [← hcd]; simp [rqCode, hr]
    obtain rfl : putRq ⟨(k : Int), (u : Int), 0, nm, ([] : List UInt8), (parseH t), (parseN t), z20⟩ = ab := by rw [← hab]; simp [rqBytes, hr]
    have HRT := Lib.hid hr
    clear hcd hab hr
    go_wp2_with fail
    refine (rsend_any w1.heap.size gc s5 _ HS91.out.cur).mono ?_
    rintro e w92 ⟨⟨c, rfl, hc⟩, rfl⟩
    by_cases hc0 : c = 0
    · subst hc0
      have HE7 := Lib.hid (hc.1 rfl)
      clear hc
      obtain ⟨ab, hab⟩ : ∃ x, putRq ⟨(k : Int), (u : Int), 0, nm, ([] : List UInt8), (parseH t), (parseN t), z20⟩ = x := ⟨_, rfl⟩
      rw [hab] at HVA
      have hta := Agg.bytes_toList ab
      have htb := Agg.bytes_toList b
      cases hz : (ab == b) with
      | false =>
        have HN := Lib.hid (show getRq b = none from by
          rw [HG.out, if_neg]
          rintro ⟨_, _, h3⟩
          have h3 : putRq ⟨(k : Int), (u : Int), 0, nm, ([] : List UInt8), (parseH t), (parseN t), z20⟩ = b := h3
          rw [hab] at h3
          rw [h3] at hz
          simp at hz)
        clear hab
        have hz2 : (ab != b) = true := by rw [bne, hz]; rfl
        go_wp2_with (first | (with_reducible refine wpList_toStr HVA.out _ rfl (by kernel_rfl) rfl ?_) | (with_reducible refine wpList_toStr HBA.out _ rfl (by kernel_rfl) rfl ?_) | (with_reducible refine Agg.wpList_build0 29 rfl rfl (.agg (rqG 0 0 0 [] (.slice none 0 0) z20 [] z20)) rq_build0 ?_) | (refine Agg.wpList_put rfl rfl 29 _ _ rfl g0 (rqG 0 0 0 [] (.slice none 0 0) z20 [] z20) (rqG 0 0 0 [] (.slice none 0 0) z20 [] z20) rfl rfl HS91.out.zero (rq_info z20_length z20_length) rfl (rq_one (SliceOf.nil w none 0) _ _ _ _ _ _ _) ?_; intro w93 hb93 hx93 hs93 hk93))
        have hx := HS91.out.below.trans (hx93.mono HS91.out.g0_ge)
        refine Agg.post_row_tmp rfl rfl rfl hb93 rq_under rfl (rq_info z20_length z20_length) rfl ⟨.slice none 0 0, ?_, ?_, hx⟩
        · rw [(rqOut_none HN.out).1, (rqOut_none HN.out).2]; rfl
        · rw [(rqOut_none HN.out).1]; exact Own.nil _ _ _
      | true =>
        have hz1 : ab = b := by simpa using hz
        have HY := Lib.hid (show getRq b = some ⟨(k : Int), (u : Int), 0, nm, ([] : List UInt8), (parseH t), (parseN t), z20⟩ from HG.out.trans (if_pos ⟨HRT.out, HE7.out, hab.trans hz1⟩))
        clear hab
        have hz2 : (ab != b) = false := by rw [bne, hz]; rfl
        go_wp2_with (first | (with_reducible refine wpList_toStr HVA.out _ rfl (by kernel_rfl) rfl ?_) | (with_reducible refine wpList_toStr HBA.out _ rfl (by kernel_rfl) rfl ?_) | (with_reducible refine Agg.wpList_loadL (RqG.of_blk HS91.out.blk HPL.out z20_length).all rfl _ rfl rfl ?_) | (refine Agg.wpList_put rfl rfl 29 _ _ rfl g0 (rqG k u 0 nm (.slice none 0 0) (parseH t) (parseN t) z20) (rqG 0 0 0 [] (.slice none 0 0) z20 [] z20) rfl rfl HS91.out.zero (rq_info HPL.out z20_length) (by rw [rqG_size HPL.out z20_length, rqG_size z20_length z20_length]) (rq_one HO91.out.slice _ _ _ _ _ _ _) ?_; intro w93 hb93 hx93 hs93 hk93))
        have hx := HS91.out.below.trans (hx93.mono HS91.out.g0_ge)
        have ho93 : Only (· = g0) _ w93 := Only.of_eq hx93 hs93 hk93 rfl
        refine Agg.post_row_tmp rfl rfl rfl hb93 rq_under rfl (rq_info HPL.out z20_length) rfl ⟨(.slice none 0 0), ?_, ?_, hx⟩
        · rw [(rqOut_some HY.out).1, (rqOut_some HY.out).2]; rfl
        · rw [(rqOut_some HY.out).1]; exact own_keepT HO91.out ho93 HS91.out.zero (by decide)
    · have hcn : ((c : Int) != 0) = true := by rw [bne, beq_eq_false_iff_ne.2 (show (c : Int) ≠ 0 by omega)]; rfl
      have HN := Lib.hid (show getRq b = none from by
        rw [HG.out, if_neg]
        rintro ⟨_, h3, _⟩
        exact hc0 (hc.2 h3))
      clear hc
      go_wp2_with (first | (with_reducible refine Agg.wpList_build0 29 rfl rfl (.agg (rqG 0 0 0 [] (.slice none 0 0) z20 [] z20)) rq_build0 ?_) | (refine Agg.wpList_put rfl rfl 29 _ _ rfl g0 (rqG 0 0 0 [] (.slice none 0 0) z20 [] z20) (rqG 0 0 0 [] (.slice none 0 0) z20 [] z20) rfl rfl HS91.out.zero (rq_info z20_length z20_length) rfl (rq_one (SliceOf.nil w none 0) _ _ _ _ _ _ _) ?_; intro w93 hb93 hx93 hs93 hk93))
      have hx := HS91.out.below.trans (hx93.mono HS91.out.g0_ge)
      refine Agg.post_row_tmp rfl rfl rfl hb93 rq_under rfl (rq_info z20_length z20_length) rfl ⟨.slice none 0 0, ?_, ?_, hx⟩
      · rw [(rqOut_none HN.out).1, (rqOut_none HN.out).2]; rfl
      · rw [(rqOut_none HN.out).1]; exact Own.nil _ _ _
set_option maxRecDepth 100000 in
set_option maxHeartbeats 4000000 in
theorem refGet_2 (v : Value) (b : List UInt8) (hP : partsN ((sNum 10 (some b)).1 : Int) = 2) (w : World) (hl : b.length ≤ 16777216) (hb : BytesAt w v b) :
    Calls Tryz.prog 12 #[v] w fun e w' => ∃ vb, e = .returned (.tuple #[.agg (rqG (rqOut b).k (rqOut b).u (rqOut b).wh (rqOut b).nm vb (rqOut b).ph (rqOut b).pn (rqOut b).ch), .int .i64 (rqErr b : Int)]) ∧ Own EB w.heap.size w' vb (rqOut b).bs ∧ Below w.heap.size w w' := by
  obtain ⟨k, s1, hk⟩ : ∃ k s, sNum 10 (some b) = (k, s) := ⟨_, _, rfl⟩
  rw [hk] at hP
  have HPE := Lib.hid (show partsN (k : Int) = 2 from hP)
  have hle := sNum_len 10 (some b)
  rw [hk] at hle
  have hl1 : stLen s1 ≤ 16777216 := Nat.le_trans hle hl
  have hl0 : stLen (some b) ≤ 16777216 := hl
  have h63 : ([] : List UInt8).length + b.length ≤ 1099511627776 / 8 := by simp; omega
  have HQ1 := Lib.hid hk
  have HWD := Lib.hid (fun W => (show Calls Tryz.prog 44 #[.int .i64 k] W fun e w' => e = .returned (.string ⟨([110] : List UInt8).toArray⟩) ∧ w' = W by have := refHas_any k W; rwa [hP] at this))
  have HBY := Lib.hid hb
  clear hP hle hk hb
  go_enter Tryz.func12, Tryz.ntmps12
  go_wp2_with (first | (with_reducible refine Agg.wpList_zero rfl 29 rfl (rqG 0 0 0 [] (.slice none 0 0) z20 [] z20) rq_zero ?_; intro g0 w1 hb1 hx1 hg0; have hlt1 := hb1.lt; have HB1 := Lib.hid hb1; have HX1 := Lib.hid hx1; clear hb1 hx1) | (refine Agg.wpList_slice0 (base := w1.heap.size) EB rfl rfl (Nat.le_refl _) ?_; intro v0 w2 ho0 hx0 _; have HO0 := Lib.hid ho0; have HX0 := Lib.hid hx0; have HY0 := Lib.hid (SliceOf.below (SliceOf.below HBY.out HX1.out) hx0); have HB2 := Lib.hid (HB1.out.below hx0); have hsz0 := hx0.size; clear ho0 hx0) | (refine Agg.wpList_appendO (E := EB) (base := w1.heap.size) rfl _ _ rfl v rfl rfl b HO0.out HY0.out h63 (by decide) hsz0 ?_; intro v1 w3 ho1 hp1 _; have HR1 := Lib.hid (show Rest w1.heap.size w3 v1 b from by simpa using Rest.of_own ho1); have hvf : ∃ p n c, v1 = .slice p n c := (by obtain ⟨p, c, hf⟩ := ho1.slice.form; exact ⟨p, _, c, hf⟩); have HX3 := Lib.hid (Agg.belowThen HX1.out (Nat.le_refl _) (HX0.out.trans (hp1.below w1.heap.size (Nat.le_refl _) hsz0))); have HB3 : Hid (Blk w3 g0 29 (rqG 0 0 0 [] (.slice none 0 0) z20 [] z20)) := Lib.hid (hp1.blk g0 _ _ _ (by decide) HB2.out); have hsz3 : w1.heap.size ≤ w3.heap.size := Nat.le_trans hsz0 hp1.size; clear ho1 hp1) | (with_reducible refine Agg.wpList_build1 97 0 _ rfl rfl v1 rfl (.agg (cuC v1 0)) (cr_build hvf) ?_) | (with_reducible refine Agg.wpList_box rfl 97 _ rfl (cuC v1 0) rfl ?_; intro gc w4 hb4 hx4 hgc; have hlt4 := hb4.lt; have HC4 := Lib.hid (CrS.good ⟨hb4, HR1.out.below hx4⟩); have HB4 := Lib.hid (HB3.out.below hx4); have HX4 := Lib.hid (Agg.belowThen HX3.out (Nat.le_refl _) hx4); clear hb4 hx4))
  have hnum := rcnum_any w1.heap.size gc 10 (some b) _ hl0 (by omega) HC4.out
  rw [HQ1.out] at hnum
  dsimp only at hnum
  refine hnum.mono ?_
  rintro e w5 ⟨rfl, hc, ho⟩
  clear hnum h63 hvf
  have hsz1 := HX1.out.size
  have hsz4 := HX4.out.size
  have hgcw : w.heap.size ≤ gc := by omega
  have hz0 : g0 ≠ gc := by omega
  have HC5 := Lib.hid hc
  have HB5 := Lib.hid (HB4.out.only ho hz0)
  have HX5 := Lib.hid (HX4.out.trans (ho.below hsz4 fun _ e => e ▸ hgcw))
  have hlt5 : gc < w5.heap.size := hc.lt
  have hlt05 := HB5.out.lt
  clear hc ho
  go_wp2_with (first | (with_reducible refine Agg.wpList_build1 29 0 _ rfl rfl (.int .i64 (k : Int)) rfl (.agg (rqG k 0 0 [] (.slice none 0 0) z20 [] z20)) (rq_build1 k) ?_) | (refine Agg.wpList_new rfl rfl rfl 29 5 17 rfl rfl rfl (by decide) (rqG 0 0 0 [] (.slice none 0 0) z20 [] z20) (rqG k 0 0 [] (.slice none 0 0) z20 [] z20) rq_zero (by rw [rqG_size z20_length z20_length, rqG_size z20_length z20_length]) (rq_info z20_length z20_length) (rq_one (SliceOf.nil w none 0) _ _ _ _ _ _ _) rfl (by first | (simp; done) | simp [Act.put]) ?_; intro gr w6 hb6 hx6 hg6; have HS6 := Lib.hid (⟨HC5.out.below hx6, HB5.out.below hx6, hb6, Agg.belowThen HX5.out (Nat.le_refl _) hx6, by omega, by omega, by omega, by omega, by have := HX5.out.size; omega, by omega⟩ : GeR 29 w w1.heap.size g0 gr gc w6 s1 (rqG 0 0 0 [] (.slice none 0 0) z20 [] z20) (rqG k 0 0 [] (.slice none 0 0) z20 [] z20)); clear hb6 hx6))
  refine (rcnum_any w1.heap.size gc 8 s1 _ hl1 (by omega) HS6.out.cur).mono ?_
  rintro e w7 ⟨rfl, hc, ho⟩
  obtain ⟨u, s2, hk⟩ : ∃ k s, sNum 8 s1 = (k, s) := ⟨_, _, rfl⟩
  have hle := sNum_len 8 s1
  rw [hk] at hc hle ⊢
  have hs2 : stLen s2 ≤ 16777216 := Nat.le_trans hle hl1
  have HQ2 := Lib.hid hk
  clear hle hk
  have HS7 := Lib.hid (HS6.out.step ho hc)
  clear hc ho
  go_wp2_with (first | (obtain ⟨w8, hrun, hb, ho⟩ := rqB_user HS7.out.blk (u : Int); refine Agg.wpList_store rfl rfl 3 _ _ rfl (.pointer (some ⟨gr, 1, none⟩)) _ rfl rfl hrun ?_; have HS8 := Lib.hid (HS7.out.store hb ho (by decide) (by decide)); clear hb ho hrun) | (with_reducible refine Agg.wpList_loadL (RqG.of_blk HS8.out.blk z20_length z20_length).kind rfl _ rfl rfl ?_))
  refine (HWD.out _).mono ?_
  rintro e u3 ⟨rfl, rfl⟩
  go_wp2_with fail
  refine (refIn_is (s := [110]) (c := 119) (b := false) (by decide) (by decide) (by omega) _).mono ?_
  rintro e u9 ⟨rfl, rfl⟩
  go_wp2_with fail
  refine (refIn_is (s := [110]) (c := 110) (b := true) (by decide) (by decide) (by omega) _).mono ?_
  rintro e u10 ⟨rfl, rfl⟩
  go_wp2_with fail
  refine (rctext_any w1.heap.size gc 24 s2 _ hs2 HS8.out.cur).mono ?_
  rintro e w11 ⟨un, rfl, hu, hc, ho⟩
  obtain ⟨nm, s4, hk⟩ : ∃ k s, sText 24 s2 = (k, s) := ⟨_, _, rfl⟩
  have hle := sText_len 24 s2
  have hnl := sText_le 24 s2
  rw [hk] at hc hle hu hnl
  have hs4 : stLen s4 ≤ 16777216 := Nat.le_trans hle hs2
  have hnm : nm.length ≤ 24 := hnl
  have HQ4 := Lib.hid hk
  have HU4 := Lib.hid hu.slice
  have HS11 := Lib.hid (HS8.out.step ho hc)
  clear hle hnl hk hc ho hu
  go_wp2_with (first | (with_reducible refine wpList_toStr HU4.out _ rfl (by kernel_rfl) rfl ?_) | (obtain ⟨w12, hrun, hb, ho⟩ := rqB_name HS11.out.blk nm; refine Agg.wpList_store rfl rfl 9 _ _ rfl (.pointer (some ⟨gr, 3, none⟩)) _ rfl rfl hrun ?_; have HS12 := Lib.hid (HS11.out.store hb ho (by decide) (by decide)); clear hb ho hrun))
  refine (refIn_is (s := [110]) (c := 112) (b := false) (by decide) (by decide) (by omega) _).mono ?_
  rintro e u13 ⟨rfl, rfl⟩
  go_wp2_with fail
  refine (refIn_is (s := [110]) (c := 122) (b := false) (by decide) (by decide) (by omega) _).mono ?_
  rintro e u14 ⟨rfl, rfl⟩
  go_wp2_with fail
  refine (refIn_is (s := [110]) (c := 99) (b := false) (by decide) (by decide) (by omega) _).mono ?_
  rintro e u15 ⟨rfl, rfl⟩
  go_wp2_with fail
  refine (refIn_is (s := [110]) (c := 98) (b := false) (by decide) (by decide) (by omega) _).mono ?_
  rintro e u16 ⟨rfl, rfl⟩
  go_wp2_with (first | (with_reducible refine Agg.wpList_loadL (RqG.of_blk HS12.out.blk z20_length z20_length).all rfl _ rfl rfl ?_))
  have HOB := Lib.hid HS12.out.own0
  have HG := Lib.hid (get_partsD HQ1.out HPE.out HQ2.out (show pW 2 s2 = (0, s2) from rfl) (show pN 2 s2 = (nm, s4) from HQ4.out) (show pT 2 s4 = ([], s4) from rfl) (show pH 2 s4 = (z20, s4) from rfl) (show pB 2 4096 s4 = ([], s4) from rfl))
  obtain ⟨q, hq⟩ : ∃ q : Rq, q = ⟨(k : Int), (u : Int), 0, nm, ([] : List UInt8), z20, [], z20⟩ := ⟨_, rfl⟩
  refine (refPut_any k u 0 nm (.slice none 0 0) ([] : List UInt8) z20 [] z20 z20_length z20_length (by omega) (by simp) _ HOB.out.slice).mono ?_
  rintro e w91 ⟨va, rfl, hva, hx91⟩
  have HS91 := Lib.hid (HS12.out.later hx91)
  have HO91 := Lib.hid (HOB.out.below hx91)
  obtain ⟨cd, hcd⟩ : ∃ x, rqCode ⟨(k : Int), (u : Int), 0, nm, ([] : List UInt8), z20, [], z20⟩ = x := ⟨_, rfl⟩
  obtain ⟨ab, hab⟩ : ∃ x, rqBytes ⟨(k : Int), (u : Int), 0, nm, ([] : List UInt8), z20, [], z20⟩ = x := ⟨_, rfl⟩
  rw [hcd] at ⊢
  rw [hab] at hva
  have HVA := Lib.hid hva.slice
  have HBA := Lib.hid (HBY.out.below HS91.out.below)
  clear hva hx91
  cases hr : Rq.right ⟨(k : Int), (u : Int), 0, nm, ([] : List UInt8), z20, [], z20⟩ with
  | false =>
    obtain rfl : 2 = cd := by rw [← hcd]; simp [rqCode, hr]
    have HN := Lib.hid (show getRq b = none from by
      rw [HG.out, if_neg]
      rintro ⟨h3, _⟩
      have h3 : Rq.right ⟨(k : Int), (u : Int), 0, nm, ([] : List UInt8), z20, [], z20⟩ = true := h3
      rw [hr] at h3
      exact absurd h3 (by decide))
    clear hcd hab hr
    go_wp2_with (first | (with_reducible refine Agg.wpList_build0 29 rfl rfl (.agg (rqG 0 0 0 [] (.slice none 0 0) z20 [] z20)) rq_build0 ?_) | (refine Agg.wpList_put rfl rfl 29 _ _ rfl g0 (rqG 0 0 0 [] (.slice none 0 0) z20 [] z20) (rqG 0 0 0 [] (.slice none 0 0) z20 [] z20) rfl rfl HS91.out.zero (rq_info z20_length z20_length) rfl (rq_one (SliceOf.nil w none 0) _ _ _ _ _ _ _) ?_; intro w93 hb93 hx93 hs93 hk93))
    have hx := HS91.out.below.trans (hx93.mono HS91.out.g0_ge)
    refine Agg.post_row_tmp rfl rfl rfl hb93 rq_under rfl (rq_info z20_length z20_length) rfl ⟨.slice none 0 0, ?_, ?_, hx⟩
    · rw [(rqOut_none HN.out).1, (rqOut_none HN.out).2]; rfl
    · rw [(rqOut_none HN.out).1]; exact Own.nil _ _ _
  | true =>
    obtain rfl : 0 = cd := by rw [← hcd]; simp [rqCode, hr]
    obtain rfl : putRq ⟨(k : Int), (u : Int), 0, nm, ([] : List UInt8), z20, [], z20⟩ = ab := by rw [← hab]; simp [rqBytes, hr]
    have HRT := Lib.hid hr
    clear hcd hab hr
    go_wp2_with fail
    refine (rsend_any w1.heap.size gc s4 _ HS91.out.cur).mono ?_
    rintro e w92 ⟨⟨c, rfl, hc⟩, rfl⟩
    by_cases hc0 : c = 0
    · subst hc0
      have HE7 := Lib.hid (hc.1 rfl)
      clear hc
      obtain ⟨ab, hab⟩ : ∃ x, putRq ⟨(k : Int), (u : Int), 0, nm, ([] : List UInt8), z20, [], z20⟩ = x := ⟨_, rfl⟩
      rw [hab] at HVA
      have hta := Agg.bytes_toList ab
      have htb := Agg.bytes_toList b
      cases hz : (ab == b) with
      | false =>
        have HN := Lib.hid (show getRq b = none from by
          rw [HG.out, if_neg]
          rintro ⟨_, _, h3⟩
          have h3 : putRq ⟨(k : Int), (u : Int), 0, nm, ([] : List UInt8), z20, [], z20⟩ = b := h3
          rw [hab] at h3
          rw [h3] at hz
          simp at hz)
        clear hab
        have hz2 : (ab != b) = true := by rw [bne, hz]; rfl
        go_wp2_with (first | (with_reducible refine wpList_toStr HVA.out _ rfl (by kernel_rfl) rfl ?_) | (with_reducible refine wpList_toStr HBA.out _ rfl (by kernel_rfl) rfl ?_) | (with_reducible refine Agg.wpList_build0 29 rfl rfl (.agg (rqG 0 0 0 [] (.slice none 0 0) z20 [] z20)) rq_build0 ?_) | (refine Agg.wpList_put rfl rfl 29 _ _ rfl g0 (rqG 0 0 0 [] (.slice none 0 0) z20 [] z20) (rqG 0 0 0 [] (.slice none 0 0) z20 [] z20) rfl rfl HS91.out.zero (rq_info z20_length z20_length) rfl (rq_one (SliceOf.nil w none 0) _ _ _ _ _ _ _) ?_; intro w93 hb93 hx93 hs93 hk93))
        have hx := HS91.out.below.trans (hx93.mono HS91.out.g0_ge)
        refine Agg.post_row_tmp rfl rfl rfl hb93 rq_under rfl (rq_info z20_length z20_length) rfl ⟨.slice none 0 0, ?_, ?_, hx⟩
        · rw [(rqOut_none HN.out).1, (rqOut_none HN.out).2]; rfl
        · rw [(rqOut_none HN.out).1]; exact Own.nil _ _ _
      | true =>
        have hz1 : ab = b := by simpa using hz
        have HY := Lib.hid (show getRq b = some ⟨(k : Int), (u : Int), 0, nm, ([] : List UInt8), z20, [], z20⟩ from HG.out.trans (if_pos ⟨HRT.out, HE7.out, hab.trans hz1⟩))
        clear hab
        have hz2 : (ab != b) = false := by rw [bne, hz]; rfl
        go_wp2_with (first | (with_reducible refine wpList_toStr HVA.out _ rfl (by kernel_rfl) rfl ?_) | (with_reducible refine wpList_toStr HBA.out _ rfl (by kernel_rfl) rfl ?_) | (with_reducible refine Agg.wpList_loadL (RqG.of_blk HS91.out.blk z20_length z20_length).all rfl _ rfl rfl ?_) | (refine Agg.wpList_put rfl rfl 29 _ _ rfl g0 (rqG k u 0 nm (.slice none 0 0) z20 [] z20) (rqG 0 0 0 [] (.slice none 0 0) z20 [] z20) rfl rfl HS91.out.zero (rq_info z20_length z20_length) (by rw [rqG_size z20_length z20_length, rqG_size z20_length z20_length]) (rq_one HO91.out.slice _ _ _ _ _ _ _) ?_; intro w93 hb93 hx93 hs93 hk93))
        have hx := HS91.out.below.trans (hx93.mono HS91.out.g0_ge)
        have ho93 : Only (· = g0) _ w93 := Only.of_eq hx93 hs93 hk93 rfl
        refine Agg.post_row_tmp rfl rfl rfl hb93 rq_under rfl (rq_info z20_length z20_length) rfl ⟨(.slice none 0 0), ?_, ?_, hx⟩
        · rw [(rqOut_some HY.out).1, (rqOut_some HY.out).2]; rfl
        · rw [(rqOut_some HY.out).1]; exact own_keepT HO91.out ho93 HS91.out.zero (by decide)
    · have hcn : ((c : Int) != 0) = true := by rw [bne, beq_eq_false_iff_ne.2 (show (c : Int) ≠ 0 by omega)]; rfl
      have HN := Lib.hid (show getRq b = none from by
        rw [HG.out, if_neg]
        rintro ⟨_, h3, _⟩
        exact hc0 (hc.2 h3))
      clear hc
      go_wp2_with (first | (with_reducible refine Agg.wpList_build0 29 rfl rfl (.agg (rqG 0 0 0 [] (.slice none 0 0) z20 [] z20)) rq_build0 ?_) | (refine Agg.wpList_put rfl rfl 29 _ _ rfl g0 (rqG 0 0 0 [] (.slice none 0 0) z20 [] z20) (rqG 0 0 0 [] (.slice none 0 0) z20 [] z20) rfl rfl HS91.out.zero (rq_info z20_length z20_length) rfl (rq_one (SliceOf.nil w none 0) _ _ _ _ _ _ _) ?_; intro w93 hb93 hx93 hs93 hk93))
      have hx := HS91.out.below.trans (hx93.mono HS91.out.g0_ge)
      refine Agg.post_row_tmp rfl rfl rfl hb93 rq_under rfl (rq_info z20_length z20_length) rfl ⟨.slice none 0 0, ?_, ?_, hx⟩
      · rw [(rqOut_none HN.out).1, (rqOut_none HN.out).2]; rfl
      · rw [(rqOut_none HN.out).1]; exact Own.nil _ _ _
end Go.Proofs.YtpnolgliklmnmaaGreat
