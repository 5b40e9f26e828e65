/- Rows of replies: slices of slices of replies; markReply. (Several texts in one.) -/
import Derived.Test.YtpnolgliklmnmaaGreatQAP
import Derived.Test.YtpnolgliklmnmaaGreatQAJ
import Derived.Test.YtpnolgliklmnmaaGreatQAG
import Derived.Test.YtpnolgliklmnmaaGreatQAK
import Derived.Test.YtpnolgliklmnmaaGreatQAO
import Derived.Test.YtpnolgliklmnmaaGreatQAU
import Derived.Test.YtpnolgliklmnmaaGreatQAV
import Derived.Test.YtpnolgliklmnmaaGreatQAS
/-! spencekit.SameRequest, SamePaths, SameReply, PathsOf. -/
namespace Go.Proofs.YtpnolgliklmnmaaGreat
open Go.RowKit Pl Go.Agg
def sameRq (p q : Rq) : Bool := (p.k == q.k) && ((p.u == q.u) && ((p.wh == q.wh) && ((p.nm == q.nm) && (decide (p.bs = q.bs) && ((p.ph == q.ph && p.pn == q.pn) && (p.ch == q.ch))))))
theorem sameRq_eq (p q : Rq) : sameRq p q = true ↔ p = q := by
  obtain ⟨a1, a2, a3, a4, a5, a6, a7, a8⟩ := p
  obtain ⟨b1, b2, b3, b4, b5, b6, b7, b8⟩ := q
  simp [sameRq, and_assoc]
def sameRp (p q : Rp) : Bool := (p.e == q.e) && ((p.ph == q.ph && p.pn == q.pn) && ((p.ch == q.ch) && ((p.g == q.g) && (decide (p.l = q.l) && (p.m == q.m)))))
theorem sameRp_eq (p q : Rp) : sameRp p q = true ↔ p = q := by
  obtain ⟨a1, a2, a3, a4, a5, a6, a7⟩ := p
  obtain ⟨b1, b2, b3, b4, b5, b6, b7⟩ := q
  simp [sameRp, and_assoc]
set_option maxRecDepth 100000 in
set_option maxHeartbeats 4000000 in
theorem sameRq_any (k u wh : Int) (nm : List UInt8) (vb : Value) (bs ph pn ch : List UInt8) (hl : ph.length = 20) (hc : ch.length = 20) (k' u' wh' : Int) (nm' : List UInt8) (vb' : Value) (bs' ph' pn' ch' : List UInt8) (hl' : ph'.length = 20) (hc' : ch'.length = 20) (h1m : bs.length ≤ 1048576) (h2m : bs'.length ≤ 1048576) (w : World) (hb : BytesAt w vb bs) (hb' : BytesAt w vb' bs') :
    Calls Tryz.prog 16 #[.agg (rqG k u wh nm vb ph pn ch), .agg (rqG k' u' wh' nm' vb' ph' pn' ch')] w fun e w' => e = .returned (.bool (sameRq ⟨k, u, wh, nm, bs, ph, pn, ch⟩ ⟨k', u', wh', nm', bs', ph', pn', ch'⟩)) ∧ Below w.heap.size w w' := by
  have hta := Agg.bytes_toList nm
  have htb := Agg.bytes_toList nm'
  have HY1 := Lib.hid hb
  have HY2 := Lib.hid hb'
  clear hb hb'
  obtain ⟨b6, h6⟩ : ∃ b, (ph == ph' && pn == pn') = b := ⟨_, rfl⟩
  obtain ⟨b7, h7⟩ : ∃ b, (ch == ch') = b := ⟨_, rfl⟩
  have HE6 := Lib.hid (fun W => (show (binOp .eql 27 (.agg (pC ph pn)) (.agg (pC ph' pn'))).run Tryz.prog W = .ok (.bool b6) W by rw [← h6]; exact eql_path ph pn ph' pn' hl hl' W))
  have HE7 := Lib.hid (fun W => (show (binOp .eql 25 (.agg (hC ch)) (.agg (hC ch'))).run Tryz.prog W = .ok (.bool b7) W by rw [← h7]; exact eql_hash ch ch' hc hc' W))
  have H6 := Lib.hid h6
  have H7 := Lib.hid h7
  clear h6 h7
  cases h1 : (k == k') with
  | false =>
    have HR := Lib.hid (show (sameRq ⟨k, u, wh, nm, bs, ph, pn, ch⟩ ⟨k', u', wh', nm', bs', ph', pn', ch'⟩) = false from by simp [sameRq, h1])
    go_enter Tryz.func16, Tryz.ntmps16
    go_wp2_with (first | (with_reducible refine Agg.wpList_box rfl 29 _ rfl (rqG k u wh nm vb ph pn ch) rfl ?_; intro g1 w1 hb1 hx1 hg1; have HB1 := Lib.hid hb1; have HX1 := Lib.hid hx1; clear hb1 hx1 hg1) | (with_reducible refine Agg.wpList_box rfl 29 _ rfl (rqG k' u' wh' nm' vb' ph' pn' ch') rfl ?_; intro g2 w2 hb2 hx2 hg2; have HL1 := Lib.hid (RqG.of_blk (HB1.out.below hx2) hl hc); have HL2 := Lib.hid (RqG.of_blk hb2 hl' hc'); have HW := Lib.hid (Agg.belowThen HX1.out (Nat.le_refl _) hx2); clear hb2 hx2 hg2) | (with_reducible refine Agg.wpList_loadL HL1.out.kind rfl _ rfl rfl ?_) | (with_reducible refine Agg.wpList_loadL HL2.out.kind rfl _ rfl rfl ?_))
    go_ret
    exact ⟨ret_bool HR.out.symm, HW.out⟩
  | true =>
  cases h2 : (u == u') with
  | false =>
    have HR := Lib.hid (show (sameRq ⟨k, u, wh, nm, bs, ph, pn, ch⟩ ⟨k', u', wh', nm', bs', ph', pn', ch'⟩) = false from by simp [sameRq, h2])
    go_enter Tryz.func16, Tryz.ntmps16
    go_wp2_with (first | (with_reducible refine Agg.wpList_box rfl 29 _ rfl (rqG k u wh nm vb ph pn ch) rfl ?_; intro g1 w1 hb1 hx1 hg1; have HB1 := Lib.hid hb1; have HX1 := Lib.hid hx1; clear hb1 hx1 hg1) | (with_reducible refine Agg.wpList_box rfl 29 _ rfl (rqG k' u' wh' nm' vb' ph' pn' ch') rfl ?_; intro g2 w2 hb2 hx2 hg2; have HL1 := Lib.hid (RqG.of_blk (HB1.out.below hx2) hl hc); have HL2 := Lib.hid (RqG.of_blk hb2 hl' hc'); have HW := Lib.hid (Agg.belowThen HX1.out (Nat.le_refl _) hx2); clear hb2 hx2 hg2) | (with_reducible refine Agg.wpList_loadL HL1.out.kind rfl _ rfl rfl ?_) | (with_reducible refine Agg.wpList_loadL HL2.out.kind rfl _ rfl rfl ?_) | (with_reducible refine Agg.wpList_loadL HL1.out.user rfl _ rfl rfl ?_) | (with_reducible refine Agg.wpList_loadL HL2.out.user rfl _ rfl rfl ?_))
    go_ret
    exact ⟨ret_bool HR.out.symm, HW.out⟩
  | true =>
  cases h3 : (wh == wh') with
  | false =>
    have HR := Lib.hid (show (sameRq ⟨k, u, wh, nm, bs, ph, pn, ch⟩ ⟨k', u', wh', nm', bs', ph', pn', ch'⟩) = false from by simp [sameRq, h3])
    go_enter Tryz.func16, Tryz.ntmps16
    go_wp2_with (first | (with_reducible refine Agg.wpList_box rfl 29 _ rfl (rqG k u wh nm vb ph pn ch) rfl ?_; intro g1 w1 hb1 hx1 hg1; have HB1 := Lib.hid hb1; have HX1 := Lib.hid hx1; clear hb1 hx1 hg1) | (with_reducible refine Agg.wpList_box rfl 29 _ rfl (rqG k' u' wh' nm' vb' ph' pn' ch') rfl ?_; intro g2 w2 hb2 hx2 hg2; have HL1 := Lib.hid (RqG.of_blk (HB1.out.below hx2) hl hc); have HL2 := Lib.hid (RqG.of_blk hb2 hl' hc'); have HW := Lib.hid (Agg.belowThen HX1.out (Nat.le_refl _) hx2); clear hb2 hx2 hg2) | (with_reducible refine Agg.wpList_loadL HL1.out.kind rfl _ rfl rfl ?_) | (with_reducible refine Agg.wpList_loadL HL2.out.kind rfl _ rfl rfl ?_) | (with_reducible refine Agg.wpList_loadL HL1.out.user rfl _ rfl rfl ?_) | (with_reducible refine Agg.wpList_loadL HL2.out.user rfl _ rfl rfl ?_) | (with_reducible refine Agg.wpList_loadL HL1.out.who rfl _ rfl rfl ?_) | (with_reducible refine Agg.wpList_loadL HL2.out.who rfl _ rfl rfl ?_))
    go_ret
    exact ⟨ret_bool HR.out.symm, HW.out⟩
  | true =>
  cases h4 : (nm == nm') with
  | false =>
    have HR := Lib.hid (show (sameRq ⟨k, u, wh, nm, bs, ph, pn, ch⟩ ⟨k', u', wh', nm', bs', ph', pn', ch'⟩) = false from by simp [sameRq, h4])
    go_enter Tryz.func16, Tryz.ntmps16
    go_wp2_with (first | (with_reducible refine Agg.wpList_box rfl 29 _ rfl (rqG k u wh nm vb ph pn ch) rfl ?_; intro g1 w1 hb1 hx1 hg1; have HB1 := Lib.hid hb1; have HX1 := Lib.hid hx1; clear hb1 hx1 hg1) | (with_reducible refine Agg.wpList_box rfl 29 _ rfl (rqG k' u' wh' nm' vb' ph' pn' ch') rfl ?_; intro g2 w2 hb2 hx2 hg2; have HL1 := Lib.hid (RqG.of_blk (HB1.out.below hx2) hl hc); have HL2 := Lib.hid (RqG.of_blk hb2 hl' hc'); have HW := Lib.hid (Agg.belowThen HX1.out (Nat.le_refl _) hx2); clear hb2 hx2 hg2) | (with_reducible refine Agg.wpList_loadL HL1.out.kind rfl _ rfl rfl ?_) | (with_reducible refine Agg.wpList_loadL HL2.out.kind rfl _ rfl rfl ?_) | (with_reducible refine Agg.wpList_loadL HL1.out.user rfl _ rfl rfl ?_) | (with_reducible refine Agg.wpList_loadL HL2.out.user rfl _ rfl rfl ?_) | (with_reducible refine Agg.wpList_loadL HL1.out.who rfl _ rfl rfl ?_) | (with_reducible refine Agg.wpList_loadL HL2.out.who rfl _ rfl rfl ?_) | (with_reducible refine Agg.wpList_loadL HL1.out.name rfl _ rfl rfl ?_) | (with_reducible refine Agg.wpList_loadL HL2.out.name rfl _ rfl rfl ?_))
    go_ret
    exact ⟨ret_bool HR.out.symm, HW.out⟩
  | true =>
  have HA := Lib.hid (show (sameRq ⟨k, u, wh, nm, bs, ph, pn, ch⟩ ⟨k', u', wh', nm', bs', ph', pn', ch'⟩) = (decide (bs = bs') && (b6 && b7)) from by simp only [sameRq, h1, h2, h3, h4, H6.out, H7.out, Bool.true_and])
  go_enter Tryz.func16, Tryz.ntmps16
  go_wp2_with (first | (with_reducible refine Agg.wpList_box rfl 29 _ rfl (rqG k u wh nm vb ph pn ch) rfl ?_; intro g1 w1 hb1 hx1 hg1; have HB1 := Lib.hid hb1; have HX1 := Lib.hid hx1; clear hb1 hx1 hg1) | (with_reducible refine Agg.wpList_box rfl 29 _ rfl (rqG k' u' wh' nm' vb' ph' pn' ch') rfl ?_; intro g2 w2 hb2 hx2 hg2; have HL1 := Lib.hid (RqG.of_blk (HB1.out.below hx2) hl hc); have HL2 := Lib.hid (RqG.of_blk hb2 hl' hc'); have HW := Lib.hid (Agg.belowThen HX1.out (Nat.le_refl _) hx2); clear hb2 hx2 hg2) | (with_reducible refine Agg.wpList_loadL HL1.out.kind rfl _ rfl rfl ?_) | (with_reducible refine Agg.wpList_loadL HL2.out.kind rfl _ rfl rfl ?_) | (with_reducible refine Agg.wpList_loadL HL1.out.user rfl _ rfl rfl ?_) | (with_reducible refine Agg.wpList_loadL HL2.out.user rfl _ rfl rfl ?_) | (with_reducible refine Agg.wpList_loadL HL1.out.who rfl _ rfl rfl ?_) | (with_reducible refine Agg.wpList_loadL HL2.out.who rfl _ rfl rfl ?_) | (with_reducible refine Agg.wpList_loadL HL1.out.name rfl _ rfl rfl ?_) | (with_reducible refine Agg.wpList_loadL HL2.out.name rfl _ rfl rfl ?_) | (with_reducible refine Agg.wpList_loadL HL1.out.bytes rfl _ rfl rfl ?_) | (with_reducible refine Agg.wpList_loadL HL2.out.bytes rfl _ rfl rfl ?_))
  refine (sameBytes_any vb vb' bs bs' h1m h2m _ (HY1.out.below HW.out) (HY2.out.below HW.out)).mono ?_
  rintro e w3 ⟨rfl, hx3⟩
  have HL1 := Lib.hid (HL1.out.below hx3)
  have HL2 := Lib.hid (HL2.out.below hx3)
  have HW3 := Lib.hid (Agg.belowThen HW.out (Nat.le_refl _) hx3)
  clear hx3
  cases h5 : decide (bs = bs') with
  | false =>
    have HR := Lib.hid (HA.out.trans (by simp [h5] : _ = false))
    clear h5
    go_wp2_with fail
    go_ret
    exact ⟨ret_bool HR.out.symm, HW3.out⟩
  | true =>
    have HA5 := Lib.hid (HA.out.trans (by rw [h5]; rfl : _ = (b6 && b7)))
    clear h5
    cases b6 with
    | false =>
      go_wp2_with (first | (with_reducible refine Agg.wpList_loadL HL1.out.path rfl _ rfl rfl ?_) | (with_reducible refine Agg.wpList_loadL HL2.out.path rfl _ rfl rfl ?_) | (with_reducible refine Agg.wpList_eqlw 27 27 _ _ rfl rfl (pC ph pn) (pC ph' pn') rfl rfl false (by kernel_rfl) HE6.out ?_))
      go_ret
      exact ⟨ret_bool HA5.out.symm, HW3.out⟩
    | true =>
      go_wp2_with (first | (with_reducible refine Agg.wpList_loadL HL1.out.path rfl _ rfl rfl ?_) | (with_reducible refine Agg.wpList_loadL HL2.out.path rfl _ rfl rfl ?_) | (with_reducible refine Agg.wpList_loadL HL1.out.cls rfl _ rfl rfl ?_) | (with_reducible refine Agg.wpList_loadL HL2.out.cls rfl _ rfl rfl ?_) | (with_reducible refine Agg.wpList_eqlw 27 27 _ _ rfl rfl (pC ph pn) (pC ph' pn') rfl rfl true (by kernel_rfl) HE6.out ?_) | (with_reducible refine Agg.wpList_eqlw 25 25 _ _ rfl rfl (hC ch) (hC ch') rfl rfl b7 (by kernel_rfl) HE7.out ?_))
      go_ret
      exact ⟨ret_bool HA5.out.symm, HW3.out⟩
theorem ne_atP {a b : List P20} {k : Nat} {x y : P20} (hx : a[k]? = some x) (hy : b[k]? = some y) (h : ¬ x = y) : a ≠ b := by
  rintro rfl
  rw [hx] at hy
  exact h (Option.some.inj hy)
theorem take_succP {a b : List P20} {k : Nat} {x y : P20} (hx : a[k]? = some x) (hy : b[k]? = some y) (ht : a.take k = b.take k) (h : x = y) : a.take (k + 1) = b.take (k + 1) := by
  rw [List.take_add_one, List.take_add_one, hx, hy, ht, h]
theorem ne_eqP {x y : P20} : (x.1.1 == y.1.1 && x.1.2 == y.1.2) = decide (x = y) := by
  obtain ⟨⟨a, b⟩, hx⟩ := x
  obtain ⟨⟨c, d⟩, hy⟩ := y
  by_cases h1 : a = c <;> by_cases h2 : b = d <;> simp [h1, h2]
set_option maxRecDepth 100000 in
set_option maxHeartbeats 1000000 in
theorem samePaths_any (v u : Value) (a b : List P20) (_ha : a.length ≤ 1048576) (hb : b.length ≤ 1048576) (w : World) (he : ElemsAt w v a) (hf : ElemsAt w u b) :
    Calls Tryz.prog 73 #[v, u] w fun e w' => e = .returned (.bool (decide (a = b))) ∧ Below w.heap.size w w' := by
  have hlv := fun W => elems_len he W
  have hlu := fun W => elems_len hf W
  have HE := Lib.hid he
  have HF := Lib.hid hf
  clear he hf
  by_cases hlen : a.length = b.length
  · have hne : ((a.length : Int) != (b.length : Int)) = false := by simp [hlen]
    have HLEN := Lib.hid hlen
    rw [hlen] at hlv hne
    clear hlen
    go_enter Tryz.func73, Tryz.ntmps73
    go_wp2_with fail
    go_loopw [5] (fun i wr => ∃ k : Nat, k ≤ b.length ∧ i = .int .i64 k ∧ a.take k = b.take k ∧ Below w.heap.size w wr) (fun i _ => b.length - (intOf i).toNat)
    case atStart => exact ⟨0, by omega, rfl, rfl, Below.refl _ _⟩
    case round =>
      obtain ⟨w1, rfl⟩ : ∃ w1 : World, w1 = wr := ⟨_, rfl⟩
      obtain ⟨k, hk, rfl, htk, hw⟩ := hrel
      have HTK := Lib.hid htk
      clear htk
      by_cases hlt : k < b.length
      · obtain ⟨y, hyk⟩ : ∃ y, b[k]? = some y := ⟨_, List.getElem?_eq_getElem hlt⟩
        obtain ⟨x, hxk⟩ : ∃ x, a[k]? = some x := ⟨_, List.getElem?_eq_getElem (by rw [HLEN.out]; exact hlt)⟩
        obtain ⟨p, hadr, hld, _⟩ := elem_at (HE.out.below hw) k x hxk
        obtain ⟨q, hadq, hlq, _⟩ := elem_at (HF.out.below hw) k y hyk
        have HLX := Lib.hid hld
        have HLY := Lib.hid hlq
        have HX := Lib.hid hxk
        have HY := Lib.hid hyk
        have HQ := Lib.hid (fun W => (show (binOp .neq 27 (.agg (pC x.1.1 x.1.2)) (.agg (pC y.1.1 y.1.2))).run Tryz.prog W = .ok (.bool (!(decide (x = y)))) W by rw [neq_path _ _ _ _ x.2 y.2, ne_eqP]))
        clear hld hlq hxk hyk
        by_cases hxy : x = y
        · have HXY := Lib.hid hxy
          have HD := Lib.hid (fun W => (HQ.out W).trans (by simp [hxy] : _ = .ok (.bool false) W))
          clear hxy
          go_wp2_with fail
          try simp only [Act.put, List.setIfInBounds_toArray, List.set_cons_succ, List.set_cons_zero]
          refine Agg.wp_region_later_lit (by kernel_rfl) (by kernel_rfl) ?_
          repeat (first | go_big_quiet_skip | ((first | (with_reducible refine Agg.wpQuiet_loadL HLX.out rfl _ rfl rfl ?_) | (with_reducible refine Agg.wpQuiet_loadL HLY.out rfl _ rfl rfl ?_) | (with_reducible refine Agg.wpQuiet_neq 27 27 _ _ rfl rfl (pC x.1.1 x.1.2) (pC y.1.1 y.1.2) rfl rfl (false) (by kernel_rfl) HD.out ?_)); simp only [Act.put, List.setIfInBounds_toArray, List.set_cons_succ, List.set_cons_zero]) | go_big_quiet_step (fail))
          refine wpQuiet_nil ?_
          intro _ hw'
          obtain ⟨x1, rfl⟩ := hw'
          go_wp2_with fail
          go_roundw
          case rel => exact ⟨k + 1, by omega, by go_num, take_succP HX.out HY.out HTK.out HXY.out, Agg.belowThen hw (Nat.le_refl _) x1.h⟩
          case measure => simp [intOf]; omega
        · have HXY := Lib.hid hxy
          have HD := Lib.hid (fun W => (HQ.out W).trans (by simp [hxy] : _ = .ok (.bool true) W))
          clear hxy
          go_wp2_with fail
          try simp only [Act.put, List.setIfInBounds_toArray, List.set_cons_succ, List.set_cons_zero]
          refine Agg.wp_region_later_lit (by kernel_rfl) (by kernel_rfl) ?_
          repeat (first | go_big_quiet_skip | ((first | (with_reducible refine Agg.wpQuiet_loadL HLX.out rfl _ rfl rfl ?_) | (with_reducible refine Agg.wpQuiet_loadL HLY.out rfl _ rfl rfl ?_) | (with_reducible refine Agg.wpQuiet_neq 27 27 _ _ rfl rfl (pC x.1.1 x.1.2) (pC y.1.1 y.1.2) rfl rfl (true) (by kernel_rfl) HD.out ?_)); simp only [Act.put, List.setIfInBounds_toArray, List.set_cons_succ, List.set_cons_zero]) | go_big_quiet_step (fail))
          refine wpQuiet_nil ?_
          intro _ hw'
          obtain ⟨x1, rfl⟩ := hw'
          have HR := Lib.hid (decide_eq_false (ne_atP HX.out HY.out HXY.out))
          go_wp2_with fail
          go_ret
          exact ⟨ret_bool HR.out.symm, Agg.belowThen hw (Nat.le_refl _) x1.h⟩
      · obtain rfl : k = b.length := by omega
        have HR := Lib.hid (show decide (a = b) = true from by
          have h := HTK.out
          rw [List.take_length, ← HLEN.out, List.take_length] at h
          simpa using h)
        go_wp2_with fail
        go_ret
        exact ⟨ret_bool HR.out.symm, hw⟩
  · have hne : ((a.length : Int) != (b.length : Int)) = true := by simp [bne_iff_ne]; omega
    have HR := Lib.hid (show decide (a = b) = false from by
      refine decide_eq_false fun h => hlen (by rw [h]))
    clear hlen
    go_enter Tryz.func73, Tryz.ntmps73
    go_wp2_with fail
    go_ret
    exact ⟨ret_bool HR.out.symm, Below.refl _ _⟩
set_option maxRecDepth 100000 in
set_option maxHeartbeats 4000000 in
theorem sameRp_any (e g m : Int) (ph pn ch : List UInt8) (pv : Value) (l : List P20) (hl : ph.length = 20) (hc : ch.length = 20) (e' g' m' : Int) (ph' pn' ch' : List UInt8) (pv' : Value) (l' : List P20) (hl' : ph'.length = 20) (hc' : ch'.length = 20) (h1m : l.length ≤ 1048576) (h2m : l'.length ≤ 1048576) (w : World) (hb : ElemsAt w pv l) (hb' : ElemsAt w pv' l') :
    Calls Tryz.prog 28 #[.agg (rpG e ph pn ch g pv m), .agg (rpG e' ph' pn' ch' g' pv' m')] w fun x w' => x = .returned (.bool (sameRp ⟨e, ph, pn, ch, g, l, m⟩ ⟨e', ph', pn', ch', g', l', m'⟩)) ∧ Below w.heap.size w w' := by
  have HY1 := Lib.hid hb
  have HY2 := Lib.hid hb'
  clear hb hb'
  obtain ⟨b2, h2⟩ : ∃ b, (ph == ph' && pn == pn') = b := ⟨_, rfl⟩
  obtain ⟨b3, h3⟩ : ∃ b, (ch == ch') = b := ⟨_, rfl⟩
  have HE2 := Lib.hid (fun W => (show (binOp .eql 27 (.agg (pC ph pn)) (.agg (pC ph' pn'))).run Tryz.prog W = .ok (.bool b2) W by rw [← h2]; exact eql_path ph pn ph' pn' hl hl' W))
  have HE3 := Lib.hid (fun W => (show (binOp .eql 25 (.agg (hC ch)) (.agg (hC ch'))).run Tryz.prog W = .ok (.bool b3) W by rw [← h3]; exact eql_hash ch ch' hc hc' W))
  have H2 := Lib.hid h2
  have H3 := Lib.hid h3
  clear h2 h3
  cases h1 : (e == e') with
  | false =>
    have HR := Lib.hid (show (sameRp ⟨e, ph, pn, ch, g, l, m⟩ ⟨e', ph', pn', ch', g', l', m'⟩) = false from by simp [sameRp, h1])
    go_enter Tryz.func28, Tryz.ntmps28
    go_wp2_with (first | (with_reducible refine Agg.wpList_box rfl 46 _ rfl (rpG e ph pn ch g pv m) rfl ?_; intro g1 w1 hb1 hx1 hg1; have HB1 := Lib.hid hb1; have HX1 := Lib.hid hx1; clear hb1 hx1 hg1) | (with_reducible refine Agg.wpList_box rfl 46 _ rfl (rpG e' ph' pn' ch' g' pv' m') rfl ?_; intro g2 w2 hb2 hx2 hg2; have HL1 := Lib.hid (RpG.of_blk (HB1.out.below hx2) hl hc); have HL2 := Lib.hid (RpG.of_blk hb2 hl' hc'); have HW := Lib.hid (Agg.belowThen HX1.out (Nat.le_refl _) hx2); clear hb2 hx2 hg2) | (with_reducible refine Agg.wpList_loadL HL1.out.err rfl _ rfl rfl ?_) | (with_reducible refine Agg.wpList_loadL HL2.out.err rfl _ rfl rfl ?_))
    go_ret
    exact ⟨ret_bool HR.out.symm, HW.out⟩
  | true =>
  cases b2 with
  | false =>
    have HR := Lib.hid (show (sameRp ⟨e, ph, pn, ch, g, l, m⟩ ⟨e', ph', pn', ch', g', l', m'⟩) = false from by simp only [sameRp, H2.out, Bool.false_and, Bool.and_false])
    go_enter Tryz.func28, Tryz.ntmps28
    go_wp2_with (first | (with_reducible refine Agg.wpList_box rfl 46 _ rfl (rpG e ph pn ch g pv m) rfl ?_; intro g1 w1 hb1 hx1 hg1; have HB1 := Lib.hid hb1; have HX1 := Lib.hid hx1; clear hb1 hx1 hg1) | (with_reducible refine Agg.wpList_box rfl 46 _ rfl (rpG e' ph' pn' ch' g' pv' m') rfl ?_; intro g2 w2 hb2 hx2 hg2; have HL1 := Lib.hid (RpG.of_blk (HB1.out.below hx2) hl hc); have HL2 := Lib.hid (RpG.of_blk hb2 hl' hc'); have HW := Lib.hid (Agg.belowThen HX1.out (Nat.le_refl _) hx2); clear hb2 hx2 hg2) | (with_reducible refine Agg.wpList_loadL HL1.out.err rfl _ rfl rfl ?_) | (with_reducible refine Agg.wpList_loadL HL2.out.err rfl _ rfl rfl ?_) | (with_reducible refine Agg.wpList_loadL HL1.out.path rfl _ rfl rfl ?_) | (with_reducible refine Agg.wpList_loadL HL2.out.path rfl _ rfl rfl ?_) | (with_reducible refine Agg.wpList_eqlw 27 27 _ _ rfl rfl (pC ph pn) (pC ph' pn') rfl rfl false (by kernel_rfl) HE2.out ?_))
    go_ret
    exact ⟨ret_bool HR.out.symm, HW.out⟩
  | true =>
  cases b3 with
  | false =>
    have HR := Lib.hid (show (sameRp ⟨e, ph, pn, ch, g, l, m⟩ ⟨e', ph', pn', ch', g', l', m'⟩) = false from by simp only [sameRp, H3.out, Bool.false_and, Bool.and_false])
    go_enter Tryz.func28, Tryz.ntmps28
    go_wp2_with (first | (with_reducible refine Agg.wpList_box rfl 46 _ rfl (rpG e ph pn ch g pv m) rfl ?_; intro g1 w1 hb1 hx1 hg1; have HB1 := Lib.hid hb1; have HX1 := Lib.hid hx1; clear hb1 hx1 hg1) | (with_reducible refine Agg.wpList_box rfl 46 _ rfl (rpG e' ph' pn' ch' g' pv' m') rfl ?_; intro g2 w2 hb2 hx2 hg2; have HL1 := Lib.hid (RpG.of_blk (HB1.out.below hx2) hl hc); have HL2 := Lib.hid (RpG.of_blk hb2 hl' hc'); have HW := Lib.hid (Agg.belowThen HX1.out (Nat.le_refl _) hx2); clear hb2 hx2 hg2) | (with_reducible refine Agg.wpList_loadL HL1.out.err rfl _ rfl rfl ?_) | (with_reducible refine Agg.wpList_loadL HL2.out.err rfl _ rfl rfl ?_) | (with_reducible refine Agg.wpList_loadL HL1.out.path rfl _ rfl rfl ?_) | (with_reducible refine Agg.wpList_loadL HL2.out.path rfl _ rfl rfl ?_) | (with_reducible refine Agg.wpList_loadL HL1.out.cls rfl _ rfl rfl ?_) | (with_reducible refine Agg.wpList_loadL HL2.out.cls rfl _ rfl rfl ?_) | (with_reducible refine Agg.wpList_eqlw 27 27 _ _ rfl rfl (pC ph pn) (pC ph' pn') rfl rfl true (by kernel_rfl) HE2.out ?_) | (with_reducible refine Agg.wpList_eqlw 25 25 _ _ rfl rfl (hC ch) (hC ch') rfl rfl false (by kernel_rfl) HE3.out ?_))
    go_ret
    exact ⟨ret_bool HR.out.symm, HW.out⟩
  | true =>
  cases h4 : (g == g') with
  | false =>
    have HR := Lib.hid (show (sameRp ⟨e, ph, pn, ch, g, l, m⟩ ⟨e', ph', pn', ch', g', l', m'⟩) = false from by simp [sameRp, h4])
    go_enter Tryz.func28, Tryz.ntmps28
    go_wp2_with (first | (with_reducible refine Agg.wpList_box rfl 46 _ rfl (rpG e ph pn ch g pv m) rfl ?_; intro g1 w1 hb1 hx1 hg1; have HB1 := Lib.hid hb1; have HX1 := Lib.hid hx1; clear hb1 hx1 hg1) | (with_reducible refine Agg.wpList_box rfl 46 _ rfl (rpG e' ph' pn' ch' g' pv' m') rfl ?_; intro g2 w2 hb2 hx2 hg2; have HL1 := Lib.hid (RpG.of_blk (HB1.out.below hx2) hl hc); have HL2 := Lib.hid (RpG.of_blk hb2 hl' hc'); have HW := Lib.hid (Agg.belowThen HX1.out (Nat.le_refl _) hx2); clear hb2 hx2 hg2) | (with_reducible refine Agg.wpList_loadL HL1.out.err rfl _ rfl rfl ?_) | (with_reducible refine Agg.wpList_loadL HL2.out.err rfl _ rfl rfl ?_) | (with_reducible refine Agg.wpList_loadL HL1.out.path rfl _ rfl rfl ?_) | (with_reducible refine Agg.wpList_loadL HL2.out.path rfl _ rfl rfl ?_) | (with_reducible refine Agg.wpList_loadL HL1.out.cls rfl _ rfl rfl ?_) | (with_reducible refine Agg.wpList_loadL HL2.out.cls rfl _ rfl rfl ?_) | (with_reducible refine Agg.wpList_loadL HL1.out.goal rfl _ rfl rfl ?_) | (with_reducible refine Agg.wpList_loadL HL2.out.goal rfl _ rfl rfl ?_) | (with_reducible refine Agg.wpList_eqlw 27 27 _ _ rfl rfl (pC ph pn) (pC ph' pn') rfl rfl true (by kernel_rfl) HE2.out ?_) | (with_reducible refine Agg.wpList_eqlw 25 25 _ _ rfl rfl (hC ch) (hC ch') rfl rfl true (by kernel_rfl) HE3.out ?_))
    go_ret
    exact ⟨ret_bool HR.out.symm, HW.out⟩
  | true =>
  have HA := Lib.hid (show (sameRp ⟨e, ph, pn, ch, g, l, m⟩ ⟨e', ph', pn', ch', g', l', m'⟩) = (decide (l = l') && (m == m')) from by simp only [sameRp, h1, H2.out, H3.out, h4, Bool.true_and])
  go_enter Tryz.func28, Tryz.ntmps28
  go_wp2_with (first | (with_reducible refine Agg.wpList_box rfl 46 _ rfl (rpG e ph pn ch g pv m) rfl ?_; intro g1 w1 hb1 hx1 hg1; have HB1 := Lib.hid hb1; have HX1 := Lib.hid hx1; clear hb1 hx1 hg1) | (with_reducible refine Agg.wpList_box rfl 46 _ rfl (rpG e' ph' pn' ch' g' pv' m') rfl ?_; intro g2 w2 hb2 hx2 hg2; have HL1 := Lib.hid (RpG.of_blk (HB1.out.below hx2) hl hc); have HL2 := Lib.hid (RpG.of_blk hb2 hl' hc'); have HW := Lib.hid (Agg.belowThen HX1.out (Nat.le_refl _) hx2); clear hb2 hx2 hg2) | (with_reducible refine Agg.wpList_loadL HL1.out.err rfl _ rfl rfl ?_) | (with_reducible refine Agg.wpList_loadL HL2.out.err rfl _ rfl rfl ?_) | (with_reducible refine Agg.wpList_loadL HL1.out.path rfl _ rfl rfl ?_) | (with_reducible refine Agg.wpList_loadL HL2.out.path rfl _ rfl rfl ?_) | (with_reducible refine Agg.wpList_loadL HL1.out.cls rfl _ rfl rfl ?_) | (with_reducible refine Agg.wpList_loadL HL2.out.cls rfl _ rfl rfl ?_) | (with_reducible refine Agg.wpList_loadL HL1.out.goal rfl _ rfl rfl ?_) | (with_reducible refine Agg.wpList_loadL HL2.out.goal rfl _ rfl rfl ?_) | (with_reducible refine Agg.wpList_loadL HL1.out.paths rfl _ rfl rfl ?_) | (with_reducible refine Agg.wpList_loadL HL2.out.paths rfl _ rfl rfl ?_) | (with_reducible refine Agg.wpList_eqlw 27 27 _ _ rfl rfl (pC ph pn) (pC ph' pn') rfl rfl true (by kernel_rfl) HE2.out ?_) | (with_reducible refine Agg.wpList_eqlw 25 25 _ _ rfl rfl (hC ch) (hC ch') rfl rfl true (by kernel_rfl) HE3.out ?_))
  refine (samePaths_any pv pv' l l' h1m h2m _ (HY1.out.below HW.out) (HY2.out.below HW.out)).mono ?_
  rintro x w3 ⟨rfl, hx3⟩
  have HL1 := Lib.hid (HL1.out.below hx3)
  have HL2 := Lib.hid (HL2.out.below hx3)
  have HW3 := Lib.hid (Agg.belowThen HW.out (Nat.le_refl _) hx3)
  clear hx3
  cases h5 : decide (l = l') with
  | false =>
    have HR := Lib.hid (HA.out.trans (by simp [h5] : _ = false))
    clear h5
    go_wp2_with fail
    go_ret
    exact ⟨ret_bool HR.out.symm, HW3.out⟩
  | true =>
    have HA5 := Lib.hid (HA.out.trans (by rw [h5]; rfl : _ = (m == m')))
    clear h5
    go_wp2_with (first | (with_reducible refine Agg.wpList_loadL HL1.out.many rfl _ rfl rfl ?_) | (with_reducible refine Agg.wpList_loadL HL2.out.many rfl _ rfl rfl ?_))
    go_ret
    exact ⟨ret_bool HA5.out.symm, HW3.out⟩
/-- how many they are, with their names' bytes; no more than just past most -/
def pathsGo (most : Nat) : Nat → List P20 → Nat
  | n, [] => n
  | n, x :: l => if n ≤ most then pathsGo most (n + 1 + x.1.2.length) l else n
theorem pathsGo_le {most : Nat} : ∀ {l : List P20} {n : Nat}, pathsGo most n l ≤ most → n + (l.map fun x => 1 + x.1.2.length).sum ≤ most
  | [], n, h => by simpa [pathsGo] using h
  | x :: l, n, h => by
    unfold pathsGo at h
    split at h
    · have := pathsGo_le h
      simp only [List.map_cons, List.sum_cons]
      omega
    · omega
theorem pathsGo_drop {most n k : Nat} {l : List P20} {x : P20} (hx : l[k]? = some x) (hn : n ≤ most) : pathsGo most n (l.drop k) = pathsGo most (n + 1 + x.1.2.length) (l.drop (k + 1)) := by
  obtain ⟨hk, rfl⟩ := List.getElem?_eq_some_iff.1 hx
  rw [List.drop_eq_getElem_cons hk, pathsGo, if_pos hn]
theorem pathsGo_stop {most n : Nat} (l : List P20) (hn : ¬ n ≤ most) : pathsGo most n l = n := by
  cases l <;> simp [pathsGo, hn]
set_option maxRecDepth 100000 in
set_option maxHeartbeats 1000000 in
theorem pathsOf_any (v : Value) (l : List P20) (most : Nat) (hmo : most ≤ 1048576) (hll : l.length ≤ 1048576) (hlx : ∀ x ∈ l, x.1.2.length ≤ 1048576) (w : World) (he : ElemsAt w v l) :
    Calls Tryz.prog 20 #[v, .int .i64 (most : Int)] w fun e w' => e = .returned (.int .i64 (pathsGo most 0 l : Int)) ∧ Below w.heap.size w w' := by
  have hlv := fun W => elems_len he W
  have HE := Lib.hid he
  clear he
  go_enter Tryz.func20, Tryz.ntmps20
  go_wp2_with fail
  go_loopw [5, 6] (fun s i wr => ∃ k n : Nat, k ≤ l.length ∧ n ≤ 4194304 ∧ s = .int .i64 n ∧ i = .int .i64 k ∧ pathsGo most n (l.drop k) = pathsGo most 0 l ∧ Below w.heap.size w wr) (fun _ i _ => l.length - (intOf i).toNat)
  case atStart => exact ⟨0, 0, by omega, by omega, rfl, rfl, rfl, Below.refl _ _⟩
  case round =>
    obtain ⟨w1, rfl⟩ : ∃ w1 : World, w1 = wr := ⟨_, rfl⟩
    obtain ⟨k, n, hk, hn4, rfl, rfl, hgo, hw⟩ := hrel
    have HGO := Lib.hid hgo
    clear hgo
    by_cases hlt : k < l.length
    · by_cases hnm : n ≤ most
      · obtain ⟨x, hxk⟩ : ∃ x, l[k]? = some x := ⟨_, List.getElem?_eq_getElem hlt⟩
        obtain ⟨p, hadr, _, hld⟩ := elem_at (HE.out.below hw) k x hxk
        have hxl := hlx x (List.mem_of_getElem? hxk)
        have HLX := Lib.hid hld
        have HX := Lib.hid hxk
        have hls := str_len' x.1.2
        clear hld hxk
        go_wp2_with (first | (with_reducible refine Agg.wpList_loadL HLX.out rfl _ rfl rfl ?_))
        go_roundw
        case rel => exact ⟨k + 1, n + 1 + x.1.2.length, by omega, by omega, by go_num, by go_num, by rw [← pathsGo_drop HX.out hnm]; exact HGO.out, hw⟩
        case measure => simp [intOf]; omega
      · have hnm' : (most : Int) < (n : Int) := by omega
        have HR := Lib.hid ((pathsGo_stop (l.drop k) hnm).symm.trans HGO.out)
        go_wp2_with fail
        go_ret
        exact ⟨by rw [← HR.out]; rfl, hw⟩
    · obtain rfl : k = l.length := by omega
      have HR := Lib.hid (show n = pathsGo most 0 l from by
        have h := HGO.out
        rw [List.drop_length] at h
        exact h)
      go_wp2_with fail
      go_ret
      exact ⟨by rw [← HR.out]; rfl, hw⟩
end Go.Proofs.YtpnolgliklmnmaaGreat
/-! Rows of replies: slices of slices of replies; markReply. -/
namespace Go.Proofs.YtpnolgliklmnmaaGreat
open Go.RowKit Pl Go.Agg
/-- a reply as it lies in a row -/
structure RpE where
  e : Int
  ph : List UInt8
  pn : List UInt8
  ch : List UInt8
  g : Int
  pv : SV
  m : Int
  hl : ph.length = 20
  hc : ch.length = 20
def RpE.cells (x : RpE) : Array Value := rpG x.e x.ph x.pn x.ch x.g x.pv.1 x.m
def RpE.zero : RpE := ⟨0, z20, [], z20, 0, nilSV, 0, rfl, rfl⟩
theorem rpE_one (x : RpE) : x.cells.all (·.oneCell') = true := by
  obtain ⟨e, ph, pn, ch, g, ⟨_, p, n, c, rfl⟩, m, hl, hc⟩ := x
  have h1 := pC_one ph pn
  have h2 := hC_one ch
  simp only [RpE.cells, rpG, Array.all_append, h1, h2]
  simp [Value.oneCell']
theorem rpM_one (m : Int) : (rpG 0 z20 [] z20 0 (.slice none 0 0) m).all (·.oneCell') = true := rpE_one ⟨0, z20, [], z20, 0, nilSV, m, z20_length, z20_length⟩
theorem info_reply : ∃ i, Tryz.prog.info? 46 = some i ∧ i.zero = some (.agg (rpG 0 z20 [] z20 0 (.slice none 0 0) 0)) ∧ i.size = 45 ∧ i.bytes = 112 := by
  have hz := rp_zero
  have hs : (Tryz.prog.info? 46).map (·.size) = some 45 := by kernel_rfl
  have hb : (Tryz.prog.info? 46).map (·.bytes) = some 112 := by kernel_rfl
  cases hi : Tryz.prog.info? 46 with
  | none => rw [hi] at hz; cases hz
  | some i =>
    rw [hi] at hz hs hb
    exact ⟨i, rfl, Option.some.inj hz, Option.some.inj hs, Option.some.inj hb⟩
def ER : Elem Tryz.prog RpE where
  ty := 46
  st := 55
  n := 45
  bytes := 112
  val := fun x => .agg x.cells
  zero := .agg (rpG 0 z20 [] z20 0 (.slice none 0 0) 0)
  pos := by omega
  small := by omega
  size := fun x => by simp [Value.cells, RpE.cells, rpG_size x.hl x.hc]
  one := fun x v hv => by
    have h := rpE_one x
    rw [Array.all_eq_true_iff_forall_mem] at h
    exact h v (by simpa [Value.cells] using hv)
  zsize := by simp [Value.cells, rpG_size z20_length z20_length]
  slice := by kernel_rfl
  info := info_reply
  load := fun w a x hp h => LoadsL.of_cells hp h rp_under rfl (rp_info x.hl x.hc)
def ERR : Elem Tryz.prog SV where
  ty := 55
  st := 56
  n := 1
  bytes := 24
  val := fun v => v.1
  zero := .slice none 0 0
  pos := by omega
  small := by omega
  size := fun v => by rw [sv_cells]; rfl
  one := fun v u hu => by
    rw [sv_cells] at hu
    obtain rfl : u = v.1 := by simpa using hu
    exact sv_one v
  zsize := rfl
  slice := by kernel_rfl
  info := info_of (by kernel_rfl) (by kernel_rfl) (by kernel_rfl)
  load := fun w a v hp h => LoadsL.of_cell (by have := h 0 v.1 (by rw [sv_cells]; rfl); rwa [show a.add 0 = a from rfl] at this) (by kernel_rfl : Tryz.prog.underlying 55 = some (.slice 46)) rfl
theorem xxlen_R {w : World} {v : Value} {l : List SV} (h : SliceOf ERR w v l) (W : World) : (Builtin.len_ #[56] 3 #[v]).run Tryz.prog W = .ok (.int .i64 (l.length : Int)) W := h.len W
theorem xlen_R {w : World} {v : Value} {l : List RpE} (h : SliceOf ER w v l) (W : World) : (Builtin.len_ #[55] 3 #[v]).run Tryz.prog W = .ok (.int .i64 (l.length : Int)) W := h.len W
theorem rlen_R {w : World} {v : Value} {l : List RpE} (h : RoomN ER w v l) (W : World) : (Builtin.len_ #[55] 3 #[v]).run Tryz.prog W = .ok (.int .i64 (l.length : Int)) W := h.slice.len W
theorem xxat_R {w : World} {v : Value} {l : List SV} (h : SliceOf ERR w v l) (k : Nat) (x : SV) (hx : l[k]? = some x) :
    ∃ p : Addr, (∀ W, (Instr.indexAt 56 v (.int .i64 (k : Int))).run Tryz.prog W = .ok (.pointer (some p)) W) ∧ LoadsL Tryz.prog w 55 (some p) x.1 := by
  obtain ⟨p, h1, _, _, h4⟩ := h.at_ k x hx
  exact ⟨p, h1, h4⟩
theorem xat_R {w : World} {v : Value} {l : List RpE} (h : SliceOf ER w v l) (k : Nat) (x : RpE) (hx : l[k]? = some x) :
    ∃ p : Addr, (∀ W, (Instr.indexAt 55 v (.int .i64 (k : Int))).run Tryz.prog W = .ok (.pointer (some p)) W) ∧ LoadsL Tryz.prog w 46 (some p) (ER.val x) := by
  obtain ⟨p, h1, _, _, h4⟩ := h.at_ k x hx
  exact ⟨p, h1, h4⟩
/-- the mark of a place -/
def mkM (k i : Nat) : Int := ((1000003 * (k + 7) + i : Nat) : Int)
def mkR (k i : Nat) : RpE := ⟨0, z20, [], z20, 0, nilSV, mkM k i, rfl, rfl⟩
theorem build_reply5 (m : Int) (w : World) : (Instr.build 46 #[(5, .int .i64 m)]).run Tryz.prog w = .ok (.agg (rpG 0 z20 [] z20 0 (.slice none 0 0) m)) w := by kernel_rfl
set_option maxRecDepth 100000 in
set_option maxHeartbeats 1000000 in
theorem markReply_any (k i : Nat) (hk : k ≤ 16777216) (hi : i ≤ 16777216) (w : World) : Calls Tryz.prog 150 #[.int .i64 (k : Int), .int .i64 (i : Int)] w fun e w' => e = .returned (.agg (rpG 0 z20 [] z20 0 (.slice none 0 0) (mkM k i))) ∧ Below w.heap.size w w' := by
  obtain ⟨m, hs⟩ : ∃ m, mkM k i = m := ⟨_, rfl⟩
  have HM := Lib.hid (fun W => (show Calls Tryz.prog 80 #[.int .i64 (k : Int), .int .i64 (i : Int)] W fun e w' => e = .returned (.int .i64 m) ∧ W = w' by have := mark_any k i hk hi W; rwa [show ((1000003 * (k + 7) + i : Nat) : Int) = m from hs] at this))
  rw [hs]
  clear hs
  go_enter Tryz.func150, Tryz.ntmps150
  go_wp2_with (first | (with_reducible refine Agg.wpList_zero rfl 46 rfl (rpG 0 z20 [] z20 0 (.slice none 0 0) 0) rp_zero ?_; intro g w1 hb1 hx1 hg1))
  refine (HM.out w1).mono ?_
  rintro e w2 ⟨rfl, rfl⟩
  go_wp2_with (first | (with_reducible refine Agg.wpList_build1 46 5 _ rfl rfl (.int .i64 m) rfl (.agg (rpG 0 z20 [] z20 0 (.slice none 0 0) m)) (build_reply5 m) ?_) | (with_reducible refine Agg.wpList_put rfl rfl 46 _ _ rfl g (rpG 0 z20 [] z20 0 (.slice none 0 0) m) (rpG 0 z20 [] z20 0 (.slice none 0 0) 0) rfl rfl hb1 (rp_info z20_length z20_length) (by rw [rpG_size z20_length z20_length, rpG_size z20_length z20_length]) (rpM_one m) ?_; intro w3 hb3 hx3 _ _))
  exact Agg.post_row rfl rfl hb3 rp_under rfl (rp_info z20_length z20_length) rfl ⟨rfl, hx1.trans (hx3.mono hg1)⟩
theorem markSum_R (k a b : Nat) (hk : k ≤ 16777216) (hi : a + b ≤ 16777216) (w : World) : Calls Tryz.prog 150 #[.int .i64 (k : Int), .int .i64 ((a : Int) + (b : Int))] w fun e w' => e = .returned (.agg (rpG 0 z20 [] z20 0 (.slice none 0 0) (mkM k (a + b)))) ∧ Below w.heap.size w w' := by
  rw [show ((a : Int) + (b : Int)) = ((a + b : Nat) : Int) by simp]
  exact markReply_any k (a + b) hk hi w
theorem markSumL_R (a b i : Nat) (hk : a + b ≤ 16777216) (hi : i ≤ 16777216) (w : World) : Calls Tryz.prog 150 #[.int .i64 ((a : Int) + (b : Int)), .int .i64 (i : Int)] w fun e w' => e = .returned (.agg (rpG 0 z20 [] z20 0 (.slice none 0 0) (mkM (a + b) i))) ∧ Below w.heap.size w w' := by
  rw [show ((a : Int) + (b : Int)) = ((a + b : Nat) : Int) by simp]
  exact markReply_any (a + b) i hk hi w
theorem eqM_R (k i : Nat) (w : World) : Calls Tryz.prog 28 #[.agg (rpG 0 z20 [] z20 0 (.slice none 0 0) (mkM k i)), .agg (rpG 0 z20 [] z20 0 (.slice none 0 0) (mkM k i))] w fun e w' => e = .returned (.bool true) ∧ Below w.heap.size w w' := by
  have h := sameRp_any 0 0 (mkM k i) z20 [] z20 (.slice none 0 0) [] rfl rfl 0 0 (mkM k i) z20 [] z20 (.slice none 0 0) [] rfl rfl (by simp) (by simp) w (SliceOf.nil _ _ _) (SliceOf.nil _ _ _)
  rwa [(sameRp_eq _ _).2 rfl] at h
end Go.Proofs.YtpnolgliklmnmaaGreat
