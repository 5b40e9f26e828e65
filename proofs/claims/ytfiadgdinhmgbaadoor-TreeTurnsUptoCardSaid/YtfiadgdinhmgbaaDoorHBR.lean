/- spenceref08.Put: a node put at a way, by the document. -/
import Derived.Test.YtfiadgdinhmgbaaDoorHBL
import Derived.Test.YtfiadgdinhmgbaaDoorHBN
import Derived.Test.YtfiadgdinhmgbaaDoorHBO
import Derived.Test.YtfiadgdinhmgbaaDoorHAX
import Derived.Test.YtfiadgdinhmgbaaDoorHAI
namespace Go.Tr
open Go.Proofs.YtfiadgdinhmgbaaDoor
theorem putK_msz (n : List UInt8) (y : T) : ∀ (l : List K), (l.Pairwise fun x y => Op.bytesLess x.1 y.1 = true) → mszL (putK l n y) + msz ((place l n).getD dirT) ≤ mszL l + msz y + 2 + n.length
 | [], _ => by simp [putK, place, mszL, msz, dirT]; omega
 | (m, t) :: l, h => by
  have h1 := List.pairwise_cons.1 h
  by_cases e : m = n
  ·subst e
   simp [putK, place, mszL]; omega
  ·cases hl : Op.bytesLess n m with
   | true =>
    have hp : place ((m, t) :: l) n = none := by
     simp only [place, Option.map_eq_none_iff, List.find?_eq_none, decide_eq_true_eq]
     intro x hx
     rcases List.mem_cons.1 hx with rfl | hx
     ·exact e
     ·exact less_ne' (bytesLess_trans _ _ _ hl (h1.1 x hx))
    rw [hp]
    simp [putK, e, hl, mszL, msz, dirT]; omega
   | false =>
    have hp : place ((m, t) :: l) n = place l n := by simp [place, e]
    have ih := putK_msz n y l h1.2
    rw [hp]
    simp [putK, e, hl, mszL]; omega
theorem msz_put : ∀ (ns : N) (t x p : T), ok t = true → (∀ n ∈ ns, n.length ≤ 24) → put t x ns = some p → msz p ≤ msz t + msz x + 26 * ns.length
 | [], t, x, p, _, _, h => by
  obtain rfl : x = p := Option.some.inj h
  simp
 | n :: ns, t, x, p, hok, hn, h => by
  simp only [put] at h
  split at h
  ·cases hy : put ((place t.kids n).getD dirT) x ns with
   | none => rw [hy] at h; cases h
   | some y =>
    rw [hy] at h
    obtain rfl := Option.some.inj h
    have hk : ok ((place t.kids n).getD dirT) = true := by
     cases hp : place t.kids n with
     | none => decide
     | some y => exact okL_mem (kids_ok hok) (place_some hp)
    have ih := msz_put ns _ x y hk (fun m hm => hn m (by simp [hm])) hy
    have h2 := putK_msz n y t.kids (kids_pair hok)
    have h3 := hn n (by simp)
    obtain ⟨k, b, l⟩ := t
    simp only [T.kids] at h2 ih
    simp only [T.bytes, T.kids, msz, List.length_cons]
    omega
  ·cases h
theorem put_msz {t u p : T} {s : List UInt8} {ns : N} (ht : right t = true) (hu : right u = true) (hw : wayN s = some ns) (h : put t u (ns.take 1000) = some p) : msz p ≤ 1048576 := by
 have h1 := right_msz ht
 have h2 := right_msz hu
 have h3 := msz_put _ _ _ _ (right_ok ht) (fun n hn => name_le ((wayN_some hw).2.1 n (List.mem_of_mem_take hn))) h
 have h4 : (ns.take 1000).length ≤ 1000 := by rw [List.length_take]; omega
 omega
end Go.Tr
namespace Go.Proofs.YtfiadgdinhmgbaaDoor
open Go.RowKit Pl Go.Agg Go.Tr
set_option maxRecDepth 100000 in
set_option maxHeartbeats 64000000 in
theorem rput08_any (t u : T) (hmt : msz t ≤ 1048576) (hmu : msz u ≤ 1048576) (s : List UInt8) (hs : s.length ≤ 1048576) (vn vx : Value) (w : World) (hv : NodeAt w vn t) (hvx : NodeAt w vx u) :
  Calls Tryd.prog 13 #[vn, .string ⟨s.toArray⟩, vx] w fun e w' => ∃ x', e = .returned (.tuple #[.agg (ndC x'), .int .i64 (ptE t s u : Int)]) ∧ OwnN w.heap.size w' x' (ptT t s u) ∧ Below w.heap.size w w' := by
 obtain ⟨xa, rfl, h0⟩ := hv
 obtain ⟨xm, rfl, h1⟩ := hvx
 have Y_0 := Lib.hid (Below.refl w.heap.size w)
 have XA_0 := Lib.hid (show NodeAt w (.agg (ndC xa)) t from ⟨xa, rfl, h0⟩)
 have XM_0 := Lib.hid (show NodeAt w (.agg (ndC xm)) u from ⟨xm, rfl, h1⟩)
 have HVA := Lib.hid h0
 have HVM := Lib.hid h1
 clear h0 h1
 go_enter Tryd.func13, Tryd.ntmps13
 go_wp2_with (first | (refine wpList_box rfl 26 _ rfl (ndC xa) rfl ?_; intro g3 w1 hb hx hg; have Y_1 := Lib.hid (belowThen Y_0.out (Nat.le_refl _) hx); have XA_1 := Lib.hid (XA_0.out.below hx); have XM_1 := Lib.hid (XM_0.out.below hx); have B3_1 := Lib.hid hb; clear hb hx hg Y_0 XA_0 XM_0) | (refine wpList_box rfl 26 _ rfl (ndC xm) rfl ?_; intro g5 w2 hb hx hg; have Y_2 := Lib.hid (belowThen Y_1.out (Nat.le_refl _) hx); have XA_2 := Lib.hid (XA_1.out.below hx); have XM_2 := Lib.hid (XM_1.out.below hx); have B3_2 := Lib.hid (B3_1.out.below hx); have B5_2 := Lib.hid hb; clear hb hx hg Y_1 XA_1 XM_1 B3_1) | (refine Agg.wpList_zero rfl 26 rfl (ndC ndZ) nd_zero ?_; intro g6 w3 hb hx hg; have HG6 := Lib.hid (show w.heap.size ≤ g6 from Nat.le_trans Y_2.out.size hg); have Y_3 := Lib.hid (belowThen Y_2.out (Nat.le_refl _) hx); have XA_3 := Lib.hid (XA_2.out.below hx); have XM_3 := Lib.hid (XM_2.out.below hx); have B3_3 := Lib.hid (B3_2.out.below hx); have B5_3 := Lib.hid (B5_2.out.below hx); have R6_3 := Lib.hid hb; clear hb hx hg Y_2 XA_2 XM_2 B3_2 B5_2) | (with_reducible refine wpList_loadL (NdL.of_blk B3_3.out).all rfl _ rfl rfl ?_))
 refine (rright_any _ t hmt _ XA_3.out).mono ?_
 rintro e w4 ⟨rfl, hx⟩
 have Y_4 := Lib.hid (belowThen Y_3.out (Nat.le_refl _) hx)
 have XA_4 := Lib.hid (XA_3.out.below hx)
 have XM_4 := Lib.hid (XM_3.out.below hx)
 have B3_4 := Lib.hid (B3_3.out.below hx)
 have B5_4 := Lib.hid (B5_3.out.below hx)
 have R6_4 := Lib.hid (R6_3.out.below hx)
 clear hx  Y_3 XA_3 XM_3 B3_3 B5_3 R6_3
 cases hr : right t with
 | false =>
  have HE := Lib.hid (ptE_2 (t := t) (x := u) (s := s) (.inl hr))
  go_wp2_with (first | (with_reducible refine wpList_build0 26 rfl rfl (.agg (ndC ndZ)) nd_build0 ?_) | (refine Agg.wpList_put rfl rfl 26 _ _ rfl g6 (ndC ndZ) (ndC ndZ) rfl rfl R6_4.out (nd_info _) rfl (ndC_one _) ?_; intro wf hb hx hs9 hk; have ho9 := Only.of_eq (S := (· = g6)) hx hs9 hk rfl; have HF := Lib.hid hb; have HXF := Lib.hid (Y_4.out.trans (ho9.below (B := w.heap.size) Y_4.out.size (fun i hi => by subst hi; exact HG6.out))); clear hb hx hs9 hk ho9))
  exact post_row_tmp rfl rfl rfl HF.out nd_under rfl (nd_info _) rfl ⟨ndZ, by rw [HE.out.1]; rfl, by rw [HE.out.2]; exact ownN_zero _ _, HXF.out⟩
 | true =>
  have HRT := Lib.hid hr
  clear hr
  go_wp2_with (first | (with_reducible refine wpList_loadL (NdL.of_blk B5_4.out).all rfl _ rfl rfl ?_))
  refine (rright_any _ u hmu _ XM_4.out).mono ?_
  rintro e w5 ⟨rfl, hx⟩
  have Y_5 := Lib.hid (belowThen Y_4.out (Nat.le_refl _) hx)
  have XA_5 := Lib.hid (XA_4.out.below hx)
  have XM_5 := Lib.hid (XM_4.out.below hx)
  have B3_5 := Lib.hid (B3_4.out.below hx)
  have B5_5 := Lib.hid (B5_4.out.below hx)
  have R6_5 := Lib.hid (R6_4.out.below hx)
  clear hx  Y_4 XA_4 XM_4 B3_4 B5_4 R6_4
  cases hr : right u with
  | false =>
   have HE := Lib.hid (ptE_2 (t := t) (x := u) (s := s) (.inr hr))
   go_wp2_with (first | (with_reducible refine wpList_build0 26 rfl rfl (.agg (ndC ndZ)) nd_build0 ?_) | (refine Agg.wpList_put rfl rfl 26 _ _ rfl g6 (ndC ndZ) (ndC ndZ) rfl rfl R6_5.out (nd_info _) rfl (ndC_one _) ?_; intro wf hb hx hs9 hk; have ho9 := Only.of_eq (S := (· = g6)) hx hs9 hk rfl; have HF := Lib.hid hb; have HXF := Lib.hid (Y_5.out.trans (ho9.below (B := w.heap.size) Y_5.out.size (fun i hi => by subst hi; exact HG6.out))); clear hb hx hs9 hk ho9))
   exact post_row_tmp rfl rfl rfl HF.out nd_under rfl (nd_info _) rfl ⟨ndZ, by rw [HE.out.1]; rfl, by rw [HE.out.2]; exact ownN_zero _ _, HXF.out⟩
  | true =>
   have HRU := Lib.hid hr
   clear hr
   go_wp2_with fail
   refine (rway_any s hs _).mono ?_
   rintro e w6 ⟨vw, rfl, how, hx⟩
   have Y_6 := Lib.hid (belowThen Y_5.out (Nat.le_refl _) hx)
   have XA_6 := Lib.hid (XA_5.out.below hx)
   have XM_6 := Lib.hid (XM_5.out.below hx)
   have B3_6 := Lib.hid (B3_5.out.below hx)
   have B5_6 := Lib.hid (B5_5.out.below hx)
   have R6_6 := Lib.hid (R6_5.out.below hx)
   have WL_6 := Lib.hid (how.slice)
   clear hx  Y_5 XA_5 XM_5 B3_5 B5_5 R6_5
   have HBX := Lib.hid (own_capT how)
   clear how
   cases hwn : wayN s with
   | none =>
    have hwe : wyE s = 4 := by simp [wyE, hwn]
    rw [hwe]
    have HE := Lib.hid (ptE_4 HRT.out HRU.out hwn)
    clear hwe
    go_wp2_with (first | (with_reducible refine wpList_build0 26 rfl rfl (.agg (ndC ndZ)) nd_build0 ?_) | (refine Agg.wpList_put rfl rfl 26 _ _ rfl g6 (ndC ndZ) (ndC ndZ) rfl rfl R6_6.out (nd_info _) rfl (ndC_one _) ?_; intro wf hb hx hs9 hk; have ho9 := Only.of_eq (S := (· = g6)) hx hs9 hk rfl; have HF := Lib.hid hb; have HXF := Lib.hid (Y_6.out.trans (ho9.below (B := w.heap.size) Y_6.out.size (fun i hi => by subst hi; exact HG6.out))); clear hb hx hs9 hk ho9))
    exact post_row_tmp rfl rfl rfl HF.out nd_under rfl (nd_info _) rfl ⟨ndZ, by rw [HE.out.1]; rfl, by rw [HE.out.2]; exact ownN_zero _ _, HXF.out⟩
   | some ns =>
    have hwe : wyE s = 0 := by simp [wyE, hwn]
    have hwl : wyL s = ns := by simp [wyL, hwn]
    have hnl := wayN_len hwn
    have HWN := Lib.hid hwn
    rw [hwe]
    have HWL := WL_6.out
    rw [hwl] at HWL
    have HWX := Lib.hid HWL
    clear HWL hwe hwl hwn WL_6
    have WL_6 := HWX
    clear HWX
    obtain ⟨vp, vc, hvf⟩ := WL_6.out.form
    subst hvf
    have hvc : ns.length ≤ vc := HBX.out _ _ _ rfl
    have hlw := fun W => strs_len WL_6.out W
    obtain ⟨m, hm⟩ : ∃ m, m = min ns.length 1000 := ⟨_, rfl⟩
    have HTK := Lib.hid (show SliceOf ES w6 (.slice vp m vc) (ns.take m) from sliceOf_taken WL_6.out m (by omega))
    have HT1 := Lib.hid (show ns.take m = ns.take 1000 by rw [hm]; rcases Nat.le_total ns.length 1000 with h | h <;> simp [Nat.min_eq_left, Nat.min_eq_right, h, List.take_of_length_le])
    have HM := Lib.hid hm
    have HPQ := Lib.hid (putR_put (ns.take 1000) t u (right_ok HRT.out))
    have HMS := Lib.hid (fun p (h : put t u (ns.take 1000) = some p) => show msz p ≤ 1048576 from put_msz HRT.out HRU.out HWN.out h)
    have HCALL := Lib.hid (show ∀ W, Below w.heap.size w W → SliceOf ES W (.slice vp m vc) (ns.take m) → Calls Tryd.prog 41 #[.agg (ndC xa), .slice vp m vc, .agg (ndC xm)] W fun e w' => ∃ x', e = .returned (.tuple #[.agg (ndC x'), .bool (putR t u (ns.take 1000)).2]) ∧ NewV w W.heap.size w' x' (putR t u (ns.take 1000)).1 ∧ Below W.heap.size W w' from fun W h1 h2 => by
     have h := rput_any (ns.take m) t u (right_ok HRT.out) xa xm (.slice vp m vc) w W HVA.out HVM.out h2 (fun p n c e => by simp only [Value.slice.injEq] at e; have := HM.out; omega) h1
     rwa [HT1.out] at h)
    obtain ⟨PP, hPP⟩ : ∃ P, putR t u (ns.take 1000) = P := ⟨_, rfl⟩
    rw [hPP] at HCALL HPQ
    clear hPP
    have TK_6 := HTK
    clear HTK
    by_cases hbig : 1000 < ns.length
    ·have hgt : decide (1000 < (ns.length : Int)) = true := decide_eq_true (by omega)
     have hm9 : m = 1000 := by omega
     subst hm9
     have hsl2 : ∀ W, (Instr.sliceAt 37 (.slice vp ns.length vc) none (some (.int .i64 1000)) none).run Tryd.prog W = .ok (.slice vp 1000 vc) W := fun W => ES.runHigh (P := Tryd.prog) vp ns.length vc 1000 (by omega) W
     clear hvc hm
     go_wp2_with (first | (with_reducible refine wpList_loadL (NdL.of_blk B3_6.out).all rfl _ rfl rfl ?_) | (with_reducible refine wpList_loadL (NdL.of_blk B5_6.out).all rfl _ rfl rfl ?_))
     refine (HCALL.out _ Y_6.out TK_6.out).mono ?_
     rintro e w7 ⟨x2, rfl, hnv, hx⟩
     have Y_7 := Lib.hid (belowThen Y_6.out (Nat.le_refl _) hx)
     have XA_7 := Lib.hid (XA_6.out.below hx)
     have XM_7 := Lib.hid (XM_6.out.below hx)
     have B3_7 := Lib.hid (B3_6.out.below hx)
     have B5_7 := Lib.hid (B5_6.out.below hx)
     have R6_7 := Lib.hid (R6_6.out.below hx)
     have WL_7 := Lib.hid (SliceOf.below WL_6.out hx)
     have TK_7 := Lib.hid (SliceOf.below TK_6.out hx)
     have NV_7 := Lib.hid (hnv)
     clear hx hnv Y_6 XA_6 XM_6 B3_6 B5_6 R6_6 WL_6 TK_6
     obtain ⟨PT, PB⟩ := PP
     cases hpu : put t u (ns.take 1000) with
     | none =>
      have hq := HPQ.out
      rw [hpu] at hq
      obtain rfl : PB = false := hq
      have HE := Lib.hid (ptE_6 HRT.out HRU.out HWN.out hpu)
      clear hpu
      go_wp2_with (first | (refine wpList_new rfl rfl rfl 26 10 40 rfl rfl rfl (by decide) (ndC ndZ) (ndC x2) nd_zero (rfl) (nd_info _) (ndC_one _) rfl (by first | (simp; done) | simp [Act.put]) ?_; intro g10 w8 hb hx hg; have Y_8 := Lib.hid (belowThen Y_7.out (Nat.le_refl _) hx); have XA_8 := Lib.hid (XA_7.out.below hx); have XM_8 := Lib.hid (XM_7.out.below hx); have B3_8 := Lib.hid (B3_7.out.below hx); have B5_8 := Lib.hid (B5_7.out.below hx); have R6_8 := Lib.hid (R6_7.out.below hx); have WL_8 := Lib.hid (SliceOf.below WL_7.out hx); have TK_8 := Lib.hid (SliceOf.below TK_7.out hx); have NV_8 := Lib.hid (NV_7.out.below hx); have B10_8 := Lib.hid (hb); clear hb hx hg Y_7 XA_7 XM_7 B3_7 B5_7 R6_7 WL_7 TK_7 NV_7) | (with_reducible refine wpList_build0 26 rfl rfl (.agg (ndC ndZ)) nd_build0 ?_) | (refine Agg.wpList_put rfl rfl 26 _ _ rfl g6 (ndC ndZ) (ndC ndZ) rfl rfl R6_8.out (nd_info _) rfl (ndC_one _) ?_; intro wf hb hx hs9 hk; have ho9 := Only.of_eq (S := (· = g6)) hx hs9 hk rfl; have HF := Lib.hid hb; have HXF := Lib.hid (Y_8.out.trans (ho9.below (B := w.heap.size) Y_8.out.size (fun i hi => by subst hi; exact HG6.out))); clear hb hx hs9 hk ho9))
      exact post_row_tmp rfl rfl rfl HF.out nd_under rfl (nd_info _) rfl ⟨ndZ, by rw [HE.out.1]; rfl, by rw [HE.out.2]; exact ownN_zero _ _, HXF.out⟩
     | some pt =>
      have hq := HPQ.out
      rw [hpu] at hq
      have hq : (PT, PB) = (pt, true) := hq
      simp only [Prod.mk.injEq] at hq
      obtain ⟨rfl, rfl⟩ := hq
      have HPU := Lib.hid hpu
      have hmp := HMS.out _ hpu
      clear hpu
      have HZ9 := Lib.hid (Y_7.out.size)
      go_wp2_with (first | (refine wpList_new rfl rfl rfl 26 10 40 rfl rfl rfl (by decide) (ndC ndZ) (ndC x2) nd_zero (rfl) (nd_info _) (ndC_one _) rfl (by first | (simp; done) | simp [Act.put]) ?_; intro g10 w8 hb hx hg; have Y_8 := Lib.hid (belowThen Y_7.out (Nat.le_refl _) hx); have XA_8 := Lib.hid (XA_7.out.below hx); have XM_8 := Lib.hid (XM_7.out.below hx); have B3_8 := Lib.hid (B3_7.out.below hx); have B5_8 := Lib.hid (B5_7.out.below hx); have R6_8 := Lib.hid (R6_7.out.below hx); have WL_8 := Lib.hid (SliceOf.below WL_7.out hx); have TK_8 := Lib.hid (SliceOf.below TK_7.out hx); have NV_8 := Lib.hid (NV_7.out.below hx); have B10_8 := Lib.hid (hb); clear hb hx hg Y_7 XA_7 XM_7 B3_7 B5_7 R6_7 WL_7 TK_7 NV_7) | (with_reducible refine wpList_loadL (NdL.of_blk B10_8.out).all rfl _ rfl rfl ?_))
      refine (rright_any _ PT hmp _ ⟨x2, rfl, NewV.node Y_8.out _ _ NV_8.out⟩).mono ?_
      rintro e w9 ⟨rfl, hx⟩
      have Y_9 := Lib.hid (belowThen Y_8.out (Nat.le_refl _) hx)
      have XA_9 := Lib.hid (XA_8.out.below hx)
      have XM_9 := Lib.hid (XM_8.out.below hx)
      have B3_9 := Lib.hid (B3_8.out.below hx)
      have B5_9 := Lib.hid (B5_8.out.below hx)
      have R6_9 := Lib.hid (R6_8.out.below hx)
      have WL_9 := Lib.hid (SliceOf.below WL_8.out hx)
      have TK_9 := Lib.hid (SliceOf.below TK_8.out hx)
      have NV_9 := Lib.hid (NV_8.out.below hx)
      have B10_9 := Lib.hid (B10_8.out.below hx)
      clear hx  Y_8 XA_8 XM_8 B3_8 B5_8 R6_8 WL_8 TK_8 NV_8 B10_8
      cases hr : right PT with
      | false =>
       have HE := Lib.hid (ptE_3 HRT.out HRU.out HWN.out HPU.out hr)
       go_wp2_with (first | (with_reducible refine wpList_build0 26 rfl rfl (.agg (ndC ndZ)) nd_build0 ?_) | (refine Agg.wpList_put rfl rfl 26 _ _ rfl g6 (ndC ndZ) (ndC ndZ) rfl rfl R6_9.out (nd_info _) rfl (ndC_one _) ?_; intro wf hb hx hs9 hk; have ho9 := Only.of_eq (S := (· = g6)) hx hs9 hk rfl; have HF := Lib.hid hb; have HXF := Lib.hid (Y_9.out.trans (ho9.below (B := w.heap.size) Y_9.out.size (fun i hi => by subst hi; exact HG6.out))); clear hb hx hs9 hk ho9))
       exact post_row_tmp rfl rfl rfl HF.out nd_under rfl (nd_info _) rfl ⟨ndZ, by rw [HE.out.1]; rfl, by rw [HE.out.2]; exact ownN_zero _ _, HXF.out⟩
      | true =>
       have HE := Lib.hid (ptE_0 HRT.out HRU.out HWN.out HPU.out hr)
       have HRP := Lib.hid hr
       clear hr
       go_wp2_with (first | (with_reducible refine wpList_loadL (NdL.of_blk B10_9.out).all rfl _ rfl rfl ?_))
       have HR6 := Lib.hid (show g6 < w9.heap.size from R6_9.out.lt)
       refine (rown_any (count PT) PT (Nat.le_refl _) (right_ok HRP.out) _ _ ⟨x2, rfl, NewV.node Y_9.out _ _ NV_9.out⟩).mono ?_
       have HZ8 := Lib.hid Y_9.out.size
       rintro e w10 ⟨xr, rfl, hon, hx⟩
       have Y_10 := Lib.hid (belowThen Y_9.out (Nat.le_refl _) hx)
       have XA_10 := Lib.hid (XA_9.out.below hx)
       have XM_10 := Lib.hid (XM_9.out.below hx)
       have B3_10 := Lib.hid (B3_9.out.below hx)
       have B5_10 := Lib.hid (B5_9.out.below hx)
       have R6_10 := Lib.hid (R6_9.out.below hx)
       have WL_10 := Lib.hid (SliceOf.below WL_9.out hx)
       have TK_10 := Lib.hid (SliceOf.below TK_9.out hx)
       have NV_10 := Lib.hid (NV_9.out.below hx)
       have B10_10 := Lib.hid (B10_9.out.below hx)
       have ON_10 := Lib.hid (hon)
       clear hx hon Y_9 XA_9 XM_9 B3_9 B5_9 R6_9 WL_9 TK_9 NV_9 B10_9
       go_wp2_with (first | (refine Agg.wpList_put rfl rfl 26 _ _ rfl g6 (ndC xr) (ndC ndZ) rfl rfl R6_10.out (nd_info _) rfl (ndC_one _) ?_; intro wf hb hx hs9 hk; have ho9 := Only.of_eq (S := (· = g6)) hx hs9 hk rfl; have HF := Lib.hid hb; have HOF := Lib.hid (OwnN.lower (OwnN.otherB ON_10.out ho9 (fun j hj e => by have := HR6.out; omega)) HZ8.out); have HXF := Lib.hid (Y_10.out.trans (ho9.below (B := w.heap.size) Y_10.out.size (fun i hi => by subst hi; exact HG6.out))); clear hb hx hs9 hk ho9))
       exact post_row_tmp rfl rfl rfl HF.out nd_under rfl (nd_info _) rfl ⟨xr, by rw [HE.out.1]; rfl, by rw [HE.out.2]; exact HOF.out, HXF.out⟩
    ·have hgt : decide (1000 < (ns.length : Int)) = false := decide_eq_false (by omega)
     have hm9 : m = ns.length := by omega
     subst hm9
     clear hvc hm
     go_wp2_with (first | (with_reducible refine wpList_loadL (NdL.of_blk B3_6.out).all rfl _ rfl rfl ?_) | (with_reducible refine wpList_loadL (NdL.of_blk B5_6.out).all rfl _ rfl rfl ?_))
     refine (HCALL.out _ Y_6.out TK_6.out).mono ?_
     rintro e w7 ⟨x2, rfl, hnv, hx⟩
     have Y_7 := Lib.hid (belowThen Y_6.out (Nat.le_refl _) hx)
     have XA_7 := Lib.hid (XA_6.out.below hx)
     have XM_7 := Lib.hid (XM_6.out.below hx)
     have B3_7 := Lib.hid (B3_6.out.below hx)
     have B5_7 := Lib.hid (B5_6.out.below hx)
     have R6_7 := Lib.hid (R6_6.out.below hx)
     have WL_7 := Lib.hid (SliceOf.below WL_6.out hx)
     have TK_7 := Lib.hid (SliceOf.below TK_6.out hx)
     have NV_7 := Lib.hid (hnv)
     clear hx hnv Y_6 XA_6 XM_6 B3_6 B5_6 R6_6 WL_6 TK_6
     obtain ⟨PT, PB⟩ := PP
     cases hpu : put t u (ns.take 1000) with
     | none =>
      have hq := HPQ.out
      rw [hpu] at hq
      obtain rfl : PB = false := hq
      have HE := Lib.hid (ptE_6 HRT.out HRU.out HWN.out hpu)
      clear hpu
      go_wp2_with (first | (refine wpList_new rfl rfl rfl 26 10 40 rfl rfl rfl (by decide) (ndC ndZ) (ndC x2) nd_zero (rfl) (nd_info _) (ndC_one _) rfl (by first | (simp; done) | simp [Act.put]) ?_; intro g10 w8 hb hx hg; have Y_8 := Lib.hid (belowThen Y_7.out (Nat.le_refl _) hx); have XA_8 := Lib.hid (XA_7.out.below hx); have XM_8 := Lib.hid (XM_7.out.below hx); have B3_8 := Lib.hid (B3_7.out.below hx); have B5_8 := Lib.hid (B5_7.out.below hx); have R6_8 := Lib.hid (R6_7.out.below hx); have WL_8 := Lib.hid (SliceOf.below WL_7.out hx); have TK_8 := Lib.hid (SliceOf.below TK_7.out hx); have NV_8 := Lib.hid (NV_7.out.below hx); have B10_8 := Lib.hid (hb); clear hb hx hg Y_7 XA_7 XM_7 B3_7 B5_7 R6_7 WL_7 TK_7 NV_7) | (with_reducible refine wpList_build0 26 rfl rfl (.agg (ndC ndZ)) nd_build0 ?_) | (refine Agg.wpList_put rfl rfl 26 _ _ rfl g6 (ndC ndZ) (ndC ndZ) rfl rfl R6_8.out (nd_info _) rfl (ndC_one _) ?_; intro wf hb hx hs9 hk; have ho9 := Only.of_eq (S := (· = g6)) hx hs9 hk rfl; have HF := Lib.hid hb; have HXF := Lib.hid (Y_8.out.trans (ho9.below (B := w.heap.size) Y_8.out.size (fun i hi => by subst hi; exact HG6.out))); clear hb hx hs9 hk ho9))
      exact post_row_tmp rfl rfl rfl HF.out nd_under rfl (nd_info _) rfl ⟨ndZ, by rw [HE.out.1]; rfl, by rw [HE.out.2]; exact ownN_zero _ _, HXF.out⟩
     | some pt =>
      have hq := HPQ.out
      rw [hpu] at hq
      have hq : (PT, PB) = (pt, true) := hq
      simp only [Prod.mk.injEq] at hq
      obtain ⟨rfl, rfl⟩ := hq
      have HPU := Lib.hid hpu
      have hmp := HMS.out _ hpu
      clear hpu
      have HZ9 := Lib.hid (Y_7.out.size)
      go_wp2_with (first | (refine wpList_new rfl rfl rfl 26 10 40 rfl rfl rfl (by decide) (ndC ndZ) (ndC x2) nd_zero (rfl) (nd_info _) (ndC_one _) rfl (by first | (simp; done) | simp [Act.put]) ?_; intro g10 w8 hb hx hg; have Y_8 := Lib.hid (belowThen Y_7.out (Nat.le_refl _) hx); have XA_8 := Lib.hid (XA_7.out.below hx); have XM_8 := Lib.hid (XM_7.out.below hx); have B3_8 := Lib.hid (B3_7.out.below hx); have B5_8 := Lib.hid (B5_7.out.below hx); have R6_8 := Lib.hid (R6_7.out.below hx); have WL_8 := Lib.hid (SliceOf.below WL_7.out hx); have TK_8 := Lib.hid (SliceOf.below TK_7.out hx); have NV_8 := Lib.hid (NV_7.out.below hx); have B10_8 := Lib.hid (hb); clear hb hx hg Y_7 XA_7 XM_7 B3_7 B5_7 R6_7 WL_7 TK_7 NV_7) | (with_reducible refine wpList_loadL (NdL.of_blk B10_8.out).all rfl _ rfl rfl ?_))
      refine (rright_any _ PT hmp _ ⟨x2, rfl, NewV.node Y_8.out _ _ NV_8.out⟩).mono ?_
      rintro e w9 ⟨rfl, hx⟩
      have Y_9 := Lib.hid (belowThen Y_8.out (Nat.le_refl _) hx)
      have XA_9 := Lib.hid (XA_8.out.below hx)
      have XM_9 := Lib.hid (XM_8.out.below hx)
      have B3_9 := Lib.hid (B3_8.out.below hx)
      have B5_9 := Lib.hid (B5_8.out.below hx)
      have R6_9 := Lib.hid (R6_8.out.below hx)
      have WL_9 := Lib.hid (SliceOf.below WL_8.out hx)
      have TK_9 := Lib.hid (SliceOf.below TK_8.out hx)
      have NV_9 := Lib.hid (NV_8.out.below hx)
      have B10_9 := Lib.hid (B10_8.out.below hx)
      clear hx  Y_8 XA_8 XM_8 B3_8 B5_8 R6_8 WL_8 TK_8 NV_8 B10_8
      cases hr : right PT with
      | false =>
       have HE := Lib.hid (ptE_3 HRT.out HRU.out HWN.out HPU.out hr)
       go_wp2_with (first | (with_reducible refine wpList_build0 26 rfl rfl (.agg (ndC ndZ)) nd_build0 ?_) | (refine Agg.wpList_put rfl rfl 26 _ _ rfl g6 (ndC ndZ) (ndC ndZ) rfl rfl R6_9.out (nd_info _) rfl (ndC_one _) ?_; intro wf hb hx hs9 hk; have ho9 := Only.of_eq (S := (· = g6)) hx hs9 hk rfl; have HF := Lib.hid hb; have HXF := Lib.hid (Y_9.out.trans (ho9.below (B := w.heap.size) Y_9.out.size (fun i hi => by subst hi; exact HG6.out))); clear hb hx hs9 hk ho9))
       exact post_row_tmp rfl rfl rfl HF.out nd_under rfl (nd_info _) rfl ⟨ndZ, by rw [HE.out.1]; rfl, by rw [HE.out.2]; exact ownN_zero _ _, HXF.out⟩
      | true =>
       have HE := Lib.hid (ptE_0 HRT.out HRU.out HWN.out HPU.out hr)
       have HRP := Lib.hid hr
       clear hr
       go_wp2_with (first | (with_reducible refine wpList_loadL (NdL.of_blk B10_9.out).all rfl _ rfl rfl ?_))
       have HR6 := Lib.hid (show g6 < w9.heap.size from R6_9.out.lt)
       refine (rown_any (count PT) PT (Nat.le_refl _) (right_ok HRP.out) _ _ ⟨x2, rfl, NewV.node Y_9.out _ _ NV_9.out⟩).mono ?_
       have HZ8 := Lib.hid Y_9.out.size
       rintro e w10 ⟨xr, rfl, hon, hx⟩
       have Y_10 := Lib.hid (belowThen Y_9.out (Nat.le_refl _) hx)
       have XA_10 := Lib.hid (XA_9.out.below hx)
       have XM_10 := Lib.hid (XM_9.out.below hx)
       have B3_10 := Lib.hid (B3_9.out.below hx)
       have B5_10 := Lib.hid (B5_9.out.below hx)
       have R6_10 := Lib.hid (R6_9.out.below hx)
       have WL_10 := Lib.hid (SliceOf.below WL_9.out hx)
       have TK_10 := Lib.hid (SliceOf.below TK_9.out hx)
       have NV_10 := Lib.hid (NV_9.out.below hx)
       have B10_10 := Lib.hid (B10_9.out.below hx)
       have ON_10 := Lib.hid (hon)
       clear hx hon Y_9 XA_9 XM_9 B3_9 B5_9 R6_9 WL_9 TK_9 NV_9 B10_9
       go_wp2_with (first | (refine Agg.wpList_put rfl rfl 26 _ _ rfl g6 (ndC xr) (ndC ndZ) rfl rfl R6_10.out (nd_info _) rfl (ndC_one _) ?_; intro wf hb hx hs9 hk; have ho9 := Only.of_eq (S := (· = g6)) hx hs9 hk rfl; have HF := Lib.hid hb; have HOF := Lib.hid (OwnN.lower (OwnN.otherB ON_10.out ho9 (fun j hj e => by have := HR6.out; omega)) HZ8.out); have HXF := Lib.hid (Y_10.out.trans (ho9.below (B := w.heap.size) Y_10.out.size (fun i hi => by subst hi; exact HG6.out))); clear hb hx hs9 hk ho9))
       exact post_row_tmp rfl rfl rfl HF.out nd_under rfl (nd_info _) rfl ⟨xr, by rw [HE.out.1]; rfl, by rw [HE.out.2]; exact HOF.out, HXF.out⟩
end Go.Proofs.YtfiadgdinhmgbaaDoor
