/- tree.Take: a node taken away. -/
import Derived.Test.YtfiadgdinhmgbaaDoorHBF
import Derived.Test.YtfiadgdinhmgbaaDoorHAX
namespace Go.Proofs.YtfiadgdinhmgbaaDoor
open Go.RowKit Pl Go.Agg Go.Tr
theorem tkE_ne {t : T} {s : List UInt8} (h : fdE t s ≠ 0) : tkE t s = fdE t s ∧ tkT t s = zT := by
 have e : tkE t s = fdE t s := by simp [tkE, h]
 exact ⟨e, by simp [tkT, e, h, zTree, zT]⟩
theorem tkE_nil {t : T} (h : fdE t [] = 0) : tkE t [] = 5 ∧ tkT t [] = zT := by
 have e : tkE t [] = 5 := by simp [tkE, h]
 exact ⟨e, by simp [tkT, e, zTree, zT]⟩
theorem tkE_ok {t : T} {s : List UInt8} {ws : N} (h : fdE t s = 0) (hs : s ≠ []) (hw : wayN s = some ws) : tkE t s = 0 ∧ tkT t s = take t ws := by
 have e : tkE t s = 0 := by simp [tkE, h, hs]
 exact ⟨e, by simp [tkT, e, hw]⟩
theorem way_ne {s : List UInt8} {ws : N} (hs : s ≠ []) (hw : wayN s = some ws) : ws ≠ [] := by
 rintro rfl
 simp only [wayN, hs, if_false] at hw
 split at hw
 ·exact splitB_ne s (Option.some.inj hw)
 ·cases hw
set_option maxRecDepth 100000 in
set_option maxHeartbeats 32000000 in
theorem take_any (t : T) (s : List UInt8) (hs : s.length ≤ 1048576) (vn : Value) (w : World) (hv : NodeAt w vn t) :
  Calls Tryd.prog 14 #[vn, .string ⟨s.toArray⟩] w fun e w' => ∃ x', e = .returned (.tuple #[.agg (ndC x'), .int .i64 (tkE t s : Int)]) ∧ OwnN w.heap.size w' x' (tkT t s) ∧ Below w.heap.size w w' := by
 obtain ⟨x, rfl, hx⟩ := hv
 have HX := Lib.hid hx
 clear hx
 go_enter Tryd.func14, Tryd.ntmps14
 go_wp2_with (first | (refine wpList_box rfl 26 _ rfl (ndC x) rfl ?_; intro g2 w1 hb hx hg; have HB1 := Lib.hid hb; have HX1 := Lib.hid hx; clear hb hx hg) | (refine Agg.wpList_zero rfl 26 rfl (ndC ndZ) nd_zero ?_; intro g4 w2 hb hx hg; have HR2 := Lib.hid hb; have HB2 := Lib.hid (HB1.out.below hx); have HX2 := Lib.hid (belowThen HX1.out (Nat.le_refl _) hx); have HG4 := Lib.hid (show w.heap.size ≤ g4 from Nat.le_trans HX1.out.size hg); clear hb hx hg) | (with_reducible refine wpList_loadL (NdL.of_blk HB2.out).all rfl _ rfl rfl ?_))
 refine (tfind_any t s hs (.agg (ndC x)) w2 ⟨x, rfl, HX.out.below HX2.out⟩).mono ?_
 rintro e w3 ⟨xf, rfl, hon, hx⟩
 have HB3 := Lib.hid (HB2.out.below hx)
 have HR3 := Lib.hid (HR2.out.below hx)
 have HX3 := Lib.hid (belowThen HX2.out (Nat.le_refl _) hx)
 clear hx hon
 by_cases h0 : fdE t s = 0
 case neg =>
  have HE := Lib.hid (tkE_ne h0)
  have hd1 : decide (((fdE t s : Nat) : Int) = 0) = false := decide_eq_false (by omega)
  have hd2 : (((fdE t s : Nat) : Int) == 0) = false := by rw [beq_eq_false_iff_ne]; omega
  have hd3 : decide (¬ ((fdE t s : Nat) : Int) = 0) = true := decide_eq_true (by omega)
  obtain ⟨ee, hee⟩ : ∃ ee, ee = fdE t s := ⟨_, rfl⟩
  rw [← hee] at hd1 hd2 hd3 HE ⊢
  have HH := Lib.hid hee
  clear hee h0
  go_wp2_with (first | (refine wpList_new rfl rfl rfl 26 6 22 rfl rfl rfl (by decide) (ndC ndZ) (ndC xf) nd_zero rfl (nd_info _) (ndC_one _) rfl (by first | (simp; done) | simp [Act.put]) ?_; intro g6 w4 hb hx hg; have HB4 := Lib.hid (HB3.out.below hx); have HR4 := Lib.hid (HR3.out.below hx); have HX4 := Lib.hid (belowThen HX3.out (Nat.le_refl _) hx); clear hb hx hg) | (with_reducible refine wpList_build0 26 rfl rfl (.agg (ndC ndZ)) nd_build0 ?_) | (refine Agg.wpList_put rfl rfl 26 _ _ rfl g4 (ndC ndZ) (ndC ndZ) rfl rfl HR4.out (nd_info _) rfl (ndC_one _) ?_; intro wf hb hx hs9 hk; have ho9 := Only.of_eq (S := (· = g4)) hx hs9 hk rfl; have HF := Lib.hid hb; have HXF := Lib.hid (HX4.out.trans (ho9.below (B := w.heap.size) HX4.out.size (fun i hi => by subst hi; exact HG4.out))); clear hb hx hs9 hk ho9))
  exact post_row_tmp rfl rfl rfl HF.out nd_under rfl (nd_info _) rfl ⟨ndZ, by rw [HE.out.1]; rfl, by rw [HE.out.2]; exact ownN_zero _ _, HXF.out⟩
 case pos =>
  rw [h0]
  by_cases hse : s = []
  ·subst hse
   have HE := Lib.hid (tkE_nil h0)
   clear h0
   go_wp2_with (first | (refine wpList_new rfl rfl rfl 26 6 22 rfl rfl rfl (by decide) (ndC ndZ) (ndC xf) nd_zero rfl (nd_info _) (ndC_one _) rfl (by first | (simp; done) | simp [Act.put]) ?_; intro g6 w4 hb hx hg; have HB4 := Lib.hid (HB3.out.below hx); have HR4 := Lib.hid (HR3.out.below hx); have HX4 := Lib.hid (belowThen HX3.out (Nat.le_refl _) hx); clear hb hx hg) | (with_reducible refine wpList_build0 26 rfl rfl (.agg (ndC ndZ)) nd_build0 ?_) | (refine Agg.wpList_put rfl rfl 26 _ _ rfl g4 (ndC ndZ) (ndC ndZ) rfl rfl HR4.out (nd_info _) rfl (ndC_one _) ?_; intro wf hb hx hs9 hk; have ho9 := Only.of_eq (S := (· = g4)) hx hs9 hk rfl; have HF := Lib.hid hb; have HXF := Lib.hid (HX4.out.trans (ho9.below (B := w.heap.size) HX4.out.size (fun i hi => by subst hi; exact HG4.out))); clear hb hx hs9 hk ho9))
   exact post_row_tmp rfl rfl rfl HF.out nd_under rfl (nd_info _) rfl ⟨ndZ, by rw [HE.out.1]; rfl, by rw [HE.out.2]; exact ownN_zero _ _, HXF.out⟩
  ·have hemp : s.isEmpty = false := by simpa using hse
   obtain ⟨hrt, ns, hwn, hfd⟩ := fdE_zero h0
   have HE := Lib.hid (tkE_ok h0 hse hwn)
   have hne := way_ne hse hwn
   have HFD := Lib.hid hfd
   have HRT := Lib.hid hrt
   have hwl : wyL s = ns := by simp [wyL, hwn]
   have hnl := wayN_len hwn
   clear h0 hrt hfd hwn hse
   go_wp2_with (first | (refine wpList_new rfl rfl rfl 26 6 22 rfl rfl rfl (by decide) (ndC ndZ) (ndC xf) nd_zero rfl (nd_info _) (ndC_one _) rfl (by first | (simp; done) | simp [Act.put]) ?_; intro g6 w4 hb hx hg; have HB4 := Lib.hid (HB3.out.below hx); have HR4 := Lib.hid (HR3.out.below hx); have HX4 := Lib.hid (belowThen HX3.out (Nat.le_refl _) hx); clear hb hx hg))
   refine (way_any s hs w4).mono ?_
   rintro e w5 ⟨vw, rfl, how, hx⟩
   rw [hwl] at how
   have HB5 := Lib.hid (HB4.out.below hx)
   have HR5 := Lib.hid (HR4.out.below hx)
   have HX5 := Lib.hid (belowThen HX4.out (Nat.le_refl _) hx)
   have HBX := Lib.hid (own_capT how)
   have HW5 := Lib.hid how.slice
   clear hx how hwl
   go_wp2_with (first | (with_reducible refine wpList_loadL (NdL.of_blk HB5.out).all rfl _ rfl rfl ?_))
   refine (own_any (count t) t (Nat.le_refl _) (right_ok HRT.out) (.agg (ndC x)) w5 ⟨x, rfl, HX.out.below HX5.out⟩).mono ?_
   rintro e w6 ⟨xo, rfl, hon, hx⟩
   obtain ⟨bs, hot, hbn⟩ := hon
   have HR6 := Lib.hid (HR5.out.below hx)
   have HX6 := Lib.hid (belowThen HX5.out (Nat.le_refl _) hx)
   have HW6 := Lib.hid (SliceOf.below HW5.out hx)
   have HO6 := Lib.hid hot
   have HBN := Lib.hid hbn
   have HBR := Lib.hid (OwnT.range _ _ _ hot)
   have HZ6 := Lib.hid hx.size
   have HG45 := Lib.hid (show g4 < w5.heap.size from HR5.out.lt)
   clear hx hot hbn
   obtain ⟨m, hm⟩ : ∃ m, ns.length = m + 1 := ⟨ns.length - 1, by have : 0 < ns.length := List.length_pos_iff.2 hne; omega⟩
   obtain ⟨vp, vc, hvf⟩ := HW5.out.form
   have hvc : ns.length ≤ vc := HBX.out _ _ _ hvf
   have hlw : ∀ W, (Builtin.len_ #[37] 3 #[vw]).run Tryd.prog W = .ok (.int .i64 ((m : Int) + 1)) W := fun W => by
    have h := strs_len HW5.out W
    rwa [hm] at h
   have hsl : ∀ W, (Instr.sliceAt 37 vw none (some (.int .i64 (m : Int))) none).run Tryd.prog W = .ok (.slice vp m vc) W := fun W => by
    rw [hvf]; exact ES.runHigh (P := Tryd.prog) vp ns.length vc m (by omega) W
   have htk : ∀ W, SliceOf ES W vw ns → SliceOf ES W (.slice vp m vc) (ns.take m) := fun W h => sliceOf_taken (by rw [hvf] at h; exact h) m (by omega)
   have hlm : ∀ W, (Builtin.len_ #[37] 3 #[.slice vp m vc]).run Tryd.prog W = .ok (.int .i64 (m : Int)) W := fun W => by
    have h := strs_len (htk _ HW5.out) W
    rwa [List.length_take, Nat.min_eq_left (by omega)] at h
   have hmb : m ≤ 1048577 := by omega
   have HM := Lib.hid hm
   have HTK := Lib.hid htk
   clear hm htk hvf hvc hne
   go_wp2_with (first | (refine wpList_new rfl rfl rfl 26 10 37 rfl rfl rfl (by decide) (ndC ndZ) (ndC xo) nd_zero rfl (nd_info _) (ndC_one _) rfl (by first | (simp; done) | simp [Act.put]) ?_; intro g10 w7 hb hx hg; have HN7 := Lib.hid hb; have HO7 := Lib.hid (OwnT.below hx HO6.out); have HW7 := Lib.hid (SliceOf.below HW6.out hx); have HG10 := Lib.hid (show w6.heap.size ≤ g10 from hg); have HR7 := Lib.hid (HR6.out.below hx); have HX7 := Lib.hid (belowThen HX6.out (Nat.le_refl _) hx); have HZ7 := Lib.hid hx.size; clear hb hx hg))
   go_loopw [11, 44] (fun p i wr => ∃ (q g : Nat) (ty : TypeId) (xs zs : Array Value) (n : NdV) (tq : T) (bq : List Nat) (F : T → T), q ≤ m ∧ i = .int .i64 (q : Int) ∧ p = .pointer (some ⟨g, xs.size, none⟩) ∧ find t (ns.take q) = some tq ∧ take t ns = F (take tq (ns.drop q)) ∧ Blk wr g ty (xs ++ (ndC n ++ zs)) ∧ OwnT w5.heap.size wr n tq bq ∧ (g :: bq).Nodup ∧ w5.heap.size ≤ g ∧ HoleR w5.heap.size g10 wr g ty xs zs bq F ∧ Blk wr g4 26 (ndC ndZ) ∧ SliceOf ES wr vw ns ∧ Below w.heap.size w wr ∧ w5.heap.size ≤ wr.heap.size) (fun _ i _ => m - (intOf i).toNat)
   case atStart => exact ⟨0, g10, 26, #[], #[], xo, t, bs, id, by omega, rfl, rfl, rfl, rfl, by simpa using HN7.out, HO7.out, List.nodup_cons.2 ⟨fun h => by have := (HBR.out g10 h).2; have := HG10.out; omega, HBN.out⟩, Nat.le_trans HZ6.out HG10.out, HoleR.start _ _ _ _, HR7.out, HW7.out, HX7.out, Nat.le_trans HZ6.out HZ7.out⟩
   case round =>
    obtain ⟨w8, rfl⟩ : ∃ y : World, y = wr := ⟨_, rfl⟩
    obtain ⟨q, g, ty, xs, zs, n, tq, bq, F, hq, rfl, rfl, hft, htk, hb, ho, hnd, hgb, hR, hr, hw, hx, hz⟩ := hrel
    have hokq := (find_ok _ _ _ (right_okT HRT.out) hft).1
    obtain ⟨kd, b, kl⟩ := tq
    have hri := rise_of_ok hokq
    have hll : kl.length ≤ 1048576 := by have := hri.2; simp only [T.kids] at this; omega
    have HRI := Lib.hid (show RiseK kl from hri.1)
    obtain ⟨nm, hnm⟩ : ∃ nm, ns[q]? = some nm := ⟨_, List.getElem?_eq_getElem (by have := HM.out; omega)⟩
    obtain ⟨u, hpu⟩ : ∃ u, place kl nm = some u := by
     cases hp : place kl nm with
     | some u => exact ⟨u, rfl⟩
     | none => have := find_lost hft hnm hp; rw [HFD.out] at this; cases this
    have HNX := Lib.hid (find_next hft hnm hpu)
    have hoo := ho
    obtain ⟨hkk, hby, ks, cs, hks, hkl, hbs⟩ := hoo
    have HPU := Lib.hid hpu
    have HNM := Lib.hid hnm
    have HTK2 := Lib.hid htk
    have HB := Lib.hid hb
    have HO := Lib.hid ho
    have HND := Lib.hid hnd
    have HGB := Lib.hid hgb
    have HHR := Lib.hid hR
    have HR := Lib.hid hr
    have HW := Lib.hid hw
    have HXX := Lib.hid hx
    have HZ := Lib.hid hz
    have HKS := Lib.hid hks
    have HKL := Lib.hid hkl
    have HBY := Lib.hid hby
    have HKB := Lib.hid (And.intro hkk hbs)
    clear hft hpu hnm htk hb ho hnd hgb hR hr hw hx hz hks hkl hby hkk hbs hokq hri
    by_cases hlt : q < m
    ·have hlq : decide ((q : Int) < (m : Int)) = true := decide_eq_true (by omega)
     obtain ⟨p, hadr, hld⟩ := strs_at (HTK.out _ HW.out) q nm (by rw [List.getElem?_take_of_lt hlt]; exact HNM.out)
     have HLD := Lib.hid hld
     clear hld
     go_wp2_with (first | (with_reducible refine wpList_loadL HLD.out rfl _ rfl rfl ?_) | (with_reducible refine wpList_loadL (ndl_mid HB.out).all rfl _ rfl rfl ?_))
     refine (find_any n kl ks hll HRI.out nm w8 HKS.out.slice (OwnL.reads _ _ _ HKL.out).nms).mono ?_
     rintro e w9 ⟨k, bb, rfl, hsr, hbb, hx⟩
     obtain ⟨z, hzk, hzn⟩ : ∃ z, kl[k]? = some z ∧ z.1 = nm := by
      cases bb with
      | true => exact hbb.1 rfl
      | false =>
       have hp : place kl nm = none := SrK.lost HRI.out hsr (fun z hz e => by have := hbb.2 ⟨z, hz, e⟩; cases this)
       have h2 := HPU.out
       rw [hp] at h2; cases h2
     obtain ⟨za, zu⟩ := z
     obtain rfl : za = nm := hzn
     obtain rfl : zu = u := by
      have h1 := SrK.found HRI.out hzk rfl
      have h2 := HPU.out
      rw [h1] at h2; exact Option.some.inj h2
     obtain ⟨gk, cap, mm, xk, zk, y, b2, hv, hkm, hgk, hbk, hxk, hot, hn2, hR2⟩ := hole_step (HHR.out.below hx) (HB.out.below hx) (OwnT.below hx HO.out) HND.out hzk
     have hkx := kidX_at gk mm cap k hkm
     have HB9 := Lib.hid (HB.out.below hx)
     have HKD := Lib.hid (show LoadsL Tryd.prog w9 24 (some (Addr.add ⟨g, xs.size, none⟩ 2)) (.slice (some ⟨gk, 0, none⟩) mm cap) by have h := (ndl_mid HB9.out).kids; rw [hv] at h; exact h)
     have HXK := Lib.hid hxk
     have HNW := Lib.hid (And.intro hgk (And.intro hbk (And.intro hot (And.intro hn2 hR2))))
     have HR9 := Lib.hid (HR.out.below hx)
     have HW9 := Lib.hid (SliceOf.below HW.out hx)
     have HX9 := Lib.hid (belowThen HXX.out (Nat.le_refl _) hx)
     have HZ9 := Lib.hid (Nat.le_trans HZ.out hx.size)
     have HEQ := Lib.hid (show take t ns = F (.mk kd b (kl.set k (za, take zu (ns.drop (q + 1))))) by
      rw [HTK2.out]
      congr 1
      obtain ⟨m1, m2, hm12⟩ : ∃ m1 m2, ns.drop (q + 1) = m1 :: m2 := by
       cases h : ns.drop (q + 1) with
       | nil => have h1 := congrArg List.length h; have h2 := HM.out; simp only [List.length_drop, List.length_nil] at h1; omega
       | cons m1 m2 => exact ⟨m1, m2, rfl⟩
      have hdr : ns.drop q = za :: ns.drop (q + 1) := by
       obtain ⟨h1, h2⟩ := List.getElem?_eq_some_iff.1 HNM.out
       rw [List.drop_eq_getElem_cons h1, h2]
      rw [hdr, hm12]
      simp only [take, T.kind, T.bytes, T.kids]
      rw [turnK_set kl k za zu _ HRI.out hzk])
     clear hsr hbb hx hadr hzk hv hkm hgk hbk hxk hot hn2 hR2
     go_wp2_with (first | (with_reducible refine wpList_loadL HKD.out rfl _ rfl rfl ?_))
     go_roundw
     case rel =>
      refine ⟨q + 1, gk, 51, xk, zk, y, zu, b2, _, by omega, by go_num, ?_, HNX.out, HEQ.out, HNW.out.2.1, HNW.out.2.2.1, HNW.out.2.2.2.1, HNW.out.1, HNW.out.2.2.2.2, HR9.out, HW9.out, HX9.out, HZ9.out⟩
      rw [HXK.out]
     case measure => simp [intOf]; omega
    ·obtain rfl : q = m := by omega
     have hlq : decide ((q : Int) < (q : Int)) = false := by simp
     obtain ⟨p, hadr, hld⟩ := strs_at HW.out q nm HNM.out
     have HLD := Lib.hid hld
     have HLW := Lib.hid (show w8.heap.size = w8.heap.size from rfl)
     clear hld
     go_wp2_with fail
     try simp only [List.append_eq, List.cons_append, List.nil_append]
     try simp only [Act.put, List.setIfInBounds_toArray, List.set_cons_succ, List.set_cons_zero]
     refine Agg.wp_region_mid 9 10 (fun w' => ∃ x : Later w8, w' = x.w) (by kernel_rfl) (by kernel_rfl) ⟨⟨_, (Below.refl _ _).drew⟩, rfl⟩ ?_
     simp only [List.take_succ_cons, List.take_zero, List.drop_succ_cons, List.drop_zero]
     repeat (first | go_big_quiet_skip | ((first | (with_reducible refine wpQuiet_loadL (ndl_mid HB.out).all rfl _ rfl rfl ?_) | (with_reducible refine wpQuiet_loadL HLD.out rfl _ rfl rfl ?_)); simp only [Act.put, List.setIfInBounds_toArray, List.set_cons_succ, List.set_cons_zero]) | go_big_quiet_step (fail))
     refine wpQuiet_nil ?_
     intro _ hw'
     obtain ⟨x1, rfl⟩ := hw'
     go_wp2_with fail
     refine (find_any n kl ks hll HRI.out nm x1.w (SliceOf.below HKS.out.slice x1.h) (OwnL.reads _ _ _ HKL.out).nms).mono ?_
     rintro e w9 ⟨k, bb, rfl, hsr, hbb, hx⟩
     obtain ⟨z, hzk, hzn⟩ : ∃ z, kl[k]? = some z ∧ z.1 = nm := by
      cases bb with
      | true => exact hbb.1 rfl
      | false =>
       have hp : place kl nm = none := SrK.lost HRI.out hsr (fun z hz e => by have := hbb.2 ⟨z, hz, e⟩; cases this)
       have h2 := HPU.out
       rw [hp] at h2; cases h2
     obtain ⟨za, zu⟩ := z
     obtain rfl : za = nm := hzn
     have hx9 := belowThen x1.h (Nat.le_refl _) hx
     have hlen := (OwnL.reads _ _ _ HKL.out).len
     have hkl := (List.getElem?_eq_some_iff.1 hzk).1
     have hkb : k ≤ 1048576 := by omega
     have hkk : k < ks.length := by omega
     obtain ⟨gk, cap, _, _, hv, _, hgk, _⟩ := own_kid (HKS.out.below hx9) (List.getElem?_eq_getElem hkk)
     have HV := Lib.hid hv
     have hvg : ownB n.2.2.1 = [gk] := by rw [hv]; rfl
     have HVG := Lib.hid (And.intro hvg hgk)
     have HB9 := Lib.hid (HB.out.below hx9)
     have HKD := Lib.hid (show LoadsL Tryd.prog w9 24 (some (Addr.add ⟨g, xs.size, none⟩ 2)) (.slice (some ⟨gk, 0, none⟩) ks.length cap) by have h := (ndl_mid HB9.out).kids; rw [hv] at h; exact h)
     have HDEL := Lib.hid (deleteK_any gk cap k ks (by omega) w5.heap.size w9 (by rw [← hv]; exact HKS.out.below hx9) hkk)
     have HR9 := Lib.hid (HR.out.below hx9)
     have HX9 := Lib.hid (belowThen HXX.out (Nat.le_refl _) hx9)
     have HR2 := Lib.hid (HHR.out.below hx9)
     have HY9 := Lib.hid (HBY.out.below hx9)
     have HL9 := Lib.hid (OwnL.below hx9 HKL.out)
     have HZ9 := Lib.hid (Nat.le_trans HZ.out hx9.size)
     have HLT := Lib.hid hkl
     have HEQ := Lib.hid (show take t ns = F (.mk kd b (kl.take k ++ kl.drop (k + 1))) by
      rw [HTK2.out]
      congr 1
      have hdr : ns.drop q = [za] := by
       obtain ⟨h1, h2⟩ := List.getElem?_eq_some_iff.1 HNM.out
       rw [List.drop_eq_getElem_cons h1, h2, List.drop_eq_nil_of_le (by have := HM.out; omega)]
      rw [hdr]
      simp only [take, T.kind, T.bytes, T.kids]
      rw [takeK_at kl k za zu HRI.out hzk])
     clear hsr hbb hx hadr hzk hv hgk hx9 hlen hkl hvg
     go_wp2_with fail
     refine ⟨fun w' => w' = w9, rfl, ?_⟩
     repeat (first | go_big_quiet_skip | go_big_quiet_step (fail))
     refine wpQuiet_nil ?_
     intro wq hwq
     rw [show wq = w9 from hwq]
     clear hwq wq
     go_wp2_with (first | (with_reducible refine wpList_loadL HKD.out rfl _ rfl rfl ?_))
     refine HDEL.out.mono ?_
     rintro e w10 ⟨rfl, hown, hon⟩
     have HOW := Lib.hid hown
     have HON := Lib.hid hon
     have HB10 := Lib.hid (show Blk w10 g ty (xs ++ (ndC n ++ zs)) from Agg.Blk.keepO HB9.out hon (fun e => by
      have h := HND.out
      rw [HKB.out.2, HVG.out.1, e] at h
      exact (List.nodup_cons.1 h).1 (by simp)))
     have HR10 := Lib.hid (show Blk w10 g4 26 (ndC ndZ) from Agg.Blk.keepO HR9.out hon (fun e => by have := HVG.out.2; have := HG45.out; omega))
     clear hown hon
     have HX5Z := Lib.hid HX5.out.size
     have HX10 := Lib.hid (HX9.out.trans (HON.out.below (B := w.heap.size) HX9.out.size (fun i hi => by subst hi; exact Nat.le_trans HX5Z.out HVG.out.2)))
     have HFIN := Lib.hid (show ∀ W2, Only (· = g) w10 W2 → Blk W2 g ty (xs ++ (ndC (n.1, n.2.1, (⟨.slice (some ⟨gk, 0, none⟩) (ks.length - 1) cap, _, _, _, rfl⟩ : SV)) ++ zs)) → ∃ n'', Blk W2 g10 26 (ndC n'') ∧ OwnN w5.heap.size W2 n'' (take t ns) from fun W2 ho hb => by
      rw [HEQ.out]
      exact hole_take HR2.out HB9.out HKB.out.1 HY9.out HL9.out HKB.out.2 HND.out (by rw [HVG.out.1]; rfl) HLT.out (HON.out.mono (fun i _ h => by rw [HVG.out.1]; simp [h])) HOW.out ho hb)
     clear HB1 HB2 HB3 HR2 HR3
     go_wp2_with (first | (refine Agg.wpList_put1 rfl rfl 24 _ _ rfl g (xs.size + 2) (.slice (some ⟨gk, 0, none⟩) (ks.length - 1) cap) rfl rfl HB10.out (by simp only [Array.size_append, ndC_size]; omega) rfl rfl (by kernel_rfl) _ (mid_kids xs zs n ⟨.slice (some ⟨gk, 0, none⟩) (ks.length - 1) cap, _, _, _, rfl⟩) ?_; intro w11 hb ho hz; obtain ⟨nf, hbf, hnf⟩ := HFIN.out w11 ho hb; have HBF := Lib.hid hbf; have HNF := Lib.hid hnf; have HR11 := Lib.hid (show Blk w11 g4 26 (ndC ndZ) from Agg.Blk.keepO HR10.out ho (fun e => by have := HGB.out; have := HG45.out; omega)); have HX11 := Lib.hid (HX10.out.trans (ho.below (B := w.heap.size) HX10.out.size (fun i hi => by subst hi; exact Nat.le_trans HX5Z.out HGB.out))); clear hb ho hz hbf hnf) | (with_reducible refine wpList_loadL (NdL.of_blk HBF.out).all rfl _ rfl rfl ?_) | (refine Agg.wpList_put rfl rfl 26 _ _ rfl g4 (ndC nf) (ndC ndZ) rfl rfl HR11.out (nd_info _) rfl (ndC_one _) ?_; intro wf hb hx hs9 hk; have ho9 := Only.of_eq (S := (· = g4)) hx hs9 hk rfl; have HF := Lib.hid hb; have HOF := Lib.hid (OwnN.lower (OwnN.otherB HNF.out ho9 (fun j hj e => by have := HG45.out; omega)) HX5Z.out); have HXF := Lib.hid (HX11.out.trans (ho9.below (B := w.heap.size) HX11.out.size (fun i hi => by subst hi; exact HG4.out))); clear hb hx hs9 hk ho9))
     exact post_row_tmp rfl rfl rfl HF.out nd_under rfl (nd_info _) rfl ⟨nf, by rw [HE.out.1]; rfl, by rw [HE.out.2]; exact HOF.out, HXF.out⟩
end Go.Proofs.YtfiadgdinhmgbaaDoor
