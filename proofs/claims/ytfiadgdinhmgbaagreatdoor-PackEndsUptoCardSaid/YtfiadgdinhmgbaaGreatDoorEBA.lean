/- spenceref08.Find. -/
import Derived.Test.YtfiadgdinhmgbaaGreatDoorEAV
import Derived.Test.YtfiadgdinhmgbaaGreatDoorEAX
import Derived.Test.YtfiadgdinhmgbaaGreatDoorEAY
import Derived.Test.YtfiadgdinhmgbaaGreatDoorEAZ
import Derived.Test.YtfiadgdinhmgbaaGreatDoorEAS
namespace Go.Tr
theorem plI_at : ∀ (l : List K) (nm : List UInt8) (q0 : Nat), (∃ (q : Nat) (z : K), plI l nm q0 = ((q0 + q : Nat) : Int) ∧ l[q]? = some z ∧ z.1 = nm ∧ place l nm = some z.2) ∨ (plI l nm q0 = -1 ∧ place l nm = none)
 | [], _, _ => .inr ⟨rfl, rfl⟩
 | x :: l, nm, q0 => by
  by_cases h : x.1 = nm
  ·exact .inl ⟨0, x, by rw [plI, if_pos h]; rfl, rfl, h, by simp [place, h]⟩
  ·have e : place (x :: l) nm = place l nm := by simp [place, h]
   rw [plI, if_neg h, e]
   rcases plI_at l nm (q0 + 1) with ⟨q, z, h1, h2, h3, h4⟩ | h1
   ·exact .inl ⟨q + 1, z, by rw [h1]; congr 1; omega, by simpa using h2, h3, h4⟩
   ·exact .inr h1
theorem plI_is (l : List K) (nm : List UInt8) : PlaceIs l nm (plI l nm 0) := by
 rcases plI_at l nm 0 with ⟨q, z, h1, h2, h3, h4⟩ | h1
 ·exact .inl ⟨q, z, by rw [h1, Nat.zero_add], h2, h3, h4⟩
 ·exact .inr h1
end Go.Tr
namespace Go.Proofs.YtfiadgdinhmgbaaGreatDoor
open Go.RowKit Pl Go.Agg Go.Tr
set_option maxRecDepth 100000 in
set_option maxHeartbeats 16000000 in
theorem rfind_any (t : T) (hm : msz t ≤ 1048576) (s : List UInt8) (hs : s.length ≤ 1048576) (vn : Value) (w : World) (hv : NodeAt w vn t) :
  Calls Tryz.prog 37 #[vn, .string ⟨s.toArray⟩] w fun e w' => ∃ x', e = .returned (.tuple #[.agg (ndC x'), .int .i64 (fdE t s : Int)]) ∧ OwnN w.heap.size w' x' (fdT t s) ∧ Below w.heap.size w w' := by
 obtain ⟨x, rfl, hx⟩ := hv
 have HX := Lib.hid hx
 clear hx
 go_enter Tryz.func37, Tryz.ntmps37
 go_wp2_with (first | (refine wpList_box rfl 26 _ rfl (ndC x) rfl ?_; intro g2 w1 hb hx hg; have HB1 := Lib.hid hb; have HX1 := Lib.hid hx; have HG2 := Lib.hid (show w.heap.size ≤ g2 from hg); clear hb hx hg) | (refine Agg.wpList_zero rfl 26 rfl (ndC ndZ) nd_zero ?_; intro g4 w2 hb hx hg; have HR2 := Lib.hid hb; have HB2 := Lib.hid (HB1.out.below hx); have HX2 := Lib.hid (belowThen HX1.out (Nat.le_refl _) hx); have HG4 := Lib.hid (show w.heap.size ≤ g4 ∧ g2 ≠ g4 from ⟨Nat.le_trans HX1.out.size hg, fun e => (by have := HB1.out.lt; omega)⟩); clear hb hx hg) | (with_reducible refine wpList_loadL (NdL.of_blk HB2.out).all rfl _ rfl rfl ?_))
 refine (rright_any (.agg (ndC x)) t hm w2 ⟨x, rfl, HX.out.below HX2.out⟩).mono ?_
 rintro e w3 ⟨rfl, hx⟩
 have HB3 := Lib.hid (HB2.out.below hx)
 have HR3 := Lib.hid (HR2.out.below hx)
 have HX3 := Lib.hid (belowThen HX2.out (Nat.le_refl _) hx)
 clear hx
 cases hr : right t with
 | false =>
  have HE := Lib.hid (show fdE t s = 2 ∧ fdT t s = zT by
   have e : fdE t s = 2 := by simp [fdE, hr]
   exact ⟨e, by simp [fdT, e, zTree, zT]⟩)
  clear hr
  go_wp2_with (first | (with_reducible refine wpList_build0 26 rfl (by kernel_rfl) (.agg (ndC ndZ)) nd_build0 ?_) | (refine Agg.wpList_put rfl rfl 26 _ _ rfl g4 (ndC ndZ) (ndC ndZ) rfl rfl HR3.out (nd_info _) rfl (ndC_one _) ?_; intro wf hb hx hs9 hk; have ho9 := Only.of_eq (S := (· = g4)) hx hs9 hk rfl; have HF := Lib.hid hb; have HXF := Lib.hid (HX3.out.trans (ho9.below (B := w.heap.size) HX3.out.size (fun i hi => by subst hi; exact HG4.out.1))); clear hb hx hs9 hk ho9))
  exact post_row_tmp rfl rfl rfl HF.out nd_under rfl (nd_info _) rfl ⟨ndZ, by rw [HE.out.1]; rfl, by rw [HE.out.2]; exact ownN_zero _ _, HXF.out⟩
 | true =>
  have HRT := Lib.hid hr
  clear hr
  go_wp2_with fail
  refine (rway_any s hs w3).mono ?_
  rintro e w4 ⟨vw, rfl, how, hx⟩
  have HW4 := Lib.hid how
  have HB4 := Lib.hid (HB3.out.below hx)
  have HR4 := Lib.hid (HR3.out.below hx)
  have HX4 := Lib.hid (belowThen HX3.out (Nat.le_refl _) hx)
  clear how hx
  cases hwn : wayN s with
  | none =>
   have hwe : wyE s = 4 := by simp [wyE, hwn]
   have HWE := Lib.hid hwe
   have HE := Lib.hid (show fdE t s = 4 ∧ fdT t s = zT by
    have e : fdE t s = 4 := by simp [fdE, HRT.out, hwn]
    exact ⟨e, by simp [fdT, e, zTree, zT]⟩)
   rw [hwe]
   clear hwn hwe
   go_wp2_with (first | (with_reducible refine wpList_build0 26 rfl (by kernel_rfl) (.agg (ndC ndZ)) nd_build0 ?_) | (refine Agg.wpList_put rfl rfl 26 _ _ rfl g4 (ndC ndZ) (ndC ndZ) rfl rfl HR4.out (nd_info _) rfl (ndC_one _) ?_; intro wf hb hx hs9 hk; have ho9 := Only.of_eq (S := (· = g4)) hx hs9 hk rfl; have HF := Lib.hid hb; have HXF := Lib.hid (HX4.out.trans (ho9.below (B := w.heap.size) HX4.out.size (fun i hi => by subst hi; exact HG4.out.1))); clear hb hx hs9 hk ho9))
   exact post_row_tmp rfl rfl rfl HF.out nd_under rfl (nd_info _) rfl ⟨ndZ, by rw [HE.out.1]; rfl, by rw [HE.out.2]; exact ownN_zero _ _, HXF.out⟩
  | some ns =>
   have hwe : wyE s = 0 := by simp [wyE, hwn]
   have hwl : wyL s = ns := by simp [wyL, hwn]
   rw [hwe]
   rw [hwl] at HW4
   have hnl : ns.length ≤ 1048577 := by
    have h1 := splitB_len s
    have h2 := hwn
    unfold wayN at h2
    split at h2
    ·obtain rfl := Option.some.inj h2; simp
    ·split at h2
     ·obtain rfl := Option.some.inj h2; omega
     ·cases h2
   have HWN := Lib.hid hwn
   have hlw := fun W => strs_len HW4.out.slice W
   clear hwe hwl hwn
   go_wp2_with fail
   go_loopw [8] (fun i wr => ∃ (q : Nat) (y : NdV) (tq : T), q ≤ ns.length ∧ i = .int .i64 (q : Int) ∧ find t (ns.take q) = some tq ∧ Blk wr g2 26 (ndC y) ∧ NodeV w y tq ∧ Blk wr g4 26 (ndC ndZ) ∧ Agg.Own ES w3.heap.size wr vw ns ∧ Below w.heap.size w wr) (fun i _ => ns.length - (intOf i).toNat)
   case atStart => exact ⟨0, x, t, by omega, rfl, rfl, HB4.out, HX.out, HR4.out, HW4.out, HX4.out⟩
   case round =>
    obtain ⟨w5, rfl⟩ : ∃ y : World, y = wr := ⟨_, rfl⟩
    obtain ⟨q, y, tq, hq, rfl, hft, hb, hy, hr, hsl, hx⟩ := hrel
    have HFT := Lib.hid hft
    have HB := Lib.hid hb
    have HY := Lib.hid hy
    have HR := Lib.hid hr
    have HS := Lib.hid hsl
    have HXX := Lib.hid hx
    have hokq := (find_ok _ _ _ (right_okT HRT.out) hft).1
    have HOK := Lib.hid hokq
    clear hft hb hy hr hsl hx hokq
    by_cases hlt : q < ns.length
    ·have hlq : decide ((q : Int) < (ns.length : Int)) = true := by simp; omega
     obtain ⟨nm, hnm⟩ : ∃ nm, ns[q]? = some nm := ⟨_, List.getElem?_eq_getElem hlt⟩
     obtain ⟨p, hadr, hld⟩ := strs_at HS.out.slice q nm hnm
     have HLD := Lib.hid hld
     have HNM := Lib.hid hnm
     clear hld hnm
     obtain ⟨k0, b0, l⟩ := tq
     obtain ⟨hyk, hyb, ks, hys, hyl⟩ := id HY.out
     have HYS := Lib.hid hys
     have HYL := Lib.hid hyl
     have hri := rise_of_ok HOK.out
     have hll : l.length ≤ 1048576 := by have := hri.2; simp only [T.kids] at this; omega
     have HRI := Lib.hid (show RiseK l from hri.1)
     clear hyk hyb hys hyl hri
     have hri9 := hll
     obtain ⟨iv, hiv⟩ : ∃ iv, plI l nm 0 = iv := ⟨_, rfl⟩
     have HIS := Lib.hid (show PlaceIs l nm iv by rw [← hiv]; exact plI_is l nm)
     have HQ := Lib.hid (fun yy : Later w5 => (show Calls Tryz.prog 58 #[.agg (ndC y), .string ⟨nm.toArray⟩] yy.w fun e w' => e = .returned (.int .i64 iv) ∧ Below yy.w.heap.size yy.w w' from
      (rplace_any (.agg (ndC y)) (.mk k0 b0 l) nm hll yy.w ⟨y, rfl, NodeV.below (belowThen HXX.out (Nat.le_refl _) yy.h) _ _ HY.out⟩).mono fun e w' ⟨i, he, ⟨hi, _⟩, hx⟩ => ⟨by rw [he, hi, ← hiv]; rfl, hx⟩))
     clear hiv
     go_wp2_with fail
     try simp only [Act.put, List.setIfInBounds_toArray, List.set_cons_succ, List.set_cons_zero]
     refine wp_region_later_lit (by kernel_rfl) (by kernel_rfl) ?_
     repeat (first | go_big_quiet_skip | ((first | (with_reducible refine wpQuiet_loadL (NdL.of_blk HB.out).all rfl _ rfl rfl ?_) | (with_reducible refine wpQuiet_loadL HLD.out rfl _ rfl rfl ?_)); simp only [Act.put, List.setIfInBounds_toArray, List.set_cons_succ, List.set_cons_zero]) | go_big_quiet_step (first | (go_at_call 58; first | (with_reducible exact Calls.later (HQ.out _)))))
     refine wpQuiet_nil ?_
     intro _ hw'
     obtain ⟨x1, rfl⟩ := hw'
     obtain ⟨w6, hw6⟩ : ∃ W, W = x1.w := ⟨_, rfl⟩
     have hx : Below w5.heap.size w5 w6 := by rw [hw6]; exact x1.h
     rw [← hw6]
     have HB6 := Lib.hid (HB.out.below hx)
     have HR6 := Lib.hid (HR.out.below hx)
     have HS6 := Lib.hid (HS.out.below hx)
     have HX6 := Lib.hid (belowThen HXX.out (Nat.le_refl _) hx)
     clear hx hw6 hadr
     rcases HIS.out with ⟨k, z, rfl, hzk, hzn, hzp⟩ | ⟨rfl, hp9⟩
     case inr =>
      have HE := Lib.hid (show fdE t s = 5 ∧ fdT t s = zT by
       have hp : place l nm = none := hp9
       have e : fdE t s = 5 := fdE_none HRT.out HWN.out (find_lost HFT.out HNM.out hp)
       exact ⟨e, by simp [fdT, e, zTree, zT]⟩)
      go_wp2_with (first | (with_reducible refine wpList_build0 26 rfl (by kernel_rfl) (.agg (ndC ndZ)) nd_build0 ?_) | (refine Agg.wpList_put rfl rfl 26 _ _ rfl g4 (ndC ndZ) (ndC ndZ) rfl rfl HR6.out (nd_info _) rfl (ndC_one _) ?_; intro wf hb hx hs9 hk; have ho9 := Only.of_eq (S := (· = g4)) hx hs9 hk rfl; have HF := Lib.hid hb; have HXF := Lib.hid (HX6.out.trans (ho9.below (B := w.heap.size) HX6.out.size (fun i hi => by subst hi; exact HG4.out.1))); clear hb hx hs9 hk ho9))
      exact post_row_tmp rfl rfl rfl HF.out nd_under rfl (nd_info _) rfl ⟨ndZ, by rw [HE.out.1]; rfl, by rw [HE.out.2]; exact ownN_zero _ _, HXF.out⟩
     case inl =>
      have hik : decide ((k : Int) < 0) = false := by simp <;> omega
      obtain ⟨u, huk, _, hun⟩ := HYL.out.at_ k z hzk
      obtain ⟨pk, hadk, hle⟩ := kid_at (HYS.out.below HX6.out) k u huk
      have HLN := Lib.hid hle.node.all
      have HFN := Lib.hid (find_next HFT.out HNM.out hzp)
      have HUN := Lib.hid hun
      clear hle huk hzk hun hzn hzp
      go_wp2_with (first | (with_reducible refine wpList_loadL (NdL.of_blk HB6.out).kids rfl _ rfl rfl ?_) | (with_reducible refine wpList_loadL HLN.out rfl _ rfl rfl ?_) | (refine Agg.wpList_put rfl rfl 26 _ _ rfl g2 (ndC u.2) (ndC y) rfl rfl HB6.out (nd_info _) rfl (ndC_one _) ?_; intro w7 hb hx hs9 hk; have ho9 := Only.of_eq (S := (· = g2)) hx hs9 hk rfl; have HB7 := Lib.hid hb; have HR7 := Lib.hid (Agg.Blk.keepO HR6.out ho9 (fun e => HG4.out.2 e.symm)); have HS7 := Lib.hid (Own.onlyB HS6.out ho9 HB6.out (by decide)); have HX7 := Lib.hid (HX6.out.trans (ho9.below (B := w.heap.size) HX6.out.size (fun i hi => by subst hi; exact HG2.out))); clear hb hx hs9 hk ho9))
      go_roundw
      case rel => exact ⟨q + 1, u.2, z.2, by omega, by go_num, HFN.out, HB7.out, HUN.out, HR7.out, HS7.out, HX7.out⟩
      case measure => simp [intOf]; omega
    ·obtain rfl : q = ns.length := by omega
     have hlq : decide (((ns.length : Nat) : Int) < ((ns.length : Nat) : Int)) = false := by simp
     have hft := HFT.out
     rw [List.take_length] at hft
     have HE := Lib.hid (show fdE t s = 0 ∧ fdT t s = tq from fdE_of HRT.out HWN.out hft)
     clear hft
     go_wp2_with (first | (with_reducible refine wpList_loadL (NdL.of_blk HB.out).all rfl _ rfl rfl ?_))
     refine (rown_any (count tq) tq (Nat.le_refl _) HOK.out (.agg (ndC y)) w5 ⟨y, rfl, HY.out.below HXX.out⟩).mono ?_
     rintro e w6 ⟨x', rfl, hon, hx⟩
     have HON := Lib.hid hon
     have HR6 := Lib.hid (HR.out.below hx)
     have HX6 := Lib.hid (belowThen HXX.out (Nat.le_refl _) hx)
     have HG45 := Lib.hid (show g4 < w5.heap.size from HR.out.lt)
     clear hon hx
     go_wp2_with (first | (refine Agg.wpList_put rfl rfl 26 _ _ rfl g4 (ndC x') (ndC ndZ) rfl rfl HR6.out (nd_info _) rfl (ndC_one _) ?_; intro wf hb hx hs9 hk; have ho9 := Only.of_eq (S := (· = g4)) hx hs9 hk rfl; have HF := Lib.hid hb; have HOF := Lib.hid (OwnN.lower (OwnN.otherB HON.out ho9 (fun j hj e => by have := HG45.out; omega)) HXX.out.size); have HXF := Lib.hid (HX6.out.trans (ho9.below (B := w.heap.size) HX6.out.size (fun i hi => by subst hi; exact HG4.out.1))); clear hb hx hs9 hk ho9))
     exact post_row_tmp rfl rfl rfl HF.out nd_under rfl (nd_info _) rfl ⟨x', by rw [HE.out.1]; rfl, by rw [HE.out.2]; exact HOF.out, HXF.out⟩
end Go.Proofs.YtfiadgdinhmgbaaGreatDoor
