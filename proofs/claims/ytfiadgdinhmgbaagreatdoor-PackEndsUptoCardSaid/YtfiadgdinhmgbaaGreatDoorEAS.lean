/- tree.Find; pack.At. -/
import Derived.Test.YtfiadgdinhmgbaaGreatDoorEAR
import Derived.Test.YtfiadgdinhmgbaaGreatDoorEAO
namespace Go.Tr
theorem find_cons {k : Int} {b : List UInt8} {l : List K} {n : List UInt8} {ns : N} : find (.mk k b l) (n :: ns) = (place l n).bind fun x => find x ns := by
 simp only [find, T.kids]
 cases place l n <;> rfl
theorem find_lost {t tq : T} {ns : N} {q : Nat} {nm : List UInt8} (h : find t (ns.take q) = some tq) (hq : ns[q]? = some nm) (hp : place tq.kids nm = none) : find t ns = none := by
 obtain ⟨hlt, he⟩ := List.getElem?_eq_some_iff.1 hq
 have e : ns = ns.take q ++ (nm :: ns.drop (q + 1)) := by
  have := List.take_append_drop q ns
  rw [List.drop_eq_getElem_cons hlt, he] at this
  exact this.symm
 rw [e, find_append, h]
 obtain ⟨k, b, l⟩ := tq
 have hp : place l nm = none := hp
 simp [find_cons, hp]
theorem find_next {t tq x : T} {ns : N} {q : Nat} {nm : List UInt8} (h : find t (ns.take q) = some tq) (hq : ns[q]? = some nm) (hp : place tq.kids nm = some x) : find t (ns.take (q + 1)) = some x := by
 rw [List.take_add_one, hq, find_append, h]
 obtain ⟨k, b, l⟩ := tq
 have hp : place l nm = some x := hp
 simp [find, T.kids, hp]
theorem rise_of_ok {t : T} (h : ok t = true) : (t.kids.Pairwise fun x y => Op.bytesLess x.1 y.1 = true) ∧ t.kids.length ≤ 200 := by
 obtain ⟨k, b, l⟩ := t
 have ha : alone (.mk k b l) = true := by simp only [ok, Bool.and_eq_true] at h; exact h.1
 rcases alone_cases ha with ⟨_, _, h200, hn⟩ | ⟨_, _, _, _, rfl⟩
 ·exact ⟨named_pair l none hn, h200⟩
 ·exact ⟨List.Pairwise.nil, by simp [T.kids]⟩
def atE (b s : List UInt8) : Nat := if opE b = 0 then fdE (opT b) s else opE b
def atB (b s : List UInt8) : List UInt8 := if atE b s = 0 then packB (fdT (opT b) s) else []
end Go.Tr
namespace Go.Proofs.YtfiadgdinhmgbaaGreatDoor
open Go.RowKit Pl Go.Agg Go.Tr
theorem strs_len {w : World} {v : Value} {l : List (List UInt8)} (h : SliceOf ES w v l) (W : World) : (Builtin.len_ #[100] 3 #[v]).run Tryz.prog W = .ok (.int .i64 (l.length : Int)) W := h.len W
theorem strs_at {w : World} {v : Value} {l : List (List UInt8)} (h : SliceOf ES w v l) (k : Nat) (x : List UInt8) (hx : l[k]? = some x) :
  ∃ p : Addr, (∀ W, (Instr.indexAt 100 v (.int .i64 (k : Int))).run Tryz.prog W = .ok (.pointer (some p)) W) ∧ LoadsL Tryz.prog w 9 (some p) (.string ⟨x.toArray⟩) := by
 obtain ⟨p, h1, _, _, h4⟩ := h.at_ k x hx
 exact ⟨p, h1, h4⟩
set_option maxRecDepth 100000 in
set_option maxHeartbeats 16000000 in
theorem tfind_any (t : T) (s : List UInt8) (hs : s.length ≤ 1048576) (vn : Value) (w : World) (hv : NodeAt w vn t) :
  Calls Tryz.prog 35 #[vn, .string ⟨s.toArray⟩] w fun e w' => ∃ x', e = .returned (.tuple #[.agg (ndC x'), .int .i64 (fdE t s : Int)]) ∧ OwnN w.heap.size w' x' (fdT t s) ∧ Below w.heap.size w w' := by
 obtain ⟨x, rfl, hx⟩ := hv
 have HX := Lib.hid hx
 clear hx
 go_enter Tryz.func35, Tryz.ntmps35
 go_wp2_with (first | (refine wpList_box rfl 26 _ rfl (ndC x) rfl ?_; intro g2 w1 hb hx hg; have HB1 := Lib.hid hb; have HX1 := Lib.hid hx; have HG2 := Lib.hid (show w.heap.size ≤ g2 from hg); clear hb hx hg) | (refine Agg.wpList_zero rfl 26 rfl (ndC ndZ) nd_zero ?_; intro g4 w2 hb hx hg; have HR2 := Lib.hid hb; have HB2 := Lib.hid (HB1.out.below hx); have HX2 := Lib.hid (belowThen HX1.out (Nat.le_refl _) hx); have HG4 := Lib.hid (show w.heap.size ≤ g4 ∧ g2 ≠ g4 from ⟨Nat.le_trans HX1.out.size hg, fun e => (by have := HB1.out.lt; omega)⟩); clear hb hx hg) | (with_reducible refine wpList_loadL (NdL.of_blk HB2.out).all rfl _ rfl rfl ?_))
 refine (tright_any (.agg (ndC x)) t w2 ⟨x, rfl, HX.out.below HX2.out⟩).mono ?_
 rintro e w3 ⟨rfl, hx⟩
 have HB3 := Lib.hid (HB2.out.below hx)
 have HR3 := Lib.hid (HR2.out.below hx)
 have HX3 := Lib.hid (belowThen HX2.out (Nat.le_refl _) hx)
 clear hx
 cases hr : right t with
 | false =>
  have HE := Lib.hid (show fdE t s = 2 ∧ fdT t s = zT by
   have e : fdE t s = 2 := by simp [fdE, hr]
   exact ⟨e, by simp [fdT, e, zTree, zT]⟩)
  clear hr
  go_wp2_with (first | (with_reducible refine wpList_loadL (NdL.of_blk HR3.out).all rfl _ rfl rfl ?_) | (refine Agg.wpList_put rfl rfl 26 _ _ rfl g4 (ndC ndZ) (ndC ndZ) rfl rfl HR3.out (nd_info _) rfl (ndC_one _) ?_; intro wf hb hx hs9 hk; have ho9 := Only.of_eq (S := (· = g4)) hx hs9 hk rfl; have HF := Lib.hid hb; have HXF := Lib.hid (HX3.out.trans (ho9.below (B := w.heap.size) HX3.out.size (fun i hi => by subst hi; exact HG4.out.1))); clear hb hx hs9 hk ho9))
  exact post_row_tmp rfl rfl rfl HF.out nd_under rfl (nd_info _) rfl ⟨ndZ, by rw [HE.out.1]; rfl, by rw [HE.out.2]; exact ownN_zero _ _, HXF.out⟩
 | true =>
  have HRT := Lib.hid hr
  clear hr
  go_wp2_with fail
  refine (way_any s hs w3).mono ?_
  rintro e w4 ⟨vw, rfl, how, hx⟩
  have HW4 := Lib.hid how
  have HB4 := Lib.hid (HB3.out.below hx)
  have HR4 := Lib.hid (HR3.out.below hx)
  have HX4 := Lib.hid (belowThen HX3.out (Nat.le_refl _) hx)
  clear how hx
  cases hwn : wayN s with
  | none =>
   have hwe : wyE s = 4 := by simp [wyE, hwn]
   have HWE := Lib.hid hwe
   have HE := Lib.hid (show fdE t s = 4 ∧ fdT t s = zT by
    have e : fdE t s = 4 := by simp [fdE, HRT.out, hwn]
    exact ⟨e, by simp [fdT, e, zTree, zT]⟩)
   rw [hwe]
   clear hwn hwe
   go_wp2_with (first | (with_reducible refine wpList_loadL (NdL.of_blk HR4.out).all rfl _ rfl rfl ?_) | (refine Agg.wpList_put rfl rfl 26 _ _ rfl g4 (ndC ndZ) (ndC ndZ) rfl rfl HR4.out (nd_info _) rfl (ndC_one _) ?_; intro wf hb hx hs9 hk; have ho9 := Only.of_eq (S := (· = g4)) hx hs9 hk rfl; have HF := Lib.hid hb; have HXF := Lib.hid (HX4.out.trans (ho9.below (B := w.heap.size) HX4.out.size (fun i hi => by subst hi; exact HG4.out.1))); clear hb hx hs9 hk ho9))
   exact post_row_tmp rfl rfl rfl HF.out nd_under rfl (nd_info _) rfl ⟨ndZ, by rw [HE.out.1]; rfl, by rw [HE.out.2]; exact ownN_zero _ _, HXF.out⟩
  | some ns =>
   have hwe : wyE s = 0 := by simp [wyE, hwn]
   have hwl : wyL s = ns := by simp [wyL, hwn]
   rw [hwe]
   rw [hwl] at HW4
   have hnl : ns.length ≤ 1048577 := by
    have h1 := splitB_len s
    have h2 := hwn
    unfold wayN at h2
    split at h2
    ·obtain rfl := Option.some.inj h2; simp
    ·split at h2
     ·obtain rfl := Option.some.inj h2; omega
     ·cases h2
   have HWN := Lib.hid hwn
   have hlw := fun W => strs_len HW4.out.slice W
   clear hwe hwl hwn
   go_wp2_with fail
   go_loopw [26] (fun i wr => ∃ (q : Nat) (y : NdV) (tq : T), q ≤ ns.length ∧ i = .int .i64 (q : Int) ∧ find t (ns.take q) = some tq ∧ Blk wr g2 26 (ndC y) ∧ NodeV w y tq ∧ Blk wr g4 26 (ndC ndZ) ∧ Agg.Own ES w3.heap.size wr vw ns ∧ Below w.heap.size w wr) (fun i _ => ns.length - (intOf i).toNat)
   case atStart => exact ⟨0, x, t, by omega, rfl, rfl, HB4.out, HX.out, HR4.out, HW4.out, HX4.out⟩
   case round =>
    obtain ⟨w5, rfl⟩ : ∃ y : World, y = wr := ⟨_, rfl⟩
    obtain ⟨q, y, tq, hq, rfl, hft, hb, hy, hr, hsl, hx⟩ := hrel
    have HFT := Lib.hid hft
    have HB := Lib.hid hb
    have HY := Lib.hid hy
    have HR := Lib.hid hr
    have HS := Lib.hid hsl
    have HXX := Lib.hid hx
    have hokq := (find_ok _ _ _ (right_okT HRT.out) hft).1
    have HOK := Lib.hid hokq
    clear hft hb hy hr hsl hx hokq
    by_cases hlt : q < ns.length
    ·have hlq : decide ((q : Int) < (ns.length : Int)) = true := by simp; omega
     obtain ⟨nm, hnm⟩ : ∃ nm, ns[q]? = some nm := ⟨_, List.getElem?_eq_getElem hlt⟩
     obtain ⟨p, hadr, hld⟩ := strs_at HS.out.slice q nm hnm
     have HLD := Lib.hid hld
     have HNM := Lib.hid hnm
     clear hld hnm
     obtain ⟨k0, b0, l⟩ := tq
     obtain ⟨hyk, hyb, ks, hys, hyl⟩ := id HY.out
     have HYS := Lib.hid hys
     have HYL := Lib.hid hyl
     have hri := rise_of_ok HOK.out
     have hll : l.length ≤ 1048576 := by have := hri.2; simp only [T.kids] at this; omega
     have HRI := Lib.hid (show RiseK l from hri.1)
     clear hyk hyb hys hyl hri
     go_wp2_with (first | (with_reducible refine wpList_loadL HLD.out rfl _ rfl rfl ?_) | (with_reducible refine wpList_loadL (NdL.of_blk HB.out).all rfl _ rfl rfl ?_))
     refine (find_any y l ks hll HRI.out nm w5 (HYS.out.below HXX.out) HYL.out.nms).mono ?_
     rintro e w6 ⟨k, bb, rfl, hsr, hbb, hx⟩
     have HSR := Lib.hid hsr
     have HBB := Lib.hid hbb
     have HB6 := Lib.hid (HB.out.below hx)
     have HR6 := Lib.hid (HR.out.below hx)
     have HS6 := Lib.hid (HS.out.below hx)
     have HX6 := Lib.hid (belowThen HXX.out (Nat.le_refl _) hx)
     clear hsr hbb hx hadr
     cases bb with
     | false =>
      have HE := Lib.hid (show fdE t s = 5 ∧ fdT t s = zT by
       have hp : place l nm = none := SrK.lost HRI.out HSR.out (fun z hz e => by have := HBB.out.2 ⟨z, hz, e⟩; cases this)
       have e : fdE t s = 5 := fdE_none HRT.out HWN.out (find_lost HFT.out HNM.out hp)
       exact ⟨e, by simp [fdT, e, zTree, zT]⟩)
      go_wp2_with (first | (with_reducible refine wpList_loadL (NdL.of_blk HR6.out).all rfl _ rfl rfl ?_) | (refine Agg.wpList_put rfl rfl 26 _ _ rfl g4 (ndC ndZ) (ndC ndZ) rfl rfl HR6.out (nd_info _) rfl (ndC_one _) ?_; intro wf hb hx hs9 hk; have ho9 := Only.of_eq (S := (· = g4)) hx hs9 hk rfl; have HF := Lib.hid hb; have HXF := Lib.hid (HX6.out.trans (ho9.below (B := w.heap.size) HX6.out.size (fun i hi => by subst hi; exact HG4.out.1))); clear hb hx hs9 hk ho9))
      exact post_row_tmp rfl rfl rfl HF.out nd_under rfl (nd_info _) rfl ⟨ndZ, by rw [HE.out.1]; rfl, by rw [HE.out.2]; exact ownN_zero _ _, HXF.out⟩
     | true =>
      obtain ⟨z, hzk, hzn⟩ := HBB.out.1 rfl
      obtain ⟨u, huk, _, hun⟩ := HYL.out.at_ k z hzk
      obtain ⟨pk, hadk, hle⟩ := kid_at (HYS.out.below HX6.out) k u huk
      have HLN := Lib.hid hle.node.all
      have HFN := Lib.hid (find_next HFT.out HNM.out (show place l nm = some z.2 from SrK.found HRI.out hzk hzn))
      have HUN := Lib.hid hun
      clear hle huk hzk hun hzn
      go_wp2_with (first | (with_reducible refine wpList_loadL (NdL.of_blk HB6.out).kids rfl _ rfl rfl ?_) | (with_reducible refine wpList_loadL HLN.out rfl _ rfl rfl ?_) | (refine Agg.wpList_put rfl rfl 26 _ _ rfl g2 (ndC u.2) (ndC y) rfl rfl HB6.out (nd_info _) rfl (ndC_one _) ?_; intro w7 hb hx hs9 hk; have ho9 := Only.of_eq (S := (· = g2)) hx hs9 hk rfl; have HB7 := Lib.hid hb; have HR7 := Lib.hid (Agg.Blk.keepO HR6.out ho9 (fun e => HG4.out.2 e.symm)); have HS7 := Lib.hid (Own.onlyB HS6.out ho9 HB6.out (by decide)); have HX7 := Lib.hid (HX6.out.trans (ho9.below (B := w.heap.size) HX6.out.size (fun i hi => by subst hi; exact HG2.out))); clear hb hx hs9 hk ho9))
      go_roundw
      case rel => exact ⟨q + 1, u.2, z.2, by omega, by go_num, HFN.out, HB7.out, HUN.out, HR7.out, HS7.out, HX7.out⟩
      case measure => simp [intOf]; omega
    ·obtain rfl : q = ns.length := by omega
     have hlq : decide (((ns.length : Nat) : Int) < ((ns.length : Nat) : Int)) = false := by simp
     have hft := HFT.out
     rw [List.take_length] at hft
     have HE := Lib.hid (show fdE t s = 0 ∧ fdT t s = tq from fdE_of HRT.out HWN.out hft)
     clear hft
     go_wp2_with (first | (with_reducible refine wpList_loadL (NdL.of_blk HB.out).all rfl _ rfl rfl ?_))
     refine (own_any (count tq) tq (Nat.le_refl _) HOK.out (.agg (ndC y)) w5 ⟨y, rfl, HY.out.below HXX.out⟩).mono ?_
     rintro e w6 ⟨x', rfl, hon, hx⟩
     have HON := Lib.hid hon
     have HR6 := Lib.hid (HR.out.below hx)
     have HX6 := Lib.hid (belowThen HXX.out (Nat.le_refl _) hx)
     have HG45 := Lib.hid (show g4 < w5.heap.size from HR.out.lt)
     clear hon hx
     go_wp2_with (first | (refine Agg.wpList_put rfl rfl 26 _ _ rfl g4 (ndC x') (ndC ndZ) rfl rfl HR6.out (nd_info _) rfl (ndC_one _) ?_; intro wf hb hx hs9 hk; have ho9 := Only.of_eq (S := (· = g4)) hx hs9 hk rfl; have HF := Lib.hid hb; have HOF := Lib.hid (OwnN.lower (OwnN.otherB HON.out ho9 (fun j hj e => by have := HG45.out; omega)) HXX.out.size); have HXF := Lib.hid (HX6.out.trans (ho9.below (B := w.heap.size) HX6.out.size (fun i hi => by subst hi; exact HG4.out.1))); clear hb hx hs9 hk ho9))
     exact post_row_tmp rfl rfl rfl HF.out nd_under rfl (nd_info _) rfl ⟨x', by rw [HE.out.1]; rfl, by rw [HE.out.2]; exact HOF.out, HXF.out⟩
set_option maxRecDepth 100000 in
set_option maxHeartbeats 8000000 in
theorem at_any (v : Value) (b s : List UInt8) (hb : b.length ≤ 1048576) (hs : s.length ≤ 1048576) (w : World) (hv : BytesAt w v b) :
  Calls Tryz.prog 13 #[v, .string ⟨s.toArray⟩] w fun e w' => ∃ v', e = .returned (.tuple #[v', .int .i64 (atE b s : Int)]) ∧ Agg.Own EB w.heap.size w' v' (atB b s) ∧ Below w.heap.size w w' := by
 have HV := Lib.hid hv
 clear hv
 go_enter Tryz.func13, Tryz.ntmps13
 go_wp2_with fail
 refine (open_any v b w hb HV.out).mono ?_
 rintro e w1 ⟨x, rfl, hon, hx⟩
 have HON := Lib.hid hon.reads
 have HX1 := Lib.hid hx
 clear hon hx
 by_cases he : opE b = 0
 ·have HE0 := Lib.hid he
  have hn0 : ((opE b : Int) != 0) = false := by rw [he]; rfl
  obtain ⟨eo, heo⟩ : ∃ eo, opE b = eo := ⟨_, rfl⟩
  rw [heo] at hn0 ⊢
  have HEO := Lib.hid heo
  clear he heo
  go_wp2_with (first | (refine wpList_new rfl rfl rfl 26 6 12 rfl rfl rfl (by decide) (ndC ndZ) (ndC x) nd_zero rfl (nd_info _) (ndC_one _) rfl (by first | (simp; done) | simp [Act.put]) ?_; intro g6 w2 hb hx hg; have HB2 := Lib.hid hb; have HX2 := Lib.hid (belowThen HX1.out (Nat.le_refl _) hx); have HN2 := Lib.hid (NodeV.below hx _ _ HON.out); clear hb hx hg) | (with_reducible refine wpList_loadL (NdL.of_blk HB2.out).all rfl _ rfl rfl ?_))
  refine (tfind_any (opT b) s hs (.agg (ndC x)) w2 ⟨x, rfl, HN2.out⟩).mono ?_
  rintro e w3 ⟨y, rfl, hon, hx⟩
  have HOY := Lib.hid hon.reads
  have HX3 := Lib.hid (belowThen HX2.out (Nat.le_refl _) hx)
  have HAE := Lib.hid (show atE b s = fdE (opT b) s by rw [atE, if_pos HE0.out])
  clear hon hx
  by_cases hf : fdE (opT b) s = 0
  ·have hn1 : ((fdE (opT b) s : Int) != 0) = false := by rw [hf]; rfl
   obtain ⟨hrt, ws, hws, hfw⟩ := fdE_zero hf
   have hxr := find_right hrt hfw
   have hpl := right_pack hxr
   have HOK := Lib.hid (right_okT hxr)
   have HAB := Lib.hid (show atB b s = packB (fdT (opT b) s) by rw [atB, HAE.out, hf]; rfl)
   have HF0 := Lib.hid hf
   obtain ⟨fo, hfo⟩ : ∃ fo, fdE (opT b) s = fo := ⟨_, rfl⟩
   rw [hfo] at hn1 ⊢
   clear hfo hf hrt hws hfw hxr
   go_wp2_with (first | (refine wpList_new rfl rfl rfl 26 8 21 rfl rfl rfl (by decide) (ndC ndZ) (ndC y) nd_zero rfl (nd_info _) (ndC_one _) rfl (by first | (simp; done) | simp [Act.put]) ?_; intro g8 w4 hb hx hg; have HB4 := Lib.hid hb; have HX4 := Lib.hid (belowThen HX3.out (Nat.le_refl _) hx); have HN4 := Lib.hid (NodeV.below hx _ _ HOY.out); clear hb hx hg) | (with_reducible refine wpList_loadL (NdL.of_blk HB4.out).all rfl _ rfl rfl ?_))
   refine (packed_any (.agg (ndC y)) (fdT (opT b) s) w4 HOK.out (by omega) ⟨y, rfl, HN4.out⟩).mono ?_
   rintro e w5 ⟨v5, rfl, ho, hx⟩
   have HO5 := Lib.hid (ho.lower HX4.out.size)
   have HX5 := Lib.hid (belowThen HX4.out (Nat.le_refl _) hx)
   clear ho hx
   go_wp2_with fail
   go_ret2
   exact ⟨v5, by rw [HAE.out, HF0.out]; rfl, by rw [HAB.out]; exact HO5.out, HX5.out⟩
  ·have hn1 : ((fdE (opT b) s : Int) != 0) = true := by simp; omega
   have HAB := Lib.hid (show atB b s = [] by rw [atB, HAE.out, if_neg hf])
   obtain ⟨fo, hfo⟩ : ∃ fo, fdE (opT b) s = fo := ⟨_, rfl⟩
   have HFO := Lib.hid hfo
   rw [hfo] at hn1 ⊢
   clear hfo hf
   go_wp2_with (first | (refine wpList_new rfl rfl rfl 26 8 21 rfl rfl rfl (by decide) (ndC ndZ) (ndC y) nd_zero rfl (nd_info _) (ndC_one _) rfl (by first | (simp; done) | simp [Act.put]) ?_; intro g8 w4 hb hx hg; have HX4 := Lib.hid (belowThen HX3.out (Nat.le_refl _) hx); clear hb hx hg))
   go_ret2
   exact ⟨_, by rw [HAE.out, HFO.out]; rfl, by rw [HAB.out]; exact Agg.Own.nil _ _ _, HX4.out⟩
 ·have hn0 : ((opE b : Int) != 0) = true := by simp; omega
  have HAE := Lib.hid (show atE b s = opE b ∧ atB b s = [] by
   have e : atE b s = opE b := by rw [atE, if_neg he]
   exact ⟨e, by rw [atB, e, if_neg he]⟩)
  obtain ⟨eo, heo⟩ : ∃ eo, opE b = eo := ⟨_, rfl⟩
  have HEO := Lib.hid heo
  rw [heo] at hn0 ⊢
  clear he heo
  go_wp2_with (first | (refine wpList_new rfl rfl rfl 26 6 12 rfl rfl rfl (by decide) (ndC ndZ) (ndC x) nd_zero rfl (nd_info _) (ndC_one _) rfl (by first | (simp; done) | simp [Act.put]) ?_; intro g6 w2 hb hx hg; have HX2 := Lib.hid (belowThen HX1.out (Nat.le_refl _) hx); clear hb hx hg))
  go_ret2
  exact ⟨_, by rw [HAE.out.1, HEO.out]; rfl, by rw [HAE.out.2]; exact Agg.Own.nil _ _ _, HX2.out⟩
end Go.Proofs.YtfiadgdinhmgbaaGreatDoor
