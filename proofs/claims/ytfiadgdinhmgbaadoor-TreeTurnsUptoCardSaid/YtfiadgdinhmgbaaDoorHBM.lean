/- spenceref08.taken: a tree without the node at names, by the document. -/
import Derived.Test.YtfiadgdinhmgbaaDoorHBL
import Derived.Test.YtfiadgdinhmgbaaDoorHAE
namespace Go.Tr
def tkF (a : List UInt8) (rest : N) (z : K) : List K := if z.1 = a then (if rest = [] then [] else [(z.1, takenR z.2 rest)]) else [z]
theorem takenR_flat (k : Int) (b : List UInt8) (l : List K) (a : List UInt8) (rest : N) : takenR (.mk k b l) (a :: rest) = .mk k [] (l.flatMap (tkF a rest)) := by
 cases rest with
 | nil =>
  simp only [takenR, T.kind, T.kids]
  congr 1
  induction l with
  | nil => rfl
  | cons z l ih =>
   by_cases h : z.1 = a <;> simp [tkF, h, ih]
 | cons m ns =>
  simp only [takenR, T.kind, T.kids]
  congr 1
  induction l with
  | nil => rfl
  | cons z l ih =>
   by_cases h : z.1 = a <;> simp [tkF, h, ih]
end Go.Tr
namespace Go.Proofs.YtfiadgdinhmgbaaDoor
open Go.RowKit Pl Go.Agg Go.Tr
mutual
def NewS (w0 : World) (S : Nat → Prop) (w : World) : NdV → T → Prop
 | x, .mk k b l => NodeV w0 x (.mk k b l) ∨ (x.1 = k ∧ b = [] ∧ x.2.1 = svN ∧ ∃ ks : List KdV, Agg.Own EK 0 w x.2.2.1 ks ∧ (∀ j ∈ ownB x.2.2.1, S j) ∧ NewSL w0 S w ks l)
def NewSL (w0 : World) (S : Nat → Prop) (w : World) : List KdV → List (List UInt8 × T) → Prop
 | [], [] => True
 | y :: ks, (n, t) :: l => y.1 = n ∧ NewS w0 S w y.2 t ∧ NewSL w0 S w ks l
 | _, _ => False
end
mutual
theorem NewS.keep {w0 : World} {S S' : Nat → Prop} {w w' : World} (hO : ∀ (v : Value) (ks : List KdV), Agg.Own EK 0 w v ks → (∀ j ∈ ownB v, S j) → Agg.Own EK 0 w' v ks ∧ ∀ j ∈ ownB v, S' j) : ∀ (t : T) (x : NdV), NewS w0 S w x t → NewS w0 S' w' x t
 | .mk _ _ l, _, h => h.elim .inl fun ⟨h1, h2, h3, ks, h4, h5, h6⟩ => .inr ⟨h1, h2, h3, ks, (hO _ _ h4 h5).1, (hO _ _ h4 h5).2, NewSL.keep hO l ks h6⟩
theorem NewSL.keep {w0 : World} {S S' : Nat → Prop} {w w' : World} (hO : ∀ (v : Value) (ks : List KdV), Agg.Own EK 0 w v ks → (∀ j ∈ ownB v, S j) → Agg.Own EK 0 w' v ks ∧ ∀ j ∈ ownB v, S' j) : ∀ (l : List (List UInt8 × T)) (ks : List KdV), NewSL w0 S w ks l → NewSL w0 S' w' ks l
 | [], [], _ => trivial
 | (_, t) :: l, y :: ks, h => ⟨h.1, NewS.keep hO t y.2 h.2.1, NewSL.keep hO l ks h.2.2⟩
 | [], _ :: _, h => h
 | (_, _) :: _, [], h => h
end
theorem own_raise {base : Nat} {w : World} {v : Value} {ks : List KdV} (h : Agg.Own EK 0 w v ks) (hb : ∀ j ∈ ownB v, base ≤ j) : Agg.Own EK base w v ks := by
 obtain ⟨h1, h2 | ⟨g, cap, cur, e1, _, e3⟩⟩ := h
 ·exact ⟨h1, .inl h2⟩
 ·exact ⟨h1, .inr ⟨g, cap, cur, e1, hb g (by rw [e1]; simp [ownB, Value.ownBlock]), e3⟩⟩
mutual
theorem NewV.toS {w0 : World} {base : Nat} {w : World} : ∀ (t : T) (x : NdV), NewV w0 base w x t → NewS w0 (fun j => base ≤ j ∧ j < w.heap.size) w x t
 | .mk _ _ l, _, h => h.elim .inl fun ⟨h1, h2, h3, ks, h4, h5⟩ => .inr ⟨h1, h2, h3, ks, h4.lower (Nat.zero_le _), own_range h4, NewL.toS l ks h5⟩
theorem NewL.toS {w0 : World} {base : Nat} {w : World} : ∀ (l : List (List UInt8 × T)) (ks : List KdV), NewL w0 base w ks l → NewSL w0 (fun j => base ≤ j ∧ j < w.heap.size) w ks l
 | [], [], _ => trivial
 | (_, t) :: l, y :: ks, h => ⟨h.1, NewV.toS t y.2 h.2.1, NewL.toS l ks h.2.2⟩
 | [], _ :: _, h => h
 | (_, _) :: _, [], h => h
end
mutual
theorem NewS.toV {w0 : World} {S : Nat → Prop} {base : Nat} {w : World} (hS : ∀ j, S j → base ≤ j) : ∀ (t : T) (x : NdV), NewS w0 S w x t → NewV w0 base w x t
 | .mk _ _ l, _, h => h.elim .inl fun ⟨h1, h2, h3, ks, h4, h5, h6⟩ => .inr ⟨h1, h2, h3, ks, own_raise h4 (fun j hj => hS j (h5 j hj)), NewSL.toL hS l ks h6⟩
theorem NewSL.toL {w0 : World} {S : Nat → Prop} {base : Nat} {w : World} (hS : ∀ j, S j → base ≤ j) : ∀ (l : List (List UInt8 × T)) (ks : List KdV), NewSL w0 S w ks l → NewL w0 base w ks l
 | [], [], _ => trivial
 | (_, t) :: l, y :: ks, h => ⟨h.1, NewS.toV hS t y.2 h.2.1, NewSL.toL hS l ks h.2.2⟩
 | [], _ :: _, h => h
 | (_, _) :: _, [], h => h
end
theorem NewS.old {w0 : World} {S : Nat → Prop} {w : World} {x : NdV} {t : T} (h : NodeV w0 x t) : NewS w0 S w x t := by
 obtain ⟨k, b, l⟩ := t
 exact .inl h
def AllN (w0 : World) (S : Nat → Prop) (w : World) (kk : List KdV) (l : List K) : Prop := All2 (fun y z => y.1 = z.1 ∧ NewS w0 S w y.2 z.2) kk l
theorem AllN.keep {w0 : World} {S S' : Nat → Prop} {w w' : World} (hO : ∀ (v : Value) (ks : List KdV), Agg.Own EK 0 w v ks → (∀ j ∈ ownB v, S j) → Agg.Own EK 0 w' v ks ∧ ∀ j ∈ ownB v, S' j) {kk : List KdV} {l : List K} (h : AllN w0 S w kk l) : AllN w0 S' w' kk l :=
 h.mono fun _ _ h => ⟨h.1, NewS.keep hO _ _ h.2⟩
theorem AllN.below {w0 : World} {S : Nat → Prop} {w w' : World} {kk : List KdV} {l : List K} (h : AllN w0 S w kk l) (hx : Below w.heap.size w w') : AllN w0 S w' kk l := AllN.keep (fun _ _ h1 h2 => ⟨h1.below hx, h2⟩) h
theorem AllN.onlyN {w0 : World} {S : Nat → Prop} {w w' : World} {g : Nat} {cs : Array Value} {kk : List KdV} {l : List K} (h : AllN w0 S w kk l) (ho : Only (· = g) w w') (hb : Blk w g 26 cs) : AllN w0 S w' kk l :=
 AllN.keep (fun _ _ h1 h2 => ⟨Own.onlyB h1 ho hb (by decide), h2⟩) h
theorem AllN.pushed {w0 : World} {S : Nat → Prop} {B : Nat} {w w' : World} {v : Value} {kk : List KdV} {l : List K} (h : AllN w0 S w kk l) (hv : ∀ j ∈ ownB v, ¬ S j) (hp : Pushed EK B w w' v) : AllN w0 S w' kk l :=
 AllN.keep (fun u ks h1 h2 => ⟨by
  obtain ⟨h3, h4 | ⟨g, cap, cur, e1, e2, e3, e4⟩⟩ := h1
  ·exact ⟨h3, .inl h4⟩
  ·have hg : g ∈ ownB u := by rw [e1]; simp [ownB, Value.ownBlock]
   exact ⟨h3, .inr ⟨g, cap, cur, e1, e2, (hp.other g (heap_lt e3) (fun e => hv g (mem_ownB.2 e.symm) (h2 g hg))).trans e3, e4⟩⟩, h2⟩) h
set_option maxRecDepth 100000 in
set_option maxHeartbeats 64000000 in
theorem rtaken_any : ∀ (ns : N) (_ : ns ≠ []) (t : T) (_ : ok t = true) (x : NdV) (vl : Value) (w0 w : World) (_ : NodeV w0 x t) (_ : SliceOf ES w vl ns) (_ : ∀ p m c, vl = .slice p m c → m ≤ c) (_ : Below w0.heap.size w0 w),
  Calls Tryd.prog 43 #[.agg (ndC x), vl] w fun e w' => ∃ x', e = .returned (.agg (ndC x')) ∧ NewV w0 w.heap.size w' x' (takenR t ns) ∧ Below w.heap.size w w' := by
 intro ns
 induction ns with
 | nil => intro h; exact absurd rfl h
 | cons a rest ih =>
  intro _
  intro t hok x vl w0 w hx hl hcap hz
  obtain ⟨vr, hvrun, _, _, hvc, hvs⟩ := names_rest hl hcap
  have HVC := Lib.hid hvc
  have HVS := Lib.hid hvs
  have HVR := Lib.hid hvrun
  obtain ⟨pa, hadr0, _⟩ := strs_at hl 0 a rfl
  have hadr1 : ∀ W, (Instr.indexAt 37 vl (.int .i64 0)).run Tryd.prog W = .ok (.pointer (some pa)) W := hadr0
  have HADR := Lib.hid hadr1
  have hlv : ∀ W, (Builtin.len_ #[37] 3 #[vl]).run Tryd.prog W = .ok (.int .i64 ((rest.length : Int) + 1)) W := fun W => by
   have h := strs_len hl W
   rwa [show (((a :: rest).length : Nat) : Int) = (rest.length : Int) + 1 by simp] at h
  obtain ⟨kd, b, l⟩ := t
  obtain ⟨xk, xb, xs⟩ := x
  obtain ⟨hk, hby, ks, hsl, hkv⟩ := hx
  obtain rfl : xk = kd := hk
  have hkl := hkv.len
  have hll : l.length ≤ 200 := by have := (rise_of_ok hok).2; simpa only [T.kids] using this
  have hlk := fun W => kds_len hsl W
  rw [hkl] at hlk
  have HOK := Lib.hid (kids_ok hok)
  have HKV := Lib.hid hkv
  have HSL := Lib.hid hsl
  have HIH := Lib.hid ih
  have HWL := Lib.hid hl
  have HZW := Lib.hid hz.size
  have HZ := Lib.hid hz
  clear hvc hvs hadr0 hby hsl hkv hok ih hcap hl hz
  go_enter Tryd.func43, Tryd.ntmps43
  go_wp2_with (first | (refine wpList_box rfl 26 _ rfl (ndC (xk, xb, xs)) rfl ?_; intro g2 w1 hb hx hg; have HB1 := Lib.hid hb; have HX1 := Lib.hid hx; clear hb hx hg) | (refine Agg.wpList_zero rfl 26 rfl (ndC ndZ) nd_zero ?_; intro g4 w3 hb hx hg; have HB3 := Lib.hid (HB1.out.below hx); have HR3 := Lib.hid hb; have HG4 := Lib.hid (show w.heap.size ≤ g4 from Nat.le_trans HX1.out.size hg); have HX3 := Lib.hid (belowThen HX1.out (Nat.le_refl _) hx); clear hb hx hg) | (with_reducible refine wpList_loadL (NdL.of_blk HB3.out).kind rfl _ rfl rfl ?_) | (with_reducible refine wpList_build1 26 0 _ rfl rfl (.int .i64 xk) rfl (.agg (ndC (xk, svN, svN))) (nd_buildW _) ?_) | (refine wpList_new rfl rfl rfl 26 5 10 rfl rfl rfl (by decide) (ndC ndZ) (ndC (xk, svN, svN)) nd_zero rfl (nd_info _) (ndC_one _) rfl (by first | (simp; done) | simp [Act.put]) ?_; intro g5 w4 hb hx hg; have HN4 := Lib.hid hb; have HB4 := Lib.hid (HB3.out.below hx); have HR4 := Lib.hid (HR3.out.below hx); have HG5 := Lib.hid (show w.heap.size ≤ g5 ∧ g2 ≠ g5 ∧ g4 ≠ g5 from ⟨Nat.le_trans HX3.out.size hg, fun e => (by have := HB3.out.lt; omega), fun e => (by have := HR3.out.lt; omega)⟩); have HX4 := Lib.hid (belowThen HX3.out (Nat.le_refl _) hx); clear hb hx hg))
  go_loopw [6] (fun i wr => ∃ (q : Nat) (vk : SV) (kk : List KdV) (S : Nat → Prop), q ≤ l.length ∧ i = .int .i64 (q : Int) ∧ kk.length ≤ q ∧ AllN w0 S wr kk ((l.take q).flatMap (tkF a rest)) ∧ (∀ j, S j → w.heap.size ≤ j ∧ j < wr.heap.size) ∧ (∀ j ∈ ownB vk.1, ¬ S j) ∧ Agg.Own EK w.heap.size wr vk.1 kk ∧ Blk wr g5 26 (ndC (xk, svN, vk)) ∧ Blk wr g2 26 (ndC (xk, xb, xs)) ∧ Blk wr g4 26 (ndC ndZ) ∧ Below w.heap.size w wr) (fun i _ => l.length - (intOf i).toNat)
  case atStart => exact ⟨0, svN, [], fun _ => False, by omega, rfl, by simp, .nil, fun _ h => h.elim, fun _ _ h => h.elim, Agg.Own.nil _ _ _, HN4.out, HB4.out, HR4.out, HX4.out⟩
  case round =>
   obtain ⟨wa, rfl⟩ : ∃ y : World, y = wr := ⟨_, rfl⟩
   obtain ⟨q, vk, kk, S, hq, rfl, hkq, hal, hS, hvS, hok, hn, hb2, hr4, hx⟩ := hrel
   have HAa := Lib.hid hal
   have HSa := Lib.hid hS
   have HVS2 := Lib.hid hvS
   have HOa := Lib.hid hok
   have HNa := Lib.hid hn
   have HBa := Lib.hid hb2
   have HRa := Lib.hid hr4
   have HXa := Lib.hid hx
   have HVa := Lib.hid (own_range hok)
   clear hal hS hvS hok hn hb2 hr4 hx
   by_cases hlt : q < l.length
   case pos =>
    have hlq : decide ((q : Int) < (l.length : Int)) = true := by simp; omega
    obtain ⟨z, hzk⟩ : ∃ z, l[q]? = some z := ⟨_, List.getElem?_eq_getElem hlt⟩
    obtain ⟨y, hyk, hyz, hyn⟩ := HKV.out.at_ q z hzk
    have hoz := okL_mem HOK.out (List.mem_of_getElem? hzk)
    obtain ⟨p0, hadr, hle⟩ := kid_at (HSL.out.below (belowThen HZ.out (Nat.le_refl _) HXa.out)) q y hyk
    have HYa := Lib.hid hle.all
    have hts : (l.take (q + 1)).flatMap (tkF a rest) = (l.take q).flatMap (tkF a rest) ++ tkF a rest z := by rw [take_succ' hzk]; simp
    obtain ⟨zn, zt⟩ := z
    have hyz : y.1 = zn := hyz
    subst hyz
    have HYN := Lib.hid (show NodeV w0 y.2 zt ∧ ok zt = true from ⟨hyn, hoz⟩)
    have HTS := Lib.hid hts
    clear hle hyk hyn hoz hzk hts
    go_wp2_with (first | (with_reducible refine wpList_loadL (NdL.of_blk HBa.out).kids rfl _ rfl rfl ?_) | (with_reducible refine wpList_loadL HYa.out rfl _ rfl rfl ?_) | (refine wpList_new rfl rfl rfl 51 7 22 rfl rfl rfl (by decide) (kdC kdZ) (kdC y) kd_zero rfl (kd_info y) (kdC_one y) rfl (by first | (simp; done) | simp [Act.put]) ?_; intro g7 wb hb hx hg; have HYb := Lib.hid hb; have HAb := Lib.hid (HAa.out.below hx); have HOb := Lib.hid (HOa.out.below hx); have HNb := Lib.hid (HNa.out.below hx); have HBb := Lib.hid (HBa.out.below hx); have HRb := Lib.hid (HRa.out.below hx); have HXb := Lib.hid (belowThen HXa.out (Nat.le_refl _) hx); have HG7 := Lib.hid (show wa.heap.size ≤ g7 ∧ g7 < wb.heap.size ∧ g5 ≠ g7 ∧ g2 ≠ g7 ∧ g4 ≠ g7 from ⟨hg, hb.lt, fun e => (by have := HNa.out.lt; omega), fun e => (by have := HBa.out.lt; omega), fun e => (by have := HRa.out.lt; omega)⟩); have HSb := Lib.hid (show ∀ j, S j → w.heap.size ≤ j ∧ j < wb.heap.size from fun j h => ⟨(HSa.out j h).1, Nat.lt_of_lt_of_le (HSa.out j h).2 hx.size⟩); clear hb hx hg))
    have HNM := Lib.hid (names_load (SliceOf.below HWL.out HXb.out) HADR.out)
    have HKN := Lib.hid (KdL.of_blk HYb.out).name
    by_cases heq : y.1 = a
    case neg =>
     have HEQ := Lib.hid (show decide (y.1 = a) = false by simp [heq])
     have HTF := Lib.hid (show tkF a rest (y.1, zt) = [(y.1, zt)] by simp [tkF, heq])
     clear heq
     try simp only [List.append_eq, List.cons_append, List.nil_append]
     try simp only [Act.put, List.setIfInBounds_toArray, List.set_cons_succ, List.set_cons_zero]
     refine wp_region_later_lit (by kernel_rfl) (by kernel_rfl) ?_
     repeat (first | go_big_quiet_skip | ((first | (with_reducible refine wpQuiet_loadL HKN.out rfl _ rfl rfl ?_) | (with_reducible refine wpQuiet_loadL HNM.out rfl _ rfl rfl ?_) | (refine Agg.wpQuiet_eqlS rfl rfl rfl rfl false HEQ.out ?_)); simp only [Act.put, List.setIfInBounds_toArray, List.set_cons_succ, List.set_cons_zero]) | go_big_quiet_step (fail))
     refine wpQuiet_nil ?_
     intro _ hw'
     obtain ⟨x1, rfl⟩ := hw'
     obtain ⟨wc, hww⟩ : ∃ W, W = x1.w := ⟨_, rfl⟩
     have hx : Below wb.heap.size wb wc := by rw [hww]; exact x1.h
     rw [← hww]
     clear hww x1
     have HYc := Lib.hid (HYb.out.below hx)
     have HAc := Lib.hid (HAb.out.below hx)
     have HOc := Lib.hid (HOb.out.below hx)
     have HNc := Lib.hid (HNb.out.below hx)
     have HBc := Lib.hid (HBb.out.below hx)
     have HRc := Lib.hid (HRb.out.below hx)
     have HXc := Lib.hid (belowThen HXb.out (Nat.le_refl _) hx)
     have HSc := Lib.hid (show ∀ j, S j → w.heap.size ≤ j ∧ j < wc.heap.size from fun j h => ⟨(HSb.out j h).1, Nat.lt_of_lt_of_le (HSb.out j h).2 hx.size⟩)
     have HKNc := Lib.hid (KdL.of_blk HYc.out).name
     have HNMc := Lib.hid (names_load (SliceOf.below HWL.out HXc.out) HADR.out)
     clear hx
     go_wp2_with fail
     try simp only [List.append_eq, List.cons_append, List.nil_append]
     try simp only [Act.put, List.setIfInBounds_toArray, List.set_cons_succ, List.set_cons_zero]
     refine wp_region_later_lit (by kernel_rfl) (by kernel_rfl) ?_
     repeat (first | go_big_quiet_skip | ((first | (with_reducible refine wpQuiet_loadL HKNc.out rfl _ rfl rfl ?_) | (with_reducible refine wpQuiet_loadL HNMc.out rfl _ rfl rfl ?_) | (refine Agg.wpQuiet_eqlS rfl rfl rfl rfl false HEQ.out ?_)); simp only [Act.put, List.setIfInBounds_toArray, List.set_cons_succ, List.set_cons_zero]) | go_big_quiet_step (fail))
     refine wpQuiet_nil ?_
     intro _ hw'
     obtain ⟨x1, rfl⟩ := hw'
     obtain ⟨wd, hww⟩ : ∃ W, W = x1.w := ⟨_, rfl⟩
     have hx : Below wc.heap.size wc wd := by rw [hww]; exact x1.h
     rw [← hww]
     clear hww x1
     have HYd := Lib.hid (HYc.out.below hx)
     have HAd := Lib.hid (HAc.out.below hx)
     have HOd := Lib.hid (HOc.out.below hx)
     have HNd := Lib.hid (HNc.out.below hx)
     have HBd := Lib.hid (HBc.out.below hx)
     have HRd := Lib.hid (HRc.out.below hx)
     have HXd := Lib.hid (belowThen HXc.out (Nat.le_refl _) hx)
     have HSd := Lib.hid (show ∀ j, S j → w.heap.size ≤ j ∧ j < wd.heap.size from fun j h => ⟨(HSc.out j h).1, Nat.lt_of_lt_of_le (HSc.out j h).2 hx.size⟩)
     have HKNd := Lib.hid (KdL.of_blk HYd.out).name
     have HNMd := Lib.hid (names_load (SliceOf.below HWL.out HXd.out) HADR.out)
     clear hx
     have HVd := HVS2
     go_wp2_with (first | (with_reducible refine wpList_loadL (NdL.of_blk HNd.out).kids rfl _ rfl rfl ?_) | (with_reducible refine wpList_loadL (KdL.of_blk HYd.out).all rfl _ rfl rfl ?_) | (refine Agg.wpList_pushO (E := EK) rfl rfl 49 rfl _ rfl _ rfl y rfl (fun _ => rfl) (by first | (simp; done) | simp [Act.put]) HOd.out (by omega) (by decide) HXd.out.size ?_; intro u9 v9 wd1 ho hp hgr; obtain ⟨vk1, rfl⟩ := own_sv ho; have HOd1 := Lib.hid ho; have HXd1 := Lib.hid (HXd.out.trans (hp.below _ (Nat.le_refl _) HXd.out.size)); have HNd1 := Lib.hid (hp.blk g5 _ _ _ (by decide) HNd.out); have HBd1 := Lib.hid (hp.blk g2 _ _ _ (by decide) HBd.out); have HRd1 := Lib.hid (hp.blk g4 _ _ _ (by decide) HRd.out); have HAd1 := Lib.hid (AllN.pushed HAd.out HVd.out hp); have HVd1 := Lib.hid (show ∀ j ∈ ownB vk1.1, ¬ S j from fun j hj h => (hgr j (mem_ownB.1 hj)).elim (fun h1 => HVd.out j (mem_ownB.2 h1) h) (fun h1 => by have := (HSd.out j h).2; omega)); have HSd1 := Lib.hid (show ∀ j, S j → w.heap.size ≤ j ∧ j < wd1.heap.size from fun j h => ⟨(HSd.out j h).1, Nat.lt_of_lt_of_le (HSd.out j h).2 hp.size⟩); clear ho hp hgr) | (refine Agg.wpList_put1 rfl rfl 24 _ _ rfl g5 2 vk1.1 rfl rfl HNd1.out (by show 2 < 3; omega) (sv_cells vk1) (sv_oneT vk1) (by kernel_rfl) (ndC (xk, svN, vk1)) rfl ?_; intro wd2 hb ho hz; have HNd2 := Lib.hid hb; have HOd2 := Lib.hid (Own.onlyB HOd1.out ho HNd1.out (by decide)); have HAd2 := Lib.hid (AllN.onlyN HAd1.out ho HNd1.out); have HXd2 := Lib.hid (HXd1.out.trans (ho.below (B := w.heap.size) HXd1.out.size (fun i hi => by subst hi; exact HG5.out.1))); have HBd2 := Lib.hid (Agg.Blk.keepO HBd1.out ho (fun e => HG5.out.2.1 e)); have HRd2 := Lib.hid (Agg.Blk.keepO HRd1.out ho (fun e => HG5.out.2.2 e)); have HSd2 := Lib.hid (show ∀ j, S j → w.heap.size ≤ j ∧ j < wd2.heap.size from fun j h => ⟨(HSd1.out j h).1, by rw [hz]; exact (HSd1.out j h).2⟩); have HVd2 := HVd1; clear hb ho hz))
     go_roundw
     case rel => exact ⟨q + 1, vk1, kk ++ [y], S, by omega, by go_num, by simp only [List.length_append, List.length_cons, List.length_nil]; omega, by rw [HTS.out, HTF.out]; exact forall2_snoc HAd2.out ⟨rfl, NewS.old HYN.out.1⟩, HSd2.out, HVd2.out, HOd2.out, HNd2.out, HBd2.out, HRd2.out, HXd2.out⟩
     case measure => simp [intOf]; omega
    case pos =>
     have HEQ := Lib.hid (show decide (y.1 = a) = true by simp [heq])
     by_cases hr0 : rest = []
     case pos =>
      have hd1 : decide ((rest.length : Int) + 1 = 1) = true := by rw [hr0]; rfl
      have hd2 : ((rest.length : Int) + 1 == 1) = true := by rw [hr0]; rfl
      have hd3 : decide (rest.length = 0) = true := by rw [hr0]; rfl
      have HTF := Lib.hid (show tkF a rest (y.1, zt) = [] by simp [tkF, heq, hr0])
      clear heq
      try simp only [List.append_eq, List.cons_append, List.nil_append]
      try simp only [Act.put, List.setIfInBounds_toArray, List.set_cons_succ, List.set_cons_zero]
      refine wp_region_later_lit (by kernel_rfl) (by kernel_rfl) ?_
      repeat (first | go_big_quiet_skip | ((first | (with_reducible refine wpQuiet_loadL HKN.out rfl _ rfl rfl ?_) | (with_reducible refine wpQuiet_loadL HNM.out rfl _ rfl rfl ?_) | (refine Agg.wpQuiet_eqlS rfl rfl rfl rfl true HEQ.out ?_)); simp only [Act.put, List.setIfInBounds_toArray, List.set_cons_succ, List.set_cons_zero]) | go_big_quiet_step (fail))
      refine wpQuiet_nil ?_
      intro _ hw'
      obtain ⟨x1, rfl⟩ := hw'
      obtain ⟨wc, hww⟩ : ∃ W, W = x1.w := ⟨_, rfl⟩
      have hx : Below wb.heap.size wb wc := by rw [hww]; exact x1.h
      rw [← hww]
      clear hww x1
      have HYc := Lib.hid (HYb.out.below hx)
      have HAc := Lib.hid (HAb.out.below hx)
      have HOc := Lib.hid (HOb.out.below hx)
      have HNc := Lib.hid (HNb.out.below hx)
      have HBc := Lib.hid (HBb.out.below hx)
      have HRc := Lib.hid (HRb.out.below hx)
      have HXc := Lib.hid (belowThen HXb.out (Nat.le_refl _) hx)
      have HSc := Lib.hid (show ∀ j, S j → w.heap.size ≤ j ∧ j < wc.heap.size from fun j h => ⟨(HSb.out j h).1, Nat.lt_of_lt_of_le (HSb.out j h).2 hx.size⟩)
      have HKNc := Lib.hid (KdL.of_blk HYc.out).name
      have HNMc := Lib.hid (names_load (SliceOf.below HWL.out HXc.out) HADR.out)
      clear hx
      go_wp2_with fail
      go_roundw
      case rel => exact ⟨q + 1, vk, kk, S, by omega, by go_num, by omega, by rw [HTS.out, HTF.out, List.append_nil]; exact HAc.out, HSc.out, HVS2.out, HOc.out, HNc.out, HBc.out, HRc.out, HXc.out⟩
      case measure => simp [intOf]; omega
     case neg =>
      have hrl : 0 < rest.length := List.length_pos_iff.2 hr0
      have hd1 : decide ((rest.length : Int) + 1 = 1) = false := decide_eq_false (by omega)
      have hd2 : ((rest.length : Int) + 1 == 1) = false := by rw [beq_eq_false_iff_ne]; omega
      have hd3 : decide (rest.length = 0) = false := decide_eq_false (by omega)
      have hd4 : ¬ (rest.length : Int) = 0 := by omega
      have HTF := Lib.hid (show tkF a rest (y.1, zt) = [(y.1, takenR zt rest)] by simp [tkF, heq, hr0])
      clear heq
      try simp only [List.append_eq, List.cons_append, List.nil_append]
      try simp only [Act.put, List.setIfInBounds_toArray, List.set_cons_succ, List.set_cons_zero]
      refine wp_region_later_lit (by kernel_rfl) (by kernel_rfl) ?_
      repeat (first | go_big_quiet_skip | ((first | (with_reducible refine wpQuiet_loadL HKN.out rfl _ rfl rfl ?_) | (with_reducible refine wpQuiet_loadL HNM.out rfl _ rfl rfl ?_) | (refine Agg.wpQuiet_eqlS rfl rfl rfl rfl true HEQ.out ?_)); simp only [Act.put, List.setIfInBounds_toArray, List.set_cons_succ, List.set_cons_zero]) | go_big_quiet_step (fail))
      refine wpQuiet_nil ?_
      intro _ hw'
      obtain ⟨x1, rfl⟩ := hw'
      obtain ⟨wc, hww⟩ : ∃ W, W = x1.w := ⟨_, rfl⟩
      have hx : Below wb.heap.size wb wc := by rw [hww]; exact x1.h
      rw [← hww]
      clear hww x1
      have HYc := Lib.hid (HYb.out.below hx)
      have HAc := Lib.hid (HAb.out.below hx)
      have HOc := Lib.hid (HOb.out.below hx)
      have HNc := Lib.hid (HNb.out.below hx)
      have HBc := Lib.hid (HBb.out.below hx)
      have HRc := Lib.hid (HRb.out.below hx)
      have HXc := Lib.hid (belowThen HXb.out (Nat.le_refl _) hx)
      have HSc := Lib.hid (show ∀ j, S j → w.heap.size ≤ j ∧ j < wc.heap.size from fun j h => ⟨(HSb.out j h).1, Nat.lt_of_lt_of_le (HSb.out j h).2 hx.size⟩)
      have HKNc := Lib.hid (KdL.of_blk HYc.out).name
      have HNMc := Lib.hid (names_load (SliceOf.below HWL.out HXc.out) HADR.out)
      clear hx
      go_wp2_with fail
      try simp only [List.append_eq, List.cons_append, List.nil_append]
      try simp only [Act.put, List.setIfInBounds_toArray, List.set_cons_succ, List.set_cons_zero]
      refine wp_region_later_lit (by kernel_rfl) (by kernel_rfl) ?_
      repeat (first | go_big_quiet_skip | ((first | (with_reducible refine wpQuiet_loadL HKNc.out rfl _ rfl rfl ?_) | (with_reducible refine wpQuiet_loadL HNMc.out rfl _ rfl rfl ?_) | (refine Agg.wpQuiet_eqlS rfl rfl rfl rfl true HEQ.out ?_)); simp only [Act.put, List.setIfInBounds_toArray, List.set_cons_succ, List.set_cons_zero]) | go_big_quiet_step (fail))
      refine wpQuiet_nil ?_
      intro _ hw'
      obtain ⟨x1, rfl⟩ := hw'
      obtain ⟨wd, hww⟩ : ∃ W, W = x1.w := ⟨_, rfl⟩
      have hx : Below wc.heap.size wc wd := by rw [hww]; exact x1.h
      rw [← hww]
      clear hww x1
      have HYd := Lib.hid (HYc.out.below hx)
      have HAd := Lib.hid (HAc.out.below hx)
      have HOd := Lib.hid (HOc.out.below hx)
      have HNd := Lib.hid (HNc.out.below hx)
      have HBd := Lib.hid (HBc.out.below hx)
      have HRd := Lib.hid (HRc.out.below hx)
      have HXd := Lib.hid (belowThen HXc.out (Nat.le_refl _) hx)
      have HSd := Lib.hid (show ∀ j, S j → w.heap.size ≤ j ∧ j < wd.heap.size from fun j h => ⟨(HSc.out j h).1, Nat.lt_of_lt_of_le (HSc.out j h).2 hx.size⟩)
      have HKNd := Lib.hid (KdL.of_blk HYd.out).name
      have HNMd := Lib.hid (names_load (SliceOf.below HWL.out HXd.out) HADR.out)
      clear hx
      go_wp2_with fail
      have HCALL := Lib.hid (show ∀ W, Below w0.heap.size w0 W → SliceOf ES W vr rest → Calls Tryd.prog 43 #[.agg (ndC y.2), vr] W fun e w' => ∃ x', e = .returned (.agg (ndC x')) ∧ NewV w0 W.heap.size w' x' (takenR zt rest) ∧ Below W.heap.size W w' from fun W h1 h2 => HIH.out hr0 zt HYN.out.2 y.2 vr w0 W HYN.out.1 h2 HVC.out h1)
      have HEP := Lib.hid (enters_of Tryd.func43 (by kernel_rfl) rfl : ∀ args w, (callFunc 43 args).run Tryd.prog w = .ok (.enter 43 args) w)
      refine Agg.wp_cutR (fun a0 a' w' => ∃ (x2 : NdV) (S2 : Nat → Prop), NewS w0 S2 w' x2 (takenR zt rest) ∧ Blk w' g7 51 (kdC (y.1, x2)) ∧ AllN w0 S2 w' kk ((l.take q).flatMap (tkF a rest)) ∧ (∀ j, S2 j → w.heap.size ≤ j ∧ j < w'.heap.size) ∧ (∀ j ∈ ownB vk.1, ¬ S2 j) ∧ Agg.Own EK w.heap.size w' vk.1 kk ∧ Blk w' g5 26 (ndC (xk, svN, vk)) ∧ Blk w' g2 26 (ndC (xk, xb, xs)) ∧ Blk w' g4 26 (ndC ndZ) ∧ Below w.heap.size w w' ∧ ExPut [40, 41, 42, 43, 44, 45] a0 a') ?_ ?_
      ·try simp only [Act.put, List.setIfInBounds_toArray, List.set_cons_succ, List.set_cons_zero]
       obtain ⟨wg, hwg⟩ : ∃ X, X = wd.drew := ⟨_, rfl⟩
       have hx : Below wd.heap.size wd wg := by rw [hwg]; exact (Below.refl _ _).drew
       have Y_ := Lib.hid (HYd.out.below hx)
       have A_ := Lib.hid (HAd.out.below hx)
       have O_ := Lib.hid (HOd.out.below hx)
       have N_ := Lib.hid (HNd.out.below hx)
       have B_ := Lib.hid (HBd.out.below hx)
       have R_ := Lib.hid (HRd.out.below hx)
       have X_ := Lib.hid (belowThen HXd.out (Nat.le_refl _) hx)
       have S_ := Lib.hid (show ∀ j, S j → w.heap.size ≤ j ∧ j < wg.heap.size from fun j h => ⟨(HSd.out j h).1, Nat.lt_of_lt_of_le (HSd.out j h).2 hx.size⟩)
       have V_ := Lib.hid (show ∀ j ∈ ownB vk.1, j < wg.heap.size from fun j hj => (own_range O_.out j hj).2)
       refine wp_region_held_drew (S := fun _ => True) (by kernel_rfl) trivial (fun hHeld => ?_)
       rw [← hwg]
       clear hwg hx
       refine held_take 0 (.pointer (some ⟨g7, 1, none⟩)) rfl (by kernel_rfl) (fun _ _ _ h => h) rfl (fun W _ => by first | kernel_rfl | rfl | simp [execOp]) (by assumption) ?_
       try simp only [Act.put, List.setIfInBounds_toArray, List.set_cons_succ, List.set_cons_zero]
       refine held_take 2 (vl) rfl (by kernel_rfl) (fun _ _ _ h => h) rfl (fun W _ => by first | kernel_rfl | rfl | simp [execOp]) (by assumption) ?_
       try simp only [Act.put, List.setIfInBounds_toArray, List.set_cons_succ, List.set_cons_zero]
       refine held_take 3 (vr) rfl (by kernel_rfl) (fun _ _ _ h => h) rfl (fun W _ => exec_sliceN rfl rfl rfl (HVR.out W)) (by assumption) ?_
       try simp only [Act.put, List.setIfInBounds_toArray, List.set_cons_succ, List.set_cons_zero]
       refine held_one 1 rfl (by kernel_rfl) ?_
       refine step_load rfl 26 _ rfl _ (.agg (ndC y.2)) rfl (kid_node Y_.out).now ?_
       have Y_1 := Y_
       have A_1 := A_
       have O_1 := O_
       have N_1 := N_
       have B_1 := B_
       have R_1 := R_
       have X_1 := X_
       have S_1 := S_
       have V_1 := V_
       refine ⟨trivial, ?_⟩
       try simp only [Act.put, List.setIfInBounds_toArray, List.set_cons_succ, List.set_cons_zero]
       refine held_one 4 rfl (by kernel_rfl) ?_
       refine step_call rfl 43 _ _ rfl #[.agg (ndC y.2), vr] (by simp only [List.map_toArray, List.map_cons, List.map_nil]; rfl) (fun W => HEP.out _ W) ?_
       refine (HCALL.out _ (belowThen HZ.out (Nat.le_refl _) X_1.out) (HVS.out _ (SliceOf.below HWL.out X_1.out))).mono ?_
       rintro e wg_4 ⟨x2, rfl, hnv, hx⟩
       obtain ⟨S2, hS2⟩ : ∃ S2 : Nat → Prop, S2 = fun j => S j ∨ (wg.heap.size ≤ j ∧ j < wg_4.heap.size) := ⟨_, rfl⟩
       have Zt := Lib.hid (show NewS w0 S2 wg_4 x2 (takenR zt rest) from NewS.keep (fun v k h1 h2 => ⟨h1, fun j hj => by rw [hS2]; exact .inr (h2 j hj)⟩) _ _ (NewV.toS _ _ hnv))
       have Zs := Lib.hid (show AllN w0 S2 wg_4 kk ((l.take q).flatMap (tkF a rest)) from AllN.keep (fun v k h1 h2 => ⟨h1.below hx, fun j hj => by rw [hS2]; exact .inl (h2 j hj)⟩) A_1.out)
       have Za := Lib.hid (show ∀ j, S2 j → w.heap.size ≤ j ∧ j < wg_4.heap.size ∧ j ≠ g7 from fun j h => by
        rw [hS2] at h
        rcases h with h | h
        ·exact ⟨(S_1.out j h).1, Nat.lt_of_lt_of_le (S_1.out j h).2 hx.size, fun e => by have := (HSa.out j h).2; have := HG7.out.1; omega⟩
        ·exact ⟨Nat.le_trans X_1.out.size h.1, h.2, fun e => by have := Y_1.out.lt; omega⟩)
       have Zv := Lib.hid (show ∀ j ∈ ownB vk.1, ¬ S2 j from fun j hj h => by
        rw [hS2] at h
        rcases h with h | h
        ·exact HVS2.out j hj h
        ·have := V_1.out j hj; omega)
       have Zr := Lib.hid (Y_1.out.below hx)
       have Zo := Lib.hid (O_1.out.below hx)
       have Zp := Lib.hid (N_1.out.below hx)
       have Zq := Lib.hid (B_1.out.below hx)
       have Zu := Lib.hid (R_1.out.below hx)
       have Zc := Lib.hid (belowThen X_1.out (Nat.le_refl _) hx)
       clear hx hnv hS2
       refine ⟨_, rfl, ?_⟩
       refine ⟨trivial, ?_⟩
       try simp only [Act.put, List.setIfInBounds_toArray, List.set_cons_succ, List.set_cons_zero]
       refine held_take 5 (.pointer (some ⟨g7, 1, none⟩)) rfl (by kernel_rfl) (fun _ _ _ h => h) rfl (fun W _ => by first | kernel_rfl | rfl | simp [execOp]) (by assumption) ?_
       try simp only [Act.put, List.setIfInBounds_toArray, List.set_cons_succ, List.set_cons_zero]
       refine held_one 6 rfl (by kernel_rfl) ?_
       obtain ⟨Zb, hrun, hbf, hof⟩ := Agg.Blk.run_row (P := Tryd.prog) (ty := 26) #[.string ⟨y.1.toArray⟩] (ndC y.2) #[] (ndC x2) Zr.out rfl (nd_info _) (ndC_one _) (i := 1) rfl
       refine step_store rfl rfl 26 _ _ rfl (.pointer (some ⟨g7, 1, none⟩)) (.agg (ndC x2)) rfl rfl hrun ?_
       have Zj := Lib.hid (show Blk Zb g7 51 (kdC (y.1, x2)) from hbf)
       have Zg := Lib.hid (NewS.keep (fun v k h1 h2 => ⟨own_stays h1 hof (fun j hj e => (Za.out j (h2 j hj)).2.2 e), h2⟩) _ _ Zt.out)
       have Zk := Lib.hid (AllN.keep (fun v k h1 h2 => ⟨own_stays h1 hof (fun j hj e => (Za.out j (h2 j hj)).2.2 e), h2⟩) Zs.out)
       have Zi := Lib.hid (own_stays Zo.out hof (fun j hj e => by have h1 := (HVa.out j hj).2; have h2 := HG7.out.1; omega))
       have Zh := Lib.hid (Agg.Blk.keepO Zp.out hof (fun e => HG7.out.2.2.1 e))
       have Zn := Lib.hid (Agg.Blk.keepO Zq.out hof (fun e => HG7.out.2.2.2.1 e))
       have Ze := Lib.hid (Agg.Blk.keepO Zu.out hof (fun e => HG7.out.2.2.2.2 e))
       have Zm := Lib.hid (Zc.out.trans (hof.below (B := w.heap.size) Zc.out.size (fun i hi => by subst hi; have h1 := HXa.out.size; have h2 := HG7.out.1; omega)))
       have Zd := Lib.hid (show ∀ j, S2 j → w.heap.size ≤ j ∧ j < Zb.heap.size from fun j h => ⟨(Za.out j h).1, Nat.lt_of_lt_of_le (Za.out j h).2.1 hof.size⟩)
       have Zf := Zv
       clear hrun hbf hof
       refine ⟨trivial, ?_⟩
       try simp only [Act.put, List.setIfInBounds_toArray, List.set_cons_succ, List.set_cons_zero]
       refine held_end (by kernel_rfl) ?_
       simp only [ExPut, Act.put, List.setIfInBounds_toArray, List.set_cons_succ, List.set_cons_zero]
       exact ⟨x2, S2, Zg.out, Zj.out, Zk.out, Zd.out, Zf.out, Zi.out, Zh.out, Zn.out, Ze.out, Zm.out, _, _, _, _, _, _, rfl⟩
      ·rintro a' we ⟨x2, S2, h1, h2, h3, h4, h5, h6, h7, h8, h9, h10, hex⟩
       simp only [ExPut, Act.put, List.setIfInBounds_toArray, List.set_cons_succ, List.set_cons_zero] at hex
       obtain ⟨y40, y41, y42, y43, y44, y45, rfl⟩ := hex
       have HTe := Lib.hid h1
       have HYe := Lib.hid h2
       have HAe := Lib.hid h3
       have HSe := Lib.hid h4
       have HVe := Lib.hid h5
       have HOe := Lib.hid h6
       have HNe := Lib.hid h7
       have HBe := Lib.hid h8
       have HRe := Lib.hid h9
       have HXe := Lib.hid h10
       clear h1 h2 h3 h4 h5 h6 h7 h8 h9 h10
       have HAe2 := Lib.hid (forall2_snoc HAe.out (⟨rfl, HTe.out⟩ : (y.1, x2).1 = (y.1, takenR zt rest).1 ∧ NewS w0 S2 we (y.1, x2).2 (y.1, takenR zt rest).2))
       clear HAe
       have HAe := HAe2
       go_wp2_with (first | (with_reducible refine wpList_loadL (NdL.of_blk HNe.out).kids rfl _ rfl rfl ?_) | (with_reducible refine wpList_loadL (KdL.of_blk HYe.out).all rfl _ rfl rfl ?_) | (refine Agg.wpList_pushO (E := EK) rfl rfl 49 rfl _ rfl _ rfl (y.1, x2) rfl (fun _ => rfl) (by first | (simp; done) | simp [Act.put]) HOe.out (by omega) (by decide) HXe.out.size ?_; intro u9 v9 we1 ho hp hgr; obtain ⟨vk1, rfl⟩ := own_sv ho; have HOe1 := Lib.hid ho; have HXe1 := Lib.hid (HXe.out.trans (hp.below _ (Nat.le_refl _) HXe.out.size)); have HNe1 := Lib.hid (hp.blk g5 _ _ _ (by decide) HNe.out); have HBe1 := Lib.hid (hp.blk g2 _ _ _ (by decide) HBe.out); have HRe1 := Lib.hid (hp.blk g4 _ _ _ (by decide) HRe.out); have HAe1 := Lib.hid (AllN.pushed HAe.out HVe.out hp); have HVe1 := Lib.hid (show ∀ j ∈ ownB vk1.1, ¬ S2 j from fun j hj h => (hgr j (mem_ownB.1 hj)).elim (fun h1 => HVe.out j (mem_ownB.2 h1) h) (fun h1 => by have := (HSe.out j h).2; omega)); have HSe1 := Lib.hid (show ∀ j, S2 j → w.heap.size ≤ j ∧ j < we1.heap.size from fun j h => ⟨(HSe.out j h).1, Nat.lt_of_lt_of_le (HSe.out j h).2 hp.size⟩); clear ho hp hgr) | (refine Agg.wpList_put1 rfl rfl 24 _ _ rfl g5 2 vk1.1 rfl rfl HNe1.out (by show 2 < 3; omega) (sv_cells vk1) (sv_oneT vk1) (by kernel_rfl) (ndC (xk, svN, vk1)) rfl ?_; intro we2 hb ho hz; have HNe2 := Lib.hid hb; have HOe2 := Lib.hid (Own.onlyB HOe1.out ho HNe1.out (by decide)); have HAe2 := Lib.hid (AllN.onlyN HAe1.out ho HNe1.out); have HXe2 := Lib.hid (HXe1.out.trans (ho.below (B := w.heap.size) HXe1.out.size (fun i hi => by subst hi; exact HG5.out.1))); have HBe2 := Lib.hid (Agg.Blk.keepO HBe1.out ho (fun e => HG5.out.2.1 e)); have HRe2 := Lib.hid (Agg.Blk.keepO HRe1.out ho (fun e => HG5.out.2.2 e)); have HSe2 := Lib.hid (show ∀ j, S2 j → w.heap.size ≤ j ∧ j < we2.heap.size from fun j h => ⟨(HSe1.out j h).1, by rw [hz]; exact (HSe1.out j h).2⟩); have HVe2 := HVe1; clear hb ho hz))
       go_roundw
       case rel => exact ⟨q + 1, vk1, kk ++ [(y.1, x2)], S2, by omega, by go_num, by simp only [List.length_append, List.length_cons, List.length_nil]; omega, by rw [HTS.out, HTF.out]; exact HAe2.out, HSe2.out, HVe2.out, HOe2.out, HNe2.out, HBe2.out, HRe2.out, HXe2.out⟩
       case measure => simp [intOf]; omega
   case neg =>
    obtain rfl : q = l.length := by omega
    have hlq : decide (((l.length : Nat) : Int) < ((l.length : Nat) : Int)) = false := by simp
    have hal := HAa.out
    rw [List.take_length] at hal
    have HAz := Lib.hid hal
    clear hal
    go_wp2_with (first | (with_reducible refine wpList_loadL (NdL.of_blk HBa.out).kids rfl _ rfl rfl ?_) | (with_reducible refine wpList_loadL (NdL.of_blk HNa.out).all rfl _ rfl rfl ?_) | (refine Agg.wpList_put rfl rfl 26 _ _ rfl g4 (ndC (xk, svN, vk)) (ndC ndZ) rfl rfl HRa.out (nd_info _) rfl (ndC_one _) ?_; intro we hb hx hs9 hk9; have ho := Only.of_eq (S := (· = g4)) hx hs9 hk9 rfl; have HRe := Lib.hid hb; have HOe := Lib.hid (Own.onlyB HOa.out ho HRa.out (by decide)); have HAe := Lib.hid (AllN.onlyN HAz.out ho HRa.out); have HXe := Lib.hid (HXa.out.trans (ho.below HXa.out.size (fun i hi => by subst hi; exact HG4.out))); clear hb hx hs9 hk9 ho))
    have HEND := Lib.hid (show NewV w0 w.heap.size we (xk, svN, vk) (takenR (.mk xk b l) (a :: rest)) by
     rw [takenR_flat]
     exact .inr ⟨rfl, rfl, rfl, kk, HOe.out, newl_of (HAe.out.mono fun _ _ h => ⟨h.1, NewS.toV (fun j hj => (HSa.out j hj).1) _ _ h.2⟩)⟩)
    first
     | exact Agg.post_row rfl rfl HRe.out nd_under rfl (nd_info _) rfl ⟨(xk, svN, vk), rfl, HEND.out, HXe.out⟩
     | exact Agg.post_row rfl rfl HRe.out nd_under rfl (nd_info _) rfl ⟨xk, svN.1, svN.2, vk.1, vk.2, rfl, HEND.out, HXe.out⟩
end Go.Proofs.YtfiadgdinhmgbaaDoor
