/- spenceref08.put: a node put at names, by the document. -/
import Derived.Test.YtfiadgdinhmgbaaDoorHBI
import Derived.Test.YtfiadgdinhmgbaaDoorHBK
namespace Go.Proofs.YtfiadgdinhmgbaaDoor
open Go.RowKit Pl Go.Agg Go.Tr
theorem exec_sliceN {P : Program} {o : Oper} {a : Act} {w : World} {t : TypeId} {x y : Operand} {v lo r : Value} (ho : o.op = .slice t x (some y) none none) (hx : a.eval x = v) (hy : a.eval y = lo) (hrun : (Instr.sliceAt t v (some lo) none none).run P w = .ok r w) : (execOp a.eval o).run P w = .ok (.value r) w := by
 simp [execOp, ho, hx, hy, hrun]
mutual
def NewV (w0 : World) (base : Nat) (w : World) : NdV → T → Prop
 | x, .mk k b l => NodeV w0 x (.mk k b l) ∨ (x.1 = k ∧ b = [] ∧ x.2.1 = svN ∧ ∃ ks : List KdV, Agg.Own EK base w x.2.2.1 ks ∧ NewL w0 base w ks l)
def NewL (w0 : World) (base : Nat) (w : World) : List KdV → List (List UInt8 × T) → Prop
 | [], [] => True
 | y :: ks, (n, t) :: l => y.1 = n ∧ NewV w0 base w y.2 t ∧ NewL w0 base w ks l
 | _, _ => False
end
mutual
theorem NewV.keep {w0 : World} {base b' : Nat} {w w' : World} (hO : ∀ (v : Value) (ks : List KdV), Agg.Own EK base w v ks → Agg.Own EK b' w' v ks) : ∀ (t : T) (x : NdV), NewV w0 base w x t → NewV w0 b' w' x t
 | .mk _ _ l, _, h => h.elim .inl fun ⟨h1, h2, h3, ks, h4, h5⟩ => .inr ⟨h1, h2, h3, ks, hO _ _ h4, NewL.keep hO l ks h5⟩
theorem NewL.keep {w0 : World} {base b' : Nat} {w w' : World} (hO : ∀ (v : Value) (ks : List KdV), Agg.Own EK base w v ks → Agg.Own EK b' w' v ks) : ∀ (l : List (List UInt8 × T)) (ks : List KdV), NewL w0 base w ks l → NewL w0 b' w' ks l
 | [], [], _ => trivial
 | (_, t) :: l, y :: ks, h => ⟨h.1, NewV.keep hO t y.2 h.2.1, NewL.keep hO l ks h.2.2⟩
 | [], _ :: _, h => h
 | (_, _) :: _, [], h => h
end
theorem NewV.old {w0 : World} {base : Nat} {w : World} {x : NdV} {t : T} (h : NodeV w0 x t) : NewV w0 base w x t := by
 obtain ⟨k, b, l⟩ := t
 exact .inl h
theorem NewV.below {w0 : World} {base : Nat} {w w' : World} {x : NdV} {t : T} (h : NewV w0 base w x t) (hb : Below w.heap.size w w') : NewV w0 base w' x t := NewV.keep (fun _ _ h => h.below hb) t x h
theorem NewV.lower {w0 : World} {base b' : Nat} {w : World} {x : NdV} {t : T} (h : NewV w0 base w x t) (hb : b' ≤ base) : NewV w0 b' w x t := NewV.keep (fun _ _ h => h.lower hb) t x h
theorem NewV.onlyN {w0 : World} {base g : Nat} {w w' : World} {x : NdV} {t : T} {cs : Array Value} (h : NewV w0 base w x t) (ho : Only (· = g) w w') (hb : Blk w g 26 cs) : NewV w0 base w' x t :=
 NewV.keep (fun _ _ h => Own.onlyB h ho hb (by decide)) t x h
mutual
theorem NewV.node {w0 : World} {base : Nat} {w : World} (hb : Below w0.heap.size w0 w) : ∀ (t : T) (x : NdV), NewV w0 base w x t → NodeV w x t
 | .mk k b l, x, h => h.elim (fun h => NodeV.below hb _ x h) fun ⟨h1, h2, h3, ks, h4, h5⟩ => ⟨h1, by rw [h3, h2]; exact SliceOf.nil _ _ _, ks, h4.slice, NewL.kids hb l ks h5⟩
theorem NewL.kids {w0 : World} {base : Nat} {w : World} (hb : Below w0.heap.size w0 w) : ∀ (l : List (List UInt8 × T)) (ks : List KdV), NewL w0 base w ks l → KidsV w ks l
 | [], [], _ => trivial
 | (_, t) :: l, y :: ks, h => ⟨h.1, NewV.node hb t y.2 h.2.1, NewL.kids hb l ks h.2.2⟩
 | [], _ :: _, h => h
 | (_, _) :: _, [], h => h
end
theorem newl_of {w0 : World} {base : Nat} {w : World} {ks : List KdV} {l : List K} (h : All2 (fun y z => y.1 = z.1 ∧ NewV w0 base w y.2 z.2) ks l) : NewL w0 base w ks l := by
 induction h with
 | nil => trivial
 | cons h1 _ ih => exact ⟨h1.1, h1.2, ih⟩
theorem kidsv_all {w : World} : ∀ {ks : List KdV} {l : List K}, KidsV w ks l → All2 (fun y z => y.1 = z.1 ∧ NodeV w y.2 z.2) ks l
 | [], [], _ => .nil
 | _ :: _, (_, _) :: _, h => .cons ⟨h.1, h.2.1⟩ (kidsv_all h.2.2)
 | [], _ :: _, h => h.elim
 | _ :: _, [], h => h.elim
set_option maxRecDepth 100000 in
set_option maxHeartbeats 64000000 in
theorem rput_any : ∀ (ns : N) (t u : T) (_ : ok t = true) (x xu : NdV) (vl : Value) (w0 w : World) (_ : NodeV w0 x t) (_ : NodeV w0 xu u) (_ : SliceOf ES w vl ns) (_ : ∀ p m c, vl = .slice p m c → m ≤ c) (_ : Below w0.heap.size w0 w),
  Calls Tryd.prog 41 #[.agg (ndC x), vl, .agg (ndC xu)] w fun e w' => ∃ x', e = .returned (.tuple #[.agg (ndC x'), .bool (putR t u ns).2]) ∧ NewV w0 w.heap.size w' x' (putR t u ns).1 ∧ Below w.heap.size w w' := by
 intro ns
 induction ns with
 | nil =>
  intro t u hok x xu vl w0 w hx hu hl hcap hz
  have HZW := Lib.hid hz.size
  have HWL := Lib.hid hl
  have Y_0 := Lib.hid (Below.refl w.heap.size w)
  have Z_0 := Lib.hid hz
  have WL_0 := Lib.hid hl
  have HV := Lib.hid hx
  have HU := Lib.hid hu
  clear hx hu hl hz
  have hw9 : w = w := rfl
  clear hw9
  go_enter Tryd.func41, Tryd.ntmps41
  have hlv := fun W => strs_len WL_0.out W
  clear hcap
  go_wp2_with (first | (refine wpList_box rfl 26 _ rfl (ndC x) rfl ?_; intro g3 w1 hb hx hg; have Y_1 := Lib.hid (belowThen Y_0.out (Nat.le_refl _) hx); have Z_1 := Lib.hid (belowThen Z_0.out (Nat.le_refl _) hx); have WL_1 := Lib.hid (SliceOf.below WL_0.out hx); have B3_1 := Lib.hid hb; clear hb hx hg Y_0 Z_0 WL_0) | (refine wpList_box rfl 26 _ rfl (ndC xu) rfl ?_; intro g5 w2 hb hx hg; have Y_2 := Lib.hid (belowThen Y_1.out (Nat.le_refl _) hx); have Z_2 := Lib.hid (belowThen Z_1.out (Nat.le_refl _) hx); have WL_2 := Lib.hid (SliceOf.below WL_1.out hx); have B3_2 := Lib.hid (B3_1.out.below hx); have B5_2 := Lib.hid hb; clear hb hx hg Y_1 Z_1 WL_1 B3_1) | (refine Agg.wpList_zero rfl 26 rfl (ndC ndZ) nd_zero ?_; intro g6 w3 hb hx hg; have HG6 := Lib.hid (show w.heap.size ≤ g6 from Nat.le_trans Y_2.out.size hg); have HNE := Lib.hid (show g3 ≠ g6 ∧ g5 ≠ g6 from ⟨fun e => (by have := B3_2.out.lt; omega), fun e => (by have := B5_2.out.lt; omega)⟩); have Y_3 := Lib.hid (belowThen Y_2.out (Nat.le_refl _) hx); have Z_3 := Lib.hid (belowThen Z_2.out (Nat.le_refl _) hx); have WL_3 := Lib.hid (SliceOf.below WL_2.out hx); have B3_3 := Lib.hid (B3_2.out.below hx); have B5_3 := Lib.hid (B5_2.out.below hx); have R6_3 := Lib.hid hb; clear hb hx hg Y_2 Z_2 WL_2 B3_2 B5_2) | (with_reducible refine wpList_loadL (NdL.of_blk B5_3.out).all rfl _ rfl rfl ?_) | (refine Agg.wpList_put rfl rfl 26 _ _ rfl g6 (ndC xu) (ndC ndZ) rfl rfl R6_3.out (nd_info _) rfl (ndC_one _) ?_; intro wf hb hx hs9 hk9; have ho9 := Only.of_eq (S := (· = g6)) hx hs9 hk9 rfl; have HF := Lib.hid hb; have HXF := Lib.hid (Y_3.out.trans (ho9.below (B := w.heap.size) Y_3.out.size (fun i hi => by subst hi; exact HG6.out))); clear hb hx hs9 hk9 ho9))
  exact post_row_tmp rfl rfl rfl HF.out nd_under rfl (nd_info _) rfl ⟨xu, rfl, NewV.old HU.out, HXF.out⟩
 | cons a l ih =>
  intro t u hok x xu vl w0 w hx hu hl hcap hz
  obtain ⟨vr, hvrun, _, _, hvc, hvs⟩ := names_rest hl hcap
  have HVC := Lib.hid hvc
  have HVS := Lib.hid hvs
  have HVR := Lib.hid hvrun
  clear hvc hvs
  obtain ⟨pa, hadr0, _⟩ := strs_at hl 0 a rfl
  have hadr1 : ∀ W, (Instr.indexAt 37 vl (.int .i64 0)).run Tryd.prog W = .ok (.pointer (some pa)) W := hadr0
  have HADR := Lib.hid hadr1
  clear hadr0
  have hlv : ∀ W, (Builtin.len_ #[37] 3 #[vl]).run Tryd.prog W = .ok (.int .i64 ((l.length : Int) + 1)) W := fun W => by
   have h := strs_len hl W
   rwa [show (((a :: l).length : Nat) : Int) = (l.length : Int) + 1 by simp] at h
  have hlz : decide ((l.length : Int) + 1 = 0) = false := decide_eq_false (by omega)
  have hlz2 : ((l.length : Int) + 1 == 0) = false := by rw [beq_eq_false_iff_ne]; omega
  obtain ⟨kd, b, kl⟩ := t
  obtain ⟨nk, nb, nks⟩ := x
  obtain ⟨hk, hby, ks, hsl, hkv⟩ := id hx
  obtain rfl : nk = kd := hk
  have hll : kl.length ≤ 1048576 := by have := (rise_of_ok hok).2; simp only [T.kids] at this; omega
  have HOK := Lib.hid (kids_ok hok)
  have HSL := Lib.hid hsl
  have HKV := Lib.hid hkv
  have HIH := Lib.hid ih
  clear hby hsl hkv hok ih hcap
  have HZW := Lib.hid hz.size
  have HWL := Lib.hid hl
  have Y_0 := Lib.hid (Below.refl w.heap.size w)
  have Z_0 := Lib.hid hz
  have WL_0 := Lib.hid hl
  have HV := Lib.hid hx
  have HU := Lib.hid hu
  clear hx hu hl hz
  have hw9 : w = w := rfl
  clear hw9
  go_enter Tryd.func41, Tryd.ntmps41
  by_cases h4 : nk = 4
  case neg =>
   have hd1 : decide (nk = 4) = false := by simpa using h4
   have hd2 : (nk == 4) = false := by simpa using h4
   have hd3 : decide (¬ nk = 4) = true := by simpa using h4
   go_wp2_with (first | (refine wpList_box rfl 26 _ rfl (ndC (nk, nb, nks)) rfl ?_; intro g3 w1 hb hx hg; have Y_1 := Lib.hid (belowThen Y_0.out (Nat.le_refl _) hx); have Z_1 := Lib.hid (belowThen Z_0.out (Nat.le_refl _) hx); have WL_1 := Lib.hid (SliceOf.below WL_0.out hx); have B3_1 := Lib.hid hb; clear hb hx hg Y_0 Z_0 WL_0) | (refine wpList_box rfl 26 _ rfl (ndC xu) rfl ?_; intro g5 w2 hb hx hg; have Y_2 := Lib.hid (belowThen Y_1.out (Nat.le_refl _) hx); have Z_2 := Lib.hid (belowThen Z_1.out (Nat.le_refl _) hx); have WL_2 := Lib.hid (SliceOf.below WL_1.out hx); have B3_2 := Lib.hid (B3_1.out.below hx); have B5_2 := Lib.hid hb; clear hb hx hg Y_1 Z_1 WL_1 B3_1) | (refine Agg.wpList_zero rfl 26 rfl (ndC ndZ) nd_zero ?_; intro g6 w3 hb hx hg; have HG6 := Lib.hid (show w.heap.size ≤ g6 from Nat.le_trans Y_2.out.size hg); have HNE := Lib.hid (show g3 ≠ g6 ∧ g5 ≠ g6 from ⟨fun e => (by have := B3_2.out.lt; omega), fun e => (by have := B5_2.out.lt; omega)⟩); have Y_3 := Lib.hid (belowThen Y_2.out (Nat.le_refl _) hx); have Z_3 := Lib.hid (belowThen Z_2.out (Nat.le_refl _) hx); have WL_3 := Lib.hid (SliceOf.below WL_2.out hx); have B3_3 := Lib.hid (B3_2.out.below hx); have B5_3 := Lib.hid (B5_2.out.below hx); have R6_3 := Lib.hid hb; clear hb hx hg Y_2 Z_2 WL_2 B3_2 B5_2) | (with_reducible refine wpList_loadL (NdL.of_blk B3_3.out).kind rfl _ rfl rfl ?_) | (with_reducible refine wpList_loadL (NdL.of_blk B3_3.out).all rfl _ rfl rfl ?_) | (refine Agg.wpList_put rfl rfl 26 _ _ rfl g6 (ndC (nk, nb, nks)) (ndC ndZ) rfl rfl R6_3.out (nd_info _) rfl (ndC_one _) ?_; intro wf hb hx hs9 hk9; have ho9 := Only.of_eq (S := (· = g6)) hx hs9 hk9 rfl; have HF := Lib.hid hb; have HXF := Lib.hid (Y_3.out.trans (ho9.below (B := w.heap.size) Y_3.out.size (fun i hi => by subst hi; exact HG6.out))); clear hb hx hs9 hk9 ho9))
   have hp : putR (.mk nk b kl) u (a :: l) = (.mk nk b kl, false) := by simp [putR, T.kind, h4]
   rw [hp]
   exact post_row_tmp rfl rfl rfl HF.out nd_under rfl (nd_info _) rfl ⟨nk, nb.1, nb.2, nks.1, nks.2, rfl, NewV.old HV.out, HXF.out⟩
  case pos =>
   subst h4
   go_wp2_with (first | (refine wpList_box rfl 26 _ rfl (ndC ((4 : Int), nb, nks)) rfl ?_; intro g3 w1 hb hx hg; have Y_1 := Lib.hid (belowThen Y_0.out (Nat.le_refl _) hx); have Z_1 := Lib.hid (belowThen Z_0.out (Nat.le_refl _) hx); have WL_1 := Lib.hid (SliceOf.below WL_0.out hx); have B3_1 := Lib.hid hb; clear hb hx hg Y_0 Z_0 WL_0) | (refine wpList_box rfl 26 _ rfl (ndC xu) rfl ?_; intro g5 w2 hb hx hg; have Y_2 := Lib.hid (belowThen Y_1.out (Nat.le_refl _) hx); have Z_2 := Lib.hid (belowThen Z_1.out (Nat.le_refl _) hx); have WL_2 := Lib.hid (SliceOf.below WL_1.out hx); have B3_2 := Lib.hid (B3_1.out.below hx); have B5_2 := Lib.hid hb; clear hb hx hg Y_1 Z_1 WL_1 B3_1) | (refine Agg.wpList_zero rfl 26 rfl (ndC ndZ) nd_zero ?_; intro g6 w3 hb hx hg; have HG6 := Lib.hid (show w.heap.size ≤ g6 from Nat.le_trans Y_2.out.size hg); have HNE := Lib.hid (show g3 ≠ g6 ∧ g5 ≠ g6 from ⟨fun e => (by have := B3_2.out.lt; omega), fun e => (by have := B5_2.out.lt; omega)⟩); have Y_3 := Lib.hid (belowThen Y_2.out (Nat.le_refl _) hx); have Z_3 := Lib.hid (belowThen Z_2.out (Nat.le_refl _) hx); have WL_3 := Lib.hid (SliceOf.below WL_2.out hx); have B3_3 := Lib.hid (B3_2.out.below hx); have B5_3 := Lib.hid (B5_2.out.below hx); have R6_3 := Lib.hid hb; clear hb hx hg Y_2 Z_2 WL_2 B3_2 B5_2) | (with_reducible refine wpList_loadL (NdL.of_blk B3_3.out).kind rfl _ rfl rfl ?_) | (with_reducible refine wpList_build1 26 0 _ rfl rfl (.int .i64 4) rfl (.agg (ndC (4, svN, svN))) (nd_buildW _) ?_) | (refine wpList_new rfl rfl rfl 26 8 20 rfl rfl rfl (by decide) (ndC ndZ) (ndC ((4 : Int), svN, svN)) nd_zero (rfl) (nd_info _) (ndC_one _) rfl (by first | (simp; done) | simp [Act.put]) ?_; intro g8 w4 hb hx hg; have Y_4 := Lib.hid (belowThen Y_3.out (Nat.le_refl _) hx); have Z_4 := Lib.hid (belowThen Z_3.out (Nat.le_refl _) hx); have WL_4 := Lib.hid (SliceOf.below WL_3.out hx); have B3_4 := Lib.hid (B3_3.out.below hx); have B5_4 := Lib.hid (B5_3.out.below hx); have R6_4 := Lib.hid (R6_3.out.below hx); have B8_4 := Lib.hid (hb); have HN8 := Lib.hid (show w.heap.size ≤ g8 ∧ g3 ≠ g8 ∧ g5 ≠ g8 ∧ g6 ≠ g8 from ⟨Nat.le_trans Y_3.out.size hg, fun e => (by have := B3_3.out.lt; omega), fun e => (by have := B5_3.out.lt; omega), fun e => (by have := R6_3.out.lt; omega)⟩); clear hb hx hg Y_3 Z_3 WL_3 B3_3 B5_3 R6_3))
   have HNA := Lib.hid (names_load WL_4.out HADR.out)
   try simp only [List.append_eq, List.cons_append, List.nil_append]
   try simp only [Act.put, List.setIfInBounds_toArray, List.set_cons_succ, List.set_cons_zero]
   refine Agg.wp_region_mid 4 5 (fun w' => ∃ x : Later w4, w' = x.w) (by kernel_rfl) (by kernel_rfl) ⟨⟨_, (Below.refl _ _).drew⟩, rfl⟩ ?_
   simp only [List.take_succ_cons, List.take_zero, List.drop_succ_cons, List.drop_zero]
   repeat (first | go_big_quiet_skip | ((first | (with_reducible refine wpQuiet_loadL (NdL.of_blk B3_4.out).all rfl _ rfl rfl ?_) | (with_reducible refine wpQuiet_loadL HNA.out rfl _ rfl rfl ?_)); simp only [Act.put, List.setIfInBounds_toArray, List.set_cons_succ, List.set_cons_zero]) | go_big_quiet_step (fail))
   refine wpQuiet_nil ?_
   intro _ hw'
   obtain ⟨x1, rfl⟩ := hw'
   obtain ⟨w5, hw9⟩ : ∃ W, W = x1.w := ⟨_, rfl⟩
   have hx : Below w4.heap.size w4 w5 := by rw [hw9]; exact x1.h
   rw [← hw9]
   clear hw9 x1 HNA
   have Y_5 := Lib.hid (belowThen Y_4.out (Nat.le_refl _) hx)
   have Z_5 := Lib.hid (belowThen Z_4.out (Nat.le_refl _) hx)
   have WL_5 := Lib.hid (SliceOf.below WL_4.out hx)
   have B3_5 := Lib.hid (B3_4.out.below hx)
   have B5_5 := Lib.hid (B5_4.out.below hx)
   have R6_5 := Lib.hid (R6_4.out.below hx)
   have B8_5 := Lib.hid (B8_4.out.below hx)
   clear hx Y_4 Z_4 WL_4 B3_4 B5_4 R6_4 B8_4
   go_wp2_with fail
   refine (rplace_any (.agg (ndC (4, nb, nks))) (.mk 4 b kl) a hll w5 ⟨_, rfl, NodeV.below Z_5.out _ _ HV.out⟩).mono ?_
   rintro e w6 ⟨i, rfl, ⟨hq9, hpi⟩, hx⟩
   have Y_6 := Lib.hid (belowThen Y_5.out (Nat.le_refl _) hx)
   have Z_6 := Lib.hid (belowThen Z_5.out (Nat.le_refl _) hx)
   have WL_6 := Lib.hid (SliceOf.below WL_5.out hx)
   have B3_6 := Lib.hid (B3_5.out.below hx)
   have B5_6 := Lib.hid (B5_5.out.below hx)
   have R6_6 := Lib.hid (R6_5.out.below hx)
   have B8_6 := Lib.hid (B8_5.out.below hx)
   clear hx hq9 Y_5 Z_5 WL_5 B3_5 B5_5 R6_5 B8_5
   go_wp2_with fail
   refine ⟨fun w' => w' = w6, rfl, ?_⟩
   repeat (first | go_big_quiet_skip | go_big_quiet_step (fail))
   refine wpQuiet_nil ?_
   intro wq hwq
   rw [show wq = w6 from hwq]
   clear hwq wq
   rcases hpi with ⟨q, z, hiq, hzq, hzn, hpl⟩ | ⟨hiq, hpl⟩
   ·have hgq : decide ((0 : Int) ≤ i) = true := decide_eq_true (by omega)
    subst hiq
    obtain ⟨y, hyk, hyz, hyn⟩ := HKV.out.at_ q z hzq
    obtain ⟨pk, hadk, hle⟩ := kid_at (HSL.out.below Z_6.out) q y hyk
    have HLN := Lib.hid hle.node.all
    obtain ⟨zn, zt⟩ := z
    obtain ⟨yn, yk⟩ := y
    have HZT := Lib.hid (show NodeV w0 yk zt ∧ ok zt = true from ⟨hyn, okL_mem HOK.out (List.mem_of_getElem? hzq)⟩)
    have HPL := Lib.hid (show (place kl a).getD dirT = zt by rw [show place kl a = some zt from hpl]; rfl)
    clear hyk hyz hyn hle hzq hzn hpl
    go_wp2_with (first | (with_reducible refine wpList_loadL (NdL.of_blk B3_6.out).kids rfl _ rfl rfl ?_) | (with_reducible refine wpList_loadL HLN.out rfl _ rfl rfl ?_) | (refine Agg.wpList_put rfl rfl 26 _ _ rfl g8 (ndC yk) (ndC ((4 : Int), svN, svN)) rfl rfl B8_6.out (nd_info _) rfl (ndC_one _) ?_; intro w40 hb hx hs9 hk9; have ho9 := Only.of_eq (S := (· = g8)) hx hs9 hk9 rfl; have Y_40 := Lib.hid (Y_6.out.trans (hx.mono HN8.out.1)); have Z_40 := Lib.hid (Z_6.out.trans (hx.mono (Nat.le_trans HZW.out HN8.out.1))); have WL_40 := Lib.hid (SliceOf.below HWL.out Y_40.out); have B8_40 := Lib.hid hb; have B3_40 := Lib.hid (Agg.Blk.keepO B3_6.out ho9 (fun e => by have := HN8.out; omega)); have B5_40 := Lib.hid (Agg.Blk.keepO B5_6.out ho9 (fun e => by have := HN8.out; omega)); have R6_40 := Lib.hid (Agg.Blk.keepO R6_6.out ho9 (fun e => by have := HN8.out; omega)); clear hb hx hs9 hk9 ho9))
    obtain ⟨PT, PB, hpp⟩ : ∃ x y, putR zt u l = (x, y) := ⟨_, _, rfl⟩
    have HCALL := Lib.hid (show ∀ W, Below w0.heap.size w0 W → SliceOf ES W vr l → Calls Tryd.prog 41 #[.agg (ndC yk), vr, .agg (ndC xu)] W fun e w' => ∃ x', e = .returned (.tuple #[.agg (ndC x'), .bool PB]) ∧ NewV w0 W.heap.size w' x' PT ∧ Below W.heap.size W w' from fun W h1 h2 => by
     have h := HIH.out zt u HZT.out.2 yk xu vr w0 W HZT.out.1 HU.out h2 HVC.out h1
     rwa [hpp] at h)
    have HRES := Lib.hid (show putR (.mk 4 b kl) u (a :: l) = (.mk 4 [] (withR a PT kl false), PB) by
     simp only [putR, T.kind, T.kids, if_true]
     rw [HPL.out, hpp])
    clear hpp
    have HEP := Lib.hid (enters_of Tryd.func41 (by kernel_rfl) rfl : ∀ args w, (callFunc 41 args).run Tryd.prog w = .ok (.enter 41 args) w)
    have HEW := Lib.hid (enters_of Tryd.func70 (by kernel_rfl) rfl : ∀ args w, (callFunc 70 args).run Tryd.prog w = .ok (.enter 70 args) w)
    refine Agg.wp_cutR (fun a0 a' w' => ∃ (g10 : Nat) (x2 : NdV), Blk w' g10 26 (ndC x2) ∧ w.heap.size ≤ g10 ∧ g10 ≠ g6 ∧ NewV w0 w.heap.size w' x2 PT ∧ Blk w' g3 26 (ndC (4, nb, nks)) ∧ Blk w' g6 26 (ndC ndZ) ∧ SliceOf ES w' vl (a :: l) ∧ Below w.heap.size w w' ∧ Below w0.heap.size w0 w' ∧ ExPut [34, 35, 36, 37, 38, 39, 40, 41] ((a0.put (some 10) (.pointer (some ⟨g10, 0, none⟩))).put (some 11) (.bool PB)) a') ?_ ?_
    ·try simp only [Act.put, List.setIfInBounds_toArray, List.set_cons_succ, List.set_cons_zero]
     obtain ⟨wa, hwa⟩ : ∃ X, X = w40.drew := ⟨_, rfl⟩
     have hda9 : Below w40.heap.size w40 wa := by rw [hwa]; exact (Below.refl _ _).drew
     have B_ := Lib.hid (B3_40.out.below hda9)
     have U_ := Lib.hid (B5_40.out.below hda9)
     have R_ := Lib.hid (R6_40.out.below hda9)
     have G_ := Lib.hid (B8_40.out.below hda9)
     have V_ := Lib.hid (SliceOf.below WL_40.out hda9)
     have Y_ := Lib.hid (belowThen Y_40.out (Nat.le_refl _) hda9)
     have Z_ := Lib.hid (belowThen Z_40.out (Nat.le_refl _) hda9)
     refine wp_region_held_drew (S := fun W => Blk W g8 26 (ndC yk) ∧ Blk W g5 26 (ndC xu)) (by kernel_rfl) (by rw [← hwa]; exact ⟨G_.out, U_.out⟩) (fun hHeld => ?_)
     rw [← hwa] at hHeld ⊢
     clear hwa hda9
     refine held_take 0 (.agg (ndC yk)) rfl (by kernel_rfl) (fun _ _ _ h => h) rfl (fun W hS => exec_loadB rfl rfl (NdL.of_blk hS.1).all.now) (by assumption) ?_
     try simp only [Act.put, List.setIfInBounds_toArray, List.set_cons_succ, List.set_cons_zero]
     refine held_take 1 (vl) rfl (by kernel_rfl) (fun _ _ _ h => h) rfl (fun W _ => by first | kernel_rfl | rfl | simp [execOp]) (by assumption) ?_
     try simp only [Act.put, List.setIfInBounds_toArray, List.set_cons_succ, List.set_cons_zero]
     refine held_take 2 (vr) rfl (by kernel_rfl) (fun _ _ _ h => h) rfl (fun W _ => exec_sliceN rfl rfl rfl (HVR.out W)) (by assumption) ?_
     try simp only [Act.put, List.setIfInBounds_toArray, List.set_cons_succ, List.set_cons_zero]
     refine held_take 3 (.agg (ndC xu)) rfl (by kernel_rfl) (fun _ _ _ h => h) rfl (fun W hS => exec_loadB rfl rfl (NdL.of_blk hS.2).all.now) (by assumption) ?_
     try simp only [Act.put, List.setIfInBounds_toArray, List.set_cons_succ, List.set_cons_zero]
     refine held_ready [4, 8] (by kernel_rfl) (by simp) ?_
     refine held_cons rfl ?_ ?_
     ·refine step_call rfl 41 _ _ rfl #[.agg (ndC yk), vr, .agg (ndC xu)] (by simp only [List.map_toArray, List.map_cons, List.map_nil]; rfl) (fun W => HEP.out _ W) ?_
      refine (HCALL.out _ Z_.out (HVS.out _ V_.out)).mono ?_
      rintro e wa_4 ⟨x2, rfl, hnv, hx⟩
      have T_4 := Lib.hid (hnv.lower Y_.out.size)
      have B_4 := Lib.hid (B_.out.below hx)
      have U_4 := Lib.hid (U_.out.below hx)
      have R_4 := Lib.hid (R_.out.below hx)
      have G_4 := Lib.hid (G_.out.below hx)
      have V_4 := Lib.hid (SliceOf.below V_.out hx)
      have Y_4 := Lib.hid (belowThen Y_.out (Nat.le_refl _) hx)
      have Z_4 := Lib.hid (belowThen Z_.out (Nat.le_refl _) hx)
      have hS_4 : Blk wa_4 g8 26 (ndC yk) ∧ Blk wa_4 g5 26 (ndC xu) := ⟨G_4.out, U_4.out⟩
      clear hx hnv
      refine ⟨_, rfl, ?_⟩
      refine ⟨hS_4, ?_⟩
      try simp only [Act.put, List.setIfInBounds_toArray, List.set_cons_succ, List.set_cons_zero]
      refine held_take 5 (.tuple #[.agg (ndC x2), .bool PB]) rfl (by kernel_rfl) (fun _ _ _ h => h) rfl (fun W _ => by first | kernel_rfl | rfl | simp [execOp]) (by assumption) ?_
      try simp only [Act.put, List.setIfInBounds_toArray, List.set_cons_succ, List.set_cons_zero]
      refine held_take 6 (.agg (ndC x2)) rfl (by kernel_rfl) (fun _ _ _ h => h) rfl (fun W _ => by first | kernel_rfl | rfl | simp [execOp]) (by assumption) ?_
      try simp only [Act.put, List.setIfInBounds_toArray, List.set_cons_succ, List.set_cons_zero]
      refine held_take 7 (.bool PB) rfl (by kernel_rfl) (fun _ _ _ h => h) rfl (fun W _ => by first | kernel_rfl | rfl | simp [execOp]) (by assumption) ?_
      try simp only [Act.put, List.setIfInBounds_toArray, List.set_cons_succ, List.set_cons_zero]
      refine held_one 8 rfl (by kernel_rfl) ?_
      refine step_zero rfl 26 rfl (ndC ndZ) nd_zero ?_
      intro g10 Zc hb hx hg
      have Ze := Lib.hid hb
      have HGG := Lib.hid (show w.heap.size ≤ g10 ∧ g3 ≠ g10 ∧ g5 ≠ g10 ∧ g6 ≠ g10 ∧ g8 ≠ g10 from ⟨Nat.le_trans Y_4.out.size hg, fun e => (by have := B_4.out.lt; omega), fun e => (by have := U_4.out.lt; omega), fun e => (by have := R_4.out.lt; omega), fun e => (by have := G_4.out.lt; omega)⟩)
      have Zu := Lib.hid (T_4.out.below hx)
      have Zv := Lib.hid (B_4.out.below hx)
      have Zg := Lib.hid (U_4.out.below hx)
      have Zt := Lib.hid (R_4.out.below hx)
      have Zf := Lib.hid (G_4.out.below hx)
      have Z4 := Lib.hid (SliceOf.below V_4.out hx)
      have Zx := Lib.hid (belowThen Y_4.out (Nat.le_refl _) hx)
      have Zs := Lib.hid (belowThen Z_4.out (Nat.le_refl _) hx)
      have Zq : Blk Zc g8 26 (ndC yk) ∧ Blk Zc g5 26 (ndC xu) := ⟨Zf.out, Zg.out⟩
      clear hb hx hg
      refine ⟨Zq, ?_⟩
      try simp only [Act.put, List.setIfInBounds_toArray, List.set_cons_succ, List.set_cons_zero]
      refine held_one 9 rfl (by kernel_rfl) ?_
      refine step_put rfl rfl 26 _ _ rfl g10 (ndC x2) (ndC ndZ) rfl rfl Ze.out (nd_info _) rfl (ndC_one _) ?_
      intro Za hb hx hs hk9
      have ho := Only.of_eq (S := (· = g10)) hx hs hk9 rfl
      have Zj := Lib.hid (Zu.out.onlyN ho Ze.out)
      have Zm := Lib.hid hb
      have Zn := Lib.hid (Agg.Blk.keepO Zv.out ho (fun e => HGG.out.2.1 e))
      have Zp := Lib.hid (Agg.Blk.keepO Zg.out ho (fun e => HGG.out.2.2.1 e))
      have Zo := Lib.hid (Agg.Blk.keepO Zt.out ho (fun e => HGG.out.2.2.2.1 e))
      have Zi := Lib.hid (Agg.Blk.keepO Zf.out ho (fun e => HGG.out.2.2.2.2 e))
      have Zb := Lib.hid (Zx.out.trans (hx.mono HGG.out.1))
      have Zk := Lib.hid (Zs.out.trans (hx.mono (Nat.le_trans HZW.out HGG.out.1)))
      have Zh := Lib.hid (SliceOf.below HWL.out Zb.out)
      clear hb hx hs hk9 ho
      have Zd : Blk Za g8 26 (ndC yk) ∧ Blk Za g5 26 (ndC xu) := ⟨Zi.out, Zp.out⟩
      refine ⟨Zd, ?_⟩
      try simp only [Act.put, List.setIfInBounds_toArray, List.set_cons_succ, List.set_cons_zero]
      refine held_take 10 (.bool PB) rfl (by kernel_rfl) (fun _ _ _ h => h) rfl (fun W _ => by first | kernel_rfl | rfl | simp [execOp]) (by assumption) ?_
      try simp only [Act.put, List.setIfInBounds_toArray, List.set_cons_succ, List.set_cons_zero]
      refine held_end (by kernel_rfl) ?_
      simp only [ExPut, Act.put, List.setIfInBounds_toArray, List.set_cons_succ, List.set_cons_zero]
      exact ⟨g10, x2, Zm.out, HGG.out.1, fun e => HGG.out.2.2.2.1 e.symm, Zj.out, Zn.out, Zo.out, Zh.out, Zb.out, Zk.out, _, _, _, _, _, _, _, _, rfl⟩
     refine held_cons rfl ?_ ?_
     ·refine step_zero rfl 26 rfl (ndC ndZ) nd_zero ?_
      intro g10 wa_8 hb hx hg
      have N_8 := Lib.hid hb
      have HGG := Lib.hid (show w.heap.size ≤ g10 ∧ g3 ≠ g10 ∧ g5 ≠ g10 ∧ g6 ≠ g10 ∧ g8 ≠ g10 from ⟨Nat.le_trans Y_.out.size hg, fun e => (by have := B_.out.lt; omega), fun e => (by have := U_.out.lt; omega), fun e => (by have := R_.out.lt; omega), fun e => (by have := G_.out.lt; omega)⟩)
      have B_8 := Lib.hid (B_.out.below hx)
      have U_8 := Lib.hid (U_.out.below hx)
      have R_8 := Lib.hid (R_.out.below hx)
      have G_8 := Lib.hid (G_.out.below hx)
      have V_8 := Lib.hid (SliceOf.below V_.out hx)
      have Y_8 := Lib.hid (belowThen Y_.out (Nat.le_refl _) hx)
      have Z_8 := Lib.hid (belowThen Z_.out (Nat.le_refl _) hx)
      have hS_8 : Blk wa_8 g8 26 (ndC yk) ∧ Blk wa_8 g5 26 (ndC xu) := ⟨G_8.out, U_8.out⟩
      clear hb hx hg
      refine ⟨hS_8, ?_⟩
      try simp only [Act.put, List.setIfInBounds_toArray, List.set_cons_succ, List.set_cons_zero]
      refine held_one 4 rfl (by kernel_rfl) ?_
      refine step_call rfl 41 _ _ rfl #[.agg (ndC yk), vr, .agg (ndC xu)] (by simp only [List.map_toArray, List.map_cons, List.map_nil]; rfl) (fun W => HEP.out _ W) ?_
      refine (HCALL.out _ Z_8.out (HVS.out _ V_8.out)).mono ?_
      rintro e Zc ⟨x2, rfl, hnv, hx⟩
      have Zu := Lib.hid (hnv.lower Y_8.out.size)
      have Ze := Lib.hid (N_8.out.below hx)
      have Zv := Lib.hid (B_8.out.below hx)
      have Zg := Lib.hid (U_8.out.below hx)
      have Zt := Lib.hid (R_8.out.below hx)
      have Zf := Lib.hid (G_8.out.below hx)
      have Z4 := Lib.hid (SliceOf.below V_8.out hx)
      have Zx := Lib.hid (belowThen Y_8.out (Nat.le_refl _) hx)
      have Zs := Lib.hid (belowThen Z_8.out (Nat.le_refl _) hx)
      have Zq : Blk Zc g8 26 (ndC yk) ∧ Blk Zc g5 26 (ndC xu) := ⟨Zf.out, Zg.out⟩
      clear hx hnv
      refine ⟨_, rfl, ?_⟩
      refine ⟨Zq, ?_⟩
      try simp only [Act.put, List.setIfInBounds_toArray, List.set_cons_succ, List.set_cons_zero]
      refine held_take 5 (.tuple #[.agg (ndC x2), .bool PB]) rfl (by kernel_rfl) (fun _ _ _ h => h) rfl (fun W _ => by first | kernel_rfl | rfl | simp [execOp]) (by assumption) ?_
      try simp only [Act.put, List.setIfInBounds_toArray, List.set_cons_succ, List.set_cons_zero]
      refine held_take 6 (.agg (ndC x2)) rfl (by kernel_rfl) (fun _ _ _ h => h) rfl (fun W _ => by first | kernel_rfl | rfl | simp [execOp]) (by assumption) ?_
      try simp only [Act.put, List.setIfInBounds_toArray, List.set_cons_succ, List.set_cons_zero]
      refine held_take 7 (.bool PB) rfl (by kernel_rfl) (fun _ _ _ h => h) rfl (fun W _ => by first | kernel_rfl | rfl | simp [execOp]) (by assumption) ?_
      try simp only [Act.put, List.setIfInBounds_toArray, List.set_cons_succ, List.set_cons_zero]
      refine held_one 9 rfl (by kernel_rfl) ?_
      refine step_put rfl rfl 26 _ _ rfl g10 (ndC x2) (ndC ndZ) rfl rfl Ze.out (nd_info _) rfl (ndC_one _) ?_
      intro Za hb hx hs hk9
      have ho := Only.of_eq (S := (· = g10)) hx hs hk9 rfl
      have Zj := Lib.hid (Zu.out.onlyN ho Ze.out)
      have Zm := Lib.hid hb
      have Zn := Lib.hid (Agg.Blk.keepO Zv.out ho (fun e => HGG.out.2.1 e))
      have Zp := Lib.hid (Agg.Blk.keepO Zg.out ho (fun e => HGG.out.2.2.1 e))
      have Zo := Lib.hid (Agg.Blk.keepO Zt.out ho (fun e => HGG.out.2.2.2.1 e))
      have Zi := Lib.hid (Agg.Blk.keepO Zf.out ho (fun e => HGG.out.2.2.2.2 e))
      have Zb := Lib.hid (Zx.out.trans (hx.mono HGG.out.1))
      have Zk := Lib.hid (Zs.out.trans (hx.mono (Nat.le_trans HZW.out HGG.out.1)))
      have Zh := Lib.hid (SliceOf.below HWL.out Zb.out)
      clear hb hx hs hk9 ho
      have Zd : Blk Za g8 26 (ndC yk) ∧ Blk Za g5 26 (ndC xu) := ⟨Zi.out, Zp.out⟩
      refine ⟨Zd, ?_⟩
      try simp only [Act.put, List.setIfInBounds_toArray, List.set_cons_succ, List.set_cons_zero]
      refine held_take 10 (.bool PB) rfl (by kernel_rfl) (fun _ _ _ h => h) rfl (fun W _ => by first | kernel_rfl | rfl | simp [execOp]) (by assumption) ?_
      try simp only [Act.put, List.setIfInBounds_toArray, List.set_cons_succ, List.set_cons_zero]
      refine held_end (by kernel_rfl) ?_
      simp only [ExPut, Act.put, List.setIfInBounds_toArray, List.set_cons_succ, List.set_cons_zero]
      exact ⟨g10, x2, Zm.out, HGG.out.1, fun e => HGG.out.2.2.2.1 e.symm, Zj.out, Zn.out, Zo.out, Zh.out, Zb.out, Zk.out, _, _, _, _, _, _, _, _, rfl⟩
     exact AllReadyH.nil
    ·rintro a' wc ⟨g10, x2, h1, h2, h3, h4, h5, h6, h7, h8, h9, hex⟩
     simp only [ExPut, Act.put, List.setIfInBounds_toArray, List.set_cons_succ, List.set_cons_zero] at hex
     obtain ⟨y34, y35, y36, y37, y38, y39, y40, y41, rfl⟩ := hex
     have N0 := Lib.hid h1
     have HG0 := Lib.hid h2
     have HGX := Lib.hid h3
     have T0 := Lib.hid h4
     have B0 := Lib.hid h5
     have R0 := Lib.hid h6
     have V0 := Lib.hid h7
     have Y0 := Lib.hid h8
     have Z0 := Lib.hid h9
     clear h1 h2 h3 h4 h5 h6 h7 h8 h9
     go_wp2_with fail
     refine Agg.wp_cutR (fun a0 a' w' => ∃ xr : NdV, Blk w' g6 26 (ndC xr) ∧ NewV w0 w.heap.size w' xr (.mk 4 [] (withR a PT kl false)) ∧ Below w.heap.size w w' ∧ ExPut [42, 43, 44, 45, 46, 47, 48] (a0.put (some 7) (.bool PB)) a') ?_ ?_
     ·try simp only [Act.put, List.setIfInBounds_toArray, List.set_cons_succ, List.set_cons_zero]
      obtain ⟨wa, hwa⟩ : ∃ X, X = wc.drew := ⟨_, rfl⟩
      have hda9 : Below wc.heap.size wc wa := by rw [hwa]; exact (Below.refl _ _).drew
      have N_ := Lib.hid (N0.out.below hda9)
      have B_ := Lib.hid (B0.out.below hda9)
      have R_ := Lib.hid (R0.out.below hda9)
      have T_ := Lib.hid (T0.out.below hda9)
      have V_ := Lib.hid (SliceOf.below V0.out hda9)
      have Y_ := Lib.hid (belowThen Y0.out (Nat.le_refl _) hda9)
      have Z_ := Lib.hid (belowThen Z0.out (Nat.le_refl _) hda9)
      refine wp_region_held_drew (S := fun W => Blk W g3 26 (ndC (4, nb, nks)) ∧ Blk W g10 26 (ndC x2) ∧ SliceOf ES W vl (a :: l)) (by kernel_rfl) (by rw [← hwa]; exact ⟨B_.out, N_.out, V_.out⟩) (fun hHeld => ?_)
      rw [← hwa] at hHeld ⊢
      clear hwa hda9
      refine held_take 0 (.agg (ndC (4, nb, nks))) rfl (by kernel_rfl) (fun _ _ _ h => h) rfl (fun W hS => exec_loadB rfl rfl (NdL.of_blk hS.1).all.now) (by assumption) ?_
      try simp only [Act.put, List.setIfInBounds_toArray, List.set_cons_succ, List.set_cons_zero]
      refine held_take 1 (vl) rfl (by kernel_rfl) (fun _ _ _ h => h) rfl (fun W _ => by first | kernel_rfl | rfl | simp [execOp]) (by assumption) ?_
      try simp only [Act.put, List.setIfInBounds_toArray, List.set_cons_succ, List.set_cons_zero]
      refine held_take 2 (.pointer (some pa)) rfl (by kernel_rfl) (fun _ _ _ h => h) rfl (fun W _ => exec_idx rfl rfl rfl (HADR.out W)) (by assumption) ?_
      try simp only [Act.put, List.setIfInBounds_toArray, List.set_cons_succ, List.set_cons_zero]
      refine held_take 3 (.string ⟨a.toArray⟩) rfl (by kernel_rfl) (fun _ _ _ h => h) rfl (fun W hS => exec_loadB rfl rfl (names_load hS.2.2 HADR.out).now) (by assumption) ?_
      try simp only [Act.put, List.setIfInBounds_toArray, List.set_cons_succ, List.set_cons_zero]
      refine held_take 4 (.agg (ndC x2)) rfl (by kernel_rfl) (fun _ _ _ h => h) rfl (fun W hS => exec_loadB rfl rfl (NdL.of_blk hS.2.1).all.now) (by assumption) ?_
      try simp only [Act.put, List.setIfInBounds_toArray, List.set_cons_succ, List.set_cons_zero]
      refine held_take 6 (.bool PB) rfl (by kernel_rfl) (fun _ _ _ h => h) rfl (fun W _ => by first | kernel_rfl | rfl | simp [execOp]) (by assumption) ?_
      try simp only [Act.put, List.setIfInBounds_toArray, List.set_cons_succ, List.set_cons_zero]
      refine held_one 5 rfl (by kernel_rfl) ?_
      refine step_call rfl 70 _ _ rfl #[.agg (ndC (4, nb, nks)), .string ⟨a.toArray⟩, .agg (ndC x2)] (by simp only [List.map_toArray, List.map_cons, List.map_nil]; rfl) (fun W => HEW.out _ W) ?_
      refine (rwith_any (fun y z => y.1 = z.1 ∧ NewV w0 w.heap.size wa y.2 z.2) (fun _ _ h => h.1) 4 nb nks ks kl x2 PT a hll wa (SliceOf.below HSL.out Z_.out) ((kidsv_all HKV.out).mono fun _ _ h => ⟨h.1, NewV.old h.2⟩) ⟨rfl, T_.out⟩).mono ?_
      rintro e wa_5 ⟨vk, kk, rfl, how, hall, hx⟩
      have Q_5 := Lib.hid (show NewV w0 w.heap.size wa_5 ((4 : Int), svN, vk) (.mk 4 [] (withR a PT kl false)) from .inr ⟨rfl, rfl, rfl, kk, how.lower Y_.out.size, newl_of (hall.mono fun _ _ h => ⟨h.1, h.2.below hx⟩)⟩)
      have N_5 := Lib.hid (N_.out.below hx)
      have B_5 := Lib.hid (B_.out.below hx)
      have R_5 := Lib.hid (R_.out.below hx)
      have V_5 := Lib.hid (SliceOf.below V_.out hx)
      have Y_5 := Lib.hid (belowThen Y_.out (Nat.le_refl _) hx)
      have hS_5 : Blk wa_5 g3 26 (ndC (4, nb, nks)) ∧ Blk wa_5 g10 26 (ndC x2) ∧ SliceOf ES wa_5 vl (a :: l) := ⟨B_5.out, N_5.out, V_5.out⟩
      clear hx how hall
      refine ⟨_, rfl, ?_⟩
      refine ⟨hS_5, ?_⟩
      try simp only [Act.put, List.setIfInBounds_toArray, List.set_cons_succ, List.set_cons_zero]
      refine held_one 7 rfl (by kernel_rfl) ?_
      refine step_put rfl rfl 26 _ _ rfl g6 (ndC ((4 : Int), svN, vk)) (ndC ndZ) rfl rfl R_5.out (nd_info _) rfl (ndC_one _) ?_
      intro Zr hb hx hs hk9
      have ho := Only.of_eq (S := (· = g6)) hx hs hk9 rfl
      have Z1 := Lib.hid (Q_5.out.onlyN ho R_5.out)
      have Z5 := Lib.hid hb
      have Z3 := Lib.hid (Agg.Blk.keepO B_5.out ho (fun e => HNE.out.1 e))
      have Z6 := Lib.hid (Agg.Blk.keepO N_5.out ho (fun e => HGX.out e))
      have Zy := Lib.hid (Y_5.out.trans (hx.mono HG6.out))
      have Z2 := Lib.hid (SliceOf.below HWL.out Zy.out)
      have Zz : Blk Zr g3 26 (ndC (4, nb, nks)) ∧ Blk Zr g10 26 (ndC x2) ∧ SliceOf ES Zr vl (a :: l) := ⟨Z3.out, Z6.out, Z2.out⟩
      clear hb hx hs hk9 ho
      refine ⟨Zz, ?_⟩
      try simp only [Act.put, List.setIfInBounds_toArray, List.set_cons_succ, List.set_cons_zero]
      refine held_take 8 (.bool PB) rfl (by kernel_rfl) (fun _ _ _ h => h) rfl (fun W _ => by first | kernel_rfl | rfl | simp [execOp]) (by assumption) ?_
      try simp only [Act.put, List.setIfInBounds_toArray, List.set_cons_succ, List.set_cons_zero]
      refine held_end (by kernel_rfl) ?_
      simp only [ExPut, Act.put, List.setIfInBounds_toArray, List.set_cons_succ, List.set_cons_zero]
      exact ⟨_, Z5.out, Z1.out, Zy.out, _, _, _, _, _, _, _, rfl⟩
     ·rintro a' wd ⟨xr, h1, h2, h3, hex⟩
      simp only [ExPut, Act.put, List.setIfInBounds_toArray, List.set_cons_succ, List.set_cons_zero] at hex
      obtain ⟨y42, y43, y44, y45, y46, y47, y48, rfl⟩ := hex
      have HE1 := Lib.hid h1
      have HE2 := Lib.hid h2
      have HE3 := Lib.hid h3
      clear h1 h2 h3
      go_wp2_with fail
      rw [HRES.out]
      first
       | exact post_row_tmp rfl rfl rfl HE1.out nd_under rfl (nd_info _) rfl ⟨xr, rfl, HE2.out, HE3.out⟩
       | exact post_row_tmp rfl rfl rfl HE1.out nd_under rfl (nd_info _) rfl ⟨xr.1, xr.2.1.1, xr.2.1.2, xr.2.2.1, xr.2.2.2, rfl, HE2.out, HE3.out⟩
   ·have hgq : decide ((0 : Int) ≤ i) = false := decide_eq_false (by omega)
    obtain ⟨yk, hyk⟩ : ∃ v : NdV, v = ((4 : Int), svN, svN) := ⟨_, rfl⟩
    obtain ⟨zt, hzt⟩ : ∃ t, t = dirT := ⟨_, rfl⟩
    have HZT := Lib.hid (show NodeV w0 yk zt ∧ ok zt = true by rw [hyk, hzt]; exact ⟨⟨rfl, SliceOf.nil _ _ _, [], SliceOf.nil _ _ _, trivial⟩, by decide +kernel⟩)
    have HPL := Lib.hid (show (place kl a).getD dirT = zt by rw [show place kl a = none from hpl, hzt]; rfl)
    have HB8 := B8_6.out
    rw [← hyk] at HB8
    clear hpl hyk hzt
    go_wp2_with fail
    clear B8_6
    have B8_6 := Lib.hid HB8
    clear HB8
    obtain ⟨PT, PB, hpp⟩ : ∃ x y, putR zt u l = (x, y) := ⟨_, _, rfl⟩
    have HCALL := Lib.hid (show ∀ W, Below w0.heap.size w0 W → SliceOf ES W vr l → Calls Tryd.prog 41 #[.agg (ndC yk), vr, .agg (ndC xu)] W fun e w' => ∃ x', e = .returned (.tuple #[.agg (ndC x'), .bool PB]) ∧ NewV w0 W.heap.size w' x' PT ∧ Below W.heap.size W w' from fun W h1 h2 => by
     have h := HIH.out zt u HZT.out.2 yk xu vr w0 W HZT.out.1 HU.out h2 HVC.out h1
     rwa [hpp] at h)
    have HRES := Lib.hid (show putR (.mk 4 b kl) u (a :: l) = (.mk 4 [] (withR a PT kl false), PB) by
     simp only [putR, T.kind, T.kids, if_true]
     rw [HPL.out, hpp])
    clear hpp
    have HEP := Lib.hid (enters_of Tryd.func41 (by kernel_rfl) rfl : ∀ args w, (callFunc 41 args).run Tryd.prog w = .ok (.enter 41 args) w)
    have HEW := Lib.hid (enters_of Tryd.func70 (by kernel_rfl) rfl : ∀ args w, (callFunc 70 args).run Tryd.prog w = .ok (.enter 70 args) w)
    refine Agg.wp_cutR (fun a0 a' w' => ∃ (g10 : Nat) (x2 : NdV), Blk w' g10 26 (ndC x2) ∧ w.heap.size ≤ g10 ∧ g10 ≠ g6 ∧ NewV w0 w.heap.size w' x2 PT ∧ Blk w' g3 26 (ndC (4, nb, nks)) ∧ Blk w' g6 26 (ndC ndZ) ∧ SliceOf ES w' vl (a :: l) ∧ Below w.heap.size w w' ∧ Below w0.heap.size w0 w' ∧ ExPut [34, 35, 36, 37, 38, 39, 40, 41] ((a0.put (some 10) (.pointer (some ⟨g10, 0, none⟩))).put (some 11) (.bool PB)) a') ?_ ?_
    ·try simp only [Act.put, List.setIfInBounds_toArray, List.set_cons_succ, List.set_cons_zero]
     obtain ⟨wa, hwa⟩ : ∃ X, X = w6.drew := ⟨_, rfl⟩
     have hda9 : Below w6.heap.size w6 wa := by rw [hwa]; exact (Below.refl _ _).drew
     have B_ := Lib.hid (B3_6.out.below hda9)
     have U_ := Lib.hid (B5_6.out.below hda9)
     have R_ := Lib.hid (R6_6.out.below hda9)
     have G_ := Lib.hid (B8_6.out.below hda9)
     have V_ := Lib.hid (SliceOf.below WL_6.out hda9)
     have Y_ := Lib.hid (belowThen Y_6.out (Nat.le_refl _) hda9)
     have Z_ := Lib.hid (belowThen Z_6.out (Nat.le_refl _) hda9)
     refine wp_region_held_drew (S := fun W => Blk W g8 26 (ndC yk) ∧ Blk W g5 26 (ndC xu)) (by kernel_rfl) (by rw [← hwa]; exact ⟨G_.out, U_.out⟩) (fun hHeld => ?_)
     rw [← hwa] at hHeld ⊢
     clear hwa hda9
     refine held_take 0 (.agg (ndC yk)) rfl (by kernel_rfl) (fun _ _ _ h => h) rfl (fun W hS => exec_loadB rfl rfl (NdL.of_blk hS.1).all.now) (by assumption) ?_
     try simp only [Act.put, List.setIfInBounds_toArray, List.set_cons_succ, List.set_cons_zero]
     refine held_take 1 (vl) rfl (by kernel_rfl) (fun _ _ _ h => h) rfl (fun W _ => by first | kernel_rfl | rfl | simp [execOp]) (by assumption) ?_
     try simp only [Act.put, List.setIfInBounds_toArray, List.set_cons_succ, List.set_cons_zero]
     refine held_take 2 (vr) rfl (by kernel_rfl) (fun _ _ _ h => h) rfl (fun W _ => exec_sliceN rfl rfl rfl (HVR.out W)) (by assumption) ?_
     try simp only [Act.put, List.setIfInBounds_toArray, List.set_cons_succ, List.set_cons_zero]
     refine held_take 3 (.agg (ndC xu)) rfl (by kernel_rfl) (fun _ _ _ h => h) rfl (fun W hS => exec_loadB rfl rfl (NdL.of_blk hS.2).all.now) (by assumption) ?_
     try simp only [Act.put, List.setIfInBounds_toArray, List.set_cons_succ, List.set_cons_zero]
     refine held_ready [4, 8] (by kernel_rfl) (by simp) ?_
     refine held_cons rfl ?_ ?_
     ·refine step_call rfl 41 _ _ rfl #[.agg (ndC yk), vr, .agg (ndC xu)] (by simp only [List.map_toArray, List.map_cons, List.map_nil]; rfl) (fun W => HEP.out _ W) ?_
      refine (HCALL.out _ Z_.out (HVS.out _ V_.out)).mono ?_
      rintro e wa_4 ⟨x2, rfl, hnv, hx⟩
      have T_4 := Lib.hid (hnv.lower Y_.out.size)
      have B_4 := Lib.hid (B_.out.below hx)
      have U_4 := Lib.hid (U_.out.below hx)
      have R_4 := Lib.hid (R_.out.below hx)
      have G_4 := Lib.hid (G_.out.below hx)
      have V_4 := Lib.hid (SliceOf.below V_.out hx)
      have Y_4 := Lib.hid (belowThen Y_.out (Nat.le_refl _) hx)
      have Z_4 := Lib.hid (belowThen Z_.out (Nat.le_refl _) hx)
      have hS_4 : Blk wa_4 g8 26 (ndC yk) ∧ Blk wa_4 g5 26 (ndC xu) := ⟨G_4.out, U_4.out⟩
      clear hx hnv
      refine ⟨_, rfl, ?_⟩
      refine ⟨hS_4, ?_⟩
      try simp only [Act.put, List.setIfInBounds_toArray, List.set_cons_succ, List.set_cons_zero]
      refine held_take 5 (.tuple #[.agg (ndC x2), .bool PB]) rfl (by kernel_rfl) (fun _ _ _ h => h) rfl (fun W _ => by first | kernel_rfl | rfl | simp [execOp]) (by assumption) ?_
      try simp only [Act.put, List.setIfInBounds_toArray, List.set_cons_succ, List.set_cons_zero]
      refine held_take 6 (.agg (ndC x2)) rfl (by kernel_rfl) (fun _ _ _ h => h) rfl (fun W _ => by first | kernel_rfl | rfl | simp [execOp]) (by assumption) ?_
      try simp only [Act.put, List.setIfInBounds_toArray, List.set_cons_succ, List.set_cons_zero]
      refine held_take 7 (.bool PB) rfl (by kernel_rfl) (fun _ _ _ h => h) rfl (fun W _ => by first | kernel_rfl | rfl | simp [execOp]) (by assumption) ?_
      try simp only [Act.put, List.setIfInBounds_toArray, List.set_cons_succ, List.set_cons_zero]
      refine held_one 8 rfl (by kernel_rfl) ?_
      refine step_zero rfl 26 rfl (ndC ndZ) nd_zero ?_
      intro g10 Zc hb hx hg
      have Ze := Lib.hid hb
      have HGG := Lib.hid (show w.heap.size ≤ g10 ∧ g3 ≠ g10 ∧ g5 ≠ g10 ∧ g6 ≠ g10 ∧ g8 ≠ g10 from ⟨Nat.le_trans Y_4.out.size hg, fun e => (by have := B_4.out.lt; omega), fun e => (by have := U_4.out.lt; omega), fun e => (by have := R_4.out.lt; omega), fun e => (by have := G_4.out.lt; omega)⟩)
      have Zu := Lib.hid (T_4.out.below hx)
      have Zv := Lib.hid (B_4.out.below hx)
      have Zg := Lib.hid (U_4.out.below hx)
      have Zt := Lib.hid (R_4.out.below hx)
      have Zf := Lib.hid (G_4.out.below hx)
      have Z4 := Lib.hid (SliceOf.below V_4.out hx)
      have Zx := Lib.hid (belowThen Y_4.out (Nat.le_refl _) hx)
      have Zs := Lib.hid (belowThen Z_4.out (Nat.le_refl _) hx)
      have Zq : Blk Zc g8 26 (ndC yk) ∧ Blk Zc g5 26 (ndC xu) := ⟨Zf.out, Zg.out⟩
      clear hb hx hg
      refine ⟨Zq, ?_⟩
      try simp only [Act.put, List.setIfInBounds_toArray, List.set_cons_succ, List.set_cons_zero]
      refine held_one 9 rfl (by kernel_rfl) ?_
      refine step_put rfl rfl 26 _ _ rfl g10 (ndC x2) (ndC ndZ) rfl rfl Ze.out (nd_info _) rfl (ndC_one _) ?_
      intro Za hb hx hs hk9
      have ho := Only.of_eq (S := (· = g10)) hx hs hk9 rfl
      have Zj := Lib.hid (Zu.out.onlyN ho Ze.out)
      have Zm := Lib.hid hb
      have Zn := Lib.hid (Agg.Blk.keepO Zv.out ho (fun e => HGG.out.2.1 e))
      have Zp := Lib.hid (Agg.Blk.keepO Zg.out ho (fun e => HGG.out.2.2.1 e))
      have Zo := Lib.hid (Agg.Blk.keepO Zt.out ho (fun e => HGG.out.2.2.2.1 e))
      have Zi := Lib.hid (Agg.Blk.keepO Zf.out ho (fun e => HGG.out.2.2.2.2 e))
      have Zb := Lib.hid (Zx.out.trans (hx.mono HGG.out.1))
      have Zk := Lib.hid (Zs.out.trans (hx.mono (Nat.le_trans HZW.out HGG.out.1)))
      have Zh := Lib.hid (SliceOf.below HWL.out Zb.out)
      clear hb hx hs hk9 ho
      have Zd : Blk Za g8 26 (ndC yk) ∧ Blk Za g5 26 (ndC xu) := ⟨Zi.out, Zp.out⟩
      refine ⟨Zd, ?_⟩
      try simp only [Act.put, List.setIfInBounds_toArray, List.set_cons_succ, List.set_cons_zero]
      refine held_take 10 (.bool PB) rfl (by kernel_rfl) (fun _ _ _ h => h) rfl (fun W _ => by first | kernel_rfl | rfl | simp [execOp]) (by assumption) ?_
      try simp only [Act.put, List.setIfInBounds_toArray, List.set_cons_succ, List.set_cons_zero]
      refine held_end (by kernel_rfl) ?_
      simp only [ExPut, Act.put, List.setIfInBounds_toArray, List.set_cons_succ, List.set_cons_zero]
      exact ⟨g10, x2, Zm.out, HGG.out.1, fun e => HGG.out.2.2.2.1 e.symm, Zj.out, Zn.out, Zo.out, Zh.out, Zb.out, Zk.out, _, _, _, _, _, _, _, _, rfl⟩
     refine held_cons rfl ?_ ?_
     ·refine step_zero rfl 26 rfl (ndC ndZ) nd_zero ?_
      intro g10 wa_8 hb hx hg
      have N_8 := Lib.hid hb
      have HGG := Lib.hid (show w.heap.size ≤ g10 ∧ g3 ≠ g10 ∧ g5 ≠ g10 ∧ g6 ≠ g10 ∧ g8 ≠ g10 from ⟨Nat.le_trans Y_.out.size hg, fun e => (by have := B_.out.lt; omega), fun e => (by have := U_.out.lt; omega), fun e => (by have := R_.out.lt; omega), fun e => (by have := G_.out.lt; omega)⟩)
      have B_8 := Lib.hid (B_.out.below hx)
      have U_8 := Lib.hid (U_.out.below hx)
      have R_8 := Lib.hid (R_.out.below hx)
      have G_8 := Lib.hid (G_.out.below hx)
      have V_8 := Lib.hid (SliceOf.below V_.out hx)
      have Y_8 := Lib.hid (belowThen Y_.out (Nat.le_refl _) hx)
      have Z_8 := Lib.hid (belowThen Z_.out (Nat.le_refl _) hx)
      have hS_8 : Blk wa_8 g8 26 (ndC yk) ∧ Blk wa_8 g5 26 (ndC xu) := ⟨G_8.out, U_8.out⟩
      clear hb hx hg
      refine ⟨hS_8, ?_⟩
      try simp only [Act.put, List.setIfInBounds_toArray, List.set_cons_succ, List.set_cons_zero]
      refine held_one 4 rfl (by kernel_rfl) ?_
      refine step_call rfl 41 _ _ rfl #[.agg (ndC yk), vr, .agg (ndC xu)] (by simp only [List.map_toArray, List.map_cons, List.map_nil]; rfl) (fun W => HEP.out _ W) ?_
      refine (HCALL.out _ Z_8.out (HVS.out _ V_8.out)).mono ?_
      rintro e Zc ⟨x2, rfl, hnv, hx⟩
      have Zu := Lib.hid (hnv.lower Y_8.out.size)
      have Ze := Lib.hid (N_8.out.below hx)
      have Zv := Lib.hid (B_8.out.below hx)
      have Zg := Lib.hid (U_8.out.below hx)
      have Zt := Lib.hid (R_8.out.below hx)
      have Zf := Lib.hid (G_8.out.below hx)
      have Z4 := Lib.hid (SliceOf.below V_8.out hx)
      have Zx := Lib.hid (belowThen Y_8.out (Nat.le_refl _) hx)
      have Zs := Lib.hid (belowThen Z_8.out (Nat.le_refl _) hx)
      have Zq : Blk Zc g8 26 (ndC yk) ∧ Blk Zc g5 26 (ndC xu) := ⟨Zf.out, Zg.out⟩
      clear hx hnv
      refine ⟨_, rfl, ?_⟩
      refine ⟨Zq, ?_⟩
      try simp only [Act.put, List.setIfInBounds_toArray, List.set_cons_succ, List.set_cons_zero]
      refine held_take 5 (.tuple #[.agg (ndC x2), .bool PB]) rfl (by kernel_rfl) (fun _ _ _ h => h) rfl (fun W _ => by first | kernel_rfl | rfl | simp [execOp]) (by assumption) ?_
      try simp only [Act.put, List.setIfInBounds_toArray, List.set_cons_succ, List.set_cons_zero]
      refine held_take 6 (.agg (ndC x2)) rfl (by kernel_rfl) (fun _ _ _ h => h) rfl (fun W _ => by first | kernel_rfl | rfl | simp [execOp]) (by assumption) ?_
      try simp only [Act.put, List.setIfInBounds_toArray, List.set_cons_succ, List.set_cons_zero]
      refine held_take 7 (.bool PB) rfl (by kernel_rfl) (fun _ _ _ h => h) rfl (fun W _ => by first | kernel_rfl | rfl | simp [execOp]) (by assumption) ?_
      try simp only [Act.put, List.setIfInBounds_toArray, List.set_cons_succ, List.set_cons_zero]
      refine held_one 9 rfl (by kernel_rfl) ?_
      refine step_put rfl rfl 26 _ _ rfl g10 (ndC x2) (ndC ndZ) rfl rfl Ze.out (nd_info _) rfl (ndC_one _) ?_
      intro Za hb hx hs hk9
      have ho := Only.of_eq (S := (· = g10)) hx hs hk9 rfl
      have Zj := Lib.hid (Zu.out.onlyN ho Ze.out)
      have Zm := Lib.hid hb
      have Zn := Lib.hid (Agg.Blk.keepO Zv.out ho (fun e => HGG.out.2.1 e))
      have Zp := Lib.hid (Agg.Blk.keepO Zg.out ho (fun e => HGG.out.2.2.1 e))
      have Zo := Lib.hid (Agg.Blk.keepO Zt.out ho (fun e => HGG.out.2.2.2.1 e))
      have Zi := Lib.hid (Agg.Blk.keepO Zf.out ho (fun e => HGG.out.2.2.2.2 e))
      have Zb := Lib.hid (Zx.out.trans (hx.mono HGG.out.1))
      have Zk := Lib.hid (Zs.out.trans (hx.mono (Nat.le_trans HZW.out HGG.out.1)))
      have Zh := Lib.hid (SliceOf.below HWL.out Zb.out)
      clear hb hx hs hk9 ho
      have Zd : Blk Za g8 26 (ndC yk) ∧ Blk Za g5 26 (ndC xu) := ⟨Zi.out, Zp.out⟩
      refine ⟨Zd, ?_⟩
      try simp only [Act.put, List.setIfInBounds_toArray, List.set_cons_succ, List.set_cons_zero]
      refine held_take 10 (.bool PB) rfl (by kernel_rfl) (fun _ _ _ h => h) rfl (fun W _ => by first | kernel_rfl | rfl | simp [execOp]) (by assumption) ?_
      try simp only [Act.put, List.setIfInBounds_toArray, List.set_cons_succ, List.set_cons_zero]
      refine held_end (by kernel_rfl) ?_
      simp only [ExPut, Act.put, List.setIfInBounds_toArray, List.set_cons_succ, List.set_cons_zero]
      exact ⟨g10, x2, Zm.out, HGG.out.1, fun e => HGG.out.2.2.2.1 e.symm, Zj.out, Zn.out, Zo.out, Zh.out, Zb.out, Zk.out, _, _, _, _, _, _, _, _, rfl⟩
     exact AllReadyH.nil
    ·rintro a' wc ⟨g10, x2, h1, h2, h3, h4, h5, h6, h7, h8, h9, hex⟩
     simp only [ExPut, Act.put, List.setIfInBounds_toArray, List.set_cons_succ, List.set_cons_zero] at hex
     obtain ⟨y34, y35, y36, y37, y38, y39, y40, y41, rfl⟩ := hex
     have N0 := Lib.hid h1
     have HG0 := Lib.hid h2
     have HGX := Lib.hid h3
     have T0 := Lib.hid h4
     have B0 := Lib.hid h5
     have R0 := Lib.hid h6
     have V0 := Lib.hid h7
     have Y0 := Lib.hid h8
     have Z0 := Lib.hid h9
     clear h1 h2 h3 h4 h5 h6 h7 h8 h9
     go_wp2_with fail
     refine Agg.wp_cutR (fun a0 a' w' => ∃ xr : NdV, Blk w' g6 26 (ndC xr) ∧ NewV w0 w.heap.size w' xr (.mk 4 [] (withR a PT kl false)) ∧ Below w.heap.size w w' ∧ ExPut [42, 43, 44, 45, 46, 47, 48] (a0.put (some 7) (.bool PB)) a') ?_ ?_
     ·try simp only [Act.put, List.setIfInBounds_toArray, List.set_cons_succ, List.set_cons_zero]
      obtain ⟨wa, hwa⟩ : ∃ X, X = wc.drew := ⟨_, rfl⟩
      have hda9 : Below wc.heap.size wc wa := by rw [hwa]; exact (Below.refl _ _).drew
      have N_ := Lib.hid (N0.out.below hda9)
      have B_ := Lib.hid (B0.out.below hda9)
      have R_ := Lib.hid (R0.out.below hda9)
      have T_ := Lib.hid (T0.out.below hda9)
      have V_ := Lib.hid (SliceOf.below V0.out hda9)
      have Y_ := Lib.hid (belowThen Y0.out (Nat.le_refl _) hda9)
      have Z_ := Lib.hid (belowThen Z0.out (Nat.le_refl _) hda9)
      refine wp_region_held_drew (S := fun W => Blk W g3 26 (ndC (4, nb, nks)) ∧ Blk W g10 26 (ndC x2) ∧ SliceOf ES W vl (a :: l)) (by kernel_rfl) (by rw [← hwa]; exact ⟨B_.out, N_.out, V_.out⟩) (fun hHeld => ?_)
      rw [← hwa] at hHeld ⊢
      clear hwa hda9
      refine held_take 0 (.agg (ndC (4, nb, nks))) rfl (by kernel_rfl) (fun _ _ _ h => h) rfl (fun W hS => exec_loadB rfl rfl (NdL.of_blk hS.1).all.now) (by assumption) ?_
      try simp only [Act.put, List.setIfInBounds_toArray, List.set_cons_succ, List.set_cons_zero]
      refine held_take 1 (vl) rfl (by kernel_rfl) (fun _ _ _ h => h) rfl (fun W _ => by first | kernel_rfl | rfl | simp [execOp]) (by assumption) ?_
      try simp only [Act.put, List.setIfInBounds_toArray, List.set_cons_succ, List.set_cons_zero]
      refine held_take 2 (.pointer (some pa)) rfl (by kernel_rfl) (fun _ _ _ h => h) rfl (fun W _ => exec_idx rfl rfl rfl (HADR.out W)) (by assumption) ?_
      try simp only [Act.put, List.setIfInBounds_toArray, List.set_cons_succ, List.set_cons_zero]
      refine held_take 3 (.string ⟨a.toArray⟩) rfl (by kernel_rfl) (fun _ _ _ h => h) rfl (fun W hS => exec_loadB rfl rfl (names_load hS.2.2 HADR.out).now) (by assumption) ?_
      try simp only [Act.put, List.setIfInBounds_toArray, List.set_cons_succ, List.set_cons_zero]
      refine held_take 4 (.agg (ndC x2)) rfl (by kernel_rfl) (fun _ _ _ h => h) rfl (fun W hS => exec_loadB rfl rfl (NdL.of_blk hS.2.1).all.now) (by assumption) ?_
      try simp only [Act.put, List.setIfInBounds_toArray, List.set_cons_succ, List.set_cons_zero]
      refine held_take 6 (.bool PB) rfl (by kernel_rfl) (fun _ _ _ h => h) rfl (fun W _ => by first | kernel_rfl | rfl | simp [execOp]) (by assumption) ?_
      try simp only [Act.put, List.setIfInBounds_toArray, List.set_cons_succ, List.set_cons_zero]
      refine held_one 5 rfl (by kernel_rfl) ?_
      refine step_call rfl 70 _ _ rfl #[.agg (ndC (4, nb, nks)), .string ⟨a.toArray⟩, .agg (ndC x2)] (by simp only [List.map_toArray, List.map_cons, List.map_nil]; rfl) (fun W => HEW.out _ W) ?_
      refine (rwith_any (fun y z => y.1 = z.1 ∧ NewV w0 w.heap.size wa y.2 z.2) (fun _ _ h => h.1) 4 nb nks ks kl x2 PT a hll wa (SliceOf.below HSL.out Z_.out) ((kidsv_all HKV.out).mono fun _ _ h => ⟨h.1, NewV.old h.2⟩) ⟨rfl, T_.out⟩).mono ?_
      rintro e wa_5 ⟨vk, kk, rfl, how, hall, hx⟩
      have Q_5 := Lib.hid (show NewV w0 w.heap.size wa_5 ((4 : Int), svN, vk) (.mk 4 [] (withR a PT kl false)) from .inr ⟨rfl, rfl, rfl, kk, how.lower Y_.out.size, newl_of (hall.mono fun _ _ h => ⟨h.1, h.2.below hx⟩)⟩)
      have N_5 := Lib.hid (N_.out.below hx)
      have B_5 := Lib.hid (B_.out.below hx)
      have R_5 := Lib.hid (R_.out.below hx)
      have V_5 := Lib.hid (SliceOf.below V_.out hx)
      have Y_5 := Lib.hid (belowThen Y_.out (Nat.le_refl _) hx)
      have hS_5 : Blk wa_5 g3 26 (ndC (4, nb, nks)) ∧ Blk wa_5 g10 26 (ndC x2) ∧ SliceOf ES wa_5 vl (a :: l) := ⟨B_5.out, N_5.out, V_5.out⟩
      clear hx how hall
      refine ⟨_, rfl, ?_⟩
      refine ⟨hS_5, ?_⟩
      try simp only [Act.put, List.setIfInBounds_toArray, List.set_cons_succ, List.set_cons_zero]
      refine held_one 7 rfl (by kernel_rfl) ?_
      refine step_put rfl rfl 26 _ _ rfl g6 (ndC ((4 : Int), svN, vk)) (ndC ndZ) rfl rfl R_5.out (nd_info _) rfl (ndC_one _) ?_
      intro Zr hb hx hs hk9
      have ho := Only.of_eq (S := (· = g6)) hx hs hk9 rfl
      have Z1 := Lib.hid (Q_5.out.onlyN ho R_5.out)
      have Z5 := Lib.hid hb
      have Z3 := Lib.hid (Agg.Blk.keepO B_5.out ho (fun e => HNE.out.1 e))
      have Z6 := Lib.hid (Agg.Blk.keepO N_5.out ho (fun e => HGX.out e))
      have Zy := Lib.hid (Y_5.out.trans (hx.mono HG6.out))
      have Z2 := Lib.hid (SliceOf.below HWL.out Zy.out)
      have Zz : Blk Zr g3 26 (ndC (4, nb, nks)) ∧ Blk Zr g10 26 (ndC x2) ∧ SliceOf ES Zr vl (a :: l) := ⟨Z3.out, Z6.out, Z2.out⟩
      clear hb hx hs hk9 ho
      refine ⟨Zz, ?_⟩
      try simp only [Act.put, List.setIfInBounds_toArray, List.set_cons_succ, List.set_cons_zero]
      refine held_take 8 (.bool PB) rfl (by kernel_rfl) (fun _ _ _ h => h) rfl (fun W _ => by first | kernel_rfl | rfl | simp [execOp]) (by assumption) ?_
      try simp only [Act.put, List.setIfInBounds_toArray, List.set_cons_succ, List.set_cons_zero]
      refine held_end (by kernel_rfl) ?_
      simp only [ExPut, Act.put, List.setIfInBounds_toArray, List.set_cons_succ, List.set_cons_zero]
      exact ⟨_, Z5.out, Z1.out, Zy.out, _, _, _, _, _, _, _, rfl⟩
     ·rintro a' wd ⟨xr, h1, h2, h3, hex⟩
      simp only [ExPut, Act.put, List.setIfInBounds_toArray, List.set_cons_succ, List.set_cons_zero] at hex
      obtain ⟨y42, y43, y44, y45, y46, y47, y48, rfl⟩ := hex
      have HE1 := Lib.hid h1
      have HE2 := Lib.hid h2
      have HE3 := Lib.hid h3
      clear h1 h2 h3
      go_wp2_with fail
      rw [HRES.out]
      first
       | exact post_row_tmp rfl rfl rfl HE1.out nd_under rfl (nd_info _) rfl ⟨xr, rfl, HE2.out, HE3.out⟩
       | exact post_row_tmp rfl rfl rfl HE1.out nd_under rfl (nd_info _) rfl ⟨xr.1, xr.2.1.1, xr.2.1.2, xr.2.2.1, xr.2.2.2, rfl, HE2.out, HE3.out⟩
end Go.Proofs.YtfiadgdinhmgbaaDoor
