/- What the law of chapter 20's answers wants: a resolved derivation lent; literals of four. -/
import Derived.Test.YtdebbmembkbniaaGreatTAL
import Derived.Test.YtdebbmembkbniaaGreatTAJ
import Derived.Test.YtdebbmembkbniaaGreatTAD
import Derived.Test.YtdebbmembkbniaaGreatTAM
namespace Go.Agg
open Go.RowKit
variable {P : Program}
theorem exec_build3K {o : Oper} {a : Act} {w : World} {ty : TypeId} {i j k : Nat} {x y z : Operand} {vx vy vz v : Value} (ho : o.op = .build ty #[(i, x), (j, y), (k, z)]) (hx : a.eval x = vx) (hy : a.eval y = vy) (hz : a.eval z = vz) (hr : (Instr.build ty #[(i, vx), (j, vy), (k, vz)]).run P w = .ok v w) : (execOp a.eval o).run P w = .ok (.value v) w := by
 simp [execOp, ho, hx, hy, hz, hr]
theorem step_slice0K {α : Type} {base : Nat} {ops : Array Oper} {o : Oper} {a : Act} {w : World} {Q : Exit → Act → World → Prop} {K : Act → World → Prop} {F : Prop} (E : Elem P α) (hg : o.guard = none) (ho : o.op = .buildSlice E.st 0 #[]) (hbase : base ≤ w.heap.size)
  (h : ∀ v' w', Own E base w' v' [] → Below w.heap.size w w' → K (a.put o.dst v') w') : if Region.wanted o (yielded ops a.tmps) = true then o.wp P a w K Q else F := by
 refine step_val hg (v := .slice (some ⟨w.heap.size, 0, none⟩) 0 0) (w' := w.alloc (.cells #[] E.ty)) ?_ (h _ _ ?_ ((Below.refl _ _).alloc (Nat.le_refl _) _))
 ·simp [execOp, ho, Instr.buildSlice, run_underlying E.slice, run_sizeOf_elem, newRow, Instr.fill]
  rw [show Array.range 0 = #[] by simp, Array.map_empty]
 ·exact ⟨by simp [Elem.flat], .inr ⟨_, 0, _, rfl, hbase, heap_alloc_new w _, Nat.le_refl _, by simp [maxLen], by simp, by simp [Elem.flat]⟩⟩
theorem own_put {α : Type} {E : Elem P α} {base g : Nat} {w w' : World} {v : Value} {l : List α} {t : TypeId} {cs : Array Value} (h : Own E base w v l) (hb : Blk w g t cs) (hne : t ≠ E.ty) (hk : ∀ k, k ≠ g → w'.heap[k]? = w.heap[k]?) : Own E base w' v l := by
 obtain ⟨h1, h2⟩ := h
 refine ⟨h1, ?_⟩
 rcases h2 with h2 | ⟨k, cap, cur, e1, e2, e3, e4⟩
 ·exact .inl h2
 ·refine .inr ⟨k, cap, cur, e1, e2, (hk k (fun e => ?_)).trans e3, e4⟩
  subst e
  unfold Blk at hb
  rw [hb] at e3
  injection e3 with e3
  injection e3 with _ e3
  exact hne e3
end Go.Agg
namespace Go.Proofs.YtdebbmembkbniaaGreat
open Go.RowKit Pl Go.Agg
theorem rs_build3 {n : List UInt8} {vi vr : Value} (hi : ∃ p m c, vi = .slice p m c) (hr : ∃ p m c, vr = .slice p m c) (W : World) : (Instr.build 25 #[(0, .string ⟨n.toArray⟩), (1, vi), (2, vr)]).run Tryz.prog W = .ok (.agg (rsC n vi vr)) W := by
 obtain ⟨p, m, c, rfl⟩ := hi
 obtain ⟨q, k, d, rfl⟩ := hr
 kernel_rfl
theorem rsC_oneF (n : List UInt8) {vi vr : Value} (hi : ∃ p m c, vi = .slice p m c) (hr : ∃ p m c, vr = .slice p m c) : (rsC n vi vr).all (·.oneCell') = true := by
 obtain ⟨p, m, c, rfl⟩ := hi
 obtain ⟨q, k, d, rfl⟩ := hr
 simp [rsC, Value.oneCell']
set_option maxRecDepth 100000 in
set_option maxHeartbeats 8000000 in
theorem lent20_any (v : Value) (r : Rv) (hil : r.2.1.length ≤ 1048576) (hrl : r.2.2.length ≤ 1048576) (w : World) (h : RvAt w v r) :
  Calls Tryz.prog 7 #[v] w fun e w' => ∃ ui ur, e = .returned (.agg (rsC r.1 ui ur)) ∧ Agg.Own ERi w.heap.size w' ui r.2.1 ∧ LentO EB (marks 1 12) w.heap.size w' ur r.2.2 ∧ Below w.heap.size w w' := by
 obtain ⟨vi, vr, rfl, hvi, hvr⟩ := h
 have HV := Lib.hid (And.intro hvi hvr)
 have HEL := Lib.hid (enters_of Tryz.func8 (by kernel_rfl) rfl : ∀ args w, (callFunc 8 args).run Tryz.prog w = .ok (.enter 8 args) w)
 clear hvi hvr
 go_enter Tryz.func7, Tryz.ntmps7
 go_wp2_with (first | (with_reducible refine wpList_box rfl 25 _ rfl (#[.string ⟨r.1.toArray⟩, vi, vr]) rfl ?_; intro g1 w1 hb hx1 hg; have HR1 := Lib.hid hb; have HX1 := Lib.hid hx1; clear hb hx1 hg) | (with_reducible refine wpList_zero rfl 25 rfl (rsC [] (.slice none 0 0) (.slice none 0 0)) rsC_zero ?_; intro g2 w2 hb hx hg; have HA0 := Lib.hid hb; have HR2 := Lib.hid (HR1.out.below hx); have HX2 := Lib.hid (belowThen HX1.out (Nat.le_refl _) hx); have HG2 := Lib.hid (Nat.le_trans HX1.out.size hg); have HN12 := Lib.hid (show g1 ≠ g2 from fun e => by have := HR1.out.lt; omega); clear hb hx hg))
 try simp only [Act.put, List.setIfInBounds_toArray, List.set_cons_succ, List.set_cons_zero]
 obtain ⟨w3, hwd⟩ : ∃ W, W = w2.drew := ⟨_, rfl⟩
 have hd : Below w2.heap.size w2 w3 := by rw [hwd]; exact (Below.refl _ _).drew
 have HB1 := Lib.hid (HR2.out.below hd)
 have HA2 := Lib.hid (HA0.out.below hd)
 have HX := Lib.hid (belowThen HX2.out (Nat.le_refl _) hd)
 refine wp_region_held_drew (S := fun W => Blk W g1 25 #[.string ⟨r.1.toArray⟩, vi, vr]) (by kernel_rfl) (by rw [← hwd]; exact HB1.out) (fun hHeld => ?_)
 rw [← hwd] at hHeld ⊢
 clear hwd hd
 refine held_take 0 (.pointer (some ⟨g1, 0, none⟩)) rfl (by kernel_rfl) (fun _ _ _ h => h) rfl (fun W _ => by kernel_rfl) (by assumption) ?_
 try simp only [Act.put, List.setIfInBounds_toArray, List.set_cons_succ, List.set_cons_zero]
 refine held_take 1 (.string ⟨r.1.toArray⟩) rfl (by kernel_rfl) (fun _ _ _ h => h) rfl (fun W hS => exec_loadC rfl rfl (RvB.of_blk hS).name.now) (by assumption) ?_
 try simp only [Act.put, List.setIfInBounds_toArray, List.set_cons_succ, List.set_cons_zero]
 refine held_take 3 (.pointer (some ⟨g1, 1, none⟩)) rfl (by kernel_rfl) (fun _ _ _ h => h) rfl (fun W _ => by kernel_rfl) (by assumption) ?_
 try simp only [Act.put, List.setIfInBounds_toArray, List.set_cons_succ, List.set_cons_zero]
 refine held_take 4 (vi) rfl (by kernel_rfl) (fun _ _ _ h => h) rfl (fun W hS => exec_loadC rfl rfl (RvB.of_blk hS).inp.now) (by assumption) ?_
 try simp only [Act.put, List.setIfInBounds_toArray, List.set_cons_succ, List.set_cons_zero]
 refine held_take 6 (.pointer (some ⟨g1, 2, none⟩)) rfl (by kernel_rfl) (fun _ _ _ h => h) rfl (fun W _ => by kernel_rfl) (by assumption) ?_
 try simp only [Act.put, List.setIfInBounds_toArray, List.set_cons_succ, List.set_cons_zero]
 refine held_take 7 (vr) rfl (by kernel_rfl) (fun _ _ _ h => h) rfl (fun W hS => exec_loadC rfl rfl (RvB.of_blk hS).rcp.now) (by assumption) ?_
 try simp only [Act.put, List.setIfInBounds_toArray, List.set_cons_succ, List.set_cons_zero]
 refine held_one 2 rfl (by kernel_rfl) ?_
 refine step_slice0K (base := w.heap.size) ERi rfl rfl HX.out.size ?_
 intro ue w_2 ho hx
 have HE_2 := Lib.hid ho
 have HB1_2 := Lib.hid (HB1.out.below hx)
 have HA2_2 := Lib.hid (HA2.out.below hx)
 have HX_2 := Lib.hid (belowThen HX.out (Nat.le_refl _) hx)
 clear ho hx
 refine ⟨HB1_2.out, ?_⟩
 try simp only [Act.put, List.setIfInBounds_toArray, List.set_cons_succ, List.set_cons_zero]
 refine held_one 5 rfl (by kernel_rfl) ?_
 refine Agg.step_appendS (E := ERi) (base := w.heap.size) rfl _ _ rfl vi rfl rfl r.2.1 HE_2.out (SliceOf.below HV.out.1 HX_2.out) (by simp; omega) (by decide) HX_2.out.size ?_
 intro ui Ze ho hp
 rw [List.nil_append] at ho
 have Zj := Lib.hid ho
 have HUF := Lib.hid (show ∃ p n c, ui = .slice p n c from (by obtain ⟨p, c, e⟩ := ho.slice.form; exact ⟨p, _, c, e⟩))
 have Zd := Lib.hid (show Blk Ze g1 25 #[.string ⟨r.1.toArray⟩, vi, vr] from hp.blk _ _ _ _ (by decide) HB1_2.out)
 have Zi := Lib.hid (show Blk Ze g2 25 (rsC [] (.slice none 0 0) (.slice none 0 0)) from hp.blk _ _ _ _ (by decide) HA2_2.out)
 have Zc := Lib.hid (HX_2.out.trans (hp.below w.heap.size (Nat.le_refl _) HX_2.out.size))
 clear ho hp
 refine ⟨Zd.out, ?_⟩
 try simp only [Act.put, List.setIfInBounds_toArray, List.set_cons_succ, List.set_cons_zero]
 refine held_one 8 rfl (by kernel_rfl) ?_
 refine step_call rfl 8 _ _ rfl #[vr] (by simp only [List.map_toArray, List.map_cons, List.map_nil]; rfl) (fun W => HEL.out _ W) ?_
 refine (lentBytes_own vr r.2.2 hrl Ze (SliceOf.below HV.out.2 Zc.out)).mono ?_
 rintro x w_2_5_8 ⟨ur, rfl, hx, hl⟩
 have Zh := Lib.hid (hl.lower Zc.out.size)
 have HRF := Lib.hid hl.form
 have Zb := Lib.hid (Zd.out.below hx)
 have Za := Lib.hid (Zi.out.below hx)
 have Zg := Lib.hid (Zj.out.below hx)
 have Zf := Lib.hid (belowThen Zc.out (Nat.le_refl _) hx)
 clear hx hl
 refine ⟨_, rfl, ?_⟩
 refine ⟨Zb.out, ?_⟩
 try simp only [Act.put, List.setIfInBounds_toArray, List.set_cons_succ, List.set_cons_zero]
 refine held_take 9 (.agg (rsC r.1 ui ur)) rfl (by kernel_rfl) (fun _ _ _ h => h) rfl (fun W _ => exec_build3K rfl rfl rfl rfl (rs_build3 HUF.out HRF.out W)) (by assumption) ?_
 try simp only [Act.put, List.setIfInBounds_toArray, List.set_cons_succ, List.set_cons_zero]
 refine held_one 10 rfl (by kernel_rfl) ?_
 refine step_put rfl rfl 25 _ _ rfl g2 (rsC r.1 ui ur) (rsC [] (.slice none 0 0) (.slice none 0 0)) rfl rfl Za.out (rsC_info _ _ _) (rsC_ss _ _ _ _ _ _) (rsC_oneF r.1 HUF.out HRF.out) ?_
 intro wz hbz hxz _ hkz
 have HBZ := Lib.hid hbz
 have HB1Z := Lib.hid (show Blk wz g1 25 _ from (hkz g1 HN12.out).trans Zb.out)
 have HXZ := Lib.hid (Zf.out.trans (hxz.mono HG2.out))
 have HOZ := Lib.hid (own_put Zg.out Za.out (by decide) hkz)
 have HLZ := Lib.hid (Zh.out.keepT (fun g cur fr hg => (hkz g (fun e => by subst e; have := Za.out; unfold Blk at this; rw [this] at hg; injection hg with hg; injection hg with _ h; exact absurd h (by decide))).trans hg))
 clear hbz hxz hkz
 refine ⟨HB1Z.out, ?_⟩
 try simp only [Act.put, List.setIfInBounds_toArray, List.set_cons_succ, List.set_cons_zero]
 refine held_end (by kernel_rfl) ?_
 go_wp2_with fail
 exact post_row rfl rfl HBZ.out rv_under rfl (rsC_info _ _ _) rfl ⟨ui, ur, rfl, HOZ.out, HLZ.out, HXZ.out⟩
end Go.Proofs.YtdebbmembkbniaaGreat
