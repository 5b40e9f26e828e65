/- text.reader: what it has read; an input is taken. -/
import Derived.Test.YtnlilmiakddlaaaBAJ
import Derived.Test.YtnlilmiakddlaaaBAK
import Derived.Test.YtnlilmiakddlaaaBAL
namespace Go.Agg
open Go.RowKit
/-- a step of a reader at g: lists of inputs, bytes, and its own block alone are written -/
structure RStep (t1 t2 : TypeId) (g : Nat) (w w' : World) : Prop where
  size : w.heap.size ≤ w'.heap.size
  cells : ∀ (k : Nat) (t : TypeId) (cs : Array Value) (fr : Nat × Nat), t ≠ t1 → t ≠ t2 → k ≠ g → w.heap[k]? = some (.cells cs t fr) → w'.heap[k]? = some (.cells cs t fr)
  other : ∀ (k : Nat) (o : Obj), w.heap[k]? = some o → o.isCells = false → w'.heap[k]? = some o
section
variable {t1 t2 : TypeId} {g : Nat} {a b c w w' : World} {P : Program} {α : Type} {E : Elem P α} {base : Nat} {v : Value} {l : List α}
theorem RStep.refl (w : World) : RStep t1 t2 g w w := ⟨Nat.le_refl _, fun _ _ _ _ _ _ _ h => h, fun _ _ h _ => h⟩
theorem RStep.trans (h : RStep t1 t2 g a b) (k : RStep t1 t2 g b c) : RStep t1 t2 g a c :=
  ⟨Nat.le_trans h.size k.size, fun i t cs fr h1 h2 h3 h4 => k.cells i t cs fr h1 h2 h3 (h.cells i t cs fr h1 h2 h3 h4), fun i o h1 h2 => k.other i o (h.other i o h1 h2) h2⟩
theorem RStep.below (h : Below w.heap.size w w') : RStep t1 t2 g w w' := ⟨h.size, fun _ _ _ _ _ _ _ hk => keep' h hk, fun k _ hk _ => (h.block k (heap_lt hk)).trans hk⟩
theorem RStep.pushed (ho : Own E base w v l) (h : Pushed E base w w' v) (ht : E.ty = t1 ∨ E.ty = t2) : RStep t1 t2 g w w' :=
  ⟨h.size, fun k t cs fr h1 h2 _ hk => h.blk k t cs fr (by rcases ht with e | e <;> rw [e] <;> assumption) hk, fun k o hk hc => by
    refine (h.other k (heap_lt hk) fun e => ?_).trans hk
    obtain ⟨_, cur, hcur⟩ := ho.block k e.symm
    rw [hk] at hcur
    cases hcur
    cases hc⟩
theorem RStep.only {cs : Array Value} {t : TypeId} (hb : Blk w g t cs) (h : Only (· = g) w w') : RStep t1 t2 g w w' :=
  ⟨h.size, fun k t cs fr _ _ hk hc => (h.block k (heap_lt hc) hk).trans hc, fun k o hk hc => by
    refine (h.block k (heap_lt hk) fun e => ?_).trans hk
    subst e
    rw [show w.heap[k]? = _ from hb] at hk
    cases hk
    cases hc⟩
theorem Own.typed (h : Own E base w v l) (hk : ∀ (g : Nat) (cur : Array Value) (fr : Nat × Nat), w.heap[g]? = some (Obj.cells cur E.ty fr) → w'.heap[g]? = some (Obj.cells cur E.ty fr)) : Own E base w' v l := by
  obtain ⟨hfl, h | ⟨g, cap, cur, hv, hb, hc, hr⟩⟩ := h
  · exact ⟨hfl, .inl h⟩
  · exact ⟨hfl, .inr ⟨g, cap, cur, hv, hb, hk g cur _ hc, hr⟩⟩
end
end Go.Agg
namespace Go.Proofs.Ytnlilmiakddlaaa
open Go.RowKit Pl Go.Agg
def rdC (n : List UInt8) (vi vr : Value) (e : Bool) : Array Value := #[.string ⟨n.toArray⟩, vi, vr, .bool e]
/-- what a reader at g has read; all of it lies at or above B -/
def RdV (B g : Nat) (w : World) (d : Drv) (en : Bool) : Prop :=
  B ≤ g ∧ ∃ vi vr : Value, Blk w g 71 (rdC d.1 vi vr en) ∧ Agg.Own ENm B w vi d.2.1 ∧ Agg.Own EB B w vr d.2.2
abbrev RSt (g : Nat) (w w' : World) : Prop := RStep 44 5 g w w'
theorem RdV.below {B g : Nat} {w w' : World} {d : Drv} {en : Bool} (h : RdV B g w d en) (hb : Below w.heap.size w w') : RdV B g w' d en := by
  obtain ⟨hg, vi, vr, h1, h2, h3⟩ := h
  exact ⟨hg, vi, vr, h1.below hb, h2.below hb, h3.below hb⟩
theorem sv_own {α : Type} {E : Elem Try.prog α} {base : Nat} {w : World} {v : Value} {l : List α} (h : Agg.Own E base w v l) : v.cells = #[v] ∧ v.oneCell' = true := by
  obtain ⟨p, c, hf⟩ := h.slice.form
  rw [hf]; exact ⟨rfl, rfl⟩
theorem rd_info (n : List UInt8) (a b : Value) (e : Bool) : (Try.prog.info? 71).map (·.size) = some (rdC n a b e).size := by kernel_rfl
theorem rd_under : Try.prog.underlying 71 = some (.struct (Try.prog.fieldsOf 71)) := by kernel_rfl
set_option maxRecDepth 100000 in
set_option maxHeartbeats 8000000 in
theorem rinput_any (B g : Nat) (n : List UInt8) (x : Inp) (d : Drv) (en : Bool) (hl : d.2.1.length ≤ 1048576) (w : World) (hB : B ≤ w.heap.size) (h : RdV B g w d en) :
    Calls Try.prog 42 #[.pointer (some ⟨g, 0, none⟩), .string ⟨n.toArray⟩, .agg (iC x)] w fun e w' => e = .returned (.tuple #[]) ∧ RdV B g w' (d.1, d.2.1 ++ [(n, x)], d.2.2) en ∧ Below B w w' ∧ RSt g w w' := by
  obtain ⟨hg, vi, vr, h1, h2, h3⟩ := h
  have H1 := Lib.hid h1
  have H2 := Lib.hid h2
  have H3 := Lib.hid h3
  clear h1 h2 h3
  go_enter Try.func42, Try.ntmps42
  go_wp2_with (first | (refine Agg.wpList_box rfl 42 _ rfl (iC x) rfl ?_; intro gb w1 hb hx hgb; have HB1 := Lib.hid hb; have HX1 := Lib.hid hx; have HNE := Lib.hid (show gb ≠ g from fun e => by have := H1.out.lt; omega); have H1a := Lib.hid (H1.out.below hx); have H2a := Lib.hid (H2.out.below hx); have H3a := Lib.hid (H3.out.below hx); clear hb hx hgb))
  obtain ⟨wd, hwd⟩ : ∃ X, X = w1.drew := ⟨_, rfl⟩
  have hx : Below w1.heap.size w1 wd := by rw [hwd]; exact (Below.refl _ _).drew
  have HBd := Lib.hid (HB1.out.below hx)
  have H1d := Lib.hid (H1a.out.below hx)
  have H2d := Lib.hid (H2a.out.below hx)
  have H3d := Lib.hid (H3a.out.below hx)
  have HXd := Lib.hid (Agg.belowThen HX1.out (Nat.le_refl _) hx)
  have hSd : Blk wd gb 42 (iC x) := HBd.out
  have hNm : (1 : Nat) ≤ 1 := Nat.le_refl _
  refine wp_region_held_drew (S := fun W => Blk W gb 42 (iC x)) (by kernel_rfl) (by rw [← hwd]; exact hSd) (fun hHeld => ?_)
  rw [← hwd]
  clear hwd hx hHeld H1 H2 H3 H1a H2a H3a HB1 HX1
  refine Agg.held_take 0 (.pointer (some ⟨g, 0, none⟩)) rfl (by kernel_rfl) (fun _ _ _ h => h) rfl (fun W _ => by kernel_rfl) (by assumption) ?_
  try simp only [Act.put, List.setIfInBounds_toArray, List.set_cons_succ, List.set_cons_zero]
  refine Agg.held_take 1 (.pointer (some ⟨g, 0, none⟩)) rfl (by kernel_rfl) (fun _ _ _ h => h) rfl (fun W _ => by kernel_rfl) (by assumption) ?_
  try simp only [Act.put, List.setIfInBounds_toArray, List.set_cons_succ, List.set_cons_zero]
  refine Agg.held_take 2 (.pointer (some ⟨g, 0, none⟩)) rfl (by kernel_rfl) (fun _ _ _ h => h) rfl (fun W _ => by kernel_rfl) (by assumption) ?_
  try simp only [Act.put, List.setIfInBounds_toArray, List.set_cons_succ, List.set_cons_zero]
  refine Agg.held_take 3 (.pointer (some ⟨g, 0, none⟩)) rfl (by kernel_rfl) (fun _ _ _ h => h) rfl (fun W _ => by kernel_rfl) (by assumption) ?_
  try simp only [Act.put, List.setIfInBounds_toArray, List.set_cons_succ, List.set_cons_zero]
  refine Agg.held_take 4 (.pointer (some ⟨g, 1, none⟩)) rfl (by kernel_rfl) (fun _ _ _ h => h) rfl (fun W _ => by kernel_rfl) (by assumption) ?_
  try simp only [Act.put, List.setIfInBounds_toArray, List.set_cons_succ, List.set_cons_zero]
  refine Agg.held_take 6 (.string ⟨n.toArray⟩) rfl (by kernel_rfl) (fun _ _ _ h => h) rfl (fun W _ => by kernel_rfl) (by assumption) ?_
  try simp only [Act.put, List.setIfInBounds_toArray, List.set_cons_succ, List.set_cons_zero]
  refine Agg.held_take 7 (.agg (iC x)) rfl (by kernel_rfl) (fun _ _ _ h => h) rfl (fun W hS => exec_loadB rfl rfl (hS.loads (P := Try.prog) iC_under rfl (iC_info _)).now) (by assumption) ?_
  try simp only [Act.put, List.setIfInBounds_toArray, List.set_cons_succ, List.set_cons_zero]
  refine Agg.held_take 8 (.agg (nmC (n, x))) rfl (by kernel_rfl) (fun _ _ _ h => h) rfl (fun W _ => exec_build2D rfl rfl rfl (build_nam n x W)) (by assumption) ?_
  try simp only [Act.put, List.setIfInBounds_toArray, List.set_cons_succ, List.set_cons_zero]
  refine Agg.held_ready [5, 9] (by kernel_rfl) (by simp) ?_
  refine Agg.held_cons rfl ?_ ?_
  · refine Agg.step_load rfl _ _ rfl (.pointer (some ⟨g, 1, none⟩)) vi rfl (H1d.out.one (P := Try.prog) (ty := 22) 1 rfl (show Try.prog.underlying 22 = some (.slice 44) by kernel_rfl) rfl).now ⟨hSd, ?_⟩
    try simp only [Act.put, List.setIfInBounds_toArray, List.set_cons_succ, List.set_cons_zero]
    refine Agg.held_ready [9] (by kernel_rfl) (by simp) ?_
    refine Agg.held_cons rfl ?_ ?_
    · refine Agg.step_slice1 (E := ENm) rfl _ rfl (n, x) rfl ?_
      intro v1 w2 hn hx
      have HN := Lib.hid hn.slice
      have H1e := Lib.hid (H1d.out.below hx)
      have H2e := Lib.hid (H2d.out.below hx)
      have H3e := Lib.hid (H3d.out.below hx)
      have HXe := Lib.hid (Agg.belowThen HXd.out (Nat.le_refl _) hx)
      have hSe : Blk w2 gb 42 (iC x) := hSd.below hx
      clear hn hx
      refine ⟨hSe, ?_⟩
      try simp only [Act.put, List.setIfInBounds_toArray, List.set_cons_succ, List.set_cons_zero]
      refine Agg.held_ready [10] (by kernel_rfl) (by simp) ?_
      refine Agg.held_cons rfl ?_ ?_
      · refine Agg.step_appendS (E := ENm) rfl _ _ rfl v1 rfl rfl [(n, x)] H2e.out HN.out (by simp; omega) (by decide) (Nat.le_trans hB HXe.out.size) ?_
        intro v2 w3 ho hp
        have HO := Lib.hid ho
        have H1f := Lib.hid (show Blk w3 g 71 (rdC d.1 vi vr en) from hp.blk g _ _ _ (show 71 ≠ 44 by decide) H1e.out)
        have H3f := Lib.hid (H3e.out.typed fun k cur fr hk => hp.blk k _ _ _ (show 5 ≠ 44 by decide) hk)
        have hSf : Blk w3 gb 42 (iC x) := hp.blk gb _ _ _ (show 42 ≠ 44 by decide) hSe
        have HXf := Lib.hid ((HXe.out.mono hB).trans (hp.below B (Nat.le_refl _) (Nat.le_trans hB HXe.out.size)))
        have HRf := Lib.hid ((RStep.below HXe.out : RSt g w w2).trans (RStep.pushed H2e.out hp (.inl rfl)))
        clear ho hp
        refine ⟨hSf, ?_⟩
        try simp only [Act.put, List.setIfInBounds_toArray, List.set_cons_succ, List.set_cons_zero]
        refine Agg.held_take 11 (.pointer (some ⟨g, 0, none⟩)) rfl (by kernel_rfl) (fun _ _ _ h => h) rfl (fun W _ => by kernel_rfl) (by assumption) ?_
        try simp only [Act.put, List.setIfInBounds_toArray, List.set_cons_succ, List.set_cons_zero]
        refine Agg.held_take 12 (.pointer (some ⟨g, 0, none⟩)) rfl (by kernel_rfl) (fun _ _ _ h => h) rfl (fun W _ => by kernel_rfl) (by assumption) ?_
        try simp only [Act.put, List.setIfInBounds_toArray, List.set_cons_succ, List.set_cons_zero]
        refine Agg.held_take 13 (.pointer (some ⟨g, 1, none⟩)) rfl (by kernel_rfl) (fun _ _ _ h => h) rfl (fun W _ => by kernel_rfl) (by assumption) ?_
        try simp only [Act.put, List.setIfInBounds_toArray, List.set_cons_succ, List.set_cons_zero]
        refine Agg.held_ready [14] (by kernel_rfl) (by simp) ?_
        refine Agg.held_cons rfl ?_ ?_
        · have hrun := Agg.Blk.run_put (P := Try.prog) (ty := 22) H1f.out 1 (by simp [rdC]) v2 (sv_own HO.out).1 (sv_own HO.out).2 (by kernel_rfl)
          have hb4 := Agg.Blk.set H1f.out 1 v2
          have ho4 := only_setCells g 1 [v2] w3
          obtain ⟨w4, hw4⟩ : ∃ X, X = w3.setCell ⟨g, 1, none⟩ v2 := ⟨_, rfl⟩
          have ho4 : Only (· = g) w3 w4 := by rw [hw4]; exact ho4
          rw [← hw4] at hrun hb4
          have hS4 : Blk w4 gb 42 (iC x) := hSf.onlyP ho4 (fun e => HNE.out e)
          refine Agg.step_store rfl rfl 22 _ _ rfl (.pointer (some ⟨g, 1, none⟩)) v2 rfl rfl hrun ⟨hS4, ?_⟩
          try simp only [Act.put, List.setIfInBounds_toArray, List.set_cons_succ, List.set_cons_zero]
          refine Agg.held_end (by kernel_rfl) ?_
          have HO4 : Agg.Own ENm B w4 v2 (d.2.1 ++ [(n, x)]) := HO.out.typed fun k cur fr hk => by
            refine (ho4.block k (heap_lt hk) fun e => ?_).trans hk
            subst e
            rw [show w3.heap[k]? = _ from H1f.out] at hk
            cases hk
          have H34 : Agg.Own EB B w4 vr d.2.2 := H3f.out.typed fun k cur fr hk => by
            refine (ho4.block k (heap_lt hk) fun e => ?_).trans hk
            subst e
            rw [show w3.heap[k]? = _ from H1f.out] at hk
            cases hk
          have HB4 := Lib.hid (HXf.out.trans (ho4.below (Nat.le_trans hB HRf.out.size) (fun i hi => by subst hi; exact hg)))
          have HR4 := Lib.hid (HRf.out.trans (RStep.only H1f.out ho4))
          have HV4 := Lib.hid (show RdV B g w4 (d.1, d.2.1 ++ [(n, x)], d.2.2) en from ⟨hg, v2, vr, hb4, HO4, H34⟩)
          clear hrun hb4 ho4 hS4 HO4 H34
          go_wp2_with fail
          go_end0
          exact ⟨rfl, HV4.out, HB4.out, HR4.out⟩
        exact AllReadyH.nil
      exact AllReadyH.nil
    exact AllReadyH.nil
  refine Agg.held_cons rfl ?_ ?_
  · refine Agg.step_slice1 (E := ENm) rfl _ rfl (n, x) rfl ?_
    intro v1 w2 hn hx
    have HN := Lib.hid hn.slice
    have H1e := Lib.hid (H1d.out.below hx)
    have H2e := Lib.hid (H2d.out.below hx)
    have H3e := Lib.hid (H3d.out.below hx)
    have HXe := Lib.hid (Agg.belowThen HXd.out (Nat.le_refl _) hx)
    have hSe : Blk w2 gb 42 (iC x) := hSd.below hx
    clear hn hx
    refine ⟨hSe, ?_⟩
    try simp only [Act.put, List.setIfInBounds_toArray, List.set_cons_succ, List.set_cons_zero]
    refine Agg.held_ready [5] (by kernel_rfl) (by simp) ?_
    refine Agg.held_cons rfl ?_ ?_
    · refine Agg.step_load rfl _ _ rfl (.pointer (some ⟨g, 1, none⟩)) vi rfl (H1e.out.one (P := Try.prog) (ty := 22) 1 rfl (show Try.prog.underlying 22 = some (.slice 44) by kernel_rfl) rfl).now ⟨hSe, ?_⟩
      try simp only [Act.put, List.setIfInBounds_toArray, List.set_cons_succ, List.set_cons_zero]
      refine Agg.held_ready [10] (by kernel_rfl) (by simp) ?_
      refine Agg.held_cons rfl ?_ ?_
      · refine Agg.step_appendS (E := ENm) rfl _ _ rfl v1 rfl rfl [(n, x)] H2e.out HN.out (by simp; omega) (by decide) (Nat.le_trans hB HXe.out.size) ?_
        intro v2 w3 ho hp
        have HO := Lib.hid ho
        have H1f := Lib.hid (show Blk w3 g 71 (rdC d.1 vi vr en) from hp.blk g _ _ _ (show 71 ≠ 44 by decide) H1e.out)
        have H3f := Lib.hid (H3e.out.typed fun k cur fr hk => hp.blk k _ _ _ (show 5 ≠ 44 by decide) hk)
        have hSf : Blk w3 gb 42 (iC x) := hp.blk gb _ _ _ (show 42 ≠ 44 by decide) hSe
        have HXf := Lib.hid ((HXe.out.mono hB).trans (hp.below B (Nat.le_refl _) (Nat.le_trans hB HXe.out.size)))
        have HRf := Lib.hid ((RStep.below HXe.out : RSt g w w2).trans (RStep.pushed H2e.out hp (.inl rfl)))
        clear ho hp
        refine ⟨hSf, ?_⟩
        try simp only [Act.put, List.setIfInBounds_toArray, List.set_cons_succ, List.set_cons_zero]
        refine Agg.held_take 11 (.pointer (some ⟨g, 0, none⟩)) rfl (by kernel_rfl) (fun _ _ _ h => h) rfl (fun W _ => by kernel_rfl) (by assumption) ?_
        try simp only [Act.put, List.setIfInBounds_toArray, List.set_cons_succ, List.set_cons_zero]
        refine Agg.held_take 12 (.pointer (some ⟨g, 0, none⟩)) rfl (by kernel_rfl) (fun _ _ _ h => h) rfl (fun W _ => by kernel_rfl) (by assumption) ?_
        try simp only [Act.put, List.setIfInBounds_toArray, List.set_cons_succ, List.set_cons_zero]
        refine Agg.held_take 13 (.pointer (some ⟨g, 1, none⟩)) rfl (by kernel_rfl) (fun _ _ _ h => h) rfl (fun W _ => by kernel_rfl) (by assumption) ?_
        try simp only [Act.put, List.setIfInBounds_toArray, List.set_cons_succ, List.set_cons_zero]
        refine Agg.held_ready [14] (by kernel_rfl) (by simp) ?_
        refine Agg.held_cons rfl ?_ ?_
        · have hrun := Agg.Blk.run_put (P := Try.prog) (ty := 22) H1f.out 1 (by simp [rdC]) v2 (sv_own HO.out).1 (sv_own HO.out).2 (by kernel_rfl)
          have hb4 := Agg.Blk.set H1f.out 1 v2
          have ho4 := only_setCells g 1 [v2] w3
          obtain ⟨w4, hw4⟩ : ∃ X, X = w3.setCell ⟨g, 1, none⟩ v2 := ⟨_, rfl⟩
          have ho4 : Only (· = g) w3 w4 := by rw [hw4]; exact ho4
          rw [← hw4] at hrun hb4
          have hS4 : Blk w4 gb 42 (iC x) := hSf.onlyP ho4 (fun e => HNE.out e)
          refine Agg.step_store rfl rfl 22 _ _ rfl (.pointer (some ⟨g, 1, none⟩)) v2 rfl rfl hrun ⟨hS4, ?_⟩
          try simp only [Act.put, List.setIfInBounds_toArray, List.set_cons_succ, List.set_cons_zero]
          refine Agg.held_end (by kernel_rfl) ?_
          have HO4 : Agg.Own ENm B w4 v2 (d.2.1 ++ [(n, x)]) := HO.out.typed fun k cur fr hk => by
            refine (ho4.block k (heap_lt hk) fun e => ?_).trans hk
            subst e
            rw [show w3.heap[k]? = _ from H1f.out] at hk
            cases hk
          have H34 : Agg.Own EB B w4 vr d.2.2 := H3f.out.typed fun k cur fr hk => by
            refine (ho4.block k (heap_lt hk) fun e => ?_).trans hk
            subst e
            rw [show w3.heap[k]? = _ from H1f.out] at hk
            cases hk
          have HB4 := Lib.hid (HXf.out.trans (ho4.below (Nat.le_trans hB HRf.out.size) (fun i hi => by subst hi; exact hg)))
          have HR4 := Lib.hid (HRf.out.trans (RStep.only H1f.out ho4))
          have HV4 := Lib.hid (show RdV B g w4 (d.1, d.2.1 ++ [(n, x)], d.2.2) en from ⟨hg, v2, vr, hb4, HO4, H34⟩)
          clear hrun hb4 ho4 hS4 HO4 H34
          go_wp2_with fail
          go_end0
          exact ⟨rfl, HV4.out, HB4.out, HR4.out⟩
        exact AllReadyH.nil
      exact AllReadyH.nil
    exact AllReadyH.nil
  exact AllReadyH.nil
end Go.Proofs.Ytnlilmiakddlaaa
