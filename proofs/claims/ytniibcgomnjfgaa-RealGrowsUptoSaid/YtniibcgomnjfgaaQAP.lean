/- What RealGrows asks, in plain words; parts of slices. -/
import Derived.Test.YtniibcgomnjfgaaQAL
import Derived.Test.YtniibcgomnjfgaaQAM
import Derived.Test.YtniibcgomnjfgaaQAO
import Derived.Test.YtniibcgomnjfgaaQAN
namespace Go.Agg
open Go.RowKit
section
variable {P : Program} {α : Type} {E : Elem P α} {w : World} {p : Option Addr} {c : Nat} {l : List α}
theorem SliceOf.low (h : SliceOf E w (.slice p l.length c) l) (hc : l.length ≤ c) (k : Nat) (hk : k ≤ l.length) :
    SliceOf E w (.slice (if c = k then p else p.map (·.add (k * E.n))) (l.length - k) (c - k)) (l.drop k) := by
  rcases h with ⟨q, d, e, rfl⟩ | ⟨q, d, e, hq, hcell⟩
  · simp only [List.length_nil, Nat.le_zero_eq] at hk
    subst hk
    exact SliceOf.nil _ _ _
  · simp only [Value.slice.injEq] at e
    obtain ⟨rfl, _, rfl⟩ := e
    by_cases hck : c = k
    · rw [if_pos hck, List.drop_eq_nil_of_le (by omega), show l.length - k = 0 by omega]
      exact SliceOf.nil _ _ _
    · rw [if_neg hck]
      refine .inr ⟨q.add (k * E.n), c - k, by simp, by rw [add_block]; exact hq, fun j u hj => ?_⟩
      rw [← E.flat_drop l k hk, List.getElem?_drop] at hj
      have := hcell _ u hj
      rwa [← add_add] at this
theorem SliceOf.high (h : SliceOf E w (.slice p l.length c) l) (k : Nat) (hk : k ≤ l.length) : SliceOf E w (.slice p k c) (l.take k) := by
  rcases h with ⟨q, d, e, rfl⟩ | ⟨q, d, e, hq, hcell⟩
  · simp only [List.length_nil, Nat.le_zero_eq] at hk
    subst hk
    exact SliceOf.nil _ _ _
  · simp only [Value.slice.injEq] at e
    obtain ⟨rfl, _, rfl⟩ := e
    refine .inr ⟨q, c, by rw [List.length_take, Nat.min_eq_left hk], hq, fun j u hj => hcell j u ?_⟩
    rw [← E.flat_take l k hk, List.getElem?_take] at hj
    split at hj
    · exact hj
    · cases hj
theorem exec_sliceB {o : Oper} {a : Act} {t : TypeId} {x y : Operand} {v lo r : Value} (ho : o.op = .slice t x (some y) none none) (hx : a.eval x = v) (hy : a.eval y = lo) (hrun : (Instr.sliceAt t v (some lo) none none).run P w = .ok r w) : (execOp a.eval o).run P w = .ok (.value r) w := by
  subst hx hy
  simp [execOp, ho, hrun]
theorem exec_sliceH {o : Oper} {a : Act} {t : TypeId} {x y : Operand} {v hi r : Value} (ho : o.op = .slice t x none (some y) none) (hx : a.eval x = v) (hy : a.eval y = hi) (hrun : (Instr.sliceAt t v none (some hi) none).run P w = .ok r w) : (execOp a.eval o).run P w = .ok (.value r) w := by
  subst hx hy
  simp [execOp, ho, hrun]
theorem step_slice0 {ops : Array Oper} {o : Oper} {a : Act} {Q : Exit → Act → World → Prop} {K : Act → World → Prop} {F : Prop} (E : Elem P α) (hg : o.guard = none) (ho : o.op = .buildSlice E.st 0 #[])
    (h : ∀ v' w', Own E w.heap.size w' v' [] → Below w.heap.size w w' → K (a.put o.dst v') w') : if Region.wanted o (yielded ops a.tmps) = true then o.wp P a w K Q else F := by
  refine step_val hg (v := .slice (some ⟨w.heap.size, 0, none⟩) 0 0) (w' := w.alloc (.cells #[] E.ty)) ?_ (h _ _ ⟨by simp [Elem.flat], .inr ⟨w.heap.size, 0, #[], rfl, Nat.le_refl _, heap_alloc_new w _, Nat.le_refl _, by simp [maxLen], by simp, by simp [Elem.flat]⟩⟩ ((Below.refl _ _).alloc (Nat.le_refl _) _))
  simp [execOp, ho, Instr.buildSlice, run_underlying E.slice, run_sizeOf_elem, newRow, Instr.fill]
  rw [show Array.range 0 = #[] by simp, Array.map_empty]
end
end Go.Agg
namespace Go.Proofs.Ytniibcgomnjfgaa
open Go.RowKit Pl Go.Agg
/-- no right one up to a place lies where x does -/
def NoneB (l : List BuV) (x : BuV) (j : Nat) : Prop := ∀ (t : Nat) z, t < j → l[t]? = some z → rightBu z.1 = true → plOf z.1 ≠ plOf x.1
theorem noneB_zero (l : List BuV) (x : BuV) : NoneB l x 0 := fun _ _ h => absurd h (by omega)
theorem noneB_succ {l : List BuV} {x y : BuV} {j : Nat} (h : NoneB l x j) (hy : l[j]? = some y) (hn : rightBu y.1 = true → plOf y.1 ≠ plOf x.1) : NoneB l x (j + 1) := fun t z ht hz hr => by
  by_cases e : t = j
  · subst e; rw [hy] at hz; obtain rfl := Option.some.inj hz; exact hn hr
  · exact h t z (by omega) hz hr
/-- how many up to a place lie where x does -/
def cntB (lv : List BuV) (x : BuV) (j : Nat) : Nat := Gr.many plOf ((lv.map (·.1)).take j) (plOf x.1)
theorem cntB_zero (lv : List BuV) (x : BuV) : cntB lv x 0 = 0 := rfl
theorem cntB_succ {lv : List BuV} {x y : BuV} {j : Nat} (hy : lv[j]? = some y) : cntB lv x (j + 1) = cntB lv x j + if plOf y.1 = plOf x.1 then 1 else 0 := by
  unfold cntB Gr.many
  rw [List.take_add_one, List.getElem?_map, hy]
  simp [List.countP_append, List.countP_cons]
theorem cntB_le (lv : List BuV) (x : BuV) (j : Nat) : cntB lv x j ≤ lv.length := by
  unfold cntB Gr.many
  exact Nat.le_trans List.countP_le_length (by simp; omega)
theorem cntB_all (lv : List BuV) (x : BuV) : cntB lv x lv.length = Gr.many plOf (lv.map (·.1)) (plOf x.1) := by
  unfold cntB
  rw [List.take_of_length_le (by simp)]
theorem pl_eq (x y : Bu) : (plOf y = plOf x) ↔ (decide (y.cl = x.cl) && (decide (y.ky = x.ky) && (y.by_ == x.by_))) = true := by
  simp [plOf]
/-- the first of a place is what is there -/
theorem grown_first {l lv : List BuV} {cb : Bool} (hg : GrownB (l.map (·.1)) (lv.map (·.1)) cb) {i : Nat} {x y : BuV} (hi : l[i]? = some x) (hr : rightBu x.1 = true) (hn : NoneB l x i) {j : Nat} (hy : lv[j]? = some y) (he : plOf y.1 = plOf x.1) : y.1 = x.1 :=
  hg.is_first (i := i) (x := x.1) (y := y.1) (by rw [List.getElem?_map, hi]; rfl) hr (fun t z ht hz hrz => by
    rw [List.getElem?_map] at hz
    cases hl : l[t]? with
    | none => rw [hl] at hz; cases hz
    | some u =>
      rw [hl] at hz
      obtain rfl : u.1 = z := by simpa using hz
      exact hn t u ht hl hrz) (List.mem_map.2 ⟨y, List.mem_of_getElem? hy, rfl⟩) he
theorem turn_mem (l : List BuV) (k : Nat) (x : Bu) : x ∈ l.map (·.1) ↔ x ∈ (l.drop k ++ l.take k).map (·.1) := by
  rw [List.map_append, List.mem_append]
  have : l.map (·.1) = (l.take k).map (·.1) ++ (l.drop k).map (·.1) := by rw [← List.map_append, List.take_append_drop]
  rw [this, List.mem_append]
  exact Or.comm
end Go.Proofs.Ytniibcgomnjfgaa
