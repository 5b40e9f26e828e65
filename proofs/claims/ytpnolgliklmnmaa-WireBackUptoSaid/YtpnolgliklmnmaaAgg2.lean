/- Struct literals of parts of several cells, over any program. -/
import Derived.Test.YtpnolgliklmnmaaAgg
import Derived.Great.FillDense
import Derived.StillTailTactics
namespace Go.Agg
open Go.RowKit
/-- cells laid over others, from a place on -/
def splice (C : Array Value) (off : Nat) (cs : Array Value) : Array Value := (C.toList.take off ++ cs.toList ++ C.toList.drop (off + cs.size)).toArray
theorem splice_size (C : Array Value) (off : Nat) (cs : Array Value) (h : off + cs.size ≤ C.size) : (splice C off cs).size = C.size := by
  simp [splice]; omega
theorem fill_cons {place : Nat → Option (Nat × Nat)} {C : Array Value} {i off size : Nat} {v : Value} {rest : List (Nat × Value)} (hp : place i = some (off, size)) (hs : v.cells.size = size) (hle : off + size ≤ C.size) :
    Instr.fill place C ((i, v) :: rest) = Instr.fill place (splice C off v.cells) rest := by
  subst hs
  rw [Instr.fill]
  simp only [hp]
  rw [if_neg (by simp; omega)]
  congr 1
  obtain ⟨h1, h2⟩ := Great.foldl_set off v.cells.toList 0 C
  apply Array.ext_getElem?
  intro k
  have e : Array.foldl (fun (cs : Array Value) (x : Value × Nat) => cs.setIfInBounds (off + x.2) x.1) C v.cells.zipIdx = (v.cells.toList.zipIdx 0).foldl (fun cs (x : Value × Nat) => cs.setIfInBounds (off + x.2) x.1) C := by
    rw [← Array.foldl_toList, Array.toList_zipIdx]
  refine (congrArg (fun (x : Array Value) => x[k]?) e).trans ?_
  rw [h2 k]
  simp only [splice, Nat.add_zero, List.getElem?_toArray, Array.length_toList]
  have hC : C.toList.length = C.size := Array.length_toList
  by_cases hk : k < off
  · rw [if_neg (by omega), List.append_assoc, List.getElem?_append_left (by simp; omega), List.getElem?_take, if_pos hk]; simp
  · by_cases hk2 : k < off + v.cells.size
    · rw [if_pos ⟨by omega, hk2, by omega⟩, List.getElem?_append_left (by simp; omega), List.getElem?_append_right (by simp; omega)]
      simp [show min off C.size = off by omega]
    · rw [if_neg (by omega), List.getElem?_append_right (by simp; omega), List.getElem?_drop]
      simp [show min off C.size = off by omega]
      congr 1; omega
theorem fill_nil {place : Nat → Option (Nat × Nat)} {C : Array Value} : Instr.fill place C [] = some C := rfl
/-- a drawn region that ends in a write: an operation whose answer is known -/
theorem wpStill_load {P : Program} {w : World} {ops : Array Oper} {rest : List Oper} {o : Oper} {a : Act} {Q : Act → Prop} (hw : Region.wanted o (yielded ops a.tmps) = true) (ty : TypeId) (x : Operand) (ho : o.op = .load ty x) (p : Value) (hx : a.eval x = p) (v : Value)
    (hrun : (Instr.loadAt ty p).run P w = .ok v w) (h : wpStill P ops w Q rest (a.put o.dst v)) : wpStill P ops w Q (o :: rest) a := by
  refine wpStill_step fun K hK => ?_
  rw [if_pos hw]
  unfold Oper.still
  simp only [execOp, ho, hx, hrun, Sem.run_bind, Sem.run_pure, Result.andThen]
  exact ⟨rfl, hK _ h⟩
theorem wpStill_build {P : Program} {w : World} {ops : Array Oper} {rest : List Oper} {o : Oper} {a : Act} {Q : Act → Prop} (hw : Region.wanted o (yielded ops a.tmps) = true) (ty : TypeId) (ps : Array (Nat × Operand)) (ho : o.op = .build ty ps) (v : Value)
    (qs : Array (Nat × Value)) (hq : (ps.map fun p => (p.1, a.eval p.2)) = qs) (hrun : (Instr.build ty qs).run P w = .ok v w) (h : wpStill P ops w Q rest (a.put o.dst v)) : wpStill P ops w Q (o :: rest) a := by
  subst hq
  refine wpStill_step fun K hK => ?_
  rw [if_pos hw]
  unfold Oper.still
  simp only [execOp, ho, hrun, Sem.run_bind, Sem.run_pure, Result.andThen]
  exact ⟨rfl, hK _ h⟩
theorem wpList_build {P : Program} {ops : Array Oper} {rest : List Oper} {o : Oper} {a : Act} {w : World} {Q : Exit → Act → World → Prop} (hg : o.guard = none) (ty : TypeId) (ps : Array (Nat × Operand)) (ho : o.op = .build ty ps) (v : Value)
    (qs : Array (Nat × Value)) (hq : (ps.map fun p => (p.1, a.eval p.2)) = qs) (hrun : (Instr.build ty qs).run P w = .ok v w) (h : wpList P ops Q rest (a.put o.dst v) w) : wpList P ops Q (o :: rest) a w := by
  subst hq
  refine wpList_val hg ?_ h
  simp only [execOp, ho, hrun, Sem.run_bind, Sem.run_pure, Result.andThen]
/-- one call after another -/
theorem belowThen {B : Nat} {a b c : World} (h : Below B a b) (hB : B ≤ a.heap.size) (k : Below b.heap.size b c) : Below B a c := h.trans (k.mono (Nat.le_trans hB h.size))
/-- an operation whose answer is known in each world of the class -/
theorem wpQuiet_val {P : Program} {ops : Array Oper} {rest : List Oper} {o : Oper} {a : Act} {C : World → Prop} {Q : Act → Prop} (hw : Region.wanted o (yielded ops a.tmps) = true) (v : Value)
    (hrun : ∀ w, C w → (execOp a.eval o).run P w = .ok (.value v) w) (h : wpQuiet P ops C Q rest (a.put o.dst v)) : wpQuiet P ops C Q (o :: rest) a := by
  refine wpQuiet_step fun K hK => ?_
  rw [if_pos hw]
  refine ⟨v, fun w hC => ?_, hK _ h⟩
  unfold Oper.quietAt
  simp [hrun w hC, Oper.quietUpon]
/-- '==' of two values of several cells -/
theorem wpQuiet_eql {P : Program} {ops : Array Oper} {rest : List Oper} {o : Oper} {a : Act} {C : World → Prop} {Q : Act → Prop} (hw : Region.wanted o (yielded ops a.tmps) = true) (t u : TypeId) (x y : Operand) (ho : o.op = .binOp .eql t x y u)
    (xs ys : Array Value) (hx : a.eval x = .agg xs) (hy : a.eval y = .agg ys) (b : Bool) (hg : P.eqGuardType P.depth t = false) (hrun : ∀ w, (binOp .eql t (.agg xs) (.agg ys)).run P w = .ok (.bool b) w)
    (h : wpQuiet P ops C Q rest (a.put o.dst (.bool b))) : wpQuiet P ops C Q (o :: rest) a := by
  refine wpQuiet_val hw _ (fun w _ => ?_) h
  simp [execOp, ho, hx, hy, hrun, run_eqGuard_agg w .eql t x y xs ys hg]
/-- struct literals of two parts, of one, in a drawn region -/
theorem wpQuiet_build2 {P : Program} {ops : Array Oper} {rest : List Oper} {o : Oper} {a : Act} {C : World → Prop} {Q : Act → Prop} (ty : TypeId) (i : Nat) (x : Operand) (j : Nat) (y : Operand) (ho : o.op = .build ty #[(i, x), (j, y)]) (hw : Region.wanted o (yielded ops a.tmps) = true)
    (vx vy : Value) (hx : a.eval x = vx) (hy : a.eval y = vy) (v : Value) (hrun : ∀ w, (Instr.build ty #[(i, vx), (j, vy)]).run P w = .ok v w) (h : wpQuiet P ops C Q rest (a.put o.dst v)) : wpQuiet P ops C Q (o :: rest) a := by
  subst hx hy
  refine wpQuiet_val hw _ (fun w _ => ?_) h
  simp [execOp, ho, hrun]
theorem wpQuiet_build1 {P : Program} {ops : Array Oper} {rest : List Oper} {o : Oper} {a : Act} {C : World → Prop} {Q : Act → Prop} (ty : TypeId) (i : Nat) (x : Operand) (ho : o.op = .build ty #[(i, x)]) (hw : Region.wanted o (yielded ops a.tmps) = true)
    (vx : Value) (hx : a.eval x = vx) (v : Value) (hrun : ∀ w, (Instr.build ty #[(i, vx)]).run P w = .ok v w) (h : wpQuiet P ops C Q rest (a.put o.dst v)) : wpQuiet P ops C Q (o :: rest) a := by
  subst hx
  refine wpQuiet_val hw _ (fun w _ => ?_) h
  simp [execOp, ho, hrun]
theorem wpQuiet_build0 {P : Program} {ops : Array Oper} {rest : List Oper} {o : Oper} {a : Act} {C : World → Prop} {Q : Act → Prop} (ty : TypeId) (ho : o.op = .build ty #[]) (hw : Region.wanted o (yielded ops a.tmps) = true)
    (v : Value) (hrun : ∀ w, (Instr.build ty #[]).run P w = .ok v w) (h : wpQuiet P ops C Q rest (a.put o.dst v)) : wpQuiet P ops C Q (o :: rest) a := by
  refine wpQuiet_val hw _ (fun w _ => ?_) h
  simp [execOp, ho, hrun]
theorem slice_from {P : Program} (w : World) {t : TypeId} (ht : P.underlying t = some .string) (s : List UInt8) (k : IntKind) (i : Nat) (hi : i ≤ s.length) :
    (Instr.slice t (.string ⟨s.toArray⟩) (some (.int k (i : Int))) none none).run P w = .ok (.string ⟨(s.drop i).toArray⟩) w := by
  rw [run_slice_string_from_if w t _ k i ht, if_pos (by rw [bytes_size]; omega), bytes_extract, bytes_size]
  simp
theorem slice_to {P : Program} (w : World) {t : TypeId} (ht : P.underlying t = some .string) (s : List UInt8) (k : IntKind) (i : Nat) (hi : i ≤ s.length) :
    (Instr.slice t (.string ⟨s.toArray⟩) none (some (.int k (i : Int))) none).run P w = .ok (.string ⟨(s.take i).toArray⟩) w := by
  rw [run_slice_string_to_if w t _ k i ht, if_pos (by rw [bytes_size]; omega), bytes_extract]
  simp
end Go.Agg
