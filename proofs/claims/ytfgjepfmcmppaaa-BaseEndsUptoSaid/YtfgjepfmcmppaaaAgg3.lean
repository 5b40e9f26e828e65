/- Guarded operations in a region that keeps its order: struct literals. -/
import Derived.Test.YtfgjepfmcmppaaaAgg2
namespace Go.Agg
open Go.RowKit
section
variable {P : Program} {ops : Array Oper} {rest : List Oper} {o : Oper} {a : Act} {w : World} {Q : Exit → Act → World → Prop}
theorem wpList_valw (hw : Region.wanted o (yielded ops a.tmps) = true) {v : Value} {w' : World} (hrun : (execOp a.eval o).run P w = .ok (.value v) w') (h : wpList P ops Q rest (a.put o.dst v) w') : wpList P ops Q (o :: rest) a w := by
  unfold wpList
  rw [if_pos hw]
  left
  unfold Oper.wp
  rw [hrun]
  exact h
theorem wpList_build2 (ty : TypeId) (i : Nat) (x : Operand) (j : Nat) (y : Operand) (ho : o.op = .build ty #[(i, x), (j, y)]) (hw : Region.wanted o (yielded ops a.tmps) = true)
    (vx vy : Value) (hx : a.eval x = vx) (hy : a.eval y = vy) (v : Value) (hrun : ∀ w, (Instr.build ty #[(i, vx), (j, vy)]).run P w = .ok v w) (h : wpList P ops Q rest (a.put o.dst v) w) : wpList P ops Q (o :: rest) a w := by
  subst hx hy
  refine wpList_valw hw ?_ h
  simp [execOp, ho, hrun]
theorem wpList_build1 (ty : TypeId) (i : Nat) (x : Operand) (ho : o.op = .build ty #[(i, x)]) (hw : Region.wanted o (yielded ops a.tmps) = true)
    (vx : Value) (hx : a.eval x = vx) (v : Value) (hrun : ∀ w, (Instr.build ty #[(i, vx)]).run P w = .ok v w) (h : wpList P ops Q rest (a.put o.dst v) w) : wpList P ops Q (o :: rest) a w := by
  subst hx
  refine wpList_valw hw ?_ h
  simp [execOp, ho, hrun]
theorem wpList_build0 (ty : TypeId) (ho : o.op = .build ty #[]) (hw : Region.wanted o (yielded ops a.tmps) = true)
    (v : Value) (hrun : ∀ w, (Instr.build ty #[]).run P w = .ok v w) (h : wpList P ops Q rest (a.put o.dst v) w) : wpList P ops Q (o :: rest) a w := by
  refine wpList_valw hw ?_ h
  simp [execOp, ho, hrun]
end
end Go.Agg
