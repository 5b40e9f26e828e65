/- Comparison of strings, as operations. (Several texts in one.) -/
import Derived.Test.YtdedpcdbnpnbeaaGreatDoorUAE
import Derived.Test.YtdedpcdbnpnbeaaGreatDoorUAA
/-! Operations on natural numbers as ints, addresses of elements of an array, a byte made a word. -/
namespace Go.Agg
open Go.RowKit Go.Sha
section
variable {P : Program} {o : Oper} {a : Act} {w : World} {t u : TypeId} {x y : Operand} {m n : Nat}
theorem wrap_i64N (n : Nat) (h : n < 9223372036854775808) : IntKind.i64.wrap (n : Int) = (n : Int) := by rw [IntKind.wrap_i64]; omega
theorem exec_addI (h : m + n < 9223372036854775808) (ho : o.op = .binOp .add t x y u) (hx : a.eval x = .int .i64 (m : Int)) (hy : a.eval y = .int .i64 (n : Int)) : (execOp a.eval o).run P w = .ok (.value (.int .i64 ((m + n : Nat) : Int))) w := by
  have hc : (binOp .add t (.int .i64 (m : Int)) (.int .i64 (n : Int))).run P w = .ok (.int .i64 ((m + n : Nat) : Int)) w := by
    simp only [binOp, Op.intArith]
    refine congrArg (fun n => Result.ok (Value.int .i64 n) w) ?_
    rw [← Int.natCast_add]
    exact wrap_i64N _ h
  simp only [execOp, ho, hx, hy]
  simp [eqGuard, hc]
theorem exec_subI (h : n ≤ m) (hm : m < 9223372036854775808) (ho : o.op = .binOp .sub t x y u) (hx : a.eval x = .int .i64 (m : Int)) (hy : a.eval y = .int .i64 (n : Int)) : (execOp a.eval o).run P w = .ok (.value (.int .i64 ((m - n : Nat) : Int))) w := by
  have hc : (binOp .sub t (.int .i64 (m : Int)) (.int .i64 (n : Int))).run P w = .ok (.int .i64 ((m - n : Nat) : Int)) w := by
    simp only [binOp, Op.intArith]
    refine congrArg (fun n => Result.ok (Value.int .i64 n) w) ?_
    rw [← Int.natCast_sub h]
    exact wrap_i64N _ (by omega)
  simp only [execOp, ho, hx, hy]
  simp [eqGuard, hc]
theorem exec_mulI (h : m * n < 9223372036854775808) (ho : o.op = .binOp .mul t x y u) (hx : a.eval x = .int .i64 (m : Int)) (hy : a.eval y = .int .i64 (n : Int)) : (execOp a.eval o).run P w = .ok (.value (.int .i64 ((m * n : Nat) : Int))) w := by
  have hc : (binOp .mul t (.int .i64 (m : Int)) (.int .i64 (n : Int))).run P w = .ok (.int .i64 ((m * n : Nat) : Int)) w := by
    simp only [binOp, Op.intArith]
    refine congrArg (fun n => Result.ok (Value.int .i64 n) w) ?_
    rw [← Int.natCast_mul]
    exact wrap_i64N _ h
  simp only [execOp, ho, hx, hy]
  simp [eqGuard, hc]
theorem exec_idx {vx vy v : Value} (ho : o.op = .indexAddr t x y) (hx : a.eval x = vx) (hy : a.eval y = vy) (hr : (Instr.indexAt t vx vy).run P w = .ok v w) : (execOp a.eval o).run P w = .ok (.value v) w := by
  simp [execOp, ho, hx, hy, hr]
theorem run_idxArr {e : TypeId} {k : Nat} (ht : P.underlying t = some (.array k e)) (hs : (P.info? e).map (·.size) = some 1) (g b i : Nat) (h : i < k) : (Instr.indexAt t (.pointer (some ⟨g, b, none⟩)) (.int .i64 (i : Int))).run P w = .ok (.pointer (some ⟨g, b + i, none⟩)) w := by
  have hl : P.arrayLen t = k := by simp [Program.arrayLen, ht]
  have he : P.elem t = e := by simp [Program.elem, ht]
  have h0 : (0 : Int) ≤ (i : Int) := by omega
  have h1 : (i : Int) < (k : Int) := by omega
  cases hq : P.info? e with
  | none => simp [hq] at hs
  | some j =>
    have hj : j.size = 1 := by simpa [hq] using hs
    rw [run_indexAt_array w t _ _ _ (by rw [hl, he]; exact ht)]
    rw [hl, he]
    simp [h0, h1, sizeOf, typeInfo, hq, hj]
    first | rfl | simp [Addr.add]
end
end Go.Agg
/-! Comparison of strings, as operations. -/
namespace Go.Agg
open Go.RowKit
section
variable {P : Program} {ops : Array Oper} {rest : List Oper} {o : Oper} {a : Act} {w : World} {Q : Exit → Act → World → Prop} {t u : TypeId} {x y : Operand} {s r : List UInt8}
theorem exec_geqS (ho : o.op = .binOp .geq t x y u) (hx : a.eval x = .string ⟨s.toArray⟩) (hy : a.eval y = .string ⟨r.toArray⟩) : (execOp a.eval o).run P w = .ok (.value (.bool (!Op.bytesLess s r))) w := by
  simp only [execOp, ho, hx, hy]
  simp only [binOp, Op.stringOp, bytes_toList, eqGuard]
  first | rfl | simp
theorem exec_eqlS (ho : o.op = .binOp .eql t x y u) (hx : a.eval x = .string ⟨s.toArray⟩) (hy : a.eval y = .string ⟨r.toArray⟩) : (execOp a.eval o).run P w = .ok (.value (.bool (decide (s = r)))) w := by
  rw [← show (s == r) = decide (s = r) from by by_cases h : s = r <;> simp [h]]
  simp only [execOp, ho, hx, hy]
  simp only [binOp, Op.stringOp, bytes_toList, eqGuard]
  first | rfl | simp
theorem exec_neqS (ho : o.op = .binOp .neq t x y u) (hx : a.eval x = .string ⟨s.toArray⟩) (hy : a.eval y = .string ⟨r.toArray⟩) : (execOp a.eval o).run P w = .ok (.value (.bool (!decide (s = r)))) w := by
  rw [← show (s == r) = decide (s = r) from by by_cases h : s = r <;> simp [h]]
  simp only [execOp, ho, hx, hy]
  simp only [binOp, Op.stringOp, bytes_toList, eqGuard]
  first | rfl | simp
theorem wpQuiet_geqS {C : World → Prop} {Q : Act → Prop} (hw : Region.wanted o (yielded ops a.tmps) = true) (ho : o.op = .binOp .geq t x y u) (hx : a.eval x = .string ⟨s.toArray⟩) (hy : a.eval y = .string ⟨r.toArray⟩) (b : Bool) (hb : (!Op.bytesLess s r) = b)
    (h : wpQuiet P ops C Q rest (a.put o.dst (.bool b))) : wpQuiet P ops C Q (o :: rest) a := by
  subst hb
  exact wpQuiet_val hw _ (fun _ _ => exec_geqS ho hx hy) h
theorem wpQuiet_eqlS {C : World → Prop} {Q : Act → Prop} (hw : Region.wanted o (yielded ops a.tmps) = true) (ho : o.op = .binOp .eql t x y u) (hx : a.eval x = .string ⟨s.toArray⟩) (hy : a.eval y = .string ⟨r.toArray⟩) (b : Bool) (hb : decide (s = r) = b)
    (h : wpQuiet P ops C Q rest (a.put o.dst (.bool b))) : wpQuiet P ops C Q (o :: rest) a := by
  subst hb
  exact wpQuiet_val hw _ (fun _ _ => exec_eqlS ho hx hy) h
theorem wpQuiet_neqS {C : World → Prop} {Q : Act → Prop} (hw : Region.wanted o (yielded ops a.tmps) = true) (ho : o.op = .binOp .neq t x y u) (hx : a.eval x = .string ⟨s.toArray⟩) (hy : a.eval y = .string ⟨r.toArray⟩) (b : Bool) (hb : (!decide (s = r)) = b)
    (h : wpQuiet P ops C Q rest (a.put o.dst (.bool b))) : wpQuiet P ops C Q (o :: rest) a := by
  subst hb
  exact wpQuiet_val hw _ (fun _ _ => exec_neqS ho hx hy) h
theorem wpList_eqlS (hw : Region.wanted o (yielded ops a.tmps) = true) (ho : o.op = .binOp .eql t x y u) (hx : a.eval x = .string ⟨s.toArray⟩) (hy : a.eval y = .string ⟨r.toArray⟩) (b : Bool) (hb : decide (s = r) = b) (h : wpList P ops Q rest (a.put o.dst (.bool b)) w) : wpList P ops Q (o :: rest) a w := by
  subst hb
  exact wpList_valw hw (exec_eqlS ho hx hy) h
theorem wpList_neqS (hw : Region.wanted o (yielded ops a.tmps) = true) (ho : o.op = .binOp .neq t x y u) (hx : a.eval x = .string ⟨s.toArray⟩) (hy : a.eval y = .string ⟨r.toArray⟩) (b : Bool) (hb : (!decide (s = r)) = b) (h : wpList P ops Q rest (a.put o.dst (.bool b)) w) : wpList P ops Q (o :: rest) a w := by
  subst hb
  exact wpList_valw hw (exec_neqS ho hx hy) h
theorem wpList_geqS (hw : Region.wanted o (yielded ops a.tmps) = true) (ho : o.op = .binOp .geq t x y u) (hx : a.eval x = .string ⟨s.toArray⟩) (hy : a.eval y = .string ⟨r.toArray⟩) (b : Bool) (hb : (!Op.bytesLess s r) = b) (h : wpList P ops Q rest (a.put o.dst (.bool b)) w) : wpList P ops Q (o :: rest) a w := by
  subst hb
  exact wpList_valw hw (exec_geqS ho hx hy) h
end
end Go.Agg
