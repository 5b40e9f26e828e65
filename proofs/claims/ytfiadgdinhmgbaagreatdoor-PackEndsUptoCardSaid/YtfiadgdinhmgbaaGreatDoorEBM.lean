/- Operations of a region that draws, guarded ones too: each by its own law. (Several texts in one.) -/
import Derived.Test.YtfiadgdinhmgbaaGreatDoorEAA
import Derived.Test.YtfiadgdinhmgbaaGreatDoorEAI
import Derived.Test.YtfiadgdinhmgbaaGreatDoorEAH
/-! Bytes as values: exclusive or, a bit set, a number's last eight bits. -/
namespace Go.Agg
open Go.RowKit
def vB (c : UInt8) : Value := .int .u8 (c.toNat : Int)
theorem ofInt_vB (c : UInt8) : BitVec.ofInt 8 (c.toNat : Int) = c.toBitVec := by
 rw [BitVec.ofInt_natCast]; exact BitVec.ofNat_toNat 8 c.toBitVec ▸ (by simp)
theorem wrap_u8B (c : UInt8) : IntKind.u8.wrap ((c.toNat : Nat) : Int) = (c.toNat : Int) := by
 have := c.toNat_lt
 simp only [IntKind.wrap, IntKind.signed, IntKind.bits, Bool.false_and, Bool.false_eq_true, if_false]
 omega
theorem wrap_u8N (n : Nat) : IntKind.u8.wrap (n : Int) = ((UInt8.ofNat n).toNat : Int) := by
 have e : (UInt8.ofNat n).toNat = n % 256 := by simp
 rw [e]
 simp only [IntKind.wrap, IntKind.signed, IntKind.bits, Bool.false_and, Bool.false_eq_true, if_false]
 omega
section
variable {P : Program} {w : World} {t u : TypeId} {x y : UInt8} {o : Oper} {a : Act} {p q : Operand}
theorem run_xorB : (binOp .xor t (vB x) (vB y)).run P w = .ok (vB (x ^^^ y)) w := by
 have h : IntKind.u8.wrap (((BitVec.ofInt 8 (x.toNat : Int) ^^^ BitVec.ofInt 8 (y.toNat : Int)).toNat : Nat) : Int) = ((x ^^^ y).toNat : Int) := by rw [ofInt_vB, ofInt_vB]; exact wrap_u8B (x ^^^ y)
 simp only [binOp, vB, Op.intBits]
 exact congrArg (fun n => Result.ok (Value.int .u8 n) w) h
theorem run_shlB (k : IntKind) (n : Nat) (hn : n < 8) : (binOp .shl t (vB x) (.int k (n : Int))).run P w = .ok (vB (UInt8.ofNat (x.toNat * 2 ^ n))) w := by
 have h : IntKind.u8.wrap ((x.toNat : Int) * 2 ^ (min ((n : Int).toNat) 8)) = ((UInt8.ofNat (x.toNat * 2 ^ n)).toNat : Int) := by
  rw [show min ((n : Int).toNat) 8 = n by omega, show ((x.toNat : Int) * 2 ^ n) = ((x.toNat * 2 ^ n : Nat) : Int) by push_cast; rfl]
  exact wrap_u8N _
 simp only [binOp, vB, Op.shift, if_neg (show ¬ (n : Int) < 0 by omega)]
 exact congrArg (fun n => Result.ok (Value.int .u8 n) w) h
theorem exec_xorB (ho : o.op = .binOp .xor t p q u) (hx : a.eval p = vB x) (hy : a.eval q = vB y) : (execOp a.eval o).run P w = .ok (.value (vB (x ^^^ y))) w := by
 simp only [execOp, ho, hx, hy]
 simp [eqGuard, run_xorB]
theorem exec_shlB {k : IntKind} (n : Nat) (hn : n < 8) (ho : o.op = .binOp .shl t p q u) (hx : a.eval p = vB x) (hy : a.eval q = .int k (n : Int)) : (execOp a.eval o).run P w = .ok (.value (vB (UInt8.ofNat (x.toNat * 2 ^ n)))) w := by
 simp only [execOp, ho, hx, hy]
 simp [eqGuard, run_shlB k n hn]
end
end Go.Agg
/-! Operations of a region that draws, guarded ones too: each by its own law. -/
namespace Go.Agg
open Go.RowKit
variable {P : Program}
section
variable {ops : Array Oper} {o : Oper} {a : Act} {w : World} {Q : Exit → Act → World → Prop} {K : Act → World → Prop} {F : Prop}
theorem stepw_val {v : Value} {w' : World} (hw : Region.wanted o (yielded ops a.tmps) = true) (hrun : (execOp a.eval o).run P w = .ok (.value v) w') (h : K (a.put o.dst v) w') : if Region.wanted o (yielded ops a.tmps) = true then o.wp P a w K Q else F := by
 rw [if_pos hw]
 unfold Oper.wp
 rw [hrun]
 exact h
theorem stepw_store {w' : World} (hw : Region.wanted o (yielded ops a.tmps) = true) (hd : o.dst = none) (ty : TypeId) (x y : Operand) (ho : o.op = .store ty x y) (p v : Value) (hx : a.eval x = p) (hy : a.eval y = v)
  (hrun : (Instr.storeAt ty p v).run P w = .ok () w') (h : K a w') : if Region.wanted o (yielded ops a.tmps) = true then o.wp P a w K Q else F := by
 rw [if_pos hw]
 unfold Oper.wp
 have : (execOp a.eval o).run P w = .ok .skip w' := by simp [execOp, ho, hx, hy, hrun]
 rw [this, Oper.upon_skip, hd]
 exact h
theorem stepw_load (hw : Region.wanted o (yielded ops a.tmps) = true) (ty : TypeId) (x : Operand) (ho : o.op = .load ty x) (p v : Value) (hx : a.eval x = p) (hrun : (Instr.loadAt ty p).run P w = .ok v w) (h : K (a.put o.dst v) w) : if Region.wanted o (yielded ops a.tmps) = true then o.wp P a w K Q else F :=
 stepw_val hw (by simp [execOp, ho, hx, hrun]) h
theorem stepw_call (hw : Region.wanted o (yielded ops a.tmps) = true) (f : FuncId) (xs : Array Operand) (ts : Array TypeId) (ho : o.op = .call { callee := .value (.func f), args := xs, argTypes := ts }) (vs : Array Value) (hv : xs.map a.eval = vs)
  (he : ∀ w, (callFunc f vs).run P w = .ok (.enter f vs) w) (h : Calls P f vs w fun e w' => ∃ v, e = .returned v ∧ K (a.put o.dst v) w') : if Region.wanted o (yielded ops a.tmps) = true then o.wp P a w K Q else F := by
 rw [if_pos hw]
 unfold Oper.wp
 have : (execOp a.eval o).run P w = .ok (.enter f vs) w := by
  subst hv
  have hf : a.eval (Operand.func f) = .func (.func f) #[] #[] := rfl
  simp [execOp, ho, resolve, invoke, hf, Deferred.ofValue, he]
 rw [this, Oper.upon_enter]
 refine h.mono ?_
 rintro e w' ⟨v, rfl, hk⟩
 exact hk
theorem stepw_slice1 {α : Type} {E : Elem P α} (hw : Region.wanted o (yielded ops a.tmps) = true) (y : Operand) (ho : o.op = .buildSlice E.st 1 #[(0, y)]) (x : α) (hy : a.eval y = E.val x)
  (h : ∀ v' w', Own E w.heap.size w' v' [x] → Below w.heap.size w w' → K (a.put o.dst v') w') : if Region.wanted o (yielded ops a.tmps) = true then o.wp P a w K Q else F := by
 refine stepw_val hw (v := .slice (some ⟨w.heap.size, 0, none⟩) 1 1) (w' := w.alloc (.cells (E.val x).cells E.ty)) (by simp [execOp, ho, hy, run_slice_one]) (h _ _ ?_ ((Below.refl _ _).alloc (Nat.le_refl _) _))
 have hs := E.size x
 refine ⟨by rw [E.flat_one, E.cs_length]; simp, .inr ⟨_, 1, _, rfl, Nat.le_refl _, heap_alloc_new w _, Nat.le_refl _, by simp [maxLen], by rw [hs]; simp, ?_⟩⟩
 rw [E.flat_one, Elem.cs, List.take_of_length_le (by rw [Array.length_toList, hs]; simp)]
theorem stepw_append {α : Type} {E : Elem P α} (hw : Region.wanted o (yielded ops a.tmps) = true) (s x : Operand) (ho : o.op = .call { callee := .builtin .append, args := #[s, x], argTypes := #[E.st, E.st] }) (v : Value) (l : List α) (u : Value) (m : List α)
  (hs : a.eval s = v) (hx : a.eval x = u) (hr : RoomN E w v l) (hu : SliceOf E w u m) (h63 : l.length + m.length ≤ 1099511627776 / 8) (hby : E.bytes ≤ 1000)
  (h : ∀ v' w', RoomN E w' v' (l ++ m) → RoomN E w' v l → Only (fun b => v.ownBlock = some b) w w' → (∀ b, v'.ownBlock = some b → v.ownBlock = some b ∨ w.heap.size ≤ b) → K (a.put o.dst v') w') :
  if Region.wanted o (yielded ops a.tmps) = true then o.wp P a w K Q else F := by
 obtain ⟨v', w', hrun, h1, h2, h3, h4, _⟩ := run_append_room hr u m hu h63 hby o.type
 exact stepw_val hw (by simp [execOp, ho, resolve, invoke, builtin, hs, hx, hrun]) (h v' w' h1 h2 h3 h4)
end
end Go.Agg
