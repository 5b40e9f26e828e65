/- text.reader.run: a recipe's digits. -/
import Derived.Test.YtnlilmiakddlaaaBAN
import Derived.Test.YtnlilmiakddlaaaBAO
namespace Go.Proofs.Ytnlilmiakddlaaa
open Go.RowKit Pl Go.Agg
def digL : List UInt8 := [48, 49, 50, 51, 52, 53, 54, 55, 56, 57, 97, 98, 99, 100, 101, 102]
/-- a digit's place among the digits -/
def dig (c : UInt8) : Int := Lib.indexByte digL c
theorem dig_unhex (c : UInt8) : dig c = match unhex c with | some n => (n : Int) | none => -1 := by
  have key : ∀ k, k < 256 → dig (UInt8.ofNat k) = match unhex (UInt8.ofNat k) with | some n => (n : Int) | none => -1 := by decide +kernel
  have := key c.toNat c.toNat_lt
  simpa using this
theorem unhexs_two (a b : UInt8) (l : List UInt8) : unhexs (a :: b :: l) = match unhex a, unhex b with
    | some x, some y => (unhexs l).map fun r => UInt8.ofNat (16 * x + y) :: r
    | _, _ => none := by
  rw [unhexs]
  cases unhex a <;> cases unhex b <;> rfl
theorem unhexs_odd : ∀ (n : Nat) (l : List UInt8), l.length = 2 * n + 1 → unhexs l = none
  | 0, l, h => by
    match l, h with
    | [a], _ => rfl
  | n + 1, l, h => by
    match l, h with
    | a :: b :: l, h =>
      rw [unhexs_two]
      have := unhexs_odd n l (by simp at h; omega)
      split
      · rw [this]; rfl
      · rfl
/-- what has been read of digits, so far -/
def soFar (s : List UInt8) (k : Nat) (out : List UInt8) : Prop := unhexs s = (unhexs (s.drop k)).map (out ++ ·)
theorem soFar_start (s : List UInt8) : soFar s 0 [] := by unfold soFar; simp
theorem soFar_drop {s : List UInt8} {k : Nat} {a b : UInt8} (ha : s[k]? = some a) (hb : s[k + 1]? = some b) : s.drop k = a :: b :: s.drop (k + 2) := by
  obtain ⟨h1, h2⟩ := List.getElem?_eq_some_iff.1 ha
  obtain ⟨h3, h4⟩ := List.getElem?_eq_some_iff.1 hb
  rw [List.drop_eq_getElem_cons h1, List.drop_eq_getElem_cons h3, h2, h4]
theorem soFar_step {s : List UInt8} {k x y : Nat} {a b : UInt8} {out : List UInt8} (h : soFar s k out) (ha : s[k]? = some a) (hb : s[k + 1]? = some b) (hx : unhex a = some x) (hy : unhex b = some y) : soFar s (k + 2) (out ++ [UInt8.ofNat (16 * x + y)]) := by
  unfold soFar at *
  rw [h, soFar_drop ha hb, unhexs_two, hx, hy]
  cases unhexs (s.drop (k + 2)) with
  | none => rfl
  | some r => simp
theorem soFar_bad {s : List UInt8} {k : Nat} {a b : UInt8} {out : List UInt8} (h : soFar s k out) (ha : s[k]? = some a) (hb : s[k + 1]? = some b) (hx : unhex a = none ∨ unhex b = none) : unhexs s = none := by
  unfold soFar at h
  rw [h, soFar_drop ha hb, unhexs_two]
  rcases hx with hx | hx
  · rw [hx]; rfl
  · rw [hx]
    cases unhex a <;> rfl
theorem soFar_end {s : List UInt8} {out : List UInt8} (h : soFar s s.length out) : unhexs s = some out := by
  unfold soFar at h
  rw [h, List.drop_length]
  simp [unhexs]
theorem tgStep_run (d : Drv) (rest : List UInt8) : tgStep ⟨d, false, false⟩ [114, 117, 110] rest = (unrun rest).map fun r => ⟨(d.1, d.2.1, d.2.2 ++ r), true, false⟩ := by
  simp only [tgStep, Bool.false_eq_true, if_false, if_neg ne_run.1, if_neg ne_run.2, if_true]
section
variable {o : Oper} {a : Act} {w : World} {x y : Operand} {t u : TypeId}
theorem exec_byteD (n : Nat) (ho : o.op = .convert 3 5 x) (hx : a.eval x = .int .i64 (n : Int)) : (execOp a.eval o).run Try.prog w = .ok (.value (vB (UInt8.ofNat n))) w := by
  have e : (UInt8.ofNat n).toNat = n % 256 := by simp
  have e2 : ((n % 256 : Nat) : Int) = (n : Int) % 256 := by omega
  simp only [execOp, ho, hx, vB, e, e2]
  have hc : (convert 3 5 (.int .i64 (n : Int))).run Try.prog w = .ok (.int .u8 ((n : Int) % 256)) w := by
    simp [convert]
    simp [Conv.intToInt, IntKind.wrap, IntKind.signed, IntKind.bits]
  simp [hc]
theorem or_low : ∀ m : Nat, m < 16 → ∀ n : Nat, n < 16 → IntKind.i64.wrap (((BitVec.ofInt 64 ((16 * m : Nat) : Int)) ||| (BitVec.ofInt 64 (n : Int))).toNat : Int) = ((16 * m + n : Nat) : Int) := by decide +kernel
theorem exec_orD {m n k r : Nat} (hm : m < 16) (hn : n < 16) (hk : 16 * m = k) (hr : k + n = r) (ho : o.op = .binOp .or t x y u) (hx : a.eval x = .int .i64 (k : Int)) (hy : a.eval y = .int .i64 (n : Int)) : (execOp a.eval o).run Try.prog w = .ok (.value (.int .i64 (r : Int))) w := by
  have hc : (binOp .or t (.int .i64 (k : Int)) (.int .i64 (n : Int))).run Try.prog w = .ok (.int .i64 (r : Int)) w := by
    subst hk hr
    simp only [binOp, Op.intBits]
    exact congrArg (fun z => Result.ok (Value.int .i64 z) w) (or_low m hm n hn)
  simp only [execOp, ho, hx, hy]
  simp [eqGuard, hc]
theorem exec_shlD {m k : Nat} (hm : m < 16) (hk : 16 * m = k) (ho : o.op = .binOp .shl t x (.const (.int .u64 4)) u) (hx : a.eval x = .int .i64 (m : Int)) : (execOp a.eval o).run Try.prog w = .ok (.value (.int .i64 (k : Int))) w := by
  have hy : a.eval (.const (.int .u64 4)) = .int .u64 4 := rfl
  have h : IntKind.i64.wrap ((m : Int) * 2 ^ (min ((4 : Int).toNat) 64)) = (k : Int) := by
    rw [IntKind.wrap_i64]
    have : (2 : Int) ^ (min ((4 : Int).toNat) 64) = 16 := by decide
    rw [this]; omega
  have hc : (binOp .shl t (.int .i64 (m : Int)) (.int .u64 4)).run Try.prog w = .ok (.int .i64 (k : Int)) w := by
    simp only [binOp, Op.shift, if_neg (show ¬ (4 : Int) < 0 by omega)]
    exact congrArg (fun z => Result.ok (Value.int .i64 z) w) h
  simp only [execOp, ho, hx, hy]
  simp [eqGuard, hc]
theorem run_and1 (n : Nat) (w : World) : (binOp .and 3 (.int .i64 (n : Int)) (.int .i64 1)).run Try.prog w = .ok (.int .i64 ((n % 2 : Nat) : Int)) w := by
  have h : IntKind.i64.wrap (((BitVec.ofInt 64 (n : Int)) &&& (BitVec.ofInt 64 1)).toNat : Int) = ((n % 2 : Nat) : Int) := by
    have e : ((BitVec.ofInt 64 (n : Int)) &&& (BitVec.ofInt 64 1)).toNat = n % 2 := by
      rw [BitVec.ofInt_natCast, show (BitVec.ofInt 64 1) = 1#64 from rfl, BitVec.toNat_and, BitVec.toNat_ofNat, BitVec.toNat_ofNat]
      show n % 2 ^ 64 &&& 1 = n % 2
      rw [Nat.and_one_is_mod]
      omega
    rw [e, IntKind.wrap_i64]
    omega
  simp only [binOp, Op.intBits]
  exact congrArg (fun z => Result.ok (Value.int .i64 z) w) h
end
theorem digit_any (c : UInt8) (w : World) : Calls Try.prog 31 #[.string ⟨#[48, 49, 50, 51, 52, 53, 54, 55, 56, 57, 97, 98, 99, 100, 101, 102]⟩, .int .u8 (c.toNat : Int)] w fun e w' => e = .returned (.int .i64 (dig c)) ∧ Below w.heap.size w w' := by
  refine (Try.strings_IndexByte ⟨#[48, 49, 50, 51, 52, 53, 54, 55, 56, 57, 97, 98, 99, 100, 101, 102]⟩ (c.toNat : Int) w).mono ?_
  rintro e w' ⟨rfl, rfl⟩
  refine ⟨?_, Below.refl _ _⟩
  have e : ((c.toNat : Int).toNat.toUInt8) = c := by simp
  rw [e]
  rfl
end Go.Proofs.Ytnlilmiakddlaaa
