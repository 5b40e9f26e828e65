/- Operations on natural numbers as ints, addresses of elements of an array, a byte made a word. (Several texts in one.) -/
import Derived.Test.YtnlilmiakddlaaaBAA
/-! Bytes as values: exclusive or, a bit set, a number's last eight bits. -/
namespace Go.Agg
open Go.RowKit
def vB (c : UInt8) : Value := .int .u8 (c.toNat : Int)
theorem ofInt_vB (c : UInt8) : BitVec.ofInt 8 (c.toNat : Int) = c.toBitVec := by
  rw [BitVec.ofInt_natCast]; exact BitVec.ofNat_toNat 8 c.toBitVec ▸ (by simp)
theorem wrap_u8B (c : UInt8) : IntKind.u8.wrap ((c.toNat : Nat) : Int) = (c.toNat : Int) := by
  have := c.toNat_lt
  simp only [IntKind.wrap, IntKind.signed, IntKind.bits, Bool.false_and, Bool.false_eq_true, if_false]
  omega
theorem wrap_u8N (n : Nat) : IntKind.u8.wrap (n : Int) = ((UInt8.ofNat n).toNat : Int) := by
  have e : (UInt8.ofNat n).toNat = n % 256 := by simp
  rw [e]
  simp only [IntKind.wrap, IntKind.signed, IntKind.bits, Bool.false_and, Bool.false_eq_true, if_false]
  omega
section
variable {P : Program} {w : World} {t u : TypeId} {x y : UInt8} {o : Oper} {a : Act} {p q : Operand}
theorem run_xorB : (binOp .xor t (vB x) (vB y)).run P w = .ok (vB (x ^^^ y)) w := by
  have h : IntKind.u8.wrap (((BitVec.ofInt 8 (x.toNat : Int) ^^^ BitVec.ofInt 8 (y.toNat : Int)).toNat : Nat) : Int) = ((x ^^^ y).toNat : Int) := by rw [ofInt_vB, ofInt_vB]; exact wrap_u8B (x ^^^ y)
  simp only [binOp, vB, Op.intBits]
  exact congrArg (fun n => Result.ok (Value.int .u8 n) w) h
theorem run_shlB (k : IntKind) (n : Nat) (hn : n < 8) : (binOp .shl t (vB x) (.int k (n : Int))).run P w = .ok (vB (UInt8.ofNat (x.toNat * 2 ^ n))) w := by
  have h : IntKind.u8.wrap ((x.toNat : Int) * 2 ^ (min ((n : Int).toNat) 8)) = ((UInt8.ofNat (x.toNat * 2 ^ n)).toNat : Int) := by
    rw [show min ((n : Int).toNat) 8 = n by omega, show ((x.toNat : Int) * 2 ^ n) = ((x.toNat * 2 ^ n : Nat) : Int) by push_cast; rfl]
    exact wrap_u8N _
  simp only [binOp, vB, Op.shift, if_neg (show ¬ (n : Int) < 0 by omega)]
  exact congrArg (fun n => Result.ok (Value.int .u8 n) w) h
theorem exec_xorB (ho : o.op = .binOp .xor t p q u) (hx : a.eval p = vB x) (hy : a.eval q = vB y) : (execOp a.eval o).run P w = .ok (.value (vB (x ^^^ y))) w := by
  simp only [execOp, ho, hx, hy]
  simp [eqGuard, run_xorB]
theorem exec_shlB {k : IntKind} (n : Nat) (hn : n < 8) (ho : o.op = .binOp .shl t p q u) (hx : a.eval p = vB x) (hy : a.eval q = .int k (n : Int)) : (execOp a.eval o).run P w = .ok (.value (vB (UInt8.ofNat (x.toNat * 2 ^ n)))) w := by
  simp only [execOp, ho, hx, hy]
  simp [eqGuard, run_shlB k n hn]
end
end Go.Agg
/-! The digest that the document tells (chapter 2), as a function: plain Lean, no program in sight. -/
namespace Go.Sha
abbrev W := BitVec 32
/-- the eight words -/
structure St where
  (a b c d e f g h : W)
deriving DecidableEq
def rot (x : W) (k : Nat) : W := (x >>> k) ||| (x <<< (32 - k))
def s0 (x : W) : W := rot x 2 ^^^ rot x 13 ^^^ rot x 22
def s1 (x : W) : W := rot x 6 ^^^ rot x 11 ^^^ rot x 25
def t0 (x : W) : W := rot x 7 ^^^ rot x 18 ^^^ (x >>> 3)
def t1 (x : W) : W := rot x 17 ^^^ rot x 19 ^^^ (x >>> 10)
def ch (x y z : W) : W := z ^^^ (x &&& (y ^^^ z))
def maj (x y z : W) : W := (x &&& (y ||| z)) ||| (y &&& z)
theorem ch_eq (x y z : W) : (x &&& y) ||| (~~~x &&& z) = ch x y z := by
  unfold ch; ext i hi; simp; cases x[i] <;> cases y[i] <;> cases z[i] <;> rfl
theorem maj_eq (x y z : W) : ((x &&& y) ||| (x &&& z)) ||| (y &&& z) = maj x y z := by
  unfold maj; ext i hi; simp; cases x[i] <;> cases y[i] <;> cases z[i] <;> rfl
/-- one round -/
def round (k w : W) (x : St) : St :=
  let p := x.h + s1 x.e + ch x.e x.f x.g + k + w
  ⟨p + (s0 x.a + maj x.a x.b x.c), x.a, x.b, x.c, x.d + p, x.e, x.f, x.g⟩
def ks : List W := [
  0x428a2f98, 0x71374491, 0xb5c0fbcf, 0xe9b5dba5, 0x3956c25b, 0x59f111f1, 0x923f82a4, 0xab1c5ed5,
  0xd807aa98, 0x12835b01, 0x243185be, 0x550c7dc3, 0x72be5d74, 0x80deb1fe, 0x9bdc06a7, 0xc19bf174,
  0xe49b69c1, 0xefbe4786, 0x0fc19dc6, 0x240ca1cc, 0x2de92c6f, 0x4a7484aa, 0x5cb0a9dc, 0x76f988da,
  0x983e5152, 0xa831c66d, 0xb00327c8, 0xbf597fc7, 0xc6e00bf3, 0xd5a79147, 0x06ca6351, 0x14292967,
  0x27b70a85, 0x2e1b2138, 0x4d2c6dfc, 0x53380d13, 0x650a7354, 0x766a0abb, 0x81c2c92e, 0x92722c85,
  0xa2bfe8a1, 0xa81a664b, 0xc24b8b70, 0xc76c51a3, 0xd192e819, 0xd6990624, 0xf40e3585, 0x106aa070,
  0x19a4c116, 0x1e376c08, 0x2748774c, 0x34b0bcb5, 0x391c0cb3, 0x4ed8aa4a, 0x5b9cca4f, 0x682e6ff3,
  0x748f82ee, 0x78a5636f, 0x84c87814, 0x8cc70208, 0x90befffa, 0xa4506ceb, 0xbef9a3f7, 0xc67178f2]
theorem ks_length : ks.length = 64 := rfl
/-- four bytes as a word, the highest first -/
def word (b : List UInt8) (i : Nat) : W := BitVec.ofNat 32 (16777216 * (b.getD i 0).toNat + 65536 * (b.getD (i + 1) 0).toNat + 256 * (b.getD (i + 2) 0).toNat + (b.getD (i + 3) 0).toNat)
def nextW (w : List W) : W := t1 (w.getD (w.length - 2) 0) + w.getD (w.length - 7) 0 + t0 (w.getD (w.length - 15) 0) + w.getD (w.length - 16) 0
/-- the first t words of a block -/
def words (b : List UInt8) : Nat → List W
  | 0 => []
  | t + 1 => let w := words b t; w ++ [if t < 16 then word b (4 * t) else nextW w]
theorem words_length (b : List UInt8) (t : Nat) : (words b t).length = t := by
  induction t with
  | zero => rfl
  | succ t ih => simp [words, ih]
def rounds (b : List UInt8) : Nat → St → St
  | 0, x => x
  | t + 1, x => round (ks.getD t 0) ((words b 64).getD t 0) (rounds b t x)
def add (x y : St) : St := ⟨x.a + y.a, x.b + y.b, x.c + y.c, x.d + y.d, x.e + y.e, x.f + y.f, x.g + y.g, x.h + y.h⟩
/-- a block turns the words -/
def block (x : St) (b : List UInt8) : St := add x (rounds b 64 x)
def first : St := ⟨0x6a09e667, 0xbb67ae85, 0x3c6ef372, 0xa54ff53a, 0x510e527f, 0x9b05688c, 0x1f83d9ab, 0x5be0cd19⟩
/-- n blocks of bytes -/
def blocks (l : List UInt8) : Nat → St → St
  | 0, x => x
  | n + 1, x => block (blocks l n x) ((l.drop (64 * n)).take 64)
def tail (n : Nat) : List UInt8 := (128 : UInt8) :: (List.replicate ((119 - n % 64) % 64) 0 ++ (List.range 8).map fun i => UInt8.ofNat (8 * n / 256 ^ (7 - i)))
def padded (l : List UInt8) : List UInt8 := l ++ tail l.length
theorem tail_length (n : Nat) : (tail n).length = (119 - n % 64) % 64 + 9 := by simp [tail]
theorem padded_mod (l : List UInt8) : (padded l).length % 64 = 0 := by
  simp only [padded, List.length_append, tail_length]; omega
def St.list (x : St) : List W := [x.a, x.b, x.c, x.d, x.e, x.f, x.g, x.h]
def St.byte (x : St) (i : Nat) : UInt8 := UInt8.ofNat ((x.list.getD (i / 4) 0).toNat / 256 ^ (3 - i % 4))
def digest (l : List UInt8) : List UInt8 := (List.range 32).map (blocks (padded l) ((padded l).length / 64) first).byte
/-- a digest, folded -/
def fold (s : List UInt8) : List UInt8 := (List.range 20).map fun i => if i < 12 then s.getD i 0 ^^^ s.getD (i + 20) 0 else s.getD i 0
example : (digest []).take 4 = [0xe3, 0xb0, 0xc4, 0x42] := by decide +kernel
example : (digest [97, 98, 99]).take 4 = [0xba, 0x78, 0x16, 0xbf] := by decide +kernel
end Go.Sha
/-! Words of 32 bits as values: what the operations make of them. -/
namespace Go.Agg
open Go.RowKit Go.Sha
def vW (x : W) : Value := .int .u32 (x.toNat : Int)
theorem ofInt_vW (x : W) : BitVec.ofInt 32 (x.toNat : Int) = x := by
  rw [BitVec.ofInt_natCast, BitVec.ofNat_toNat, BitVec.setWidth_eq]
theorem wrap_u32W (x : W) : IntKind.u32.wrap ((x.toNat : Nat) : Int) = (x.toNat : Int) := by
  have := x.isLt
  simp only [IntKind.wrap, IntKind.signed, IntKind.bits, Bool.false_and, Bool.false_eq_true, if_false]
  omega
section
variable {P : Program} {w : World} {t : TypeId} {x y : W}
theorem run_xorW : (binOp .xor t (vW x) (vW y)).run P w = .ok (vW (x ^^^ y)) w := by
  have h : IntKind.u32.wrap (((BitVec.ofInt 32 (x.toNat : Int) ^^^ BitVec.ofInt 32 (y.toNat : Int)).toNat : Nat) : Int) = ((x ^^^ y).toNat : Int) := by rw [ofInt_vW, ofInt_vW]; exact wrap_u32W _
  simp only [binOp, vW, Op.intBits]
  exact congrArg (fun n => Result.ok (Value.int .u32 n) w) h
theorem run_andW : (binOp .and t (vW x) (vW y)).run P w = .ok (vW (x &&& y)) w := by
  have h : IntKind.u32.wrap (((BitVec.ofInt 32 (x.toNat : Int) &&& BitVec.ofInt 32 (y.toNat : Int)).toNat : Nat) : Int) = ((x &&& y).toNat : Int) := by rw [ofInt_vW, ofInt_vW]; exact wrap_u32W _
  simp only [binOp, vW, Op.intBits]
  exact congrArg (fun n => Result.ok (Value.int .u32 n) w) h
theorem run_orW : (binOp .or t (vW x) (vW y)).run P w = .ok (vW (x ||| y)) w := by
  have h : IntKind.u32.wrap (((BitVec.ofInt 32 (x.toNat : Int) ||| BitVec.ofInt 32 (y.toNat : Int)).toNat : Nat) : Int) = ((x ||| y).toNat : Int) := by rw [ofInt_vW, ofInt_vW]; exact wrap_u32W _
  simp only [binOp, vW, Op.intBits]
  exact congrArg (fun n => Result.ok (Value.int .u32 n) w) h
theorem run_addW : (binOp .add t (vW x) (vW y)).run P w = .ok (vW (x + y)) w := by
  have h : IntKind.u32.wrap ((x.toNat : Int) + (y.toNat : Int)) = ((x + y).toNat : Int) := by
    rw [BitVec.toNat_add]
    simp only [IntKind.wrap, IntKind.signed, IntKind.bits, Bool.false_and, Bool.false_eq_true, if_false]
    omega
  simp only [binOp, vW, Op.intArith]
  exact congrArg (fun n => Result.ok (Value.int .u32 n) w) h
theorem run_shlW (k : IntKind) (n : Nat) (hn : n < 32) : (binOp .shl t (vW x) (.int k (n : Int))).run P w = .ok (vW (x <<< n)) w := by
  have h : IntKind.u32.wrap ((x.toNat : Int) * 2 ^ (min ((n : Int).toNat) 32)) = ((x <<< n).toNat : Int) := by
    rw [BitVec.toNat_shiftLeft, Nat.shiftLeft_eq, show min ((n : Int).toNat) 32 = n by omega]
    simp only [IntKind.wrap, IntKind.signed, IntKind.bits, Bool.false_and, Bool.false_eq_true, if_false]
    have : ((x.toNat : Int) * 2 ^ n) = ((x.toNat * 2 ^ n : Nat) : Int) := by push_cast; rfl
    rw [this]
    omega
  simp only [binOp, vW, Op.shift, if_neg (show ¬ (n : Int) < 0 by omega)]
  exact congrArg (fun n => Result.ok (Value.int .u32 n) w) h
theorem run_shrW (k : IntKind) (n : Nat) (hn : n < 32) : (binOp .shr t (vW x) (.int k (n : Int))).run P w = .ok (vW (x >>> n)) w := by
  have h : ((x.toNat : Int).fdiv (2 ^ (min ((n : Int).toNat) 32))) = ((x >>> n).toNat : Int) := by
    rw [BitVec.toNat_ushiftRight, Nat.shiftRight_eq_div_pow, show min ((n : Int).toNat) 32 = n by omega]
    have : ((2 : Int) ^ n) = ((2 ^ n : Nat) : Int) := by push_cast; rfl
    rw [this, Int.fdiv_eq_ediv_of_nonneg _ (Int.natCast_nonneg _)]
    exact (Int.natCast_ediv _ _).symm
  simp only [binOp, vW, Op.shift, if_neg (show ¬ (n : Int) < 0 by omega)]
  exact congrArg (fun n => Result.ok (Value.int .u32 n) w) h
end
section
variable {P : Program} {o : Oper} {a : Act} {w : World} {t u : TypeId} {p q : Operand} {x y : W}
theorem exec_xorW (ho : o.op = .binOp .xor t p q u) (hx : a.eval p = vW x) (hy : a.eval q = vW y) : (execOp a.eval o).run P w = .ok (.value (vW (x ^^^ y))) w := by
  simp only [execOp, ho, hx, hy]
  simp [eqGuard, run_xorW]
theorem exec_andW (ho : o.op = .binOp .and t p q u) (hx : a.eval p = vW x) (hy : a.eval q = vW y) : (execOp a.eval o).run P w = .ok (.value (vW (x &&& y))) w := by
  simp only [execOp, ho, hx, hy]
  simp [eqGuard, run_andW]
theorem exec_orW (ho : o.op = .binOp .or t p q u) (hx : a.eval p = vW x) (hy : a.eval q = vW y) : (execOp a.eval o).run P w = .ok (.value (vW (x ||| y))) w := by
  simp only [execOp, ho, hx, hy]
  simp [eqGuard, run_orW]
theorem exec_addW (ho : o.op = .binOp .add t p q u) (hx : a.eval p = vW x) (hy : a.eval q = vW y) : (execOp a.eval o).run P w = .ok (.value (vW (x + y))) w := by
  simp only [execOp, ho, hx, hy]
  simp [eqGuard, run_addW]
theorem exec_shlW {k : IntKind} (n : Nat) (hn : n < 32) (ho : o.op = .binOp .shl t p q u) (hx : a.eval p = vW x) (hy : a.eval q = .int k (n : Int)) : (execOp a.eval o).run P w = .ok (.value (vW (x <<< n))) w := by
  simp only [execOp, ho, hx, hy]
  simp [eqGuard, run_shlW k n hn]
theorem exec_shrW {k : IntKind} (n : Nat) (hn : n < 32) (ho : o.op = .binOp .shr t p q u) (hx : a.eval p = vW x) (hy : a.eval q = .int k (n : Int)) : (execOp a.eval o).run P w = .ok (.value (vW (x >>> n))) w := by
  simp only [execOp, ho, hx, hy]
  simp [eqGuard, run_shrW k n hn]
end
end Go.Agg
/-! The digest, taken piece by piece: the plain law. -/
namespace Go.Sha
theorem blocks_append (l b : List UInt8) : ∀ (k : Nat) (x : St), 64 * k ≤ l.length → blocks (l ++ b) k x = blocks l k x
  | 0, _, _ => rfl
  | k + 1, x, h => by
    rw [blocks, blocks, blocks_append l b k x (by omega)]
    congr 1
    rw [List.drop_append_of_le_length (by omega), List.take_append_of_le_length (by rw [List.length_drop]; omega)]
/-- the words behind whole blocks, the bytes behind them -/
def sp (l : List UInt8) : St := blocks l (l.length / 64) first
def rst (l : List UInt8) : List UInt8 := l.drop (64 * (l.length / 64))
theorem rst_length (l : List UInt8) : (rst l).length = l.length % 64 := by rw [rst, List.length_drop]; omega
theorem sp_short {l b : List UInt8} (h : l.length % 64 + b.length < 64) : sp (l ++ b) = sp l ∧ rst (l ++ b) = rst l ++ b := by
  have e : (l ++ b).length / 64 = l.length / 64 := by rw [List.length_append]; omega
  refine ⟨by rw [sp, sp, e, blocks_append l b _ _ (by omega)], ?_⟩
  rw [rst, rst, e, List.drop_append_of_le_length (by omega)]
theorem sp_full {l b : List UInt8} (h : l.length % 64 + b.length = 64) : sp (l ++ b) = block (sp l) (rst l ++ b) ∧ rst (l ++ b) = [] := by
  have e : (l ++ b).length / 64 = l.length / 64 + 1 := by rw [List.length_append]; omega
  refine ⟨?_, ?_⟩
  · rw [sp, e, blocks, blocks_append l b _ _ (by omega), List.drop_append_of_le_length (by omega), List.take_of_length_le (by rw [List.length_append, List.length_drop]; omega)]
    rfl
  · rw [rst, e]
    exact List.drop_eq_nil_of_le (by rw [List.length_append]; omega)
theorem digest_sp (l : List UInt8) : digest l = (List.range 32).map (sp (padded l)).byte := rfl
theorem shaByte_at (x : St) (i : Nat) : x.byte i = UInt8.ofNat ((x.list.getD (i / 4) 0).toNat / 256 ^ (3 - i % 4)) := rfl
/-- a tag's, and parts', bytes as they are summed -/
def encL (n : Nat) : List UInt8 := if h : 128 ≤ n then UInt8.ofNat (n % 128 + 128) :: encL (n / 128) else [UInt8.ofNat n]
end Go.Sha
/-! Words out of bytes, turned and mixed; a digest folded: as the code has it. -/
namespace Go.Sha
/-- a word, right-turned by numbers, put together -/
def mixP (x : W) (ks : List Nat) : W := ks.foldl (fun o k => o ^^^ rot x k) 0
theorem mix_s0 (x : W) : mixP x [2, 13, 22] = s0 x := by simp [mixP, s0]
theorem mix_s1 (x : W) : mixP x [6, 11, 25] = s1 x := by simp [mixP, s1]
theorem mix_t0 (x : W) : mixP x [7, 18] ^^^ (x >>> 3) = t0 x := by simp [mixP, t0]
theorem mix_t1 (x : W) : mixP x [17, 19] ^^^ (x >>> 10) = t1 x := by simp [mixP, t1]
theorem mixP_snoc (x : W) (ks : List Nat) (k : Nat) : mixP x (ks ++ [k]) = mixP x ks ^^^ rot x k := by simp [mixP]
/-- a byte as a word -/
def wB (c : UInt8) : W := BitVec.ofNat 32 c.toNat
theorem wB_toNat (c : UInt8) : (wB c).toNat = c.toNat := by
  have := c.toNat_lt
  simp only [wB, BitVec.toNat_ofNat]
  omega
theorem shl_toNat (c : UInt8) (k : Nat) (hk : k ≤ 24) : (wB c <<< k).toNat = c.toNat * 2 ^ k := by
  have h := c.toNat_lt
  rw [BitVec.toNat_shiftLeft, wB_toNat, Nat.shiftLeft_eq]
  refine Nat.mod_eq_of_lt (Nat.lt_of_lt_of_le (Nat.mul_lt_mul_of_pos_right h (Nat.pow_pos (by omega))) ?_)
  calc 2 ^ 8 * 2 ^ k = 2 ^ (8 + k) := by rw [Nat.pow_add]
    _ ≤ 2 ^ 32 := Nat.pow_le_pow_right (by omega) (by omega)
theorem word_or (c0 c1 c2 c3 : UInt8) : (((wB c0 <<< 24) ||| (wB c1 <<< 16)) ||| (wB c2 <<< 8)) ||| wB c3 = BitVec.ofNat 32 (16777216 * c0.toNat + 65536 * c1.toNat + 256 * c2.toNat + c3.toNat) := by
  have h0 := c0.toNat_lt
  have h1 := c1.toNat_lt
  have h2 := c2.toNat_lt
  have h3 := c3.toNat_lt
  apply BitVec.eq_of_toNat_eq
  rw [BitVec.toNat_or, BitVec.toNat_or, BitVec.toNat_or, shl_toNat _ _ (by omega), shl_toNat _ _ (by omega), shl_toNat _ _ (by omega), wB_toNat, BitVec.toNat_ofNat]
  generalize c0.toNat = a at *
  generalize c1.toNat = b at *
  generalize c2.toNat = c at *
  generalize c3.toNat = d at *
  simp only [Nat.reducePow] at *
  have e1 : a * 16777216 ||| b * 65536 = a * 16777216 + b * 65536 := by
    have h := Nat.shiftLeft_add_eq_or_of_lt (i := 24) (b := b * 65536) (by simp only [Nat.reducePow]; omega) a
    simp only [Nat.shiftLeft_eq, Nat.reducePow] at h
    exact h.symm
  have e2 : (a * 16777216 + b * 65536) ||| c * 256 = a * 16777216 + b * 65536 + c * 256 := by
    have h := Nat.shiftLeft_add_eq_or_of_lt (i := 16) (b := c * 256) (by simp only [Nat.reducePow]; omega) (a * 256 + b)
    have e : (a * 256 + b) * 65536 = a * 16777216 + b * 65536 := by omega
    simp only [Nat.shiftLeft_eq, Nat.reducePow, e] at h
    exact h.symm
  have e3 : (a * 16777216 + b * 65536 + c * 256) ||| d = a * 16777216 + b * 65536 + c * 256 + d := by
    have h := Nat.shiftLeft_add_eq_or_of_lt (i := 8) (b := d) (by simp only [Nat.reducePow]; omega) (a * 65536 + b * 256 + c)
    have e : (a * 65536 + b * 256 + c) * 256 = a * 16777216 + b * 65536 + c * 256 := by omega
    simp only [Nat.shiftLeft_eq, Nat.reducePow, e] at h
    exact h.symm
  rw [e1, e2, e3]
  omega
/-- a digest folded, byte by byte -/
def foldG (s : List UInt8) : Nat → List UInt8
  | 0 => List.replicate 20 0
  | k + 1 => (foldG s k).set (k % 20) ((foldG s k).getD (k % 20) 0 ^^^ s.getD k 0)
theorem foldG_length (s : List UInt8) (k : Nat) : (foldG s k).length = 20 := by
  induction k with
  | zero => rfl
  | succ k ih => simp [foldG, ih]
theorem digest_length (l : List UInt8) : (digest l).length = 32 := by simp [digest]
/-- the folded digest of texts -/
def sumF (l : List UInt8) : List UInt8 := foldG (digest l) 32
theorem sumF_length (l : List UInt8) : (sumF l).length = 20 := foldG_length _ _
end Go.Sha
/-! Operations on natural numbers as ints, addresses of elements of an array, a byte made a word. -/
namespace Go.Agg
open Go.RowKit Go.Sha
section
variable {P : Program} {o : Oper} {a : Act} {w : World} {t u : TypeId} {x y : Operand} {m n : Nat}
theorem wrap_i64N (n : Nat) (h : n < 9223372036854775808) : IntKind.i64.wrap (n : Int) = (n : Int) := by rw [IntKind.wrap_i64]; omega
theorem exec_addI (h : m + n < 9223372036854775808) (ho : o.op = .binOp .add t x y u) (hx : a.eval x = .int .i64 (m : Int)) (hy : a.eval y = .int .i64 (n : Int)) : (execOp a.eval o).run P w = .ok (.value (.int .i64 ((m + n : Nat) : Int))) w := by
  have hc : (binOp .add t (.int .i64 (m : Int)) (.int .i64 (n : Int))).run P w = .ok (.int .i64 ((m + n : Nat) : Int)) w := by
    simp only [binOp, Op.intArith]
    refine congrArg (fun n => Result.ok (Value.int .i64 n) w) ?_
    rw [← Int.natCast_add]
    exact wrap_i64N _ h
  simp only [execOp, ho, hx, hy]
  simp [eqGuard, hc]
theorem exec_subI (h : n ≤ m) (hm : m < 9223372036854775808) (ho : o.op = .binOp .sub t x y u) (hx : a.eval x = .int .i64 (m : Int)) (hy : a.eval y = .int .i64 (n : Int)) : (execOp a.eval o).run P w = .ok (.value (.int .i64 ((m - n : Nat) : Int))) w := by
  have hc : (binOp .sub t (.int .i64 (m : Int)) (.int .i64 (n : Int))).run P w = .ok (.int .i64 ((m - n : Nat) : Int)) w := by
    simp only [binOp, Op.intArith]
    refine congrArg (fun n => Result.ok (Value.int .i64 n) w) ?_
    rw [← Int.natCast_sub h]
    exact wrap_i64N _ (by omega)
  simp only [execOp, ho, hx, hy]
  simp [eqGuard, hc]
theorem exec_mulI (h : m * n < 9223372036854775808) (ho : o.op = .binOp .mul t x y u) (hx : a.eval x = .int .i64 (m : Int)) (hy : a.eval y = .int .i64 (n : Int)) : (execOp a.eval o).run P w = .ok (.value (.int .i64 ((m * n : Nat) : Int))) w := by
  have hc : (binOp .mul t (.int .i64 (m : Int)) (.int .i64 (n : Int))).run P w = .ok (.int .i64 ((m * n : Nat) : Int)) w := by
    simp only [binOp, Op.intArith]
    refine congrArg (fun n => Result.ok (Value.int .i64 n) w) ?_
    rw [← Int.natCast_mul]
    exact wrap_i64N _ h
  simp only [execOp, ho, hx, hy]
  simp [eqGuard, hc]
theorem exec_idx {vx vy v : Value} (ho : o.op = .indexAddr t x y) (hx : a.eval x = vx) (hy : a.eval y = vy) (hr : (Instr.indexAt t vx vy).run P w = .ok v w) : (execOp a.eval o).run P w = .ok (.value v) w := by
  simp [execOp, ho, hx, hy, hr]
theorem run_idxArr {e : TypeId} {k : Nat} (ht : P.underlying t = some (.array k e)) (hs : (P.info? e).map (·.size) = some 1) (g b i : Nat) (h : i < k) : (Instr.indexAt t (.pointer (some ⟨g, b, none⟩)) (.int .i64 (i : Int))).run P w = .ok (.pointer (some ⟨g, b + i, none⟩)) w := by
  have hl : P.arrayLen t = k := by simp [Program.arrayLen, ht]
  have he : P.elem t = e := by simp [Program.elem, ht]
  have h0 : (0 : Int) ≤ (i : Int) := by omega
  have h1 : (i : Int) < (k : Int) := by omega
  cases hq : P.info? e with
  | none => simp [hq] at hs
  | some j =>
    have hj : j.size = 1 := by simpa [hq] using hs
    rw [run_indexAt_array w t _ _ _ (by rw [hl, he]; exact ht)]
    rw [hl, he]
    simp [h0, h1, sizeOf, typeInfo, hq, hj]
    first | rfl | simp [Addr.add]
end
end Go.Agg
