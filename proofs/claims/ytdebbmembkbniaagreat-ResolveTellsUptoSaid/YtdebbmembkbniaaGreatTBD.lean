/- What the document's digest needs: a text appended to bytes, quotients, pieces, the sums of texts. (Several texts in one.) -/
import Derived.Test.YtdebbmembkbniaaGreatTAY
import Derived.Test.YtdebbmembkbniaaGreatTBA
import Derived.Test.YtdebbmembkbniaaGreatTAD
import Derived.Test.YtdebbmembkbniaaGreatTAZ
import Derived.Test.YtdebbmembkbniaaGreatTAO
import Derived.Test.YtdebbmembkbniaaGreatTBB
import Derived.Test.YtdebbmembkbniaaGreatTAC
import Derived.Lib.AppendStr
/-! The reference's digest: spenceref02.turn, ks, word, padded. -/
namespace Go.Agg
open Go.RowKit Go.Sha
section
variable {P : Program} {o : Oper} {a : Act} {w : World} {t u : TypeId} {p q : Operand} {x y : W}
theorem run_mulW : (binOp .mul t (vW x) (vW y)).run P w = .ok (vW (x * y)) w := by
 have h : IntKind.u32.wrap ((x.toNat : Int) * (y.toNat : Int)) = ((x * y).toNat : Int) := by
  rw [BitVec.toNat_mul]
  simp only [IntKind.wrap, IntKind.signed, IntKind.bits, Bool.false_and, Bool.false_eq_true, if_false]
  rw [← Int.natCast_mul]
  omega
 simp only [binOp, vW, Op.intArith]
 exact congrArg (fun n => Result.ok (Value.int .u32 n) w) h
theorem exec_mulW (ho : o.op = .binOp .mul t p q u) (hx : a.eval p = vW x) (hy : a.eval q = vW y) : (execOp a.eval o).run P w = .ok (.value (vW (x * y))) w := by
 simp only [execOp, ho, hx, hy]
 simp [eqGuard, run_mulW]
theorem run_notW : (Op.unary .xor (vW x)).run P w = .ok (vW (~~~ x)) w := by
 have e : BitVec.ofInt 32 (IntKind.u32.max) = BitVec.allOnes 32 := by decide
 have h : IntKind.u32.wrap (((BitVec.ofInt 32 (IntKind.u32.max) ^^^ BitVec.ofInt 32 (x.toNat : Int)).toNat : Nat) : Int) = ((~~~ x).toNat : Int) := by rw [ofInt_vW, e, BitVec.allOnes_xor]; exact wrap_u32W _
 simp only [Op.unary, vW, Op.intBits]
 exact congrArg (fun n => Result.ok (Value.int .u32 n) w) h
theorem exec_notW (ho : o.op = .unOp .xor t p) (hx : a.eval p = vW x) : (execOp a.eval o).run P w = .ok (.value (vW (~~~ x))) w := by
 simp only [execOp, ho, hx]
 simp [run_notW]
theorem exec_shrI {m n : Nat} (hm : m < 64) (ho : o.op = .binOp .shr t p q u) (hx : a.eval p = .int .i64 (n : Int)) (hy : a.eval q = .int .i64 (m : Int)) : (execOp a.eval o).run P w = .ok (.value (.int .i64 ((n / 2 ^ m : Nat) : Int))) w := by
 have hc : (binOp .shr t (.int .i64 (n : Int)) (.int .i64 (m : Int))).run P w = .ok (.int .i64 ((n / 2 ^ m : Nat) : Int)) w := by
  simp only [binOp, Op.shift, if_neg (show ¬ (m : Int) < 0 by omega)]
  refine congrArg (fun n => Result.ok (Value.int .i64 n) w) ?_
  rw [show min ((m : Int).toNat) IntKind.i64.bits = m by simp only [IntKind.bits]; omega]
  have : ((2 : Int) ^ m) = ((2 ^ m : Nat) : Int) := by push_cast; rfl
  rw [this, Int.fdiv_eq_ediv_of_nonneg _ (Int.natCast_nonneg _)]
  exact (Int.natCast_ediv _ _).symm
 simp only [execOp, ho, hx, hy]
 simp [eqGuard, hc]
end
end Go.Agg
namespace Go.Sha
def wordN (b : List UInt8) : Nat → W
 | 0 => 0
 | k + 1 => 256 * wordN b k + wB (b.getD k 0)
theorem wordN_4 (b : List UInt8) : wordN b 4 = word b 0 := by
 simp only [wordN, word, wB]
 apply BitVec.eq_of_toNat_eq
 have h0 := (b.getD 0 0).toNat_lt
 have h1 := (b.getD 1 0).toNat_lt
 have h2 := (b.getD 2 0).toNat_lt
 have h3 := (b.getD 3 0).toNat_lt
 simp [BitVec.toNat_add, BitVec.toNat_mul, BitVec.toNat_ofNat]
 omega
end Go.Sha
namespace Go.Proofs.YtdebbmembkbniaaGreat
open Go.RowKit Pl Go.Agg Go.Sha
section
variable {o : Oper} {a : Act} {w : World} {x : Operand} {n : Nat}
theorem exec_cvIB (ho : o.op = .convert 3 5 x) (hx : a.eval x = .int .i64 (n : Int)) : (execOp a.eval o).run Tryz.prog w = .ok (.value (.int .u8 ((UInt8.ofNat n).toNat : Int))) w := by
 have h : ((UInt8.ofNat n).toNat : Int) = (n : Int) % 256 := by rw [UInt8.toNat_ofNat']; omega
 rw [h]
 have hc : (convert 3 5 (.int .i64 (n : Int))).run Tryz.prog w = .ok (.int .u8 ((n : Int) % 256)) w := by
  simp [convert]
  simp [Conv.intToInt, IntKind.wrap, IntKind.signed, IntKind.bits]
 simp [execOp, ho, hx, hc]
end
set_option maxRecDepth 100000 in
theorem turn_any (x : W) (k : Nat) (h1 : 1 ≤ k) (h2 : k ≤ 31) (w : World) : Calls Tryz.prog 159 #[vW x, .int .i64 (k : Int)] w fun e w' => e = .returned (vW (rot x k)) ∧ Below w.heap.size w w' := by
 go_enter Tryz.func159, Tryz.ntmps159
 go_wp2_with fail
 try simp only [Act.put, List.setIfInBounds_toArray, List.set_cons_succ, List.set_cons_zero]
 obtain ⟨we, hwe⟩ : ∃ W, W = w.drew := ⟨_, rfl⟩
 have hde : Below w.heap.size w we := by rw [hwe]; exact (Below.refl _ _).drew
 have HXd := Lib.hid hde
 refine wp_region_held_drew (S := fun W => Below w.heap.size w W) (by kernel_rfl) (by rw [← hwe]; exact HXd.out) (fun hHeld => ?_)
 rw [← hwe] at hHeld ⊢
 clear hwe hde
 refine held_take 0 (vW (x)) rfl (by kernel_rfl) (fun _ _ _ h => h) rfl (fun W _ => by kernel_rfl) (by assumption) ?_
 try simp only [Act.put, List.setIfInBounds_toArray, List.set_cons_succ, List.set_cons_zero]
 refine held_take 1 (.int .i64 ((k : Nat) : Int)) rfl (by kernel_rfl) (fun _ _ _ h => h) rfl (fun W _ => by kernel_rfl) (by assumption) ?_
 try simp only [Act.put, List.setIfInBounds_toArray, List.set_cons_succ, List.set_cons_zero]
 refine held_take 2 (vW (x >>> k)) rfl (by kernel_rfl) (fun _ _ _ h => h) rfl (fun W _ => exec_shrW (x := x) (k) (by omega) rfl rfl rfl) (by assumption) ?_
 try simp only [Act.put, List.setIfInBounds_toArray, List.set_cons_succ, List.set_cons_zero]
 refine held_take 3 (vW (x)) rfl (by kernel_rfl) (fun _ _ _ h => h) rfl (fun W _ => by kernel_rfl) (by assumption) ?_
 try simp only [Act.put, List.setIfInBounds_toArray, List.set_cons_succ, List.set_cons_zero]
 refine held_take 4 (.int .i64 ((k : Nat) : Int)) rfl (by kernel_rfl) (fun _ _ _ h => h) rfl (fun W _ => by kernel_rfl) (by assumption) ?_
 try simp only [Act.put, List.setIfInBounds_toArray, List.set_cons_succ, List.set_cons_zero]
 refine held_take 5 (.int .i64 ((32 - k : Nat) : Int)) rfl (by kernel_rfl) (fun _ _ _ h => h) rfl (fun W _ => exec_subI (m := 32) (n := k) (by omega) (by omega) rfl rfl rfl) (by assumption) ?_
 try simp only [Act.put, List.setIfInBounds_toArray, List.set_cons_succ, List.set_cons_zero]
 refine held_take 6 (vW (x <<< (32 - k))) rfl (by kernel_rfl) (fun _ _ _ h => h) rfl (fun W _ => exec_shlW (x := x) (32 - k) (by omega) rfl rfl rfl) (by assumption) ?_
 try simp only [Act.put, List.setIfInBounds_toArray, List.set_cons_succ, List.set_cons_zero]
 refine held_take 7 (vW ((x >>> k) ||| (x <<< (32 - k)))) rfl (by kernel_rfl) (fun _ _ _ h => h) rfl (fun W _ => exec_orW (x := x >>> k) (y := x <<< (32 - k)) rfl rfl rfl) (by assumption) ?_
 try simp only [Act.put, List.setIfInBounds_toArray, List.set_cons_succ, List.set_cons_zero]
 refine held_take 8 (vW ((x >>> k) ||| (x <<< (32 - k)))) rfl (by kernel_rfl) (fun _ _ _ h => h) rfl (fun W _ => by kernel_rfl) (by assumption) ?_
 try simp only [Act.put, List.setIfInBounds_toArray, List.set_cons_succ, List.set_cons_zero]
 refine held_end (by kernel_rfl) ?_
 go_wp2_with fail
 go_ret
 exact ⟨rfl, HXd.out⟩
set_option maxRecDepth 100000 in
set_option maxHeartbeats 2000000 in
theorem refKs_any (w : World) : Calls Tryz.prog 160 #[] w fun e w' => e = .returned (.agg (wC ks)) ∧ Below w.heap.size w w' := by
 go_enter Tryz.func160, Tryz.ntmps160
 go_wp2_with (first | (with_reducible refine wpList_zero rfl 279 rfl (wC (List.replicate 64 0)) w64_zero ?_; intro g1 w1 hb1 hx1 hg1; have HB1 := Lib.hid hb1; have HX1 := Lib.hid hx1; have HG1 := Lib.hid hg1; clear hb1 hx1 hg1) | ((with_reducible refine wpList_put rfl rfl 279 _ _ rfl g1 (wC ks) (wC (List.replicate 64 0)) rfl rfl HB1.out (w64_info _ ks_length) rfl (wC_one _) ?_); intro w2 hb2 hx2 _ _; have HB2 := Lib.hid hb2; have HX2 := Lib.hid (HX1.out.trans (hx2.mono HG1.out)); clear hb2 hx2) | (refine wpList_valw rfl (v := .agg (wC ks)) (by kernel_rfl) ?_))
 exact post_row rfl rfl HB2.out Tryz.underlying279 rfl (w64_info _ ks_length) rfl ⟨rfl, HX2.out⟩
set_option maxRecDepth 100000 in
theorem refWord_any (v : Value) (b : List UInt8) (hb : 4 ≤ b.length) (w : World) (h : BytesAt w v b) : Calls Tryz.prog 158 #[v] w fun e w' => e = .returned (vW (word b 0)) ∧ Below w.heap.size w w' := by
 have HB := Lib.hid h
 clear h
 go_enter Tryz.func158, Tryz.ntmps158
 go_wp2_with fail
 go_loopw [3, 4] (fun x i wr => ∃ k : Nat, k ≤ 4 ∧ i = .int .i64 (k : Int) ∧ x = vW (wordN b k) ∧ wr = w) (fun _ i _ => 4 - (intOf i).toNat)
 case atStart => exact ⟨0, by omega, rfl, rfl, rfl⟩
 case round =>
  obtain ⟨k, hk, rfl, rfl, hwr⟩ := hrel
  replace hwr := hwr.symm
  subst hwr
  by_cases hlt : k < 4
  ·have hd1 : decide ((k : Int) < 4) = true := by simp; omega
   obtain ⟨c, hck⟩ : ∃ c, b[k]? = some c := ⟨_, List.getElem?_eq_getElem (by omega)⟩
   obtain ⟨p, hadr, _, _, hld⟩ := HB.out.at_ k c hck
   have hadr' : ∀ W, (Instr.indexAt 23 v (.int .i64 (k : Int))).run Tryz.prog W = .ok (.pointer (some p)) W := hadr
   have HL := Lib.hid (show LoadsL Tryz.prog w 5 (some p) (.int .u8 (c.toNat : Int)) from hld)
   have HN := Lib.hid (show 256 * wordN b k + wB c = wordN b (k + 1) by rw [wordN, List.getD, hck]; rfl)
   clear hadr hld hck
   go_wp2_with (first | (with_reducible refine wpList_loadL HL.out rfl _ rfl rfl ?_) | (refine wpList_valw rfl (exec_mulW (x := 256) (y := wordN b k) rfl rfl rfl) ?_) | (refine wpList_valw rfl (exec_cvW (c := c) rfl rfl) ?_) | (refine wpList_valw rfl (exec_addW (x := 256 * wordN b k) (y := wB c) rfl rfl rfl) ?_; rw [HN.out]))
   go_roundw
   case rel => exact ⟨k + 1, by omega, by go_num, rfl, by trivial⟩
   case measure => simp [intOf]; omega
  ·obtain rfl : k = 4 := by omega
   go_wp2_with fail
   go_ret
   exact ⟨by rw [wordN_4]; rfl, Below.refl _ _⟩
end Go.Proofs.YtdebbmembkbniaaGreat
/-! Bytes between two places; what spenceref02.block needs. -/
namespace Go.Sha
theorem round_ref (k w : W) (x : St) : round k w x = ⟨(x.h + s1 x.e + ((x.e &&& x.f) ||| (~~~x.e &&& x.g)) + k + w) + (s0 x.a + (((x.a &&& x.b) ||| (x.a &&& x.c)) ||| (x.b &&& x.c))), x.a, x.b, x.c, x.d + (x.h + s1 x.e + ((x.e &&& x.f) ||| (~~~x.e &&& x.g)) + k + w), x.e, x.f, x.g⟩ := by
 rw [ch_eq, maj_eq]; rfl
theorem ref_s1 (x : W) : (rot x 6 ^^^ rot x 11) ^^^ rot x 25 = s1 x := rfl
theorem ref_s0 (x : W) : (rot x 2 ^^^ rot x 13) ^^^ rot x 22 = s0 x := rfl
theorem ref_t0 (x : W) : (rot x 7 ^^^ rot x 18) ^^^ (x >>> 3) = t0 x := rfl
theorem ref_t1 (x : W) : (rot x 17 ^^^ rot x 19) ^^^ (x >>> 10) = t1 x := rfl
def addTo (x y : St) (k : Nat) : List W := (add x y).list.take k ++ y.list.drop k
theorem addTo_all (x y : St) : addTo x y 8 = (add x y).list := rfl
theorem addTo_succ (x y : St) (k : Nat) (h : k < 8) : (addTo x y k).set k (y.list.getD k 0 + x.list.getD k 0) = addTo x y (k + 1) := by
 have e : ∀ a b : W, b + a = a + b := fun a b => BitVec.add_comm b a
 match k with
 | 0 => simp [addTo, add, St.list, e]
 | 1 => simp [addTo, add, St.list, e]
 | 2 => simp [addTo, add, St.list, e]
 | 3 => simp [addTo, add, St.list, e]
 | 4 => simp [addTo, add, St.list, e]
 | 5 => simp [addTo, add, St.list, e]
 | 6 => simp [addTo, add, St.list, e]
 | 7 => simp [addTo, add, St.list, e]
 | n + 8 => omega
theorem addTo_get (x y : St) (k : Nat) (h : k < 8) : (addTo x y k)[k]? = some (y.list.getD k 0) := by
 match k with
 | 0 => rfl
 | 1 => rfl
 | 2 => rfl
 | 3 => rfl
 | 4 => rfl
 | 5 => rfl
 | 6 => rfl
 | 7 => rfl
 | n + 8 => omega
theorem list_get (x : St) (k : Nat) (h : k < 8) : x.list[k]? = some (x.list.getD k 0) := by
 match k with
 | 0 => rfl
 | 1 => rfl
 | 2 => rfl
 | 3 => rfl
 | 4 => rfl
 | 5 => rfl
 | 6 => rfl
 | 7 => rfl
 | n + 8 => omega
theorem addTo_len (x y : St) (k : Nat) (h : k ≤ 8) : (addTo x y k).length = 8 := by simp [addTo, St.list]; omega
end Go.Sha
namespace Go.Proofs.YtdebbmembkbniaaGreat
open Go.RowKit Pl Go.Agg Go.Sha
theorem sliceOf_mid {w : World} {u : Value} {l : List UInt8} (h : SliceOf EB w u l) (hc : ∀ p n c, u = .slice p n c → n ≤ c) (k m : Nat) (hk : k ≤ m) (hm : m ≤ l.length) :
  ∃ u', (∀ W, (Instr.sliceAt 23 u (some (.int .i64 (k : Int))) (some (.int .i64 (m : Int))) none).run Tryz.prog W = .ok u' W) ∧ SliceOf EB w u' ((l.take m).drop k) ∧ ∀ p n c, u' = .slice p n c → n ≤ c := by
 obtain ⟨p, c, hf⟩ := h.form
 have hle := hc _ _ _ hf
 have hund : Tryz.prog.underlying 23 = some (.slice (Tryz.prog.elem 23)) := by kernel_rfl
 have hsz : (Tryz.prog.info? (Tryz.prog.elem 23)).map (·.size) = some 1 := by kernel_rfl
 have hln : ((l.take m).drop k).length = m - k := by rw [List.length_drop, List.length_take]; omega
 have hrun : ∀ W, (Instr.sliceAt 23 u (some (.int .i64 (k : Int))) (some (.int .i64 (m : Int))) none).run Tryz.prog W = .ok (.slice (if c = k then p else p.map (·.add (k * 1))) (m - k) (c - k)) W := by
  intro W
  subst hf
  cases hq : Tryz.prog.info? (Tryz.prog.elem 23) with
  | none => simp [hq] at hsz
  | some j =>
   have hj : j.size = 1 := by simpa [hq] using hsz
   rw [run_sliceAt_slice W 23 _ _ _ _ hund, run_slice_lh W 23 p l.length c hund .i64 .i64 (k : Int) (m : Int) (by omega) (by omega) (by omega)]
   simp [sizeOf, typeInfo, hq, hj, sliced]
 refine ⟨_, hrun, ?_, ?_⟩
 ·rcases h with ⟨p', c', rfl, hl⟩ | ⟨q, c', rfl, hq, hcell⟩
  ·subst hl
   simp only [List.length_nil, Nat.le_zero] at hm
   subst hm
   obtain rfl : k = 0 := by omega
   injection hf with h1 h2 h3
   subst h1 h3
   exact .inl ⟨_, _, rfl, by simp⟩
  ·injection hf with h1 h2 h3
   subst h1 h3
   by_cases e : c' = k
   ·have : (l.take m).drop k = [] := List.drop_eq_nil_of_le (by rw [List.length_take]; omega)
    rw [this]
    exact .inl ⟨_, _, by rw [show m - k = 0 by omega], rfl⟩
   ·rw [if_neg e]
    refine .inr ⟨q.add k, c' - k, by simp [hln], by rw [add_block]; exact hq, fun j v hj => ?_⟩
    rw [add_add]
    refine hcell _ _ ?_
    rw [flat_bytes] at hj ⊢
    simp only [Lib.byteCells, List.map_drop, List.map_take, List.getElem?_drop, List.getElem?_take] at hj
    split at hj
    ·exact hj
    ·cases hj
 ·intro p' n' c' he
  injection he with _ e1 e2
  omega
end Go.Proofs.YtdebbmembkbniaaGreat
/-! Eight words, sixty-four words: cells. -/
namespace Go.Proofs.YtdebbmembkbniaaGreat
open Go.RowKit Pl Go.Agg Go.Sha
theorem exec_build8 {o : Oper} {a : Act} {w : World} {ty : TypeId} {x0 x1 x2 x3 x4 x5 x6 x7 : Operand} {v0 v1 v2 v3 v4 v5 v6 v7 v : Value} (ho : o.op = .build ty #[(0, x0), (1, x1), (2, x2), (3, x3), (4, x4), (5, x5), (6, x6), (7, x7)]) (h0 : a.eval x0 = v0) (h1 : a.eval x1 = v1) (h2 : a.eval x2 = v2) (h3 : a.eval x3 = v3) (h4 : a.eval x4 = v4) (h5 : a.eval x5 = v5) (h6 : a.eval x6 = v6) (h7 : a.eval x7 = v7)
  (hr : (Instr.build ty #[(0, v0), (1, v1), (2, v2), (3, v3), (4, v4), (5, v5), (6, v6), (7, v7)]).run Tryz.prog w = .ok v w) : (execOp a.eval o).run Tryz.prog w = .ok (.value v) w := by
 simp [execOp, ho, h0, h1, h2, h3, h4, h5, h6, h7, hr]
theorem run_build8 (a b c d e f g h : W) (w : World) : (Instr.build 205 #[(0, vW a), (1, vW b), (2, vW c), (3, vW d), (4, vW e), (5, vW f), (6, vW g), (7, vW h)]).run Tryz.prog w = .ok (.agg (wC [a, b, c, d, e, f, g, h])) w := by kernel_rfl
theorem w8u_zero : (Tryz.prog.info? 205).map (·.zero) = some (some (.agg (wC (List.replicate 8 0)))) := by kernel_rfl
theorem w8u_info (l : List W) (h : l.length = 8) : (Tryz.prog.info? 205).map (·.size) = some (wC l).size := by rw [wC_size, h]; kernel_rfl
theorem w8_ss (l m : List W) (h1 : l.length = 8) (h2 : m.length = 8) : (wC l).size = (wC m).size := by rw [wC_size, wC_size, h1, h2]
theorem w8u_under : Tryz.prog.underlying 205 = some (.array 8 204) := by kernel_rfl
theorem idx8 (g : Nat) (i : Nat) (h : i < 8) (W : World) : (Instr.indexAt 205 (.pointer (some ⟨g, 0, none⟩)) (.int .i64 (i : Int))).run Tryz.prog W = .ok (.pointer (some ⟨g, i, none⟩)) W := by
 have := run_idxArr (P := Tryz.prog) (t := 205) (e := 204) (w := W) w8u_under (by kernel_rfl) g 0 i h
 rwa [Nat.zero_add] at this
theorem idx64 (g : Nat) (i : Nat) (h : i < 64) (W : World) : (Instr.indexAt 279 (.pointer (some ⟨g, 0, none⟩)) (.int .i64 (i : Int))).run Tryz.prog W = .ok (.pointer (some ⟨g, i, none⟩)) W := by
 have := run_idxArr (P := Tryz.prog) (t := 279) (e := 204) (w := W) Tryz.underlying279 (by kernel_rfl) g 0 i h
 rwa [Nat.zero_add] at this
end Go.Proofs.YtdebbmembkbniaaGreat
/-! spenceref02.padded. -/
namespace Go.Sha
def zs (n : Nat) : Nat := (119 - n % 64) % 64
theorem pad_go {n k : Nat} (h : k ≤ zs n) : (n + 1 + k) % 64 = 56 ↔ k = zs n := by unfold zs at *; omega
theorem pad_eq (l : List UInt8) : padded l = l ++ [(128 : UInt8)] ++ List.replicate (zs l.length) 0 ++ (List.range 8).map fun i => UInt8.ofNat (8 * l.length / 256 ^ (7 - i)) := by
 unfold padded tail zs
 simp
theorem range_map_succ {α : Type} (f : Nat → α) (k : Nat) : (List.range (k + 1)).map f = (List.range k).map f ++ [f k] := by rw [List.range_succ, List.map_append]; rfl
end Go.Sha
namespace Go.Proofs.YtdebbmembkbniaaGreat
open Go.RowKit Pl Go.Agg Go.Sha
set_option maxRecDepth 100000 in
set_option maxHeartbeats 1000000 in
theorem refPadded_any (v : Value) (l : List UInt8) (hl : l.length ≤ 1000000000) (w : World) (h : BytesAt w v l) : Calls Tryz.prog 124 #[v] w fun e w' => ∃ u, e = .returned u ∧ Own EB w.heap.size w' u (padded l) ∧ Below w.heap.size w w' := by
 have hlv := bytes_len h
 have HB := Lib.hid h
 clear h
 go_enter Tryz.func124, Tryz.ntmps124
 go_wp2_with (first | (refine wpList_slice0 (base := w.heap.size) EB rfl rfl (Nat.le_refl _) ?_; intro v1 w1 ho1 hx1 _; have HO1 := Lib.hid ho1; have HX1 := Lib.hid hx1; have HB1 := Lib.hid (SliceOf.below HB.out hx1); have hsz1 := hx1.size; clear ho1 hx1) | (refine Agg.wpList_appendS (E := EB) (base := w.heap.size) rfl _ _ rfl v rfl rfl l HO1.out HB1.out (by simp; omega) (by decide) hsz1 ?_; intro v2 w2 ho2 hp2 _; rw [List.nil_append] at ho2; have HO2 := Lib.hid ho2; have HX2 := Lib.hid (HX1.out.trans (hp2.below w.heap.size (Nat.le_refl _) hsz1)); have hsz2 := HX2.out.size; clear ho2 hp2) | (refine wpList_push (E := EB) (base := w.heap.size) rfl rfl 9 rfl _ rfl _ rfl (128 : UInt8) rfl (fun _ => rfl) (by first | (simp; done) | simp [Act.put]) HO2.out (by omega) (by decide) hsz2 ?_; intro u3 v3 w3 ho3 hp3; have HO3 := Lib.hid ho3; have HX3 := Lib.hid (HX2.out.trans (hp3.below w.heap.size (Nat.le_refl _) hsz2)); clear ho3 hp3))
 go_loopw [3] (fun out wr => ∃ k : Nat, k ≤ zs l.length ∧ Own EB w.heap.size wr out (l ++ [(128 : UInt8)] ++ List.replicate k 0) ∧ Below w.heap.size w wr) (fun out _ => zs l.length + l.length + 1 - (match out with | .slice _ n _ => n | _ => 0))
 case atStart => exact ⟨0, Nat.zero_le _, by simpa using HO3.out, HX3.out⟩
 case round =>
  obtain ⟨w4, rfl⟩ : ∃ y : World, y = wr := ⟨_, rfl⟩
  obtain ⟨k, hk, ho, hw⟩ := hrel
  have hln : (l ++ [(128 : UInt8)] ++ List.replicate k 0).length = l.length + 1 + k := by simp; omega
  obtain ⟨pp, cc, rfl⟩ := ho.slice.form
  have hlen := bytes_len ho.slice
  rw [hln] at ho hlen ⊢
  have HO := Lib.hid ho
  have HW := Lib.hid hw
  have hsz := hw.size
  clear ho hw
  by_cases hz : k = zs l.length
  ·have h56 := (pad_go hk).2 hz
   have hc1 : (((l.length : Int) + 1 + (k : Int)) % 64 != 56) = false := by simp; omega
   have hzl : zs l.length < 64 := Nat.mod_lt _ (by decide)
   obtain ⟨M, hM⟩ : ∃ M, l ++ [(128 : UInt8)] ++ List.replicate k 0 = M := ⟨_, rfl⟩
   have hMl : M.length ≤ l.length + 65 := by rw [← hM, hln]; omega
   rw [hM] at HO
   have HM := Lib.hid (show padded l = M ++ (List.range 8).map fun i => UInt8.ofNat (8 * l.length / 256 ^ (7 - i)) by rw [pad_eq, ← hM, ← hz])
   clear hM h56 hz hln
   go_wp2_with (first | (refine wpList_valw rfl (exec_mulI (m := 8) (n := l.length) (by omega) rfl rfl rfl) ?_))
   clear hc1 hlen
   go_loopw [3, 5] (fun out i wr => ∃ j : Nat, j ≤ 8 ∧ i = .int .i64 (7 - (j : Int)) ∧ Own EB w.heap.size wr out (M ++ (List.range j).map fun i => UInt8.ofNat (8 * l.length / 256 ^ (7 - i))) ∧ Below w.heap.size w wr) (fun _ i _ => (intOf i + 1).toNat)
   case atStart => exact ⟨0, by omega, rfl, by simpa using HO.out, HW.out⟩
   case round =>
    obtain ⟨w5, rfl⟩ : ∃ y : World, y = wr := ⟨_, rfl⟩
    obtain ⟨j, hj, rfl, ho, hw⟩ := hrel
    have HO5 := Lib.hid ho
    have HW5 := Lib.hid hw
    have hsz5 := hw.size
    clear ho hw
    by_cases hlt : j < 8
    ·have hI : (7 - (j : Int)) = ((7 - j : Nat) : Int) := by omega
     rw [hI]
     have hd1 : decide ((0 : Int) ≤ ((7 - j : Nat) : Int)) = true := by simp
     have hpw : 2 ^ (8 * (7 - j)) = 256 ^ (7 - j) := by rw [Nat.pow_mul]
     go_wp2_with (first | (refine wpList_valw rfl (exec_mulI (m := 8) (n := 7 - j) (by omega) rfl rfl rfl) ?_) | (refine wpList_valw rfl (exec_shrI (m := 8 * (7 - j)) (n := 8 * l.length) (by omega) rfl rfl rfl) ?_; rw [hpw]) | (refine wpList_valw rfl (exec_cvIB (n := 8 * l.length / 256 ^ (7 - j)) rfl rfl) ?_) | (refine wpList_push (E := EB) (base := w.heap.size) rfl rfl 31 rfl _ rfl _ rfl (UInt8.ofNat (8 * l.length / 256 ^ (7 - j))) rfl (fun _ => rfl) (by first | (simp; done) | simp [Act.put]) HO5.out (by simp; omega) (by decide) hsz5 ?_; intro u6 v6 w6 ho6 hp6; have HO6 := Lib.hid ho6; have HX6 := Lib.hid (HW5.out.trans (hp6.below w.heap.size (Nat.le_refl _) hsz5)); clear ho6 hp6))
     go_roundw
     case rel => exact ⟨j + 1, by omega, by first | go_num | (congr 1; omega), by rw [range_map_succ, ← List.append_assoc]; exact HO6.out, HX6.out⟩
     case measure => first | (simp [intOf]; done) | (simp [intOf]; omega)
    ·obtain rfl : j = 8 := by omega
     go_wp2_with fail
     go_ret
     exact ⟨_, rfl, by rw [HM.out]; exact HO5.out, HW5.out⟩
  ·have h56 : ¬ (l.length + 1 + k) % 64 = 56 := fun h => hz ((pad_go hk).1 h)
   have hc1 : (((l.length : Int) + 1 + (k : Int)) % 64 != 56) = true := by simp; omega
   have hzl : zs l.length < 64 := Nat.mod_lt _ (by decide)
   go_wp2_with (first | (refine wpList_push (E := EB) (base := w.heap.size) rfl rfl 16 rfl _ rfl _ rfl (0 : UInt8) rfl (fun _ => rfl) (by first | (simp; done) | simp [Act.put]) HO.out (by rw [hln]; omega) (by decide) hsz ?_; intro u6 v6 w6 ho6 hp6; have HO6 := Lib.hid ho6; have HX6 := Lib.hid (HW.out.trans (hp6.below w.heap.size (Nat.le_refl _) hsz)); clear ho6 hp6))
   obtain ⟨pq, cq, rfl⟩ := HO6.out.slice.form
   go_roundw
   case rel => exact ⟨k + 1, by omega, by rw [List.replicate_succ', ← List.append_assoc]; exact HO6.out, HX6.out⟩
   case measure => simp; omega
end Go.Proofs.YtdebbmembkbniaaGreat
/-! What the document's digest needs: a text appended to bytes, quotients, pieces, the sums of texts. -/
namespace Go.Sha
theorem hashL_snoc (tag : List UInt8) (ls : List (List UInt8)) (b : List UInt8) : hashL tag (ls ++ [b]) = (hashL tag ls ++ Go.Agg.encN b.length) ++ b := by
 simp [hashL, encP, List.flatMap_append]
theorem hashL_take (tag : List UInt8) (ls : List (List UInt8)) (k : Nat) : (hashL tag (ls.take k)).length ≤ (hashL tag ls).length := by
 have e : (ls.flatMap encP).length = ((ls.take k).flatMap encP).length + ((ls.drop k).flatMap encP).length := by
  rw [← List.length_append, ← List.flatMap_append, List.take_append_drop]
 simp only [hashL, List.length_append]
 omega
theorem hashL_succ (tag : List UInt8) {ls : List (List UInt8)} {k : Nat} {b : List UInt8} (h : ls[k]? = some b) : hashL tag (ls.take (k + 1)) = (hashL tag (ls.take k) ++ Go.Agg.encN b.length) ++ b := by
 rw [List.take_add_one, h, ← hashL_snoc]; rfl
theorem sp_blocks (l : List UInt8) : digest l = (List.range 32).map (blocks (padded l) ((padded l).length / 64) first).byte := rfl
end Go.Sha
namespace Go.Agg
open Go.RowKit
variable {P : Program}
section
variable {o : Oper} {a : Act} {w : World} {t u : TypeId} {x y : Operand} {m n : Nat}
theorem exec_quoI (hn : 0 < n) (hm : m < 9223372036854775808) (ho : o.op = .binOp .quo t x y u) (hx : a.eval x = .int .i64 (m : Int)) (hy : a.eval y = .int .i64 (n : Int)) : (execOp a.eval o).run P w = .ok (.value (.int .i64 ((m / n : Nat) : Int))) w := by
 have hc : (binOp .quo t (.int .i64 (m : Int)) (.int .i64 (n : Int))).run P w = .ok (.int .i64 ((m / n : Nat) : Int)) w := by
  have hle := Nat.div_le_self m n
  have hne : ¬ (n : Int) = 0 := by omega
  have e : ((m : Int).tdiv (n : Int)) = ((m / n : Nat) : Int) := by
   rw [Int.tdiv_eq_ediv_of_nonneg (by omega)]
   first | exact (Int.natCast_ediv m n).symm | (push_cast; rfl)
  simp only [binOp, Op.intDiv, if_neg hne]
  first
   | exact congrArg (fun n => Result.ok (Value.int .i64 n) w) (by rw [e]; exact wrap_i64N _ (by omega))
   | exact congrArg (fun n => Result.ok (Value.int .i64 n) w) e
   | simp [e, wrap_i64N _ (show m / n < 9223372036854775808 by omega), hne]
 simp only [execOp, ho, hx, hy]
 simp [eqGuard, hc]
theorem exec_sliceLH {z : Operand} {v lo hi r : Value} (ho : o.op = .slice t x (some y) (some z) none) (hx : a.eval x = v) (hy : a.eval y = lo) (hz : a.eval z = hi) (hrun : (Instr.sliceAt t v (some lo) (some hi) none).run P w = .ok r w) : (execOp a.eval o).run P w = .ok (.value r) w := by
 subst hx hy hz
 simp [execOp, ho, hrun]
end
end Go.Agg
namespace Go.Proofs.YtdebbmembkbniaaGreat
open Go.RowKit Pl Go.Agg Go.Sha
section
variable {ops : Array Oper} {rest : List Oper} {o : Oper} {a : Act} {w : World} {Q : Exit → Act → World → Prop} {base : Nat} {v : Value} {l : List UInt8}
theorem run_appendStr (hown : Agg.Own EB base w v l) (s : List UInt8) (h63 : l.length + s.length ≤ 1099511627776 / 8) (hbase : base ≤ w.heap.size) (ty : TypeId) :
  ∃ v' w', (Builtin.append_ #[23, 9] ty #[v, .string ⟨s.toArray⟩]).run Tryz.prog w = .ok v' w' ∧ Agg.Own EB base w' v' (l ++ s) ∧ w.grownBy w' v.ownBlock := by
 obtain ⟨i, hi, hz, hs, hb⟩ := (EB : Elem Tryz.prog UInt8).info
 have hsz : (⟨s.toArray⟩ : ByteArray).size = s.length := by simp [ByteArray.size]
 have hcs : Lib.strCells ⟨s.toArray⟩ = EB.flat s := by rw [flat_bytes]; rfl
 obtain ⟨v', w', hrun, h2, h3, _⟩ := Lib.run_append_own_string (P := Tryz.prog) (w := w) base 23 9 ty 5 i (by kernel_rfl) (by kernel_rfl) hi hz hs hb v l.length (EB.flat l) hown ⟨s.toArray⟩ (by rw [hsz]; simp only [maxLen]; omega) (by rw [hsz]; omega) hbase
 refine ⟨v', w', hrun, ?_, h3⟩
 unfold Agg.Own
 rw [List.length_append, EB.flat_append, ← hcs, ← hsz]
 exact h2
theorem wpList_appendStr (hg : o.guard = none) (s x : Operand) (ho : o.op = .call { callee := .builtin .append, args := #[s, x], argTypes := #[23, 9] }) (t : List UInt8) (hs : a.eval s = v) (hx : a.eval x = .string ⟨t.toArray⟩)
  (hown : Agg.Own EB base w v l) (h63 : l.length + t.length ≤ 1099511627776 / 8) (hbase : base ≤ w.heap.size)
  (h : ∀ v' w', Agg.Own EB base w' v' (l ++ t) → Pushed EB base w w' v → wpList Tryz.prog ops Q rest (a.put o.dst v') w') : wpList Tryz.prog ops Q (o :: rest) a w := by
 obtain ⟨v', w', hrun, h2, h3⟩ := run_appendStr (ty := o.type) hown t h63 hbase
 refine Agg.wpList_val hg (v := v') (w' := w') ?_ (h v' w' h2 (pushed_of hown h3))
 simp [execOp, ho, resolve, invoke, builtin, hs, hx, hrun]
end
end Go.Proofs.YtdebbmembkbniaaGreat
