/- Blocks that a step leaves alone. (Several texts in one.) -/
import Derived.Test.YtgekpghjlhcpkaaDAD
import Derived.Test.YtgekpghjlhcpkaaDAC
import Derived.Test.YtgekpghjlhcpkaaDAA
import Derived.Test.YtgekpghjlhcpkaaDAL
/-! '==' of what was made, of hashes, of paths; slices.Equal, spencekit.SameMades, SameBuilt, SameBuilts. -/
namespace Go.Proofs.Ytgekpghjlhcpkaa
open Go.RowKit Pl Go.Agg
theorem eqlInP (d : Nat) (p q : P20) (w : World) : (Op.equalIn (d + 3) 47 (.agg (pC p.1.1 p.1.2)) (.agg (pC q.1.1 q.1.2))).run Try.prog w = .ok (decide (p = q)) w := by
  rw [run_equalIn_struct w (d + 2) 47 _ _ pC_under (by kernel_rfl)]
  have hf := path_fields
  generalize (Try.prog.fieldsOf 47).toList = fs at hf ⊢
  cases fs with
  | nil => exact absurd hf (by simp)
  | cons f1 fs =>
  cases fs with
  | nil => exact absurd hf (by simp)
  | cons f2 fs =>
  cases fs with
  | cons f3 fs => exact absurd hf (by simp)
  | nil =>
    simp only [List.map_cons, List.map_nil, List.cons.injEq, Prod.mk.injEq, and_true] at hf
    obtain ⟨⟨a1, a2, a3⟩, b1, b2, b3⟩ := hf
    have e : decide (p = q) = (p.1.1 == q.1.1 && p.1.2 == q.1.2) := by
      rw [Bool.eq_iff_iff]
      simp [Subtype.ext_iff, Prod.ext_iff]
    rw [e]
    simp only [Op.eqFields, a1, a2, a3, b1, b2, b3, Sem.run_bind, Sem.run_ite, part_hash _ _ p.2, part_hash _ _ q.2, part_name _ _ p.2, part_name _ _ q.2, Result.andThen_ok, eqlIn_hash d _ _ p.2 q.2, run_equalIn_string w (d + 1) 9 _ _ Try.underlying9, Agg.bytes_toList]
    cases p.1.1 == q.1.1 <;> cases p.1.2 == q.1.2 <;> simp
theorem partAgg {ty : TypeId} {n : Nat} (ha : ∀ w, (isAgg ty).run Try.prog w = .ok true w) (hs : ∀ w, (sizeOf ty).run Try.prog w = .ok n w) (cs ds : Array Value) (off : Nat) (hn : ds.size = n) (h : ∀ j v, ds[j]? = some v → cs[off + j]? = some v) (w : World) :
    (Go.part ty cs off).run Try.prog w = .ok (.agg ds) w := by
  unfold Go.part
  simp only [Sem.run_bind, ha, Result.andThen_ok, if_true, hs, Sem.run_pure]
  congr 2
  apply Array.ext_getElem?
  intro j
  by_cases hj : j < n
  · have h1 : ds[j]? = some (ds[j]'(by omega)) := Array.getElem?_eq_getElem _
    have h2 := h j _ h1
    have h3 := (Array.getElem?_eq_some_iff.1 h2).1
    rw [h1, Array.getElem?_extract]
    rw [if_pos (by omega)]
    exact h2
  · rw [Array.getElem?_eq_none (xs := ds) (by omega), Array.getElem?_eq_none (by simp; omega)]
theorem made_fields : (Try.prog.fieldsOf 72).toList.map (fun f => (f.name, f.type, f.offset)) = [("Class", 45, 0), ("Path", 47, 20)] := by kernel_rfl
theorem isAggP (w : World) : (isAgg 47).run Try.prog w = .ok true w := by kernel_rfl
theorem sizeP (w : World) : (sizeOf 47).run Try.prog w = .ok 21 w := by kernel_rfl
theorem part_mcl (x : Md) (w : World) : (Go.part 45 (mC x) 0).run Try.prog w = .ok (.agg (hC x.1.1)) w := partAgg isAgg_hash size_hash _ _ 0 (by rw [hC_size, x.1.2]) (mC_cl x) w
theorem part_mpa (x : Md) (w : World) : (Go.part 47 (mC x) 20).run Try.prog w = .ok (.agg (pC x.2.1.1 x.2.1.2)) w := partAgg isAggP sizeP _ _ 20 (by rw [pC_size, x.2.2]) (mC_pa x) w
theorem eqlInM (d : Nat) (x y : Md) (w : World) : (Op.equalIn (d + 4) 72 (.agg (mC x)) (.agg (mC y))).run Try.prog w = .ok (decide (x = y)) w := by
  rw [run_equalIn_struct w (d + 3) 72 _ _ mC_under (by kernel_rfl)]
  have hf := made_fields
  generalize (Try.prog.fieldsOf 72).toList = fs at hf ⊢
  cases fs with
  | nil => exact absurd hf (by simp)
  | cons f1 fs =>
  cases fs with
  | nil => exact absurd hf (by simp)
  | cons f2 fs =>
  cases fs with
  | cons f3 fs => exact absurd hf (by simp)
  | nil =>
    simp only [List.map_cons, List.map_nil, List.cons.injEq, Prod.mk.injEq, and_true] at hf
    obtain ⟨⟨a1, a2, a3⟩, b1, b2, b3⟩ := hf
    have e : decide (x = y) = (x.1.1 == y.1.1 && decide (x.2 = y.2)) := by
      rw [Bool.eq_iff_iff]
      simp [Subtype.ext_iff, Prod.ext_iff]
    rw [e]
    simp only [Op.eqFields, a1, a2, a3, b1, b2, b3, Sem.run_bind, Sem.run_ite, part_mcl, part_mpa, Result.andThen_ok, eqlIn_hash (d + 1) _ _ x.1.2 y.1.2, eqlInP d]
    cases x.1.1 == y.1.1 <;> cases decide (x.2 = y.2) <;> simp
theorem neqM (x y : Md) (w : World) : (binOp .neq 72 (.agg (mC x)) (.agg (mC y))).run Try.prog w = .ok (.bool (!decide (x = y))) w := by rw [run_neq_struct, eqlInM 9996]; rfl
theorem eqlHB (x y : H20) (w : World) : (binOp .eql 45 (.agg (hC x.1)) (.agg (hC y.1))).run Try.prog w = .ok (.bool (decide (x = y))) w := by
  rw [eql_hash _ _ x.2 y.2]
  congr 2
  rw [Bool.eq_iff_iff]; simp [Subtype.ext_iff]
theorem eqlPB (x y : P20) (w : World) : (binOp .eql 47 (.agg (pC x.1.1 x.1.2)) (.agg (pC y.1.1 y.1.2))).run Try.prog w = .ok (.bool (decide (x = y))) w := by rw [run_eql_struct, eqlInP 9997]; rfl
theorem neqPB (x y : P20) (w : World) : (binOp .neq 47 (.agg (pC x.1.1 x.1.2)) (.agg (pC y.1.1 y.1.2))).run Try.prog w = .ok (.bool (!decide (x = y))) w := by rw [run_neq_struct, eqlInP 9997]; rfl
/-- alike up to a place -/
def AlikeU {α : Type} (l m : List α) (k : Nat) : Prop := ∀ (j : Nat), j < k → l[j]? = m[j]?
theorem alikeU_all {α : Type} {l m : List α} (hl : l.length = m.length) (h : AlikeU l m l.length) : l = m := by
  refine List.ext_getElem? fun j => ?_
  by_cases hj : j < l.length
  · exact h j hj
  · rw [List.getElem?_eq_none (by omega), List.getElem?_eq_none (by omega)]
theorem alikeU_succ {α : Type} {l m : List α} {k : Nat} (h : AlikeU l m k) (hk : l[k]? = m[k]?) : AlikeU l m (k + 1) := fun j hj => by
  by_cases e : j = k
  · subst e; exact hk
  · exact h j (by omega)
end Go.Proofs.Ytgekpghjlhcpkaa
/-! Comparison of strings, as operations. -/
namespace Go.Agg
open Go.RowKit
section
variable {P : Program} {ops : Array Oper} {rest : List Oper} {o : Oper} {a : Act} {w : World} {Q : Exit → Act → World → Prop} {t u : TypeId} {x y : Operand} {s r : List UInt8}
theorem exec_geqS (ho : o.op = .binOp .geq t x y u) (hx : a.eval x = .string ⟨s.toArray⟩) (hy : a.eval y = .string ⟨r.toArray⟩) : (execOp a.eval o).run P w = .ok (.value (.bool (!Op.bytesLess s r))) w := by
  simp only [execOp, ho, hx, hy]
  simp only [binOp, Op.stringOp, bytes_toList, eqGuard]
  first | rfl | simp
theorem exec_eqlS (ho : o.op = .binOp .eql t x y u) (hx : a.eval x = .string ⟨s.toArray⟩) (hy : a.eval y = .string ⟨r.toArray⟩) : (execOp a.eval o).run P w = .ok (.value (.bool (decide (s = r)))) w := by
  rw [← show (s == r) = decide (s = r) from by by_cases h : s = r <;> simp [h]]
  simp only [execOp, ho, hx, hy]
  simp only [binOp, Op.stringOp, bytes_toList, eqGuard]
  first | rfl | simp
theorem exec_neqS (ho : o.op = .binOp .neq t x y u) (hx : a.eval x = .string ⟨s.toArray⟩) (hy : a.eval y = .string ⟨r.toArray⟩) : (execOp a.eval o).run P w = .ok (.value (.bool (!decide (s = r)))) w := by
  rw [← show (s == r) = decide (s = r) from by by_cases h : s = r <;> simp [h]]
  simp only [execOp, ho, hx, hy]
  simp only [binOp, Op.stringOp, bytes_toList, eqGuard]
  first | rfl | simp
theorem wpQuiet_geqS {C : World → Prop} {Q : Act → Prop} (hw : Region.wanted o (yielded ops a.tmps) = true) (ho : o.op = .binOp .geq t x y u) (hx : a.eval x = .string ⟨s.toArray⟩) (hy : a.eval y = .string ⟨r.toArray⟩) (b : Bool) (hb : (!Op.bytesLess s r) = b)
    (h : wpQuiet P ops C Q rest (a.put o.dst (.bool b))) : wpQuiet P ops C Q (o :: rest) a := by
  subst hb
  exact wpQuiet_val hw _ (fun _ _ => exec_geqS ho hx hy) h
theorem wpQuiet_eqlS {C : World → Prop} {Q : Act → Prop} (hw : Region.wanted o (yielded ops a.tmps) = true) (ho : o.op = .binOp .eql t x y u) (hx : a.eval x = .string ⟨s.toArray⟩) (hy : a.eval y = .string ⟨r.toArray⟩) (b : Bool) (hb : decide (s = r) = b)
    (h : wpQuiet P ops C Q rest (a.put o.dst (.bool b))) : wpQuiet P ops C Q (o :: rest) a := by
  subst hb
  exact wpQuiet_val hw _ (fun _ _ => exec_eqlS ho hx hy) h
theorem wpQuiet_neqS {C : World → Prop} {Q : Act → Prop} (hw : Region.wanted o (yielded ops a.tmps) = true) (ho : o.op = .binOp .neq t x y u) (hx : a.eval x = .string ⟨s.toArray⟩) (hy : a.eval y = .string ⟨r.toArray⟩) (b : Bool) (hb : (!decide (s = r)) = b)
    (h : wpQuiet P ops C Q rest (a.put o.dst (.bool b))) : wpQuiet P ops C Q (o :: rest) a := by
  subst hb
  exact wpQuiet_val hw _ (fun _ _ => exec_neqS ho hx hy) h
theorem wpList_eqlS (hw : Region.wanted o (yielded ops a.tmps) = true) (ho : o.op = .binOp .eql t x y u) (hx : a.eval x = .string ⟨s.toArray⟩) (hy : a.eval y = .string ⟨r.toArray⟩) (b : Bool) (hb : decide (s = r) = b) (h : wpList P ops Q rest (a.put o.dst (.bool b)) w) : wpList P ops Q (o :: rest) a w := by
  subst hb
  exact wpList_valw hw (exec_eqlS ho hx hy) h
theorem wpList_neqS (hw : Region.wanted o (yielded ops a.tmps) = true) (ho : o.op = .binOp .neq t x y u) (hx : a.eval x = .string ⟨s.toArray⟩) (hy : a.eval y = .string ⟨r.toArray⟩) (b : Bool) (hb : (!decide (s = r)) = b) (h : wpList P ops Q rest (a.put o.dst (.bool b)) w) : wpList P ops Q (o :: rest) a w := by
  subst hb
  exact wpList_valw hw (exec_neqS ho hx hy) h
theorem wpList_geqS (hw : Region.wanted o (yielded ops a.tmps) = true) (ho : o.op = .binOp .geq t x y u) (hx : a.eval x = .string ⟨s.toArray⟩) (hy : a.eval y = .string ⟨r.toArray⟩) (b : Bool) (hb : (!Op.bytesLess s r) = b) (h : wpList P ops Q rest (a.put o.dst (.bool b)) w) : wpList P ops Q (o :: rest) a w := by
  subst hb
  exact wpList_valw hw (exec_geqS ho hx hy) h
end
end Go.Agg
/-! Blocks that a step leaves alone. -/
namespace Go.Agg
open Go.RowKit
variable {P : Program}
theorem Blk.type {w : World} {g : Nat} {t t' : TypeId} {cs cs' : Array Value} (h : Blk w g t cs) (h' : Blk w g t' cs') : t = t' := by
  unfold Blk at h h'
  rw [h] at h'
  injection h' with h'
  injection h' with _ h'
theorem Blk.only {w w' : World} {S : Nat → Prop} {g : Nat} {t : TypeId} {cs : Array Value} (h : Blk w g t cs) (ho : Only S w w') (hS : ¬ S g) : Blk w' g t cs := (ho.block g h.lt hS).trans h
theorem Only.of_eq {w w' : World} {g : Nat} {S : Nat → Prop} (hb : Below g w w') (hs : w'.heap.size = w.heap.size) (hk : ∀ k, k ≠ g → w'.heap[k]? = w.heap[k]?) (hg : S g) : Only S w w' :=
  ⟨hb.os, hb.tape, hb.output, Nat.le_of_eq hs.symm, fun k _ hn => hk k (fun e => hn (e ▸ hg))⟩
end Go.Agg
