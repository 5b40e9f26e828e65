/- A tree of one's own that grows by a kid. (Several texts in one.) -/
import Derived.Test.YtfiadgdinhmgbaaDoorHAI
import Derived.Test.YtfiadgdinhmgbaaDoorHAE
import Derived.Lib.AppendZerosOnto
import Derived.Lib.Overlaps
import Derived.StillTail
import Derived.Deep.Quiet
import Derived.Test.YtfiadgdinhmgbaaDoorHAC
import Derived.Test.YtfiadgdinhmgbaaDoorHAF
/-! Laws of no program for slices.Insert: slices of many cells cut, grown by zeros; copies whose runs are known. -/
namespace Go.Agg
open Go.RowKit
section
variable {P : Program} {α : Type} (E : Elem P α)
theorem Elem.runLow (p : Option Addr) (n c k : Nat) (hk : k ≤ n) (W : World) : (Instr.sliceAt E.st (.slice p n c) (some (.int .i64 (k : Int))) none none).run P W = .ok (.slice (if c = k then p else p.map (·.add (k * E.n))) (n - k) (c - k)) W := by
 simp [Instr.sliceAt, Instr.slice, Instr.sliceBounds, Instr.sliceBound, run_underlying E.slice, Sem.run_bind, asIntOf, run_sizeOf_elem]
 intro h
 omega
theorem Elem.runCut (g n c k : Nat) (hk : k ≤ n) (hc : k < c) (W : World) : (Instr.sliceAt E.st (.slice (some ⟨g, 0, none⟩) n c) (some (.int .i64 (k : Int))) none none).run P W = .ok (.slice (some ⟨g, k * E.n, none⟩) (n - k) (c - k)) W := by
 rw [E.runLow _ n c k hk W, if_neg (by omega)]
 simp only [Option.map_some, add_plain, Nat.zero_add]
theorem Elem.runHigh (p : Option Addr) (n c k : Nat) (hk : k ≤ c) (W : World) : (Instr.sliceAt E.st (.slice p n c) none (some (.int .i64 (k : Int))) none).run P W = .ok (.slice p k c) W := by
 have hp : (p.map fun x => x.add 0) = p := by cases p <;> rfl
 simp [Instr.sliceAt, Instr.slice, Instr.sliceBounds, Instr.sliceBound, run_underlying E.slice, Sem.run_bind, asIntOf, hk, hp, run_sizeOf_elem]
variable {E}
theorem zeroCells_flat (z : α) (hz : E.val z = E.zero) (n : Nat) : (Builtin.zeroCells E.zero.cells n).toList = E.flat (List.replicate n z) := by
 have hs := E.zsize
 have hpos := E.pos
 refine List.ext_getElem? fun j => ?_
 by_cases hj : j < n * E.n
 ·have hq : j % E.n < E.n := Nat.mod_lt _ hpos
  have hk : j / E.n < n := (Nat.div_lt_iff_lt_mul hpos).2 hj
  have h4 : (E.val z).cells[j % E.n]? = some E.zero.cells[j % E.n]! := by
   rw [hz, getElem!_def, Array.getElem?_eq_getElem (by omega)]
  have h5 := E.flat_get (List.replicate n z) (j / E.n) z (j % E.n) _ (by simp [hk]) h4
  rw [show j / E.n * E.n + j % E.n = j by rw [Nat.mul_comm]; exact Nat.div_add_mod j E.n] at h5
  rw [h5]
  simp [Builtin.zeroCells, hs, hj]
 ·rw [List.getElem?_eq_none (by simp [Builtin.zeroCells, hs]; omega), List.getElem?_eq_none (by rw [E.flat_length]; simp; omega)]
theorem run_append_zerosE {base : Nat} {w : World} {g c : Nat} {l : List α} (z : α) (hz : E.val z = E.zero) (hown : Own E base w (.slice (some ⟨g, 0, none⟩) l.length c) l) (tn : TypeId) (htn : P.underlying tn = some (.int .i64)) (n : Nat) (hn : 0 < n) (hg : c < l.length + n) (h63 : l.length + n ≤ 1099511627776 / 8) (hby : E.bytes ≤ 1000) (hbase : base ≤ w.heap.size) (ty : TypeId) :
  ∃ cap w', (Builtin.append_ #[E.st, tn] ty #[.slice (some ⟨g, 0, none⟩) l.length c, .int .i64 (n : Int)]).run P w = .ok (.slice (some ⟨w.heap.size, 0, none⟩) (l.length + n) cap) w' ∧ Own E base w' (.slice (some ⟨w.heap.size, 0, none⟩) (l.length + n) cap) (l ++ List.replicate n z) ∧ Below w.heap.size w w' ∧ w'.heap.size = w.heap.size + 1 := by
 obtain ⟨i, hi, hzi, hs, hb⟩ := E.info
 have hsl := hown.slice
 obtain ⟨_, ⟨h0, _⟩ | ⟨g', cap, cur, hv, hgb, hcur, hle, hmx, hsz, htk⟩⟩ := hown
 ·cases h0
 ·obtain ⟨rfl, rfl⟩ : g = g' ∧ c = cap := by injection hv with e1 e2 e3; injection e1 with e1; injection e1 with e1; exact ⟨e1, e3⟩
  have hmul : (l.length + n) * E.bytes ≤ 140737488355328 := Nat.le_trans (Nat.mul_le_mul h63 hby) (by omega)
  have hmul2 : n * E.bytes ≤ 140737488355328 := Nat.le_trans (Nat.mul_le_mul_right _ (by omega)) hmul
  have hold : (Builtin.firstCells i.size l.length (.slice (some ⟨g, 0, none⟩) l.length c)).run P w.drew = .ok (E.flat l).toArray w.drew := by
   rw [hs]
   refine run_firstCells_some w.drew E.n l.length ⟨g, 0, none⟩ l.length c (E.flat l) (E.flat_length l) fun j u hj => ?_
   rw [add_plain, Nat.zero_add]
   rw [← htk, List.getElem?_take] at hj
   split at hj
   ·show w.cell? _ = _
    rw [cell_of_row _ _ _ _ _ _ hcur]
    simpa using hj
   ·cases hj
  have hr := Lib.run_append_grow_zeros (P := P) w E.st tn ty E.ty i E.zero .i64 .i64 E.slice htn hi hzi (some ⟨g, 0, none⟩) l.length c (E.flat l) hold n hn (by rw [hs]; exact E.pos) hg (by omega) (by rw [hb]; omega) (by rw [hb]; exact growslice_fits hg hmul)
  refine ⟨_, _, hr, ⟨E.flat_length _, .inr ⟨w.heap.size, grownCap w (l.length + n) c E.ty, _, by rw [List.length_append, List.length_replicate], hbase, heap_alloc_new _ _, by rw [List.length_append, List.length_replicate]; exact grownCap_ge w _ _ _, grownCap_le_maxLen w (l.length + n) c E.ty (by unfold maxLen; omega), ?_, ?_⟩⟩, (Below.refl _ _).drew.alloc (Nat.le_refl _) _, Array.size_push _⟩
  ·have h1 := grownCap_ge w (l.length + n) c E.ty
   have h2 : (E.flat l).length = l.length * E.n := E.flat_length l
   simp only [Array.size_append, List.size_toArray, h2, Builtin.zeroCells, Array.size_map, Array.size_range, E.zsize]
   rw [← Nat.add_mul, ← Nat.add_mul]
   congr 1
   omega
  ·rw [Array.toList_append, Array.toList_append, zeroCells_flat z hz, zeroCells_flat z hz, ← E.flat_append, ← E.flat_append, List.append_assoc]
   have := E.flat_take ((l ++ List.replicate n z) ++ List.replicate (grownCap w (l.length + n) c E.ty - (l.length + n)) z) (l ++ List.replicate n z).length (by simp)
   rw [List.take_left] at this
   rw [← List.append_assoc]
   exact this
section
variable {ops : Array Oper} {rest : List Oper} {o : Oper} {a : Act} {w : World} {Q : Exit → Act → World → Prop}
theorem wpList_copyR (hgd : o.guard = none) (d s : Operand) (t t' : TypeId)
  (ho : o.op = .call { callee := .builtin .copy, args := #[d, s], argTypes := #[t, t'] }) (v u : Value) (hd : a.eval d = v) (hs : a.eval s = u) {v' : Value} {w' : World}
  (hr : (Builtin.copy_ #[t, t'] o.type #[v, u]).run P w = .ok v' w') (h : wpList P ops Q rest (a.put o.dst v') w') : wpList P ops Q (o :: rest) a w := by
 refine wpList_val hgd (v := v') (w' := w') ?_ h
 simp only [execOp, ho, resolve, invoke, builtin, Sem.run_bind, Sem.run_pure, Result.andThen_ok, List.map_toArray, List.map_cons, List.map_nil, hd, hs, hr]
theorem wpList_appendR (hgd : o.guard = none) (s x : Operand) (t tn : TypeId)
  (ho : o.op = .call { callee := .builtin .append, args := #[s, x], argTypes := #[t, tn] }) (vs vx : Value) (hs : a.eval s = vs) (hx : a.eval x = vx) {v' : Value} {w' : World}
  (hr : (Builtin.append_ #[t, tn] o.type #[vs, vx]).run P w = .ok v' w') (h : wpList P ops Q rest (a.put o.dst v') w') : wpList P ops Q (o :: rest) a w := by
 refine wpList_val hgd (v := v') (w' := w') ?_ h
 simp only [execOp, ho, resolve, invoke, builtin, Sem.run_bind, Sem.run_pure, Result.andThen_ok, List.map_toArray, List.map_cons, List.map_nil, hs, hx, hr]
end
theorem Pushed.of_only {base : Nat} {w w' : World} {v : Value} {l : List α} (h : Own E base w v l) (ho : Only (fun k => v.ownBlock = some k) w w') : Pushed E base w w' v :=
 pushed_of h ⟨ho.os, ho.tape, ho.output, ho.size, fun k hk hne => ho.block k hk fun e => hne e.symm⟩
end
end Go.Agg
/-! A region that draws its order, in three parts: a quiet head in one class of worlds, a row of operations one behind the other, a quiet end in another class. Over any program. -/
namespace Go.Agg
variable {P : Program} {ops : Array Oper} {md : Region.Mode} {C : World → Prop}
def pre (N k : Nat) : Array Bool := (List.replicate k true ++ List.replicate (N - k) false).toArray
theorem pre_zero (N : Nat) : pre N 0 = Array.replicate N false := by simp [pre]
theorem pre_size {N k : Nat} (h : k ≤ N) : (pre N k).size = N := by simp [pre]; omega
theorem pre_get {N k : Nat} (h : k ≤ N) (t : Nat) (d : Bool) : (pre N k).getD t d = if t < k then true else if t < N then false else d := by
 unfold pre
 rw [Array.getD_eq_getD_getElem?]
 simp only [List.getElem?_toArray]
 by_cases h1 : t < k
 ·rw [List.getElem?_append_left (by simpa using h1), List.getElem?_replicate, if_pos h1, if_pos h1]; rfl
 ·rw [List.getElem?_append_right (by simpa using h1), List.getElem?_replicate, if_neg h1]
  by_cases h2 : t < N
  ·rw [if_pos h2, if_pos (by simp; omega)]; rfl
  ·rw [if_neg h2, if_neg (by simp; omega)]; rfl
theorem pre_set {N k : Nat} (h : k < N) : (pre N k).setIfInBounds k true = pre N (k + 1) := by
 apply Array.ext_getElem?
 intro t
 have e1 := pre_get (N := N) (k := k) (by omega)
 unfold pre
 simp only [List.setIfInBounds_toArray, List.getElem?_toArray]
 rw [show N - k = (N - (k + 1)) + 1 by omega, List.replicate_succ, List.set_append_right _ _ (by simp)]
 simp only [List.length_replicate, Nat.sub_self, List.set_cons_zero]
 rw [List.replicate_succ', List.append_assoc, List.singleton_append]
def treeB (md : Region.Mode) (ops : Array Oper) (n : Nat) : Bool :=
 (List.range ops.size).all fun t => decide (t ≤ n) || (List.range t).any fun j => decide (n ≤ j) && Region.waitsFor md ops t j
def closedB (md : Region.Mode) (ops : Array Oper) (k : Nat) : Bool :=
 (List.range k).all fun j => match ops[j]? with | some oj => oj.after.all fun e => !Region.binds md e || decide (e.on < k) | none => true
def headB (md : Region.Mode) (ops : Array Oper) : Nat → Nat → Array Bool → Bool
 | 0, _, _ => true
 | f + 1, k, listed => (Region.ready md ops listed).contains k && Region.free md ops listed k && headB md ops f (k + 1) (listed.setIfInBounds k true)
def cutB (md : Region.Mode) (ops : Array Oper) (k n : Nat) : Bool :=
 decide (n < ops.size) && Region.sinkB md ops n && treeB md ops n && closedB md ops k && headB md ops (n - k) k (pre ops.size k)
def rowB (md : Region.Mode) (ops : Array Oper) : Nat → Nat → Array Bool → Bool
 | 0, _, _ => true
 | g + 1, k, listed => decide (Region.ready md ops listed = [k]) && rowB md ops g (k + 1) (listed.setIfInBounds k true)
theorem waits {n : Nat} {listed : Array Bool} (hs : Region.sinkB md ops n = true) (hc : treeB md ops n = true) (inv : HeadInv md ops n listed) :
  ∀ (d i : Nat), n - i = d → i < n → listed.getD i true = false → ∀ t, n ≤ t → t ∉ Region.ready md ops listed := by
 intro d
 induction d using Nat.strongRecOn with
 | _ d ih =>
  intro i hd hi hun t ht hr
  obtain ⟨_, ot, hot, hall⟩ := mem_ready.1 hr
  have htlt : t < ops.size := (Array.getElem?_eq_some_iff.1 hot).1
  by_cases htn : t = n
  ·subst htn
   obtain ⟨j, hj, hj2⟩ := List.any_eq_true.1 (List.all_eq_true.1 hs i (List.mem_range.2 hi))
   simp only [Bool.and_eq_true, decide_eq_true_eq] at hj2
   obtain ⟨oj, hoj, e, he, hb, hon⟩ := Region.waitsFor_spec hj2.2
   have hjle : j ≤ t := by have := List.mem_range.1 hj; omega
   by_cases hjt : j = t
   ·subst hjt
    obtain rfl : oj = ot := Option.some.inj (hoj.symm.trans hot)
    have h2 := hall e he hb
    rw [hon, getD_both hun] at h2
    cases h2
   ·cases hl : listed.getD j false with
    | true =>
     have h2 := inv.closed j oj hoj hl e he hb
     rw [hon, getD_both hun] at h2
     cases h2
    | false => exact ih (t - j) (by omega) j rfl (by omega) (getD_in (by rw [inv.size]; omega) hl) t (Nat.le_refl _) hr
  ·have h1 := List.all_eq_true.1 hc t (List.mem_range.2 htlt)
   simp only [Bool.or_eq_true, decide_eq_true_eq] at h1
   rcases h1 with h1 | h1
   ·omega
   ·obtain ⟨j, hj, hj2⟩ := List.any_eq_true.1 h1
    simp only [Bool.and_eq_true, decide_eq_true_eq] at hj2
    obtain ⟨o', ho', e, he, hb, hon⟩ := Region.waitsFor_spec hj2.2
    obtain rfl : o' = ot := Option.some.inj (ho'.symm.trans hot)
    have h2 := hall e he hb
    have hjt := List.mem_range.1 hj
    rw [hon, getD_both (inv.tail j hj2.1 (by omega))] at h2
    cases h2
def anyHead (P : Program) (md : Region.Mode) (ops : Array Oper) (C : World → Prop) (n : Nat) (L : Array Bool → Act → Prop) : Nat → Array Bool → Act → Prop
 | 0, listed, a => L listed a
 | f + 1, listed, a => Region.ready md ops listed ≠ [] ∧ ∀ i ∈ Region.ready md ops listed, i < n ∧ qOp P ops C i (anyHead P md ops C n L f (listed.setIfInBounds i true)) a
theorem any_of_head {n g : Nat} {L : Array Bool → Act → Prop} {Q' : Exit → Act → World → Prop} (hL : ∀ listed a w, C w → L listed a → wpAny P md ops Q' g listed a w) :
  ∀ (f : Nat) (listed : Array Bool) (a : Act) (w : World), C w → anyHead P md ops C n L f listed a → wpAny P md ops Q' (f + g) listed a w
 | 0, listed, a, w, hw, h => by rw [Nat.zero_add]; exact hL _ _ _ hw h
 | f + 1, listed, a, w, hw, h => by
  rw [show f + 1 + g = (f + g) + 1 by omega]
  exact ⟨fun h0 => absurd h0 h.1, fun i hi => wpOp_of_qOp hw (fun a' w' hw' h' => any_of_head hL f _ a' w' hw' h') (h.2 i hi).2⟩
theorem head_first {n i : Nat} {oi : Oper} {v : Value} {L : Array Bool → Act → Prop} (hi : ops[i]? = some oi) (hsel : ∀ (j : Nat) (o : Oper) cs b, ops[j]? = some o → o.op ≠ .select cs b)
  (hs : Region.sinkB md ops n = true) (hc : treeB md ops n = true) (hin : i < n) (hdone : ∀ listed a, L listed a → ∀ j ∈ Region.ready md ops listed, n ≤ j) :
  ∀ (f : Nat) (listed : Array Bool) (a : Act), HeadInv md ops n listed →
   (∀ j oj, ops[j]? = some oj → j ≠ i → listed.getD j true = false → (∀ e ∈ oj.after, Region.binds md e = true → e.on ≠ i) → oi.apart ops oj = true) →
   i ∈ Region.ready md ops listed → YieldsIn P ops C oi v a →
   anyHead P md ops C n L f (listed.setIfInBounds i true) (a.put oi.dst v) → anyHead P md ops C n L (f + 1) listed a := by
 intro f
 induction f with
 | zero =>
  intro listed a inv _ hr hy H
  have hun := (mem_ready.1 hr).1
  refine ⟨fun h => (by rw [h] at hr; cases hr), fun j hj => ?_⟩
  have hjn : j < n := (Nat.lt_or_ge j n).resolve_right fun h => waits hs hc inv _ i rfl hin hun j h hj
  refine ⟨hjn, ?_⟩
  by_cases hji : j = i
  ·subst hji; exact hy.qOp hi H
  ·have := hdone _ _ H j (ready_mono hj hji)
   omega
 | succ f ih =>
  intro listed a inv hfree hr hy H
  have hun := (mem_ready.1 hr).1
  refine ⟨fun h => (by rw [h] at hr; cases hr), fun j hj => ?_⟩
  have hjn : j < n := (Nat.lt_or_ge j n).resolve_right fun h => waits hs hc inv _ i rfl hin hun j h hj
  refine ⟨hjn, ?_⟩
  by_cases hji : j = i
  ·subst hji; exact hy.qOp hi H
  ·have h1 := (H.2 j (ready_mono hj hji)).2
   obtain ⟨hjun, oj, hoj, hall⟩ := mem_ready.1 hj
   have hnot : ∀ e ∈ oj.after, Region.binds md e = true → e.on ≠ i := fun e he hb heq => by
    have h1 := hall e he hb
    rw [heq, getD_both hun] at h1
    cases h1
   have h2 := qOp_put hoj (hfree j oj hoj hji hjun hnot) (fun cs b => hsel i oi cs b hi) (fun cs b => hsel j oj cs b hoj) hy h1
   refine qOp_mono (fun a' h3 => ih (listed.setIfInBounds j true) a' (inv.set hj hjn) (fun k ok hk hki hun' hno => hfree k ok hk hki ?_ hno) (ready_mono hr (Ne.symm hji)) h3.1 ?_) h2
   ·by_cases hjk : j = k
    ·subst hjk; exact hjun
    ·rw [getD_set_ne true hjk] at hun'; exact hun'
   ·rw [Array.setIfInBounds_comm _ _ hji]
    exact h3.2
theorem head_lex {n : Nat} {Lq : Act → Prop} (hsel : Region.noSelect ops = true) (hs : Region.sinkB md ops n = true) (hc : treeB md ops n = true) (hn : n < ops.size) :
  ∀ (l : List Oper) (k : Nat) (a : Act), (∀ j, j < l.length → l[j]? = ops[k + j]?) → k + l.length = n → HeadInv md ops n (pre ops.size k) →
  headB md ops l.length k (pre ops.size k) = true → wpQuiet P ops C Lq l a →
  anyHead P md ops C n (fun listed' a' => listed' = pre ops.size n ∧ Lq a') l.length (pre ops.size k) a
 | [], k, a, _, hk, _, hB, h => by
  obtain rfl : k = n := by simpa using hk
  exact ⟨rfl, h⟩
 | o :: l, k, a, hl, hk, inv, hB, h => by
  have h0 : ops[k]? = some o := by simpa using (hl 0 (by simp)).symm
  simp only [List.length_cons, headB, Bool.and_eq_true] at hB
  obtain ⟨⟨hr, hf⟩, hB'⟩ := hB
  have hkn : k < n := by simp only [List.length_cons] at hk; omega
  have hr' : k ∈ Region.ready md ops (pre ops.size k) := by simpa using hr
  have hst : qOp P ops C k (wpQuiet P ops C Lq l) a := by unfold qOp; simp only [h0]; exact h
  obtain ⟨v, hy, hK⟩ := yieldsIn_of_qOp h0 hst
  have hset : (pre ops.size k).setIfInBounds k true = pre ops.size (k + 1) := pre_set (by omega)
  have inv' := inv.set hr' hkn
  rw [hset] at hB' inv'
  refine head_first h0 (Region.noSelect_spec hsel) hs hc hkn (fun listed' a' hL j hj => ?_) l.length _ a inv (Region.free_spec h0 hf) hr' hy ?_
  ·have h1 := (mem_ready.1 hj).1
   rw [hL.1, pre_get (by omega)] at h1
   by_cases hjn : j < n
   ·rw [if_pos hjn] at h1; cases h1
   ·omega
  ·rw [hset]
   exact head_lex hsel hs hc hn l (k + 1) _ (fun j hj => by have := hl (j + 1) (by simp; omega); simpa [Nat.add_assoc, Nat.add_comm 1 j] using this) (by simp only [List.length_cons] at hk; omega) inv' hB' hK
theorem seg_quiet {k n g : Nat} {Lq : Act → Prop} {Q' : Exit → Act → World → Prop} (hsel : Region.noSelect ops = true) (hB : cutB md ops k n = true)
  (hL : ∀ a w, C w → Lq a → wpAny P md ops Q' g (pre ops.size n) a w) (l : List Oper) (hl : ∀ j, j < l.length → l[j]? = ops[k + j]?) (hk : k + l.length = n) {a : Act} {w : World} (h : wpQuiet P ops C Lq l a) (hw : C w) :
  wpAny P md ops Q' (l.length + g) (pre ops.size k) a w := by
 simp only [cutB, Bool.and_eq_true, decide_eq_true_eq] at hB
 obtain ⟨⟨⟨⟨hn, hs⟩, hc⟩, hcl⟩, hh⟩ := hB
 have hkN : k ≤ ops.size := by omega
 have inv : HeadInv md ops n (pre ops.size k) := by
  refine ⟨pre_size hkN, fun j oj hoj hj e he hb => ?_, fun t ht ht' => ?_⟩
  ·rw [pre_get hkN] at hj ⊢
   have hjk : j < k := by
    by_cases h : j < k
    ·exact h
    ·rw [if_neg h] at hj; split at hj <;> cases hj
   have h1 := List.all_eq_true.1 hcl j (List.mem_range.2 hjk)
   rw [hoj] at h1
   have h2 := Array.all_eq_true_iff_forall_mem.1 h1 e he
   simp only [hb, Bool.not_true, Bool.false_or, decide_eq_true_eq] at h2
   rw [if_pos h2]
  ·rw [pre_get hkN, if_neg (by omega), if_pos ht']
 rw [show n - k = l.length by omega] at hh
 exact any_of_head (fun listed a w hw hL' => hL'.1 ▸ hL a w hw hL'.2) _ _ _ _ hw (head_lex hsel hs hc hn l k a hl hk inv hh h)
def thenK (Q : Exit → Act → World → Prop) (K : Act → World → Prop) : Exit → Act → World → Prop
 | .normal, a, w => K a w
 | e, a, w => Q e a w
theorem wpOp_thenK {Q : Exit → Act → World → Prop} {K K' : Act → World → Prop} {i : Nat} {a : Act} {w : World} (h : wpOp P ops (thenK Q K) i K' a w) : wpOp P ops Q i K' a w := by
 unfold wpOp at *
 split
 ·rename_i ho; simpa [ho] using h
 ·rename_i o ho
  simp only [ho] at h
  split
  ·rename_i hw
   simp only [hw, if_true] at h
   rcases h with h | ⟨h1, a', w', h2⟩
   ·refine .inl ?_
    unfold Oper.wp at *
    generalize (execOp a.eval o).run P w = r at *
    cases r with
    | ok n w' =>
     cases n <;> simp only [Oper.upon] at h ⊢ <;>
      first
       | exact h
       | exact Calls.mono h (fun e w'' he => by
         cases e <;> first | exact he | (obtain ⟨a', w', h2⟩ := he; exact ⟨a', w', h2⟩))
    | halt x w' => cases x <;> simp only [Oper.upon] at h ⊢ <;> exact h
   ·exact .inr ⟨h1, a', w', h2⟩
  ·rename_i hw; simpa [hw] using h
theorem seg_row {g : Nat} {Q' : Exit → Act → World → Prop} {K : Act → World → Prop} {n : Nat} (hL : ∀ a w, K a w → wpAny P md ops Q' g (pre ops.size n) a w) : ∀ (l : List Oper) (k : Nat) (a : Act) (w : World),
  (∀ j, j < l.length → l[j]? = ops[k + j]?) → k + l.length = n → n ≤ ops.size → rowB md ops l.length k (pre ops.size k) = true → wpList P ops (thenK Q' K) l a w → wpAny P md ops Q' (l.length + g) (pre ops.size k) a w
 | [], k, a, w, _, hk, _, _, h => by
  obtain rfl : k = n := by simpa using hk
  rw [show ([] : List Oper).length + g = g by simp]
  exact hL _ _ h
 | o :: l, k, a, w, hl, hk, hn, hB, h => by
  have h0 : ops[k]? = some o := by simpa using (hl 0 (by simp)).symm
  simp only [List.length_cons, rowB, Bool.and_eq_true, decide_eq_true_eq] at hB hk
  rw [show (o :: l).length + g = (l.length + g) + 1 by simp; omega]
  refine ⟨fun h1 => (by rw [hB.1] at h1; cases h1), fun i hi => ?_⟩
  rw [hB.1] at hi
  obtain rfl : i = k := by simpa using hi
  have hw : wpOp P ops (thenK Q' K) i (wpList P ops (thenK Q' K) l) a w := by unfold wpOp; simp only [h0]; exact h
  have hset : (pre ops.size i).setIfInBounds i true = pre ops.size (i + 1) := pre_set (by omega)
  have hB2 := hB.2
  rw [hset] at hB2
  refine wpOp_mono (fun a' w' h' => ?_) (wpOp_thenK hw)
  rw [hset]
  exact seg_row hL l (i + 1) a' w' (fun j hj => by have := hl (j + 1) (by simp; omega); simpa [Nat.add_assoc, Nat.add_comm 1 j] using this) (by omega) hn hB2 h'
def midB (md : Region.Mode) (ops : Array Oper) (n m : Nat) : Bool :=
 Region.noSelect ops && decide (n < m) && decide (m < ops.size) && cutB md ops 0 n && rowB md ops (m - n) n (pre ops.size n) && Region.lexFrom md ops (ops.size - m) m (pre ops.size m)
theorem wp_region_mid {id : Nat} {Q : Exit → Act → World → Prop} {a : Act} {w : World} {l : List Oper} (n m : Nat) (C : World → Prop) (hm : P.follows .mixedOrders = true) (hB : midB .any l.toArray n m = true) (hC : C w.drew)
  (h : wpQuiet P l.toArray C (fun a' => ∀ w', C w' → wpList P l.toArray (thenK Q fun a2 w2 => ∃ C2 : World → Prop, C2 w2 ∧ wpQuiet P l.toArray C2 (fun a3 => ∀ w3, C2 w3 → Q .normal a3 w3) (l.drop m) a2) ((l.drop n).take (m - n)) a' w') (l.take n) a) :
  (Code.region id l.toArray true).wp P Q a w := by
 simp only [midB, Bool.and_eq_true, decide_eq_true_eq] at hB
 obtain ⟨⟨⟨⟨⟨hsel, hnm⟩, hms⟩, hc⟩, hr⟩, hx⟩ := hB
 have hms' : m < l.length := by simpa using hms
 refine wp_region_any hm ?_
 have hend : ∀ a2 w2, (∃ C2 : World → Prop, C2 w2 ∧ wpQuiet P l.toArray C2 (fun a3 => ∀ w3, C2 w3 → Q .normal a3 w3) (l.drop m) a2) → wpAny P .any l.toArray Q (l.length - m) (pre l.toArray.size m) a2 w2 := by
  rintro a2 w2 ⟨C2, h2, hq⟩
  have h3 := wpAnyQ_lex (C := C2) (md := .any) hsel (l.drop m) m (pre l.toArray.size m) a2 (fun j => by simp [List.getElem?_drop]) (by simpa using hx) hq
  have := wpAny_of_quiet (Q' := Q) (Q := fun a3 => ∀ w3, C2 w3 → Q .normal a3 w3) (fun _ w' hw' h => h w' hw') _ _ _ _ h2 h3
  simpa using this
 have hrow : ∀ a' w', C w' → (∀ w', C w' → wpList P l.toArray (thenK Q fun a2 w2 => ∃ C2 : World → Prop, C2 w2 ∧ wpQuiet P l.toArray C2 (fun a3 => ∀ w3, C2 w3 → Q .normal a3 w3) (l.drop m) a2) ((l.drop n).take (m - n)) a' w') →
   wpAny P .any l.toArray Q (l.length - n) (pre l.toArray.size n) a' w' := by
  intro a' w' hw' h'
  have hlen : ((l.drop n).take (m - n)).length = m - n := by simp; omega
  have := seg_row (md := .any) (n := m) hend ((l.drop n).take (m - n)) n a' w' (fun j hj => by
   rw [hlen] at hj
   simp [hj]) (by rw [hlen]; omega) (by simp; omega) (by rw [hlen]; exact hr) (h' w' hw')
  rw [hlen, show m - n + (l.length - m) = l.length - n by omega] at this
  exact this
 have hlen : (l.take n).length = n := by simp; omega
 have := seg_quiet (md := .any) (k := 0) (n := n) hsel hc hrow (l.take n) (fun j hj => by
  rw [hlen] at hj
  simp [hj]) (by rw [hlen]; omega) h hC
 rw [hlen, show n + (l.length - n) = l.length by omega, pre_zero] at this
 exact this
def rowEndB (md : Region.Mode) (ops : Array Oper) (n : Nat) : Bool :=
 Region.noSelect ops && decide (n < ops.size) && cutB md ops 0 n && rowB md ops (ops.size - n) n (pre ops.size n) && (Region.ready md ops (pre ops.size ops.size)).isEmpty
theorem wp_region_row {id : Nat} {Q : Exit → Act → World → Prop} {a : Act} {w : World} {l : List Oper} (n : Nat) (C : World → Prop) (hm : P.follows .mixedOrders = true) (hB : rowEndB .any l.toArray n = true) (hC : C w.drew)
  (h : wpQuiet P l.toArray C (fun a' => ∀ w', C w' → wpList P l.toArray Q (l.drop n) a' w') (l.take n) a) : (Code.region id l.toArray true).wp P Q a w := by
 simp only [rowEndB, Bool.and_eq_true, decide_eq_true_eq, List.isEmpty_iff] at hB
 obtain ⟨⟨⟨⟨hsel, hn⟩, hc⟩, hr⟩, hx⟩ := hB
 have hn' : n < l.length := by simpa using hn
 refine wp_region_any hm ?_
 have hdl : (l.drop n).length = l.length - n := by simp
 have hrow : ∀ a' w', C w' → (∀ w', C w' → wpList P l.toArray Q (l.drop n) a' w') → wpAny P .any l.toArray Q (l.length - n) (pre l.toArray.size n) a' w' := by
  intro a' w' hw' h'
  have hQ : thenK Q (Q .normal) = Q := by funext e; cases e <;> rfl
  have := seg_row (md := .any) (n := l.length) (g := 0) (Q' := Q) (K := Q .normal) (fun a w hK => ⟨by rw [show l.length = l.toArray.size by simp]; exact hx, hK⟩) (l.drop n) n a' w' (fun j _ => by simp [List.getElem?_drop]) (by rw [hdl]; omega) (by simp) (by rw [hdl]; simpa using hr) (by rw [hQ]; exact h' w' hw')
  rwa [hdl, Nat.add_zero] at this
 have hlen : (l.take n).length = n := by simp; omega
 have := seg_quiet (md := .any) (k := 0) (n := n) hsel hc hrow (l.take n) (fun j hj => by
  rw [hlen] at hj
  simp [hj]) (by rw [hlen]; omega) h hC
 rw [hlen, show n + (l.length - n) = l.length by omega, pre_zero] at this
 exact this
end Go.Agg
/-! slices.Insert of one kid into kids of the call's own. -/
namespace Go.Proofs.YtfiadgdinhmgbaaDoor
open Go.RowKit Pl Go.Agg
theorem shape_rowK {w : World} {g : Nat} {cs : Array Value} {t : TypeId} (h : w.heap[g]? = some (.cells cs t (0, 0))) : w.shape? g = some (t, cs.size) := by simp [World.shape?, h]
theorem overl_apartK {w : World} {gv g : Nat} {x : KdV} {cs : Array Value} (hne : gv ≠ g) (hv : Blk w gv 51 (kdC x)) (hg : w.heap[g]? = some (.cells cs 51 (0, 0))) (hcs : cs.size ≠ 0) (off lb cb : Nat) :
  (callFunc 92 #[.slice (some ⟨gv, 0, none⟩) 1 1, .slice (some ⟨g, off, none⟩) lb cb]).run Tryd.prog w = .ok (.value (.bool false)) w := by
 rw [run_callFunc_extern Tryd.func92 (by kernel_rfl) (by kernel_rfl) (by kernel_rfl) (e := Extern.SlicesOverlaps.overlaps #[24, 24] #[4]) (by kernel_rfl),
  Lib.run_overlaps_apart w 24 4 51 EK.slice 4 (fun w => run_sizeOf_elem (E := EK) w) ⟨gv, 0, none⟩ ⟨g, off, none⟩ 1 1 lb cb hne 51 51 (kdC x).size cs.size (shape_rowK hv) (shape_rowK hg) hcs (frozen_of_row _ _ _ _ _ hv) (frozen_of_row _ _ _ _ _ hv)]
 rfl
theorem own_rowK {base : Nat} {w : World} {g c n : Nat} {l : List KdV} (h : Own EK base w (.slice (some ⟨g, 0, none⟩) n c) l) : ∃ cur, w.heap[g]? = some (.cells cur 51 (0, 0)) ∧ cur.size = c * 4 ∧ n ≤ c ∧ c ≤ maxLen ∧ base ≤ g := by
 obtain ⟨_, ⟨h0, _⟩ | ⟨g', cap, cur, hv, hgb, hcur, hle, hmx, hsz, _⟩⟩ := h
 ·cases h0
 ·obtain ⟨rfl, rfl, rfl⟩ : g = g' ∧ n = l.length ∧ c = cap := by injection hv with e1 e2 e3; injection e1 with e1; injection e1 with e1; exact ⟨e1, e2, e3⟩
  exact ⟨cur, hcur, hsz, hle, hmx, hgb⟩
theorem only_setRowK {w : World} {g : Nat} {cs : Array Value} : Only (· = g) w (w.setRow g cs) := ⟨rfl, rfl, rfl, by simp, fun k _ hk => setRow_other w g k cs hk⟩
set_option maxRecDepth 100000 in
set_option maxHeartbeats 4000000 in
theorem insert_endK (v : Value) (l : List KdV) (hl : l.length ≤ 1048576) (base : Nat) (gv : Nat) (x : KdV) (w : World) (hown : Own EK base w v l) (hv : Blk w gv 51 (kdC x)) (hbase : base ≤ w.heap.size) :
  Calls Tryd.prog 69 #[v, .int .i64 (l.length : Int), .slice (some ⟨gv, 0, none⟩) 1 1] w fun e w' => ∃ v', e = .returned v' ∧ Own EK base w' v' (l ++ [x]) ∧ Pushed EK base w w' v ∧ Grew w v v' := by
 have HO := Lib.hid hown
 have HVV := Lib.hid (slice_of_block (E := EK) (a := x) hv)
 have hlv := fun W => hown.slice.len W
 obtain ⟨p, c, rfl⟩ := hown.slice.form
 have hlo := EK.runLow (P := Tryd.prog) p l.length c l.length (Nat.le_refl _)
 have hee : ((l.length : Int) == (l.length : Int)) = true := by simp
 clear hown hv
 go_enter Tryd.func69, Tryd.ntmps69
 go_wp2_with (first | (refine Agg.wpList_appendO (E := EK) (base := base) rfl _ _ rfl (.slice (some ⟨gv, 0, none⟩) 1 1) rfl rfl [x] HO.out HVV.out (by simp; omega) (by decide) hbase ?_; intro v2 w2 ho2 hp2 hg2; have HO2 := Lib.hid ho2; have HP2 := Lib.hid (show Pushed EK base w w2 (.slice p l.length c) ∧ Grew w (.slice p l.length c) v2 from ⟨hp2, hg2⟩); clear ho2 hp2 hg2))
 all_goals go_ret
 all_goals first | exact ⟨_, rfl, HO2.out, HP2.out⟩ | (rename_i h; have hp := HP2.out; rw [h] at hp; exact ⟨_, rfl, HO2.out, hp⟩)
theorem ins_eqK (l : List KdV) (k : Nat) (x : KdV) (hk : k < l.length) : (l.take (k + 1) ++ l.drop k).take k ++ [x] ++ (l.take (k + 1) ++ l.drop k).drop (k + 1) = l.take k ++ x :: l.drop k := by
 rw [List.take_append_of_le_length (by simp; omega), List.take_take, Nat.min_eq_left (by omega), List.drop_left' (by simp; omega)]
 simp
theorem grow_eqK (l : List KdV) (k : Nat) (x : KdV) (hk : k < l.length) : (((l.take k ++ List.replicate (l.length + 1 - k) kdZ).take k ++ [x] ++ (l.take k ++ List.replicate (l.length + 1 - k) kdZ).drop (k + [x].length)).take (k + 1) ++ l.drop k ++ ((l.take k ++ List.replicate (l.length + 1 - k) kdZ).take k ++ [x] ++ (l.take k ++ List.replicate (l.length + 1 - k) kdZ).drop (k + [x].length)).drop (k + 1 + (l.drop k).length)) = l.take k ++ x :: l.drop k := by
 have h1 : (l.take k).length = k := by simp; omega
 have h2 : (l.take k ++ List.replicate (l.length + 1 - k) kdZ).take k = l.take k := List.take_left' h1
 have h3 : (l.take k ++ [x]).length = k + 1 := by simp; omega
 have hR : ((l.take k ++ List.replicate (l.length + 1 - k) kdZ).drop (k + [x].length)).length = l.length - k := by simp; omega
 rw [h2]
 generalize (l.take k ++ List.replicate (l.length + 1 - k) kdZ).drop (k + [x].length) = R at *
 have h5 : (l.take k ++ [x] ++ R).drop (k + 1 + (l.drop k).length) = [] := List.drop_eq_nil_of_le (by rw [List.length_append, h3, hR, List.length_drop]; exact Nat.le_refl _)
 rw [h5, List.take_left' h3]
 simp
theorem sl_lowK {g n c k : Nat} {i : Int} (hi : i = (k : Int)) (hk : k ≤ n) (hc : k < c) (W : World) : (Instr.sliceAt 24 (.slice (some ⟨g, 0, none⟩) n c) (some (.int .i64 i)) none none).run Tryd.prog W = .ok (.slice (some ⟨g, k * 4, none⟩) (n - k) (c - k)) W := by
 subst hi; exact EK.runCut g n c k hk hc W
theorem sl_highK {g n c k : Nat} {i : Int} (hi : i = (k : Int)) (hk : k ≤ c) (W : World) : (Instr.sliceAt 24 (.slice (some ⟨g, 0, none⟩) n c) none (some (.int .i64 i)) none).run Tryd.prog W = .ok (.slice (some ⟨g, 0, none⟩) k c) W := by
 subst hi; exact EK.runHigh _ n c k hk W
set_option maxRecDepth 100000 in
set_option maxHeartbeats 4000000 in
theorem insert_roomK (l : List KdV) (hl : l.length ≤ 1048576) (base g c gv k : Nat) (x : KdV) (w : World) (hown : Own EK base w (.slice (some ⟨g, 0, none⟩) l.length c) l) (hv : Blk w gv 51 (kdC x)) (hne : gv ≠ g) (hk : k < l.length) (hroom : l.length + 1 ≤ c) :
  Calls Tryd.prog 69 #[.slice (some ⟨g, 0, none⟩) l.length c, .int .i64 (k : Int), .slice (some ⟨gv, 0, none⟩) 1 1] w fun e w' => ∃ v', e = .returned v' ∧ Own EK base w' v' (l.take k ++ x :: l.drop k) ∧ Pushed EK base w w' (.slice (some ⟨g, 0, none⟩) l.length c) ∧ Grew w (.slice (some ⟨g, 0, none⟩) l.length c) v' := by
 have HO := Lib.hid hown
 have HV := Lib.hid hv
 have hlv := fun W => hown.slice.len W
 obtain ⟨cur, hcur, hsz, hle, hmx, hgb⟩ := own_rowK hown
 have hmx' : c ≤ 9223372036854775807 := by unfold maxLen at hmx; omega
 have hov := fun lb cb => overl_apartK hne hv hcur (by omega) ((k + 1) * 4) lb cb
 have hs1 := sl_lowK (g := g) (n := l.length) (c := c) (k := k) rfl (by omega) (by omega)
 have hs13 := sl_highK (g := g) (n := l.length) (c := c) (k := l.length + 1) (i := (l.length : Int) + 1) (by omega) (by omega)
 have hs14 := sl_lowK (g := g) (n := l.length + 1) (c := c) (k := k + 1) (i := (k : Int) + 1) (by omega) (by omega) (by omega)
 have hs15 := sl_lowK (g := g) (n := l.length + 1) (c := c) (k := k) rfl (by omega) (by omega)
 rw [Nat.add_sub_add_right] at hs14
 have hee : ((k : Int) == (l.length : Int)) = false := by simp; omega
 have hcc : decide ((c : Int) < (l.length : Int) + 1) = false := by simp; omega
 have hne1 : ¬ ((k : Int) = (l.length : Int)) := by omega
 have HCUR := Lib.hid hcur
 clear hown hv hcur hmx
 go_enter Tryd.func69, Tryd.ntmps69
 go_wp2_with (simp only [hov])
 try simp only [List.append_eq, List.cons_append, List.nil_append]
 try simp only [Act.put, List.setIfInBounds_toArray, List.set_cons_succ, List.set_cons_zero]
 refine Agg.wp_region_row 8 (fun w' => ∃ x : Later w, w' = x.w) (by kernel_rfl) (by kernel_rfl) ⟨⟨_, (Below.refl _ _).drew⟩, rfl⟩ ?_
 simp only [List.take_succ_cons, List.take_zero, List.drop_succ_cons, List.drop_zero]
 repeat (first | go_big_quiet_skip | go_big_quiet_step (fail))
 refine wpQuiet_nil ?_
 intro _ hw'
 obtain ⟨x1, rfl⟩ := hw'
 obtain ⟨cur1, hr1, ho1⟩ := run_copy_up (E := EK) (HO.out.below x1.h) hroom k (l.length - k) (c - (k + 1)) (l.length + 1 - k) (c - k) hk rfl rfl 3
 have hv1 : Blk x1.w gv 51 (kdC x) := HV.out.below x1.h
 have hn1 : Only (· = g) w (x1.w.setRow g cur1) := (Only.of_below x1.h).trans only_setRowK (fun _ _ h => h)
 have hv2 : Blk (x1.w.setRow g cur1) gv 51 (kdC x) := Agg.Blk.keepO hv1 only_setRowK hne
 have HR1 := Lib.hid (show (Builtin.copy_ #[24, 24] 3 #[.slice (some ⟨g, (k + 1) * 4, none⟩) (l.length - k) (c - (k + 1)), .slice (some ⟨g, k * 4, none⟩) (l.length + 1 - k) (c - k)]).run Tryd.prog x1.w = .ok (goInt ((l.length - k : Nat) : Nat)) (x1.w.setRow g cur1) from hr1)
 generalize x1.w.setRow g cur1 = w2 at *
 obtain ⟨cur2, hr2, ho2⟩ := run_copy_put (E := EK) (m := [x]) ho1 (slice_of_block (E := EK) (a := x) hv2) (by simp) k (l.length + 1 - k) (c - k) (by simp; omega) (by simp; omega) 3
 have hn2 : Only (· = g) w (w2.setRow g cur2) := hn1.trans only_setRowK (fun _ _ h => h)
 have HR2 := Lib.hid (show (Builtin.copy_ #[24, 24] 3 #[.slice (some ⟨g, k * 4, none⟩) (l.length + 1 - k) (c - k), .slice (some ⟨gv, 0, none⟩) 1 1]).run Tryd.prog w2 = .ok (goInt (1 : Nat)) (w2.setRow g cur2) from hr2)
 generalize w2.setRow g cur2 = w3 at *
 have e3 : (l.take (k + 1) ++ l.drop k).take k ++ [x] ++ (l.take (k + 1) ++ l.drop k).drop (k + [x].length) = l.take k ++ x :: l.drop k := ins_eqK l k x hk
 rw [e3] at ho2
 have HO3 := Lib.hid ho2
 have HN3 := Lib.hid (show Pushed EK base w w3 (.slice (some ⟨g, 0, none⟩) l.length c) from Pushed.of_only HO.out (hn2.mono fun i _ h => by subst h; rfl))
 clear hr1 hr2 ho1 ho2 hn1 hn2 hv1 hv2
 go_wp2_with (first | (refine wpList_copyR rfl _ _ 24 24 rfl _ _ rfl rfl HR1.out ?_) | (refine wpList_copyR rfl _ _ 24 24 rfl _ _ rfl rfl HR2.out ?_))
 go_ret
 exact ⟨_, rfl, HO3.out, HN3.out, fun k hk => .inl hk⟩
theorem Own.preK {base : Nat} {w : World} {g c n : Nat} {l : List KdV} (h : Own EK base w (.slice (some ⟨g, 0, none⟩) n c) l) (k : Nat) (hk : k ≤ l.length) : Own EK base w (.slice (some ⟨g, 0, none⟩) (l.take k).length c) (l.take k) := by
 obtain ⟨_, ⟨h0, _⟩ | ⟨g', cap, cur, hv, hgb, hcur, hle, hmx, hsz, htk⟩⟩ := h
 ·cases h0
 ·obtain ⟨rfl, rfl, rfl⟩ : g = g' ∧ n = l.length ∧ c = cap := by injection hv with e1 e2 e3; injection e1 with e1; injection e1 with e1; exact ⟨e1, e2, e3⟩
  refine ⟨EK.flat_length _, .inr ⟨g, c, cur, rfl, hgb, hcur, by simp; omega, hmx, hsz, ?_⟩⟩
  rw [List.length_take, Nat.min_eq_left hk, ← EK.flat_take l k hk, ← htk, List.take_take, Nat.min_eq_left (Nat.mul_le_mul_right _ hk)]
theorem droppedK {base : Nat} {w : World} {g c n : Nat} {l : List KdV} (h : Own EK base w (.slice (some ⟨g, 0, none⟩) n c) l) (k : Nat) (hk : k ≤ l.length) : SliceOf EK w (.slice (some ⟨g, k * 4, none⟩) (l.length - k) (c - k)) (l.drop k) := by
 obtain ⟨_, ⟨h0, _⟩ | ⟨g', cap, cur, hv, hgb, hcur, hle, hmx, hsz, htk⟩⟩ := h
 ·cases h0
 ·obtain ⟨rfl, rfl, rfl⟩ : g = g' ∧ n = l.length ∧ c = cap := by injection hv with e1 e2 e3; injection e1 with e1; injection e1 with e1; exact ⟨e1, e2, e3⟩
  refine .inr ⟨_, c - k, by rw [List.length_drop], heap_lt hcur, fun j u hj => ?_⟩
  rw [add_plain, cell_of_row _ _ _ _ _ _ hcur]
  rw [← EK.flat_drop l k hk, ← htk, List.getElem?_drop, List.getElem?_take] at hj
  split at hj
  ·simpa [show EK.n = 4 from rfl] using hj
  ·cases hj
set_option maxRecDepth 100000 in
set_option maxHeartbeats 4000000 in
theorem insert_growK (l : List KdV) (hl : l.length ≤ 1048576) (base g c gv k : Nat) (x : KdV) (w : World) (hown : Own EK base w (.slice (some ⟨g, 0, none⟩) l.length c) l) (hv : Blk w gv 51 (kdC x)) (hbase : base ≤ w.heap.size) (hk : k < l.length) (hroom : c < l.length + 1) :
  Calls Tryd.prog 69 #[.slice (some ⟨g, 0, none⟩) l.length c, .int .i64 (k : Int), .slice (some ⟨gv, 0, none⟩) 1 1] w fun e w' => ∃ v', e = .returned v' ∧ Own EK base w' v' (l.take k ++ x :: l.drop k) ∧ Pushed EK base w w' (.slice (some ⟨g, 0, none⟩) l.length c) ∧ Grew w (.slice (some ⟨g, 0, none⟩) l.length c) v' := by
 have HO := Lib.hid hown
 have HV := Lib.hid hv
 have hlv := fun W => hown.slice.len W
 obtain ⟨cur, hcur, hsz, hle, hmx, hgb⟩ := own_rowK hown
 have hpl : (l.take k).length = k := by simp; omega
 have hs1 := sl_lowK (g := g) (n := l.length) (c := c) (k := k) rfl (by omega) (by omega)
 have hs9 := sl_highK (g := g) (n := l.length) (c := c) (k := k) rfl (by omega)
 have hee : ((k : Int) == (l.length : Int)) = false := by simp; omega
 have hcc : decide ((c : Int) < (l.length : Int) + 1) = true := by simp; omega
 obtain ⟨cap, w1, hr1, ho1, hx1, hz1⟩ := run_append_zerosE (E := EK) kdZ rfl (Own.preK hown k (by omega)) 3 Tryd.underlying3 (l.length + 1 - k) (by omega) (by rw [hpl]; omega) (by rw [hpl]; omega) (by decide) hbase 24
 rw [hpl, show k + (l.length + 1 - k) = l.length + 1 by omega] at hr1 ho1
 have hcap : l.length + 1 ≤ cap := (own_rowK ho1).choose_spec.2.2.1
 have HR1 := Lib.hid (show (Builtin.append_ #[24, 3] 24 #[.slice (some ⟨g, 0, none⟩) k c, .int .i64 ((l.length : Int) + 1 - (k : Int))]).run Tryd.prog w = .ok (.slice (some ⟨w.heap.size, 0, none⟩) (l.length + 1) cap) w1 by rw [show ((l.length : Int) + 1 - (k : Int)) = ((l.length + 1 - k : Nat) : Int) by omega]; exact hr1)
 have hs10 := sl_lowK (g := w.heap.size) (n := l.length + 1) (c := cap) (k := k) rfl (by omega) (by omega)
 have hs11 := sl_lowK (g := w.heap.size) (n := l.length + 1) (c := cap) (k := k + 1) (i := (k : Int) + 1) (by omega) (by omega) (by omega)
 rw [Nat.add_sub_add_right] at hs11
 have hv1 : Blk w1 gv 51 (kdC x) := hv.below hx1
 obtain ⟨cur2, hr2, ho2⟩ := run_copy_put (E := EK) (m := [x]) ho1 (slice_of_block (E := EK) (a := x) hv1) (by simp) k (l.length + 1 - k) (cap - k) (by simp; omega) (by simp; omega) 3
 have hx2 : Below w.heap.size w (w1.setRow w.heap.size cur2) := below_setRow hx1 (Nat.le_refl _) _
 have HR2 := Lib.hid (show (Builtin.copy_ #[24, 24] 3 #[.slice (some ⟨w.heap.size, k * 4, none⟩) (l.length + 1 - k) (cap - k), .slice (some ⟨gv, 0, none⟩) 1 1]).run Tryd.prog w1 = .ok (goInt (1 : Nat)) (w1.setRow w.heap.size cur2) from hr2)
 generalize w1.setRow w.heap.size cur2 = w2 at *
 have HO2 := Lib.hid ho2
 have HX2 := Lib.hid hx2
 clear hown hv hcur hmx hr1 ho1 hr2 ho2 hx2 hv1
 go_enter Tryd.func69, Tryd.ntmps69
 have hr2 := HR2.out
 go_wp2_with (at_builtin; refine wpList_appendR rfl _ _ 24 3 rfl _ _ rfl rfl HR1.out ?_)
 clear hr2
 try simp only [List.append_eq, List.cons_append, List.nil_append]
 try simp only [Act.put, List.setIfInBounds_toArray, List.set_cons_succ, List.set_cons_zero]
 refine Agg.wp_region_row 8 (fun w' => ∃ x : Later w2, w' = x.w) (by kernel_rfl) (by kernel_rfl) ⟨⟨_, (Below.refl _ _).drew⟩, rfl⟩ ?_
 simp only [List.take_succ_cons, List.take_zero, List.drop_succ_cons, List.drop_zero]
 repeat (first | go_big_quiet_skip | go_big_quiet_step (fail))
 refine wpQuiet_nil ?_
 intro _ hw'
 obtain ⟨x3, rfl⟩ := hw'
 have hdl : (l.drop k).length = l.length - k := List.length_drop
 obtain ⟨cur4, hr4, ho4⟩ := run_copy_put (E := EK) (m := l.drop k) (HO2.out.below x3.h) (droppedK (HO.out.below (belowThen HX2.out (Nat.le_refl _) x3.h)) k (by omega)) (by intro e; rw [e] at hdl; simp at hdl; omega) (k + 1) (l.length - k) (cap - (k + 1)) (by simp; omega) (by rw [hdl]; exact Nat.le_refl _) 3
 rw [hdl] at hr4
 have HR4 := Lib.hid (show (Builtin.copy_ #[24, 24] 3 #[.slice (some ⟨w.heap.size, (k + 1) * 4, none⟩) (l.length - k) (cap - (k + 1)), .slice (some ⟨g, k * 4, none⟩) (l.length - k) (c - k)]).run Tryd.prog x3.w = .ok (goInt ((l.length - k : Nat) : Nat)) (x3.w.setRow w.heap.size cur4) from hr4)
 have HX4 := Lib.hid (show Below w.heap.size w (x3.w.setRow w.heap.size cur4) from below_setRow (belowThen HX2.out (Nat.le_refl _) x3.h) (Nat.le_refl _) _)
 rw [grow_eqK l k x hk] at ho4
 have HO4 := Lib.hid ho4
 clear hr4 ho4
 go_wp2_with (first | (refine wpList_copyR rfl _ _ 24 24 rfl _ _ rfl rfl HR4.out ?_))
 go_ret
 exact ⟨_, rfl, HO4.out, Pushed.of_only HO.out (Only.of_below HX4.out), fun k hk => .inr (by obtain rfl := Option.some.inj hk; exact Nat.le_refl _)⟩
end Go.Proofs.YtfiadgdinhmgbaaDoor
/-! A file tree in memory of its own: in blocks of its own, no two the same; it stays where others are written. -/
namespace Go.Proofs.YtfiadgdinhmgbaaDoor
open Go.RowKit Pl Go.Agg Go.Tr
def ownB (v : Value) : List Nat := v.ownBlock.toList
mutual
def OwnT (base : Nat) (w : World) : NdV → T → List Nat → Prop
 | x, .mk k b l, bs => x.1 = k ∧ Agg.Own EB base w x.2.1.1 b ∧ ∃ (ks : List KdV) (cs : List Nat), Agg.Own EK base w x.2.2.1 ks ∧ OwnL base w ks l cs ∧ bs = ownB x.2.1.1 ++ (ownB x.2.2.1 ++ cs)
def OwnL (base : Nat) (w : World) : List KdV → List (List UInt8 × T) → List Nat → Prop
 | [], [], bs => bs = []
 | y :: ks, (n, t) :: l, bs => y.1 = n ∧ ∃ cs ds, OwnT base w y.2 t cs ∧ OwnL base w ks l ds ∧ bs = cs ++ ds
 | _, _, _ => False
end
theorem own_stays {α : Type} {E : Elem Tryd.prog α} {base : Nat} {w w' : World} {v : Value} {l : List α} {S : Nat → Prop} (h : Agg.Own E base w v l) (ho : Only S w w') (hS : ∀ k ∈ ownB v, ¬ S k) : Agg.Own E base w' v l := by
 obtain ⟨h1, h2⟩ := h
 refine ⟨h1, ?_⟩
 rcases h2 with h2 | ⟨g, cap, cur, e1, e2, e3, e4⟩
 ·exact .inl h2
 ·exact .inr ⟨g, cap, cur, e1, e2, (ho.block g (heap_lt e3) (hS g (by rw [e1]; simp [ownB, Value.ownBlock]))).trans e3, e4⟩
mutual
theorem OwnT.only {base : Nat} {w w' : World} {S : Nat → Prop} (ho : Only S w w') : ∀ (t : T) (x : NdV) (bs : List Nat), OwnT base w x t bs → (∀ k ∈ bs, ¬ S k) → OwnT base w' x t bs
 | .mk _ _ l, _, _, h, hS => by
  obtain ⟨h1, h2, ks, cs, h3, h4, rfl⟩ := h
  exact ⟨h1, own_stays h2 ho (fun k hk => hS k (by simp [hk])), ks, cs, own_stays h3 ho (fun k hk => hS k (by simp [hk])), OwnL.only ho l ks cs h4 (fun k hk => hS k (by simp [hk])), rfl⟩
theorem OwnL.only {base : Nat} {w w' : World} {S : Nat → Prop} (ho : Only S w w') : ∀ (l : List (List UInt8 × T)) (ks : List KdV) (bs : List Nat), OwnL base w ks l bs → (∀ k ∈ bs, ¬ S k) → OwnL base w' ks l bs
 | [], [], _, h, _ => h
 | (_, t) :: l, y :: ks, _, h, hS => by
  obtain ⟨h1, cs, ds, h2, h3, rfl⟩ := h
  exact ⟨h1, cs, ds, OwnT.only ho t y.2 cs h2 (fun k hk => hS k (by simp [hk])), OwnL.only ho l ks ds h3 (fun k hk => hS k (by simp [hk])), rfl⟩
 | [], _ :: _, _, h, _ => h.elim
 | _ :: _, [], _, h, _ => h.elim
end
theorem OwnT.below {base : Nat} {w w' : World} (hb : Below w.heap.size w w') {t : T} {x : NdV} {bs : List Nat} (h : OwnT base w x t bs) : OwnT base w' x t bs :=
 OwnT.only (S := fun _ => False) (Only.of_below hb) t x bs h (fun _ _ h => h)
theorem OwnL.below {base : Nat} {w w' : World} (hb : Below w.heap.size w w') {l : List (List UInt8 × T)} {ks : List KdV} {bs : List Nat} (h : OwnL base w ks l bs) : OwnL base w' ks l bs :=
 OwnL.only (S := fun _ => False) (Only.of_below hb) l ks bs h (fun _ _ h => h)
theorem own_range {α : Type} {E : Elem Tryd.prog α} {base : Nat} {w : World} {v : Value} {l : List α} (h : Agg.Own E base w v l) : ∀ k ∈ ownB v, base ≤ k ∧ k < w.heap.size := fun k hk => by
 have hk : v.ownBlock = some k := by simpa [ownB] using hk
 obtain ⟨h1, cur, hc⟩ := h.block k hk
 exact ⟨h1, heap_lt hc⟩
mutual
theorem OwnT.range {base : Nat} {w : World} : ∀ (t : T) (x : NdV) (bs : List Nat), OwnT base w x t bs → ∀ k ∈ bs, base ≤ k ∧ k < w.heap.size
 | .mk _ _ l, _, _, h, k, hk => by
  obtain ⟨_, h2, ks, cs, h3, h4, rfl⟩ := h
  simp only [List.mem_append] at hk
  rcases hk with hk | hk | hk
  ·exact own_range h2 k hk
  ·exact own_range h3 k hk
  ·exact OwnL.range l ks cs h4 k hk
theorem OwnL.range {base : Nat} {w : World} : ∀ (l : List (List UInt8 × T)) (ks : List KdV) (bs : List Nat), OwnL base w ks l bs → ∀ k ∈ bs, base ≤ k ∧ k < w.heap.size
 | [], [], _, h, k, hk => by
  have h : _ = [] := h
  rw [h] at hk; cases hk
 | (_, t) :: l, y :: ks, _, h, k, hk => by
  obtain ⟨_, cs, ds, h2, h3, rfl⟩ := h
  simp only [List.mem_append] at hk
  rcases hk with hk | hk
  ·exact OwnT.range t y.2 cs h2 k hk
  ·exact OwnL.range l ks ds h3 k hk
 | [], _ :: _, _, h, _, _ => h.elim
 | _ :: _, [], _, h, _, _ => h.elim
end
mutual
theorem OwnT.reads {base : Nat} {w : World} : ∀ (t : T) (x : NdV) (bs : List Nat), OwnT base w x t bs → NodeV w x t
 | .mk _ _ l, _, _, h => by
  obtain ⟨h1, h2, ks, cs, h3, h4, _⟩ := h
  exact ⟨h1, h2.slice, ks, h3.slice, OwnL.reads l ks cs h4⟩
theorem OwnL.reads {base : Nat} {w : World} : ∀ (l : List (List UInt8 × T)) (ks : List KdV) (bs : List Nat), OwnL base w ks l bs → KidsV w ks l
 | [], [], _, _ => trivial
 | (_, t) :: l, y :: ks, _, h => by
  obtain ⟨h1, cs, ds, h2, h3, _⟩ := h
  exact ⟨h1, OwnT.reads t y.2 cs h2, OwnL.reads l ks ds h3⟩
 | [], _ :: _, _, h => h.elim
 | _ :: _, [], _, h => h.elim
end
theorem OwnL.snoc {base : Nat} {w : World} : ∀ {l : List (List UInt8 × T)} {ks : List KdV} {bs : List Nat} {y : KdV} {t : T} {cs : List Nat}, OwnL base w ks l bs → OwnT base w y.2 t cs → OwnL base w (ks ++ [y]) (l ++ [(y.1, t)]) (bs ++ cs)
 | [], [], _, _, _, cs, h, h2 => by
  have h : _ = [] := h
  subst h
  exact ⟨rfl, cs, [], h2, rfl, by simp⟩
 | (_, _) :: _, _ :: _, _, _, _, _, h, h2 => by
  obtain ⟨h1, cs, ds, h3, h4, rfl⟩ := h
  exact ⟨h1, cs, _, h3, OwnL.snoc h4 h2, by simp⟩
 | [], _ :: _, _, _, _, _, h, _ => h.elim
 | _ :: _, [], _, _, _, _, h, _ => h.elim
end Go.Proofs.YtfiadgdinhmgbaaDoor
/-! A tree of one's own that grows by a kid. -/
namespace Go.Agg
open Go.RowKit
section
variable {P : Program} {ops : Array Oper} {o : Oper} {a : Act} {w : World} {Q : Exit → Act → World → Prop} {K : Act → World → Prop} {F : Prop}
theorem exec_b2 {ty : TypeId} {i j : Nat} {x y : Operand} {vx vy v : Value} (ho : o.op = .build ty #[(i, x), (j, y)]) (hx : a.eval x = vx) (hy : a.eval y = vy) (hrun : (Instr.build ty #[(i, vx), (j, vy)]).run P w = .ok v w) : (execOp a.eval o).run P w = .ok (.value v) w := by
 simp [execOp, ho, hx, hy, hrun]
theorem exec_b1 {ty : TypeId} {i : Nat} {x : Operand} {vx v : Value} (ho : o.op = .build ty #[(i, x)]) (hx : a.eval x = vx) (hrun : (Instr.build ty #[(i, vx)]).run P w = .ok v w) : (execOp a.eval o).run P w = .ok (.value v) w := by
 simp [execOp, ho, hx, hrun]
theorem step_appendG {α : Type} {E : Elem P α} {base : Nat} {v : Value} {l : List α} (hg : o.guard = none) (s x : Operand) (ho : o.op = .call { callee := .builtin .append, args := #[s, x], argTypes := #[E.st, E.st] }) (vx : Value) (hs : a.eval s = v) (hx : a.eval x = vx) (m : List α)
  (hown : Own E base w v l) (hm : SliceOf E w vx m) (h63 : l.length + m.length ≤ 1099511627776 / 8) (hby : E.bytes ≤ 1000) (hbase : base ≤ w.heap.size)
  (h : ∀ v' w', Own E base w' v' (l ++ m) → Pushed E base w w' v → Grew w v v' → K (a.put o.dst v') w') : if Region.wanted o (yielded ops a.tmps) = true then o.wp P a w K Q else F := by
 rw [if_pos (by simp [Region.wanted, hg])]
 obtain ⟨v', w', hrun, h2, h3, h4, _⟩ := run_append (ty := o.type) hown _ m hm h63 hby hbase
 unfold Oper.wp
 have : (execOp a.eval o).run P w = .ok (.value v') w' := by simp [execOp, ho, resolve, invoke, builtin, hs, hx, hrun]
 rw [this]
 exact h v' w' h2 (pushed_of hown h3) (grew_of (Nat.le_refl _) h4)
end
end Go.Agg
namespace Go.Proofs.YtfiadgdinhmgbaaDoor
open Go.RowKit Pl Go.Agg Go.Tr
structure OwnS (base : Nat) (w : World) (vb : Value) (bs : List UInt8) (vk : Value) (ks : List KdV) (l : List (List UInt8 × T)) (cs : List Nat) : Prop where
 bytes : Agg.Own EB base w vb bs
 row : Agg.Own EK base w vk ks
 kids : OwnL base w ks l cs
 nodup : (ownB vb ++ (ownB vk ++ cs)).Nodup
theorem sv_cells (s : SV) : s.1.cells = #[s.1] := by obtain ⟨_, p, n, c, rfl⟩ := s; rfl
theorem ownB_nodup (v : Value) : (ownB v).Nodup := by
 unfold ownB
 cases v.ownBlock <;> simp
theorem mem_ownB {v : Value} {k : Nat} : k ∈ ownB v ↔ v.ownBlock = some k := by simp [ownB, eq_comm]
section
variable {base : Nat} {w w' : World} {vb vk vk' : Value} {bs : List UInt8} {ks : List KdV} {l : List (List UInt8 × T)} {cs : List Nat}
theorem OwnS.below (h : OwnS base w vb bs vk ks l cs) (hb : Below w.heap.size w w') : OwnS base w' vb bs vk ks l cs := ⟨h.bytes.below hb, h.row.below hb, h.kids.below hb, h.nodup⟩
theorem OwnS.range (h : OwnS base w vb bs vk ks l cs) : ∀ k ∈ ownB vb ++ (ownB vk ++ cs), base ≤ k ∧ k < w.heap.size := fun k hk => by
 simp only [List.mem_append] at hk
 rcases hk with hk | hk | hk
 ·exact own_range h.bytes k hk
 ·exact own_range h.row k hk
 ·exact OwnL.range l ks cs h.kids k hk
theorem OwnS.other {g : Nat} {t : TypeId} {ds : Array Value} (h : OwnS base w vb bs vk ks l cs) (ho : Only (· = g) w w') (hb : Blk w g t ds) (h1 : t ≠ 5) (h2 : t ≠ 51) (h3 : g ∉ cs) : OwnS base w' vb bs vk ks l cs :=
 ⟨Own.onlyB h.bytes ho hb h1, Own.onlyB h.row ho hb h2, OwnL.only ho l ks cs h.kids (fun _ hk e => h3 (e ▸ hk)), h.nodup⟩
theorem OwnS.push {y : KdV} {t : T} {b2 : List Nat} (h : OwnS base w vb bs vk ks l cs) (h2 : OwnT base w y.2 t b2) (hn2 : b2.Nodup) (hlt : ∀ k ∈ ownB vb ++ (ownB vk ++ cs), ∀ j ∈ b2, k < j)
  (ho : Agg.Own EK base w' vk' (ks ++ [y])) (hp : Pushed EK base w w' vk) (hg : Grew w vk vk') : OwnS base w' vb bs vk' (ks ++ [y]) (l ++ [(y.1, t)]) (cs ++ b2) := by
 have hn := h.nodup
 rw [List.nodup_append, List.nodup_append] at hn
 obtain ⟨_, ⟨_, hcs, hkc⟩, hbk⟩ := hn
 have hr2 := OwnT.range t y.2 b2 h2
 refine ⟨own_stays h.bytes hp.only fun k hk e => hbk k hk k (List.mem_append.2 (.inl (mem_ownB.2 e))) rfl, ho, (OwnL.only hp.only l ks cs h.kids fun k hk e => hkc k (mem_ownB.2 e) k hk rfl).snoc (OwnT.only hp.only t y.2 b2 h2 fun k hk e => ?_), ?_⟩
 ·have := hlt k (List.mem_append.2 (.inr (List.mem_append.2 (.inl (mem_ownB.2 e))))) k hk
  omega
 ·have hbr := h.range
  have hk' : ∀ k ∈ ownB vk', k ∈ ownB vk ∨ w.heap.size ≤ k := fun k hk => (hg k (mem_ownB.1 hk)).imp mem_ownB.2 id
  rw [List.nodup_append, List.nodup_append, List.nodup_append]
  refine ⟨ownB_nodup _, ⟨ownB_nodup _, ⟨hcs, hn2, fun a ha b hb e => ?_⟩, fun a ha b hb e => ?_⟩, fun a ha b hb e => ?_⟩
  ·have := hlt a (by simp [ha]) b hb; omega
  ·subst e
   rcases List.mem_append.1 hb with hb | hb
   ·rcases hk' a ha with h1 | h1
    ·exact hkc a h1 a hb rfl
    ·have := (hbr a (by simp [hb])).2; omega
   ·rcases hk' a ha with h1 | h1
    ·have := hlt a (by simp [h1]) a hb; omega
    ·have := (hr2 a hb).2; omega
  ·subst e
   rcases List.mem_append.1 hb with hb | hb
   ·rcases hk' a hb with h1 | h1
    ·exact hbk a ha a (by simp [h1]) rfl
    ·have := (hbr a (by simp [ha])).2; omega
   ·rcases List.mem_append.1 hb with hb | hb
    ·exact hbk a ha a (by simp [hb]) rfl
    ·have := hlt a (by simp [ha]) a hb; omega
end
def OwnN (base : Nat) (w : World) (x : NdV) (t : T) : Prop := ∃ bs, OwnT base w x t bs ∧ bs.Nodup
theorem OwnS.node {base : Nat} {w : World} {k : Int} {vb vk : SV} {bs : List UInt8} {ks : List KdV} {l : List (List UInt8 × T)} {cs : List Nat} (h : OwnS base w vb.1 bs vk.1 ks l cs) : OwnN base w (k, vb, vk) (.mk k bs l) :=
 ⟨_, ⟨rfl, h.bytes, ks, cs, h.row, h.kids, rfl⟩, h.nodup⟩
theorem OwnN.below {base : Nat} {w w' : World} {x : NdV} {t : T} (h : OwnN base w x t) (hb : Below w.heap.size w w') : OwnN base w' x t := by
 obtain ⟨bs, h1, h2⟩ := h
 exact ⟨bs, h1.below hb, h2⟩
theorem OwnN.reads {base : Nat} {w : World} {x : NdV} {t : T} (h : OwnN base w x t) : NodeV w x t := by
 obtain ⟨bs, h1, _⟩ := h
 exact OwnT.reads t x bs h1
mutual
theorem OwnT.lowerB {b b' : Nat} {w : World} (hb : b' ≤ b) : ∀ (t : T) (x : NdV) (bs : List Nat), OwnT b w x t bs → OwnT b' w x t bs
 | .mk _ _ l, _, _, h => by
  obtain ⟨h1, h2, ks, cs, h3, h4, rfl⟩ := h
  exact ⟨h1, h2.lower hb, ks, cs, h3.lower hb, OwnL.lowerB hb l ks cs h4, rfl⟩
theorem OwnL.lowerB {b b' : Nat} {w : World} (hb : b' ≤ b) : ∀ (l : List (List UInt8 × T)) (ks : List KdV) (bs : List Nat), OwnL b w ks l bs → OwnL b' w ks l bs
 | [], [], _, h => h
 | (_, t) :: l, y :: ks, _, h => by
  obtain ⟨h1, cs, ds, h2, h3, rfl⟩ := h
  exact ⟨h1, cs, ds, OwnT.lowerB hb t y.2 cs h2, OwnL.lowerB hb l ks ds h3, rfl⟩
 | [], _ :: _, _, h => h.elim
 | _ :: _, [], _, h => h.elim
end
theorem OwnN.lower {b b' : Nat} {w : World} {x : NdV} {t : T} (h : OwnN b w x t) (hb : b' ≤ b) : OwnN b' w x t := by
 obtain ⟨bs, h1, h2⟩ := h
 exact ⟨bs, OwnT.lowerB hb t x bs h1, h2⟩
theorem own_sv {α : Type} {E : Elem Tryd.prog α} {base : Nat} {w : World} {v : Value} {l : List α} (h : Agg.Own E base w v l) : ∃ s : SV, v = s.1 := by
 obtain ⟨p, c, hf⟩ := h.slice.form
 exact ⟨⟨v, p, _, c, hf⟩, rfl⟩
theorem kd_build (n : List UInt8) (x : NdV) (W : World) : (Instr.build 51 #[(0, .string ⟨n.toArray⟩), (1, .agg (ndC x))]).run Tryd.prog W = .ok (.agg (kdC (n, x))) W := by
 obtain ⟨k, ⟨_, p, m, c, rfl⟩, ⟨_, q, m2, c2, rfl⟩⟩ := x
 kernel_rfl
theorem nd_build2 (k : Int) (s : SV) (W : World) : (Instr.build 26 #[(0, .int .i64 k), (1, s.1)]).run Tryd.prog W = .ok (.agg (ndC (k, s, svN))) W := by
 obtain ⟨_, p, m, c, rfl⟩ := s
 kernel_rfl
theorem nd_build0 (W : World) : (Instr.build 26 #[]).run Tryd.prog W = .ok (.agg (ndC ndZ)) W := by kernel_rfl
theorem kd_build1 (n : List UInt8) (W : World) : (Instr.build 51 #[(0, .string ⟨n.toArray⟩)]).run Tryd.prog W = .ok (.agg (kdC (n, ndZ))) W := by kernel_rfl
end Go.Proofs.YtfiadgdinhmgbaaDoor
