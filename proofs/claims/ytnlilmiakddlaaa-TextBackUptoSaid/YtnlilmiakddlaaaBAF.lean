/- base.order, base.Less, spenceref03.Less: how two paths stand. (Several texts in one.) -/
import Derived.Test.YtnlilmiakddlaaaBAA
import Derived.Great.BuildSlice
import Derived.Maps.AppendAt
import Derived.Deep.AppendLies
import Derived.Deep.Slices
import Derived.Laws.MakeOwn
import Derived.Test.YtnlilmiakddlaaaBAE
import Derived.Sort.Statements
import Derived.Test.YtnlilmiakddlaaaBAD
import Derived.Lib.Bytealg
import Derived.Lib.BytesEntry
/-! Slices of whatever elements, over any program: what they hold, one of them, append, make. -/
namespace Go.Agg
open Go.RowKit
structure Elem (P : Program) (α : Type) where
  ty : TypeId
  st : TypeId
  n : Nat
  bytes : Nat
  val : α → Value
  zero : Value
  pos : 0 < n
  small : n ≤ 1000
  size : ∀ a, (val a).cells.size = n
  one : ∀ a, ∀ v ∈ (val a).cells.toList, v.oneCell' = true
  zsize : zero.cells.size = n
  slice : P.underlying st = some (.slice ty)
  info : ∃ i, P.info? ty = some i ∧ i.zero = some zero ∧ i.size = n ∧ i.bytes = bytes
  load : ∀ (w : World) (p : Addr) (a : α), p.block < w.heap.size → (∀ j v, (val a).cells[j]? = some v → w.cell? (p.add j) = some v) → LoadsL P w ty (some p) (val a)
section
variable {P : Program} {α : Type} (E : Elem P α)
def Elem.cs (a : α) : List Value := (E.val a).cells.toList
theorem Elem.cs_length (a : α) : (E.cs a).length = E.n := by rw [Elem.cs, Array.length_toList]; exact E.size a
def Elem.flat (l : List α) : List Value := l.flatMap E.cs
theorem Elem.flat_length (l : List α) : (E.flat l).length = l.length * E.n := by
  induction l with
  | nil => simp [Elem.flat]
  | cons a l ih => simp only [Elem.flat, List.flatMap_cons, List.length_append, E.cs_length, List.length_cons, Nat.succ_mul] at ih ⊢; omega
theorem Elem.flat_append (a b : List α) : E.flat (a ++ b) = E.flat a ++ E.flat b := by simp [Elem.flat]
theorem Elem.flat_one (a : α) : E.flat [a] = E.cs a := by simp [Elem.flat]
theorem Elem.flat_get : ∀ (l : List α) (k : Nat) (a : α) (i : Nat) (v : Value), l[k]? = some a → (E.val a).cells[i]? = some v → (E.flat l)[k * E.n + i]? = some v
  | [], k, a, i, v, h, _ => by simp at h
  | b :: l, 0, a, i, v, h, hv => by
    obtain rfl : b = a := by simpa using h
    have hlt : i < (E.cs b).length := by rw [E.cs_length]; have := (Array.getElem?_eq_some_iff.1 hv).1; rw [E.size b] at this; omega
    rw [Elem.flat, List.flatMap_cons, Nat.zero_mul, Nat.zero_add, List.getElem?_append_left hlt]
    simpa [Elem.cs] using hv
  | b :: l, k + 1, a, i, v, h, hv => by
    have ih := Elem.flat_get l k a i v (by simpa using h) hv
    rw [Elem.flat, List.flatMap_cons, List.getElem?_append_right (by rw [E.cs_length, Nat.succ_mul]; omega), E.cs_length, show (k + 1) * E.n + i - E.n = k * E.n + i by rw [Nat.succ_mul]; omega]
    exact ih
theorem Elem.flat_all : ∀ (l : List α) (j : Nat) (u : Value), (E.flat l)[j]? = some u → ∃ k a i, l[k]? = some a ∧ (E.val a).cells[i]? = some u ∧ j = k * E.n + i
  | [], j, u, h => by simp [Elem.flat] at h
  | a :: l, j, u, h => by
    rw [Elem.flat, List.flatMap_cons] at h
    by_cases hj : j < E.n
    · rw [List.getElem?_append_left (by rw [E.cs_length]; exact hj)] at h
      exact ⟨0, a, j, rfl, by simpa [Elem.cs] using h, by simp⟩
    · rw [List.getElem?_append_right (by rw [E.cs_length]; omega), E.cs_length] at h
      obtain ⟨k, b, i, h1, h2, h3⟩ := Elem.flat_all l (j - E.n) u h
      exact ⟨k + 1, b, i, by simpa using h1, h2, by rw [Nat.succ_mul]; omega⟩
theorem Elem.flat_one' (l : List α) : ∀ u ∈ E.flat l, u.oneCell' = true := by
  intro u hu
  obtain ⟨a, _, h⟩ := List.mem_flatMap.1 hu
  exact E.one a u h
/-- a slice of these -/
def SliceOf (w : World) (v : Value) (l : List α) : Prop :=
  (∃ p c, v = .slice p 0 c ∧ l = []) ∨ ∃ p cap, v = .slice (some p) l.length cap ∧ p.block < w.heap.size ∧ ∀ j u, (E.flat l)[j]? = some u → w.cell? (p.add j) = some u
variable {E} {w w' : World} {v : Value} {l : List α}
theorem SliceOf.nil (w : World) (p : Option Addr) (c : Nat) : SliceOf E w (.slice p 0 c) [] := .inl ⟨p, c, rfl, rfl⟩
theorem SliceOf.belowAt {B : Nat} (h : SliceOf E w v l) (hb : Below B w w') (hp : ∀ p n c, v = .slice (some p) n c → p.block < B) : SliceOf E w' v l := by
  rcases h with h | ⟨p, cap, rfl, hp', h⟩
  · exact .inl h
  · have := hp p _ _ rfl
    exact .inr ⟨p, cap, rfl, Nat.lt_of_lt_of_le hp' hb.size, fun j u hj => (hb.cell (p := p.add j) (by rw [add_block]; exact this)).trans (h j u hj)⟩
theorem SliceOf.below (h : SliceOf E w v l) (hb : Below w.heap.size w w') : SliceOf E w' v l := by
  rcases h with h | ⟨p, cap, rfl, hp, h⟩
  · exact .inl h
  · exact .inr ⟨p, cap, rfl, Nat.lt_of_lt_of_le hp hb.size, fun j u hj => (hb.cell (p := p.add j) (by rw [add_block]; exact hp)).trans (h j u hj)⟩
theorem SliceOf.len (h : SliceOf E w v l) (W : World) : (Builtin.len_ #[E.st] 3 #[v]).run P W = .ok (.int .i64 (l.length : Int)) W := by
  rcases h with ⟨a, c, rfl, rfl⟩ | ⟨p, cap, rfl, _, _⟩ <;> simp [Builtin.len_, run_underlying E.slice, goInt]
theorem SliceOf.form (h : SliceOf E w v l) : ∃ p c, v = .slice p l.length c := by
  rcases h with ⟨a, c, rfl, rfl⟩ | ⟨p, cap, rfl, _, _⟩
  · exact ⟨a, c, rfl⟩
  · exact ⟨_, cap, rfl⟩
theorem run_sizeOf_elem (W : World) : (Go.sizeOf E.ty).run P W = .ok E.n W := by
  obtain ⟨i, hi, _, hs, _⟩ := E.info
  simp [Go.sizeOf, typeInfo, hi, hs]
/-- one of them -/
theorem SliceOf.at_ (h : SliceOf E w v l) (k : Nat) (a : α) (hk : l[k]? = some a) :
    ∃ p : Addr, (∀ W, (Instr.indexAt E.st v (.int .i64 (k : Int))).run P W = .ok (.pointer (some p)) W) ∧ p.block < w.heap.size ∧ (∀ j u, (E.val a).cells[j]? = some u → w.cell? (p.add j) = some u) ∧ LoadsL P w E.ty (some p) (E.val a) := by
  have hlt := (List.getElem?_eq_some_iff.1 hk).1
  rcases h with ⟨p, c, rfl, rfl⟩ | ⟨p, cap, rfl, hp, h⟩
  · simp at hlt
  · have hc : ∀ j u, (E.val a).cells[j]? = some u → w.cell? ((p.add (k * E.n)).add j) = some u := fun j u hj => by
      rw [add_add]
      exact h _ _ (E.flat_get l k a j u hk hj)
    refine ⟨p.add (k * E.n), fun W => ?_, by rw [add_block]; exact hp, hc, E.load w _ a (by rw [add_block]; exact hp) hc⟩
    have hel : P.elem E.st = E.ty := by simp [Program.elem, E.slice]
    rw [run_indexAt_slice W E.st p l.length cap .i64 (k : Int) (by rw [hel]; exact E.slice), if_pos (by omega), hel, run_sizeOf_elem]
    simp [Result.andThen]
/-- a slice of the call's own -/
def Own (E : Elem P α) (base : Nat) (w : World) (v : Value) (l : List α) : Prop := w.ownsRow base E.ty E.n v l.length (E.flat l)
variable {base : Nat}
theorem Own.nil (E : Elem P α) (base : Nat) (w : World) : Own E base w (.slice none 0 0) [] := ⟨by simp [Elem.flat], .inl ⟨rfl, rfl⟩⟩
theorem Own.slice (h : Own E base w v l) : SliceOf E w v l := by
  obtain ⟨_, ⟨rfl, h0⟩ | ⟨g, cap, cur, rfl, hgb, hcur, hle, _, _, htk⟩⟩ := h
  · exact .inl ⟨_, _, rfl, List.length_eq_zero_iff.1 h0⟩
  · refine .inr ⟨_, cap, rfl, heap_lt hcur, fun j u hj => ?_⟩
    rw [add_plain, Nat.zero_add, cell_of_row _ _ _ _ _ _ hcur]
    rw [← htk, List.getElem?_take] at hj
    split at hj
    · simpa using hj
    · cases hj
theorem Own.keep (h : Own E base w v l) (hk : ∀ (g : Nat) (cur : Array Value) (t : TypeId) (fr : Nat × Nat), base ≤ g → w.heap[g]? = some (Obj.cells cur t fr) → w'.heap[g]? = some (Obj.cells cur t fr)) : Own E base w' v l := by
  obtain ⟨h1, h2⟩ := h
  refine ⟨h1, ?_⟩
  rcases h2 with h2 | ⟨g, cap, cur, e1, e2, e3, e4⟩
  · exact .inl h2
  · exact .inr ⟨g, cap, cur, e1, e2, hk _ _ _ _ e2 e3, e4⟩
theorem Own.below (h : Own E base w v l) (hb : Below w.heap.size w w') : Own E base w' v l := h.keep fun _ _ _ _ _ hg => keep' hb hg
theorem Own.lower {b' : Nat} (h : Own E base w v l) (hb : b' ≤ base) : Own E b' w v l := by
  obtain ⟨h1, h2 | ⟨g, cap, cur, e1, e2, e3, e4⟩⟩ := h
  · exact ⟨h1, .inl h2⟩
  · exact ⟨h1, .inr ⟨g, cap, cur, e1, Nat.le_trans hb e2, e3, e4⟩⟩
theorem Own.block (h : Own E base w v l) : ∀ k, v.ownBlock = some k → base ≤ k ∧ ∃ cur, w.heap[k]? = some (.cells cur E.ty (0, 0)) := by
  obtain ⟨_, ⟨rfl, h0⟩ | ⟨g, cap, cur, rfl, hg, hc, _⟩⟩ := h
  · intro k hk; simp [Value.ownBlock] at hk
  · intro k hk
    obtain rfl : g = k := by simpa [Value.ownBlock] using hk
    exact ⟨hg, cur, hc⟩
def lenOf : Value → Nat | .slice _ n _ => n | _ => 0
theorem SliceOf.lenOf (h : SliceOf E w v l) : lenOf v = l.length := by
  obtain ⟨p, c, rfl⟩ := h.form
  rfl
/-- what a push leaves -/
structure Pushed (E : Elem P α) (base : Nat) (w w' : World) (v : Value) : Prop where
  below : ∀ B, B ≤ base → B ≤ w.heap.size → Below B w w'
  other : ∀ (g : Nat), g < w.heap.size → some g ≠ v.ownBlock → w'.heap[g]? = w.heap[g]?
  blk : ∀ (g : Nat) (t : TypeId) (cs : Array Value) (fr : Nat × Nat), t ≠ E.ty → w.heap[g]? = some (Obj.cells cs t fr) → w'.heap[g]? = some (Obj.cells cs t fr)
  map : ∀ (g : Nat) (es : Array MapEntry) (c : Nat), w.heap[g]? = some (Obj.map es c) → w'.heap[g]? = some (Obj.map es c)
  size : w.heap.size ≤ w'.heap.size
theorem pushed_of {w w' : World} {v : Value} {l : List α} (h : Own E base w v l) (hg : w.grownBy w' v.ownBlock) : Pushed E base w w' v where
  below := fun B hB hs => (Below.refl B w).grown hg hs fun k hk => Nat.le_trans hB (h.block k hk).1
  other := fun g hlt hne => hg.block g hlt hne
  blk := fun g t cs fr hne hb => (hg.block g (heap_lt hb) (fun e => by
    obtain ⟨_, cur, hc⟩ := h.block g e.symm
    rw [hb] at hc
    injection hc with hc
    injection hc with _ ht
    exact hne ht)).trans hb
  map := fun g es c hb => (hg.block g (heap_lt hb) (fun e => by
    obtain ⟨_, cur, hc⟩ := h.block g e.symm
    rw [hb] at hc
    injection hc with hc
    cases hc)).trans hb
  size := hg.size
/-- append, the row of the call's own -/
theorem run_append (hown : Own E base w v l) (x : Value) (m : List α) (hx : SliceOf E w x m) (h63 : l.length + m.length ≤ 1099511627776 / 8) (hby : E.bytes ≤ 1000) (hbase : base ≤ w.heap.size) (ty : TypeId) :
    ∃ v' w', (Builtin.append_ #[E.st, E.st] ty #[v, x]).run P w = .ok v' w' ∧ Own E base w' v' (l ++ m) ∧ w.grownBy w' v.ownBlock ∧ (v'.ownBlock = v.ownBlock ∨ v'.ownBlock = some w.heap.size) ∧ (v' = .slice none 0 0 ↔ v = .slice none 0 0 ∧ (m = [] )) := by
  obtain ⟨i, hi, hz, hs, hb⟩ := E.info
  have hmul : (l.length + m.length) * E.bytes ≤ 140737488355328 := Nat.le_trans (Nat.mul_le_mul h63 hby) (by omega)
  have hmax : l.length + m.length ≤ maxLen := by simp only [maxLen]; omega
  obtain ⟨p, c, rfl⟩ := hx.form
  cases p with
  | none =>
    have hm : m = [] := by
      rcases hx with ⟨_, _, _, h⟩ | ⟨p, cap, e, _⟩
      · exact h
      · injection e with e; cases e
    subst hm
    refine ⟨v, w, ?_, by simpa using hown, ⟨rfl, rfl, rfl, Nat.le_refl _, fun _ _ _ => rfl⟩, .inl rfl, by simp⟩
    obtain ⟨_, ⟨rfl, _⟩ | ⟨g, cap, cur, rfl, _, _, hnc, _⟩⟩ := hown
    · simp [Builtin.append_, run_underlying E.slice, sizeOf, typeInfo, hi, Builtin.lenOf, Builtin.firstCells]
    · simp [Builtin.append_, run_underlying E.slice, sizeOf, typeInfo, hi, Builtin.lenOf, Builtin.firstCells, hnc, storeCells]
  | some p =>
    have hcells : ∀ j u, (E.flat m)[j]? = some u → w.cell? (p.add j) = some u := by
      rcases hx with ⟨_, _, _, rfl⟩ | ⟨q, cap, e, _, h⟩
      · intro j u hj; simp [Elem.flat] at hj
      · injection e with e
        injection e with e
        subst e
        exact h
    obtain ⟨v', w', hrun, h2, h3, h4, h5⟩ := run_append_own_at (P := P) w base E.st ty E.ty i E.zero E.n E.bytes E.slice hi hz hs hb E.zsize E.pos v l.length (E.flat l) hown p m.length c (E.flat m) (E.flat_length m) hcells (E.flat_one' m) hmax hmul hbase
    refine ⟨v', w', hrun, ?_, h3, h5, ?_⟩
    · unfold Own
      rw [List.length_append, E.flat_append]
      exact h2
    · rw [h4, List.length_eq_zero_iff]
/-- a slice literal of one -/
theorem run_slice_one (a : α) (w : World) : (Instr.buildSlice E.st 1 #[(0, E.val a)]).run P w = .ok (.slice (some ⟨w.heap.size, 0, none⟩) 1 1) (w.alloc (.cells (E.val a).cells E.ty)) := by
  obtain ⟨i, hi, hz, hs, hb⟩ := E.info
  have hpos := E.pos
  have hsm := E.small
  refine run_buildSlice w E.st E.ty 1 _ (E.val a).cells i E.zero E.slice hi hz (by omega) (by omega) ?_
  rw [hs]
  show Instr.fill _ _ [(0, E.val a)] = _
  rw [fill_cons (off := 0) (size := E.n) (by simp) (E.size a) (by simp), fill_nil]
  congr 1
  apply Array.ext'
  have := E.size a
  simp [splice, this]
theorem slice_of_block {g : Nat} {a : α} (h : Blk w g E.ty (E.val a).cells) : SliceOf E w (.slice (some ⟨g, 0, none⟩) 1 1) [a] :=
  .inr ⟨_, 1, rfl, h.lt, fun j u hj => by rw [E.flat_one, Elem.cs] at hj; rw [add_plain, Nat.zero_add, h.cell]; simpa using hj⟩
section
variable {ops : Array Oper} {rest : List Oper} {o o2 : Oper} {a : Act} {Q : Exit → Act → World → Prop}
/-- 'append(s, x)' of one element: the literal, and the append -/
theorem wpList_push (hg : o.guard = none) (hg2 : o2.guard = none) (d : Tmp) (hd : o.dst = some d) (y : Operand) (ho : o.op = .buildSlice E.st 1 #[(0, y)]) (s : Operand)
    (ho2 : o2.op = .call { callee := .builtin .append, args := #[s, .tmp d], argTypes := #[E.st, E.st] }) (x : α) (hy : a.eval y = E.val x) (hs : ∀ p, (a.put o.dst p).eval s = v) (hsz : d < a.tmps.size)
    (hown : Own E base w v l) (h63 : l.length + 1 ≤ 1099511627776 / 8) (hby : E.bytes ≤ 1000) (hbase : base ≤ w.heap.size)
    (h : ∀ u v' w', Own E base w' v' (l ++ [x]) → Pushed E base w w' v → wpList P ops Q rest ((a.put o.dst u).put o2.dst v') w') : wpList P ops Q (o :: o2 :: rest) a w := by
  refine wpList_val hg (v := .slice (some ⟨w.heap.size, 0, none⟩) 1 1) (w' := w.alloc (.cells (E.val x).cells E.ty)) (by simp [execOp, ho, hy, run_slice_one]) ?_
  have hb1 : Below w.heap.size w (w.alloc (.cells (E.val x).cells E.ty)) := (Below.refl _ _).alloc (Nat.le_refl _) _
  have hown1 := hown.below hb1
  obtain ⟨v', w', hrun, h2, h3, _, _⟩ := run_append (ty := o2.type) hown1 _ [x] (slice_of_block (Blk.new w E.ty (E.val x).cells)) (by simpa using h63) hby (Nat.le_trans hbase hb1.size)
  have hp := pushed_of hown1 h3
  have hpu : Pushed E base w w' v := {
    below := fun B hB hs => (hb1.mono hs).trans (hp.below B hB (Nat.le_trans hs hb1.size))
    other := fun g hlt hne => (hp.other g (Nat.lt_of_lt_of_le hlt hb1.size) hne).trans (hb1.block g hlt)
    blk := fun g t cs fr hne hb => hp.blk g t cs fr hne (keep' hb1 hb)
    map := fun g es c hb => hp.map g es c (keep' hb1 hb)
    size := Nat.le_trans hb1.size hp.size }
  refine wpList_val hg2 (v := v') (w' := w') ?_ (h _ v' w' h2 hpu)
  have e2 : (a.put o.dst (.slice (some ⟨w.heap.size, 0, none⟩) 1 1)).eval (.tmp d) = .slice (some ⟨w.heap.size, 0, none⟩) 1 1 := by rw [hd]; simp [Act.put, Act.eval, hsz]
  simp [execOp, ho2, resolve, invoke, builtin, hs, e2, hrun]
/-- 'append(s, x...)' -/
theorem wpList_appendS (hg : o.guard = none) (s x : Operand) (ho : o.op = .call { callee := .builtin .append, args := #[s, x], argTypes := #[E.st, E.st] }) (vx : Value) (hs : a.eval s = v) (hx : a.eval x = vx) (m : List α)
    (hown : Own E base w v l) (hm : SliceOf E w vx m) (h63 : l.length + m.length ≤ 1099511627776 / 8) (hby : E.bytes ≤ 1000) (hbase : base ≤ w.heap.size)
    (h : ∀ v' w', Own E base w' v' (l ++ m) → Pushed E base w w' v → (v' = .slice none 0 0 ↔ v = .slice none 0 0 ∧ m = []) → wpList P ops Q rest (a.put o.dst v') w') : wpList P ops Q (o :: rest) a w := by
  obtain ⟨v', w', hrun, h2, h3, _, h5⟩ := run_append (ty := o.type) hown _ m hm h63 hby hbase
  refine wpList_val hg (v := v') (w' := w') ?_ (h v' w' h2 (pushed_of hown h3) h5)
  simp [execOp, ho, resolve, invoke, builtin, hs, hx, hrun]
/-- '[]T{}' -/
theorem wpList_slice0 (E : Elem P α) (hg : o.guard = none) (ho : o.op = .buildSlice E.st 0 #[]) (hbase : base ≤ w.heap.size)
    (h : ∀ v' w', Own E base w' v' [] → Below w.heap.size w w' → v' ≠ .slice none 0 0 → wpList P ops Q rest (a.put o.dst v') w') : wpList P ops Q (o :: rest) a w := by
  refine wpList_val hg (v := .slice (some ⟨w.heap.size, 0, none⟩) 0 0) (w' := w.alloc (.cells #[] E.ty)) ?_ (h _ _ ?_ ((Below.refl _ _).alloc (Nat.le_refl _) _) (by simp))
  · simp [execOp, ho, Instr.buildSlice, run_underlying E.slice, run_sizeOf_elem, newRow, Instr.fill]
    rw [show Array.range 0 = #[] by simp, Array.map_empty]
  · exact ⟨by simp [Elem.flat], .inr ⟨_, 0, #[], rfl, hbase, heap_alloc_new w _, Nat.le_refl _, Nat.zero_le _, by simp, by simp [Elem.flat]⟩⟩
/-- 'make([]T, 0, c)' -/
theorem wpList_make0 (E : Elem P α) (hg : o.guard = none) (kl kc : IntKind) (x : Operand) (c : Nat) (ho : o.op = .makeSlice E.st (.const (.int kl 0)) x) (hx : a.eval x = .int kc (c : Int)) (hc : c ≤ 1099511627776 / 8) (hby : E.bytes ≤ 1000) (hbase : base ≤ w.heap.size)
    (h : ∀ v' w', Own E base w' v' [] → Below w.heap.size w w' → wpList P ops Q rest (a.put o.dst v') w') : wpList P ops Q (o :: rest) a w := by
  obtain ⟨i, hi, hz, hs, hb⟩ := E.info
  have hmul : i.bytes * c ≤ 281474976710656 := by
    rw [hb]
    exact Nat.le_trans (Nat.mul_le_mul hby hc) (by omega)
  have hmi : (i.bytes : Int) * (c : Int) ≤ 281474976710656 := by
    have h5 : ((i.bytes * c : Nat) : Int) ≤ 281474976710656 := by omega
    rwa [Int.natCast_mul] at h5
  have hr := run_make (P := P) w E.st E.ty i E.zero E.slice hi hz kl kc 0 (c : Int) (by omega) (by omega) hmi (by omega)
  simp only [Int.toNat_natCast, Int.toNat_zero] at hr
  refine wpList_val hg (v := .slice (some ⟨w.heap.size, 0, none⟩) 0 c) (w' := w.alloc (.cells (madeCells E.zero.cells (c * i.size)) E.ty)) ?_ (h _ _ ?_ ((Below.refl _ _).alloc (Nat.le_refl _) _))
  · have he : a.eval (.const (.int kl 0)) = .int kl 0 := rfl
    simp [execOp, ho, hx, he, hr]
  · refine ⟨by simp [Elem.flat], .inr ⟨_, c, _, rfl, hbase, heap_alloc_new w _, Nat.zero_le _, by simp only [maxLen]; omega, ?_, by simp [Elem.flat]⟩⟩
    rw [hs]; simp [madeCells]
/-- a slice literal of two -/
theorem run_slice_two (x y : α) (w : World) : (Instr.buildSlice E.st 2 #[(0, E.val x), (1, E.val y)]).run P w = .ok (.slice (some ⟨w.heap.size, 0, none⟩) 2 2) (w.alloc (.cells ((E.val x).cells ++ (E.val y).cells) E.ty)) := by
  obtain ⟨i, hi, hz, hs, hb⟩ := E.info
  have hpos := E.pos
  have hsm := E.small
  have hsx := E.size x
  have hsy := E.size y
  refine run_buildSlice w E.st E.ty 2 _ ((E.val x).cells ++ (E.val y).cells) i E.zero E.slice hi hz (by omega) (by omega) ?_
  rw [hs]
  show Instr.fill _ _ [(0, E.val x), (1, E.val y)] = _
  rw [fill_cons (off := 0) (size := E.n) (by simp) hsx (by simp; omega), fill_cons (off := E.n) (size := E.n) (by simp) hsy (by rw [splice_size _ _ _ (by simp; omega)]; simp; omega), fill_nil]
  congr 1
  apply Array.ext'
  have hlx : (E.val x).cells.toList.length = E.n := by rw [Array.length_toList]; exact hsx
  simp only [splice, Nat.zero_add, hsx, hsy, List.take_zero, List.nil_append, Array.toList_append]
  rw [List.take_append_of_le_length (by omega), List.take_of_length_le (by omega), List.drop_append, List.drop_eq_nil_of_le (by omega : (E.val x).cells.toList.length ≤ E.n + E.n), List.nil_append, List.drop_eq_nil_of_le (by simp; omega), List.append_nil]
theorem slice_of_block2 {g : Nat} {x y : α} (h : Blk w g E.ty ((E.val x).cells ++ (E.val y).cells)) : SliceOf E w (.slice (some ⟨g, 0, none⟩) 2 2) [x, y] :=
  .inr ⟨_, 2, rfl, h.lt, fun j u hj => by
    have e : E.flat [x, y] = ((E.val x).cells ++ (E.val y).cells).toList := by simp [Elem.flat, Elem.cs]
    rw [e] at hj
    rw [add_plain, Nat.zero_add, h.cell, ← Array.getElem?_toList]; exact hj⟩
/-- 'append(s, x, y)' -/
theorem wpList_push2 (hg : o.guard = none) (hg2 : o2.guard = none) (d : Tmp) (hd : o.dst = some d) (x y : Operand) (ho : o.op = .buildSlice E.st 2 #[(0, x), (1, y)]) (s : Operand)
    (ho2 : o2.op = .call { callee := .builtin .append, args := #[s, .tmp d], argTypes := #[E.st, E.st] }) (vx vy : α) (hx : a.eval x = E.val vx) (hy : a.eval y = E.val vy) (hs : ∀ p, (a.put o.dst p).eval s = v) (hsz : d < a.tmps.size)
    (hown : Own E base w v l) (h63 : l.length + 2 ≤ 1099511627776 / 8) (hby : E.bytes ≤ 1000) (hbase : base ≤ w.heap.size)
    (h : ∀ u v' w', Own E base w' v' (l ++ [vx, vy]) → Pushed E base w w' v → wpList P ops Q rest ((a.put o.dst u).put o2.dst v') w') : wpList P ops Q (o :: o2 :: rest) a w := by
  refine wpList_val hg (v := .slice (some ⟨w.heap.size, 0, none⟩) 2 2) (w' := w.alloc (.cells ((E.val vx).cells ++ (E.val vy).cells) E.ty)) (by simp [execOp, ho, hx, hy, run_slice_two]) ?_
  have hb1 : Below w.heap.size w (w.alloc (.cells ((E.val vx).cells ++ (E.val vy).cells) E.ty)) := (Below.refl _ _).alloc (Nat.le_refl _) _
  have hown1 := hown.below hb1
  obtain ⟨v', w', hrun, h2, h3, _, _⟩ := run_append (ty := o2.type) hown1 _ [vx, vy] (slice_of_block2 (Blk.new w E.ty _)) (by simpa using h63) hby (Nat.le_trans hbase hb1.size)
  have hp := pushed_of hown1 h3
  have hpu : Pushed E base w w' v := {
    below := fun B hB hs => (hb1.mono hs).trans (hp.below B hB (Nat.le_trans hs hb1.size))
    other := fun g hlt hne => (hp.other g (Nat.lt_of_lt_of_le hlt hb1.size) hne).trans (hb1.block g hlt)
    blk := fun g t cs fr hne hb => hp.blk g t cs fr hne (keep' hb1 hb)
    map := fun g es c hb => hp.map g es c (keep' hb1 hb)
    size := Nat.le_trans hb1.size hp.size }
  refine wpList_val hg2 (v := v') (w' := w') ?_ (h _ v' w' h2 hpu)
  have e2 : (a.put o.dst (.slice (some ⟨w.heap.size, 0, none⟩) 2 2)).eval (.tmp d) = .slice (some ⟨w.heap.size, 0, none⟩) 2 2 := by rw [hd]; simp [Act.put, Act.eval, hsz]
  simp [execOp, ho2, resolve, invoke, builtin, hs, e2, hrun]
/-- an append at a step of a region that draws its order -/
theorem step_appendS {K : Act → World → Prop} {F : Prop} (hg : o.guard = none) (s x : Operand) (ho : o.op = .call { callee := .builtin .append, args := #[s, x], argTypes := #[E.st, E.st] }) (vx : Value) (hs : a.eval s = v) (hx : a.eval x = vx) (m : List α)
    (hown : Own E base w v l) (hm : SliceOf E w vx m) (h63 : l.length + m.length ≤ 1099511627776 / 8) (hby : E.bytes ≤ 1000) (hbase : base ≤ w.heap.size)
    (h : ∀ v' w', Own E base w' v' (l ++ m) → Pushed E base w w' v → K (a.put o.dst v') w') : if Region.wanted o (yielded ops a.tmps) = true then o.wp P a w K Q else F := by
  rw [if_pos (by simp [Region.wanted, hg])]
  obtain ⟨v', w', hrun, h2, h3, _, _⟩ := run_append (ty := o.type) hown _ m hm h63 hby hbase
  unfold Oper.wp
  have : (execOp a.eval o).run P w = .ok (.value v') w' := by simp [execOp, ho, resolve, invoke, builtin, hs, hx, hrun]
  rw [this]
  exact h v' w' h2 (pushed_of hown h3)
/-- '[]T{x}' -/
theorem wpList_slice1 (hg : o.guard = none) (y : Operand) (ho : o.op = .buildSlice E.st 1 #[(0, y)]) (x : α) (hy : a.eval y = E.val x) (hbase : base ≤ w.heap.size)
    (h : ∀ v' w', Own E base w' v' [x] → Below w.heap.size w w' → wpList P ops Q rest (a.put o.dst v') w') : wpList P ops Q (o :: rest) a w := by
  refine wpList_val hg (v := .slice (some ⟨w.heap.size, 0, none⟩) 1 1) (w' := w.alloc (.cells (E.val x).cells E.ty)) (by simp [execOp, ho, hy, run_slice_one]) (h _ _ ?_ ((Below.refl _ _).alloc (Nat.le_refl _) _))
  have hs := E.size x
  refine ⟨by rw [E.flat_one, E.cs_length]; simp, .inr ⟨_, 1, _, rfl, hbase, heap_alloc_new w _, Nat.le_refl _, by simp [maxLen], by rw [hs]; simp, ?_⟩⟩
  rw [E.flat_one, Elem.cs, List.take_of_length_le (by rw [Array.length_toList, hs]; simp)]
/-- '[]T{x, y}' -/
theorem wpList_slice2 (hg : o.guard = none) (x y : Operand) (ho : o.op = .buildSlice E.st 2 #[(0, x), (1, y)]) (vx vy : α) (hx : a.eval x = E.val vx) (hy : a.eval y = E.val vy)
    (h : ∀ v' w', SliceOf E w' v' [vx, vy] → Below w.heap.size w w' → wpList P ops Q rest (a.put o.dst v') w') : wpList P ops Q (o :: rest) a w :=
  wpList_val hg (v := .slice (some ⟨w.heap.size, 0, none⟩) 2 2) (w' := w.alloc (.cells ((E.val vx).cells ++ (E.val vy).cells) E.ty)) (by simp [execOp, ho, hx, hy, run_slice_two])
    (h _ _ (slice_of_block2 (Blk.new w E.ty _)) ((Below.refl _ _).alloc (Nat.le_refl _) _))
end
end
end Go.Agg
/-! Slices of paths: what they hold. -/
namespace Go.Proofs.Ytnlilmiakddlaaa
open Go.RowKit Pl Go.Agg
/-- a path whose hash has twenty bytes -/
abbrev P20 : Type := { p : List UInt8 × List UInt8 // p.1.length = 20 }
instance : Inhabited P20 := ⟨⟨(z20, []), rfl⟩⟩
def pV (p : P20) : Value := .agg (pC p.1.1 p.1.2)
def cells20 (p : P20) : List Value := (pC p.1.1 p.1.2).toList
theorem cells20_length (p : P20) : (cells20 p).length = 21 := by simp [cells20, pC_size, p.2]
def flat (l : List P20) : List Value := l.flatMap cells20
theorem flat_length (l : List P20) : (flat l).length = l.length * 21 := by
  induction l with
  | nil => rfl
  | cons p l ih => simp only [flat, List.flatMap_cons, List.length_append, cells20_length, List.length_cons] at ih ⊢; omega
theorem flat_append (a b : List P20) : flat (a ++ b) = flat a ++ flat b := by simp [flat]
theorem flat_get : ∀ (l : List P20) (j : Nat) (p : P20) (i : Nat) (v : Value), l[j]? = some p → (pC p.1.1 p.1.2)[i]? = some v → (flat l)[j * 21 + i]? = some v
  | [], j, p, i, v, h, _ => by simp at h
  | q :: l, 0, p, i, v, h, hv => by
    obtain rfl : q = p := by simpa using h
    have hlt : i < (cells20 q).length := by rw [cells20_length]; have := (Array.getElem?_eq_some_iff.1 hv).1; rw [pC_size, q.2] at this; omega
    rw [flat, List.flatMap_cons, Nat.zero_mul, Nat.zero_add, List.getElem?_append_left hlt]
    simpa [cells20] using hv
  | q :: l, j + 1, p, i, v, h, hv => by
    have ih := flat_get l j p i v (by simpa using h) hv
    rw [flat, List.flatMap_cons, List.getElem?_append_right (by rw [cells20_length]; omega), cells20_length, show (j + 1) * 21 + i - 21 = j * 21 + i by omega]
    exact ih
theorem info_path : ∃ i, Try.prog.info? 40 = some i ∧ i.zero = some (.agg (pC z20 [])) ∧ i.size = 21 ∧ i.bytes = 40 := by
  have hz := pC_zero
  have hs : (Try.prog.info? 40).map (·.size) = some 21 := by kernel_rfl
  have hb : (Try.prog.info? 40).map (·.bytes) = some 40 := by kernel_rfl
  cases hi : Try.prog.info? 40 with
  | none => rw [hi] at hz; cases hz
  | some i =>
    rw [hi] at hz hs hb
    exact ⟨i, rfl, Option.some.inj hz, Option.some.inj hs, Option.some.inj hb⟩
theorem cells20_one (p : P20) (v : Value) (hv : v ∈ cells20 p) : v.oneCell' = true := by
  have h := pC_one p.1.1 p.1.2
  rw [Array.all_eq_true_iff_forall_mem] at h
  exact h v (by simpa [cells20] using hv)
end Go.Proofs.Ytnlilmiakddlaaa
/-! A path as a map's key. -/
namespace Go.Proofs.Ytnlilmiakddlaaa
open Go.RowKit Pl Go.Mp Go.Agg Go.Instr
theorem part_byte (h : List UInt8) (i : Nat) (hi : i < h.length) (w : World) : (Go.part 5 (hC h) i).run Try.prog w = .ok (.int .u8 (h[i].toNat : Int)) w := by
  unfold Go.part
  have : (isAgg 5).run Try.prog w = .ok false w := by kernel_rfl
  simp only [Sem.run_bind, this, Result.andThen_ok, Bool.false_eq_true, if_false, hC_get h i hi, Sem.run_pure]
theorem check_byte (e : Bool) (n : Nat) (k : Int) (w : World) : (checkKey e (n + 1) 5 (.int .u8 k)).run Try.prog w = .ok () w := by
  unfold checkKey
  rw [Sem.run_bind, run_underlying Try.underlying5 w]
  simp [Result.andThen]
theorem check_hash (e : Bool) (n : Nat) (h : List UInt8) (hl : h.length = 20) (w : World) : (checkKey e (n + 2) 38 (.agg (hC h))).run Try.prog w = .ok () w := by
  unfold checkKey
  rw [Sem.run_bind, run_underlying Try.underlying38 w]
  have hsz : ∀ w, (Go.sizeOf 5).run Try.prog w = .ok 1 w := fun w => by kernel_rfl
  simp only [Result.andThen_ok, Std.Legacy.Range.forIn_eq_forIn_range', Std.Legacy.Range.size, Nat.sub_zero, Nat.add_sub_cancel, Nat.div_one]
  have hall : ∀ i ∈ List.range' 0 20 1, i < h.length := fun i hi => by have := List.mem_range'_1.1 hi; omega
  generalize List.range' 0 20 1 = l at hall ⊢
  induction l with
  | nil => simp
  | cons i l ih =>
    simp only [List.forIn_cons, Sem.run_bind, hsz, Result.andThen_ok, Nat.mul_one, part_byte h i (hall i (by simp)), check_byte, Sem.run_pure]
    have := ih fun j hj => hall j (by simp [hj])
    simp only [Sem.run_bind, Sem.run_pure] at this ⊢
    exact this
theorem check_path (e : Bool) (n : Nat) (p : P20) (w : World) : (checkKey e (n + 3) 40 (pV p)).run Try.prog w = .ok () w := by
  unfold checkKey pV
  rw [Sem.run_bind, run_underlying pC_under w]
  simp only [Result.andThen_ok]
  rw [← Array.forIn_toList]
  have hf := path_fields
  generalize (Try.prog.fieldsOf 40).toList = fs at hf ⊢
  cases fs with
  | nil => exact absurd hf (by simp)
  | cons f1 fs =>
  cases fs with
  | nil => exact absurd hf (by simp)
  | cons f2 fs =>
  cases fs with
  | cons f3 fs => exact absurd hf (by simp)
  | nil =>
    simp only [List.map_cons, List.map_nil, List.cons.injEq, Prod.mk.injEq, and_true] at hf
    obtain ⟨⟨a1, a2, a3⟩, b1, b2, b3⟩ := hf
    have hstr : ∀ w, (checkKey e (n + 2) 9 (.string ⟨p.1.2.toArray⟩)).run Try.prog w = .ok () w := fun w => by
      unfold checkKey
      rw [Sem.run_bind, run_underlying Try.underlying9 w]
      simp [Result.andThen]
    simp [a1, a2, a3, b1, b2, b3, part_hash _ _ p.2, part_name _ _ p.2, check_hash e n _ p.2, hstr]
theorem bits_all (n : Nat) : ∀ (l : List Value), (∀ v ∈ l, sameBits n v v = true) → (l.zip l).all (fun (x, y) => sameBits n x y) = true
  | [], _ => rfl
  | v :: l, h => by
    simp only [List.zip_cons_cons, List.all_cons, Bool.and_eq_true]
    exact ⟨h v (by simp), bits_all n l fun u hu => h u (by simp [hu])⟩
theorem bits_path (n : Nat) (p : P20) : sameBits (n + 1) (pV p) (pV p) = true := by
  unfold pV sameBits
  simp only [beq_self_eq_true, Bool.true_and]
  refine bits_all n _ fun v hv => ?_
  simp only [pC, hC, Lib.byteCells, Array.toList_append, List.mem_append, List.mem_map] at hv
  rcases hv with ⟨c, _, rfl⟩ | hv
  · unfold sameBits; simp
  · obtain rfl : v = .string ⟨p.1.2.toArray⟩ := by simpa using hv
    unfold sameBits
    rw [beq_toListBytes]
    simp
set_option maxRecDepth 100000 in
theorem path_key : KeyEq Try.prog 40 pV where
  check := fun e p w => check_path e 9997 p w
  desc := ⟨_, pC_under, .inr ⟨fun a b => rfl, fun a b w => by
    have h := eql_path a.1.1 a.1.2 b.1.1 b.1.2 a.2 b.2 w
    rw [run_eql_struct] at h
    unfold Op.equal Op.maxDepth
    generalize hr : (Op.equalIn 10000 40 (.agg (pC a.1.1 a.1.2)) (.agg (pC b.1.1 b.1.2))).run Try.prog w = r at h
    unfold pV
    rw [hr]
    cases r with
    | ok x w' =>
      simp [Result.andThen] at h
      obtain ⟨rfl, rfl⟩ := h
      congr 1
      rw [Bool.eq_iff_iff]
      simp [Subtype.ext_iff, Prod.ext_iff]
    | halt x w' => simp [Result.andThen] at h⟩⟩
  bits := fun p => bits_path 9999 p
end Go.Proofs.Ytnlilmiakddlaaa
/-! Paths in order: the plain law of both Sorted. -/
namespace Go.Proofs.Ytnlilmiakddlaaa
open Pl
open Go.Lib (compareBytes)
theorem bytesLess_trans : ∀ (a b c : List UInt8), Op.bytesLess a b = true → Op.bytesLess b c = true → Op.bytesLess a c = true
  | [], [], _, h, _ => by simp [Op.bytesLess] at h
  | [], _ :: _, [], _, h => by simp [Op.bytesLess] at h
  | [], _ :: _, _ :: _, _, _ => by simp [Op.bytesLess]
  | _ :: _, [], _, h, _ => by simp [Op.bytesLess] at h
  | _ :: _, _ :: _, [], _, h => by simp [Op.bytesLess] at h
  | x :: a, y :: b, z :: c, h1, h2 => by
    simp only [Op.bytesLess, Bool.or_eq_true, Bool.and_eq_true, decide_eq_true_eq, beq_iff_eq] at h1 h2 ⊢
    rcases h1 with h1 | ⟨rfl, h1⟩
    · rcases h2 with h2 | ⟨rfl, h2⟩
      · exact .inl (UInt8.lt_trans h1 h2)
      · exact .inl h1
    · rcases h2 with h2 | ⟨rfl, h2⟩
      · exact .inl h2
      · exact .inr ⟨rfl, bytesLess_trans a b c h1 h2⟩
/-- how two paths stand, as the sort asks it -/
def cmp20 (p q : P20) : Int := cmpP p.1.1 p.1.2 q.1.1 q.1.2
def lt20 (p q : P20) : Bool := decide (cmp20 p q < 0)
theorem lt20_eq (p q : P20) : lt20 p q = if p.1.1 == q.1.1 then Op.bytesLess p.1.2 q.1.2 else Op.bytesLess p.1.1 q.1.1 := by
  unfold lt20 cmp20 cmpP
  split <;> exact compare_less _ _
theorem lt20_irrefl (p : P20) : lt20 p p = false := by rw [lt20_eq]; simp [bytesLess_irrefl]
theorem lt20_trans (p q r : P20) (h1 : lt20 p q = true) (h2 : lt20 q r = true) : lt20 p r = true := by
  rw [lt20_eq] at h1 h2 ⊢
  by_cases e1 : p.1.1 = q.1.1 <;> by_cases e2 : q.1.1 = r.1.1
  · have e3 : p.1.1 = r.1.1 := e1.trans e2
    simp only [beq_iff_eq, e1, e2, if_true] at h1 h2 ⊢
    exact bytesLess_trans _ _ _ h1 h2
  · have e3 : ¬ p.1.1 = r.1.1 := fun e => e2 (e1.symm.trans e)
    simp only [beq_iff_eq, e1, e2, if_false] at h2 ⊢
    exact h2
  · have e3 : ¬ p.1.1 = r.1.1 := fun e => e1 (e.trans e2.symm)
    simp only [beq_iff_eq, e1, e3, if_false] at h1 ⊢
    rwa [← e2]
  · simp only [beq_iff_eq, e1, e2, if_false] at h1 h2
    have h3 := bytesLess_trans _ _ _ h1 h2
    have e3 : ¬ p.1.1 = r.1.1 := fun e => by rw [e, bytesLess_irrefl] at h3; cases h3
    simp only [beq_iff_eq, e3, if_false]
    exact h3
theorem lt20_total (p q : P20) (hne : p ≠ q) (h : lt20 p q = false) : lt20 q p = true := by
  rw [lt20_eq] at h ⊢
  by_cases e : p.1.1 = q.1.1
  · have e' : q.1.1 = p.1.1 := e.symm
    simp only [beq_iff_eq, e, if_true] at h ⊢
    exact bytesLess_total _ _ (fun e2 => hne (Subtype.ext (Prod.ext e e2))) h
  · have e' : ¬ q.1.1 = p.1.1 := fun x => e x.symm
    simp only [beq_iff_eq, e, e', if_false] at h ⊢
    exact bytesLess_total _ _ e h
theorem lt20_asymm (p q : P20) (h : lt20 p q = true) : lt20 q p = false := by
  cases h2 : lt20 q p with
  | false => rfl
  | true => have := lt20_trans _ _ _ h h2; rw [lt20_irrefl] at this; cases this
theorem lt20_swo : Sort.SWO lt20 where
  irrefl := lt20_irrefl
  trans := lt20_trans
  ntrans := fun x y z h1 h2 => by
    cases h3 : lt20 x z with
    | false => rfl
    | true =>
      by_cases e : x = y
      · subst e; rw [h3] at h2; cases h2
      · have := lt20_trans _ _ _ (lt20_total _ _ e h1) h3
        rw [this] at h2; cases h2
/-- rising: each ahead of all behind it -/
def Rising (l : List P20) : Prop := l.Pairwise fun p q => lt20 p q = true
theorem rising_unique : ∀ (a b : List P20), Rising a → Rising b → (∀ x, x ∈ a ↔ x ∈ b) → a = b
  | [], [], _, _, _ => rfl
  | [], y :: b, _, _, h => absurd ((h y).2 (by simp)) (by simp)
  | x :: a, [], _, _, h => absurd ((h x).1 (by simp)) (by simp)
  | x :: a, y :: b, ha, hb, h => by
    rw [Rising, List.pairwise_cons] at ha hb
    have hxy : x = y := by
      rcases List.mem_cons.1 ((h x).1 (by simp)) with e | hx
      · exact e
      · rcases List.mem_cons.1 ((h y).2 (by simp)) with e | hy
        · exact e.symm
        · have h1 := hb.1 x hx
          have h2 := ha.1 y hy
          rw [lt20_asymm _ _ h1] at h2; cases h2
    subst hxy
    congr 1
    refine rising_unique a b ha.2 hb.2 fun z => ?_
    have hz := h z
    simp only [List.mem_cons] at hz
    constructor
    · intro hza
      rcases hz.1 (.inr hza) with e | hzb
      · subst e
        have := ha.1 z hza
        rw [lt20_irrefl] at this; cases this
      · exact hzb
    · intro hzb
      rcases hz.2 (.inr hzb) with e | hza
      · subst e
        have := hb.1 z hzb
        rw [lt20_irrefl] at this; cases this
      · exact hza
/-- a sorted list without doubles rises -/
theorem rising_of_sorted (l : List P20) (hn : l.Nodup) (hs : l.Pairwise fun p q => lt20 q p = false) : Rising l := by
  refine List.Pairwise.imp₂ ?_ hn hs
  intro p q hne h
  exact lt20_total q p (Ne.symm hne) h
end Go.Proofs.Ytnlilmiakddlaaa
/-! Slices of paths. -/

/-! (of general use) Bytes and texts as elements. -/
namespace Go.Proofs.Ytnlilmiakddlaaa
open Go.RowKit Pl Go.Agg
theorem info_of {P : Program} {ty : TypeId} {z : Value} {n b : Nat} (hz : (P.info? ty).map (·.zero) = some (some z)) (hs : (P.info? ty).map (·.size) = some n) (hb : (P.info? ty).map (·.bytes) = some b) :
    ∃ i, P.info? ty = some i ∧ i.zero = some z ∧ i.size = n ∧ i.bytes = b := by
  cases hi : P.info? ty with
  | none => rw [hi] at hz; cases hz
  | some i =>
    rw [hi] at hz hs hb
    exact ⟨i, rfl, Option.some.inj hz, Option.some.inj hs, Option.some.inj hb⟩
theorem one_of {cs : Array Value} (h : cs.all (·.oneCell') = true) (v : Value) (hv : v ∈ cs.toList) : v.oneCell' = true := by
  rw [Array.all_eq_true_iff_forall_mem] at h
  exact h v (by simpa using hv)
/-- bytes -/
def EB : Elem Try.prog UInt8 where
  ty := 5
  st := 23
  n := 1
  bytes := 1
  val := fun c => .int .u8 (c.toNat : Int)
  zero := .int .u8 0
  pos := by omega
  small := by omega
  size := fun x => rfl
  one := fun x v hv => by
    obtain rfl : v = .int .u8 (x.toNat : Int) := by simpa [Value.cells] using hv
    rfl
  zsize := rfl
  slice := by kernel_rfl
  info := info_of (by kernel_rfl) (by kernel_rfl) (by kernel_rfl)
  load := fun w a x hp h => LoadsL.of_cell (by have := h 0 _ rfl; rwa [show a.add 0 = a from rfl] at this) Try.underlying5 rfl
abbrev BytesAt (w : World) (v : Value) (l : List UInt8) : Prop := SliceOf EB w v l
theorem bytes_len {w : World} {v : Value} {l : List UInt8} (h : BytesAt w v l) (W : World) : (Builtin.len_ #[23] 3 #[v]).run Try.prog W = .ok (.int .i64 (l.length : Int)) W := h.len W
theorem str_len' (s : List UInt8) (w : World) : (Builtin.len_ #[9] 3 #[.string ⟨s.toArray⟩]).run Try.prog w = .ok (.int .i64 (s.length : Int)) w := by
  rw [run_len_string w 9 3 _ Try.underlying9, Agg.bytes_size]; rfl
theorem byte_at {w : World} {v : Value} {l : List UInt8} (h : BytesAt w v l) (k : Nat) (x : UInt8) (hx : l[k]? = some x) :
    ∃ p : Addr, (∀ W, (Instr.indexAt 23 v (.int .i64 (k : Int))).run Try.prog W = .ok (.pointer (some p)) W) ∧ LoadsL Try.prog w 5 (some p) (.int .u8 (x.toNat : Int)) := by
  obtain ⟨p, h1, _, _, h4⟩ := h.at_ k x hx
  exact ⟨p, h1, h4⟩
end Go.Proofs.Ytnlilmiakddlaaa
/-! Bytes and texts as elements. -/
namespace Go.Proofs.Ytnlilmiakddlaaa
open Go.RowKit Pl Go.Agg
/-- texts -/
def ES : Elem Try.prog (List UInt8) where
  ty := 9
  st := 45
  n := 1
  bytes := 16
  val := fun s => .string ⟨s.toArray⟩
  zero := .string ⟨#[]⟩
  pos := by omega
  small := by omega
  size := fun x => rfl
  one := fun x v hv => by
    obtain rfl : v = .string ⟨x.toArray⟩ := by simpa [Value.cells] using hv
    rfl
  zsize := rfl
  slice := by kernel_rfl
  info := info_of (by kernel_rfl) (by kernel_rfl) (by kernel_rfl)
  load := fun w a x hp h => LoadsL.of_cell (by have := h 0 _ rfl; rwa [show a.add 0 = a from rfl] at this) Try.underlying9 rfl
end Go.Proofs.Ytnlilmiakddlaaa
/-! Hashes of twenty bytes. -/
namespace Go.Proofs.Ytnlilmiakddlaaa
open Go.RowKit Pl Go.Agg
abbrev H20 : Type := { h : List UInt8 // h.length = 20 }
instance : Inhabited H20 := ⟨⟨z20, rfl⟩⟩
instance : DecidableEq P20 := inferInstance
instance : DecidableEq H20 := inferInstance
end Go.Proofs.Ytnlilmiakddlaaa
/-! Derivations: their cells, what lies in them, '==' of inputs by names; bytes and texts as elements. -/
namespace Go.Proofs.Ytnlilmiakddlaaa
open Go.RowKit Pl Go.Agg
abbrev Inp : Type := P20 × H20 × Bool
abbrev Nam : Type := List UInt8 × Inp
abbrev Drv : Type := List UInt8 × List Nam × List UInt8
instance : DecidableEq Inp := inferInstance
instance : DecidableEq Nam := inferInstance
instance : DecidableEq (List Nam) := inferInstance
instance : DecidableEq (List Nam × List UInt8) := inferInstance
instance : DecidableEq Drv := inferInstance
def iC (x : Inp) : Array Value := pC x.1.1.1 x.1.1.2 ++ (hC x.2.1.1 ++ #[.bool x.2.2])
def nmC (x : Nam) : Array Value := #[.string ⟨x.1.toArray⟩] ++ iC x.2
theorem iC_size (x : Inp) : (iC x).size = 42 := by simp [iC, pC_size, hC_size, x.1.2, x.2.1.2]
theorem nmC_size (x : Nam) : (nmC x).size = 43 := by simp [nmC, iC_size]
theorem iC_one (x : Inp) : (iC x).all (·.oneCell') = true := by
  rw [iC, Array.all_append, Array.all_append, pC_one, hC_one]; simp [Value.oneCell']
theorem nmC_one (x : Nam) : (nmC x).all (·.oneCell') = true := by
  rw [nmC, Array.all_append, iC_one]; simp [Value.oneCell']
theorem nmC_name (x : Nam) : (nmC x)[0]? = some (.string ⟨x.1.toArray⟩) := by rw [nmC, Array.getElem?_append_left (by simp)]; rfl
theorem nmC_inp (x : Nam) (j : Nat) (v : Value) (h : (iC x.2)[j]? = some v) : (nmC x)[1 + j]? = some v := by
  rw [nmC, Array.getElem?_append_right (by simp)]; simpa using h
theorem iC_src (x : Inp) (j : Nat) (v : Value) (h : (pC x.1.1.1 x.1.1.2)[j]? = some v) : (iC x)[0 + j]? = some v := by
  have := (Array.getElem?_eq_some_iff.1 h).1
  rw [iC, Nat.zero_add, Array.getElem?_append_left this]; exact h
theorem iC_cls (x : Inp) (j : Nat) (v : Value) (h : (hC x.2.1.1)[j]? = some v) : (iC x)[21 + j]? = some v := by
  have := (Array.getElem?_eq_some_iff.1 h).1
  rw [iC, Array.getElem?_append_right (by rw [pC_size, x.1.2]; omega), pC_size, x.1.2, show 21 + j - (20 + 1) = j by omega, Array.getElem?_append_left this]; exact h
theorem iC_is (x : Inp) : (iC x)[41]? = some (.bool x.2.2) := by
  rw [iC, Array.getElem?_append_right (by rw [pC_size, x.1.2]; omega), pC_size, x.1.2, Array.getElem?_append_right (by rw [hC_size, x.2.1.2]; omega), hC_size, x.2.1.2]; rfl
def zI : Inp := (⟨(z20, []), rfl⟩, ⟨z20, rfl⟩, false)
def zN : Nam := ([], zI)
theorem nmC_zero : (Try.prog.info? 44).map (·.zero) = some (some (.agg (nmC zN))) := by kernel_rfl
theorem nmC_info (x : Nam) : (Try.prog.info? 44).map (·.size) = some (nmC x).size := by rw [nmC_size]; kernel_rfl
theorem iC_info (x : Inp) : (Try.prog.info? 42).map (·.size) = some (iC x).size := by rw [iC_size]; kernel_rfl
theorem nmC_under : Try.prog.underlying 44 = some (.struct (Try.prog.fieldsOf 44)) := by kernel_rfl
theorem iC_under : Try.prog.underlying 42 = some (.struct (Try.prog.fieldsOf 42)) := by kernel_rfl
/-- inputs by names, as elements -/
def ENm : Elem Try.prog Nam where
  ty := 44
  st := 22
  n := 43
  bytes := 80
  val := fun x => .agg (nmC x)
  zero := .agg (nmC zN)
  pos := by omega
  small := by omega
  size := fun x => by simp [Value.cells, nmC_size]
  one := fun x v hv => one_of (nmC_one x) v hv
  zsize := by simp [Value.cells, nmC_size]
  slice := by kernel_rfl
  info := info_of nmC_zero (by kernel_rfl) (by kernel_rfl)
  load := fun w a x hp h => LoadsL.of_cells hp h nmC_under rfl (nmC_info x)
abbrev NamsAt (w : World) (v : Value) (l : List Nam) : Prop := SliceOf ENm w v l
theorem nams_len {w : World} {v : Value} {l : List Nam} (h : NamsAt w v l) (W : World) : (Builtin.len_ #[22] 3 #[v]).run Try.prog W = .ok (.int .i64 (l.length : Int)) W := h.len W
/-- what lies at an input by name -/
structure NamL (w : World) (p : Addr) (x : Nam) : Prop where
  all : LoadsL Try.prog w 44 (some p) (.agg (nmC x))
  name : LoadsL Try.prog w 9 (some (p.add 0)) (.string ⟨x.1.toArray⟩)
  is : LoadsL Try.prog w 4 (some ((p.add 1).add 41)) (.bool x.2.2.2)
  src : LoadsL Try.prog w 40 (some ((p.add 1).add 0)) (.agg (pC x.2.1.1.1 x.2.1.1.2))
  sname : LoadsL Try.prog w 9 (some (((p.add 1).add 0).add 20)) (.string ⟨x.2.1.1.2.toArray⟩)
  cls : LoadsL Try.prog w 38 (some ((p.add 1).add 21)) (.agg (hC x.2.2.1.1))
theorem NamL.of_cells {w : World} {p : Addr} {x : Nam} (hp : p.block < w.heap.size) (h : ∀ j u, (nmC x)[j]? = some u → w.cell? (p.add j) = some u) : NamL w p x where
  all := LoadsL.of_cells hp h nmC_under rfl (nmC_info x)
  name := LoadsL.of_cell (h 0 _ (nmC_name x)) Try.underlying9 rfl
  is := LoadsL.of_cell (by rw [add_add]; exact h _ _ (nmC_inp x 41 _ (iC_is x.2))) Try.underlying4 rfl
  src := LoadsL.of_cells (by rw [add_block, add_block]; exact hp) (fun j v hj => by rw [add_add, add_add]; exact h _ _ (nmC_inp x _ _ (iC_src x.2 j v hj))) pC_under rfl (pC_info _ _ x.2.1.2)
  sname := LoadsL.of_cell (by rw [add_add, add_add]; exact h _ _ (nmC_inp x _ _ (iC_src x.2 20 _ (pC_name _ _ x.2.1.2)))) Try.underlying9 rfl
  cls := LoadsL.of_cells (by rw [add_block, add_block]; exact hp) (fun j v hj => by rw [add_add, add_add]; exact h _ _ (nmC_inp x _ _ (iC_cls x.2 j v hj))) Try.underlying38 rfl (hC_info _ x.2.2.1.2)
theorem NamL.below {w w' : World} {p : Addr} {x : Nam} (h : NamL w p x) (hb : Below w.heap.size w w') : NamL w' p x :=
  ⟨h.all.below hb, h.name.below hb, h.is.below hb, h.src.below hb, h.sname.below hb, h.cls.below hb⟩
theorem NamL.of_blk {w : World} {g : Nat} {x : Nam} (h : Blk w g 44 (nmC x)) : NamL w ⟨g, 0, none⟩ x :=
  NamL.of_cells h.lt fun j u hj => by rw [add_plain, Nat.zero_add, h.cell]; exact hj
theorem nam_at {w : World} {v : Value} {l : List Nam} (h : NamsAt w v l) (k : Nat) (x : Nam) (hx : l[k]? = some x) :
    ∃ p : Addr, (∀ W, (Instr.indexAt 22 v (.int .i64 (k : Int))).run Try.prog W = .ok (.pointer (some p)) W) ∧ NamL w p x := by
  obtain ⟨p, h1, h2, h3, _⟩ := h.at_ k x hx
  exact ⟨p, h1, NamL.of_cells h2 h3⟩
/-! '==' -/
theorem eqlIn_path (d : Nat) (p q : P20) (w : World) : (Op.equalIn (d + 3) 40 (.agg (pC p.1.1 p.1.2)) (.agg (pC q.1.1 q.1.2))).run Try.prog w = .ok (decide (p = q)) w := by
  rw [run_equalIn_struct w (d + 2) 40 _ _ pC_under (by kernel_rfl)]
  have hf := path_fields
  generalize (Try.prog.fieldsOf 40).toList = fs at hf ⊢
  cases fs with
  | nil => exact absurd hf (by simp)
  | cons f1 fs =>
  cases fs with
  | nil => exact absurd hf (by simp)
  | cons f2 fs =>
  cases fs with
  | cons f3 fs => exact absurd hf (by simp)
  | nil =>
    simp only [List.map_cons, List.map_nil, List.cons.injEq, Prod.mk.injEq, and_true] at hf
    obtain ⟨⟨a1, a2, a3⟩, b1, b2, b3⟩ := hf
    have e : decide (p = q) = (p.1.1 == q.1.1 && p.1.2 == q.1.2) := by
      rw [Bool.eq_iff_iff]
      simp [Subtype.ext_iff, Prod.ext_iff]
    rw [e]
    simp only [Op.eqFields, a1, a2, a3, b1, b2, b3, Sem.run_bind, Sem.run_ite, part_hash _ _ p.2, part_hash _ _ q.2, part_name _ _ p.2, part_name _ _ q.2, Result.andThen_ok, eqlIn_hash d _ _ p.2 q.2, run_equalIn_string w (d + 1) 9 _ _ Try.underlying9, Agg.bytes_toList]
    cases p.1.1 == q.1.1 <;> cases p.1.2 == q.1.2 <;> simp
theorem inp_fields : (Try.prog.fieldsOf 42).toList.map (fun f => (f.name, f.type, f.offset)) = [("Src", 40, 0), ("Class", 38, 21), ("Is", 4, 41)] := by kernel_rfl
theorem nam_fields : (Try.prog.fieldsOf 44).toList.map (fun f => (f.name, f.type, f.offset)) = [("Name", 9, 0), ("Input", 42, 1)] := by kernel_rfl
theorem part_agg {ty : TypeId} {n : Nat} (ha : ∀ w, (isAgg ty).run Try.prog w = .ok true w) (hs : ∀ w, (sizeOf ty).run Try.prog w = .ok n w) (cs ds : Array Value) (off : Nat) (hn : ds.size = n) (h : ∀ j v, ds[j]? = some v → cs[off + j]? = some v) (w : World) :
    (Go.part ty cs off).run Try.prog w = .ok (.agg ds) w := by
  unfold Go.part
  simp only [Sem.run_bind, ha, Result.andThen_ok, if_true, hs, Sem.run_pure]
  congr 2
  apply Array.ext_getElem?
  intro j
  by_cases hj : j < n
  · have h1 : ds[j]? = some (ds[j]'(by omega)) := Array.getElem?_eq_getElem _
    have h2 := h j _ h1
    have h3 := (Array.getElem?_eq_some_iff.1 h2).1
    rw [h1, Array.getElem?_extract]
    rw [if_pos (by omega)]
    exact h2
  · rw [Array.getElem?_eq_none (xs := ds) (by omega), Array.getElem?_eq_none (by simp; omega)]
theorem part_cell {ty : TypeId} (ha : ∀ w, (isAgg ty).run Try.prog w = .ok false w) (cs : Array Value) (off : Nat) (v : Value) (h : cs[off]? = some v) (w : World) : (Go.part ty cs off).run Try.prog w = .ok v w := by
  unfold Go.part
  simp only [Sem.run_bind, ha, Result.andThen_ok, Bool.false_eq_true, if_false, h, Sem.run_pure]
theorem isAgg_path (w : World) : (isAgg 40).run Try.prog w = .ok true w := by kernel_rfl
theorem isAgg_inp (w : World) : (isAgg 42).run Try.prog w = .ok true w := by kernel_rfl
theorem isAgg_bool (w : World) : (isAgg 4).run Try.prog w = .ok false w := by kernel_rfl
theorem size_path (w : World) : (sizeOf 40).run Try.prog w = .ok 21 w := by kernel_rfl
theorem size_inp (w : World) : (sizeOf 42).run Try.prog w = .ok 42 w := by kernel_rfl
theorem eqlIn_bool (d : Nat) (b c : Bool) (w : World) : (Op.equalIn (d + 1) 4 (.bool b) (.bool c)).run Try.prog w = .ok (decide (b = c)) w := by
  have : Try.prog.underlying 4 = some .bool := Try.underlying4
  simp [Op.equalIn, run_underlying this]
  cases b <;> cases c <;> rfl
theorem eqlIn_inp (d : Nat) (x y : Inp) (w : World) : (Op.equalIn (d + 4) 42 (.agg (iC x)) (.agg (iC y))).run Try.prog w = .ok (decide (x = y)) w := by
  rw [run_equalIn_struct w (d + 3) 42 _ _ iC_under (by kernel_rfl)]
  have hf := inp_fields
  generalize (Try.prog.fieldsOf 42).toList = fs at hf ⊢
  cases fs with
  | nil => exact absurd hf (by simp)
  | cons f1 fs =>
  cases fs with
  | nil => exact absurd hf (by simp)
  | cons f2 fs =>
  cases fs with
  | nil => exact absurd hf (by simp)
  | cons f3 fs =>
  cases fs with
  | cons f4 fs => exact absurd hf (by simp)
  | nil =>
    simp only [List.map_cons, List.map_nil, List.cons.injEq, Prod.mk.injEq, and_true] at hf
    obtain ⟨⟨a1, a2, a3⟩, ⟨b1, b2, b3⟩, c1, c2, c3⟩ := hf
    have e : decide (x = y) = (decide (x.1 = y.1) && ((x.2.1.1 == y.2.1.1) && decide (x.2.2 = y.2.2))) := by
      rw [Bool.eq_iff_iff]
      simp [Subtype.ext_iff, Prod.ext_iff]
    rw [e]
    have p1 := fun z : Inp => part_agg isAgg_path size_path (iC z) (pC z.1.1.1 z.1.1.2) 0 (by rw [pC_size, z.1.2]) (iC_src z)
    have p2 := fun z : Inp => part_agg isAgg_hash size_hash (iC z) (hC z.2.1.1) 21 (by rw [hC_size, z.2.1.2]) (iC_cls z)
    have p3 := fun z : Inp => part_cell isAgg_bool (iC z) 41 _ (iC_is z)
    simp only [Op.eqFields, a1, a2, a3, b1, b2, b3, c1, c2, c3, Sem.run_bind, Sem.run_ite, p1, p2, p3, Result.andThen_ok, eqlIn_path d, eqlIn_hash (d + 1) _ _ x.2.1.2 y.2.1.2, eqlIn_bool (d + 2)]
    cases decide (x.1 = y.1) <;> cases x.2.1.1 == y.2.1.1 <;> cases decide (x.2.2 = y.2.2) <;> simp
theorem eqlIn_nam (d : Nat) (x y : Nam) (w : World) : (Op.equalIn (d + 5) 44 (.agg (nmC x)) (.agg (nmC y))).run Try.prog w = .ok (decide (x = y)) w := by
  rw [run_equalIn_struct w (d + 4) 44 _ _ nmC_under (by kernel_rfl)]
  have hf := nam_fields
  generalize (Try.prog.fieldsOf 44).toList = fs at hf ⊢
  cases fs with
  | nil => exact absurd hf (by simp)
  | cons f1 fs =>
  cases fs with
  | nil => exact absurd hf (by simp)
  | cons f2 fs =>
  cases fs with
  | cons f3 fs => exact absurd hf (by simp)
  | nil =>
    simp only [List.map_cons, List.map_nil, List.cons.injEq, Prod.mk.injEq, and_true] at hf
    obtain ⟨⟨a1, a2, a3⟩, b1, b2, b3⟩ := hf
    have e : decide (x = y) = ((x.1 == y.1) && decide (x.2 = y.2)) := by
      rw [Bool.eq_iff_iff]
      simp [Prod.ext_iff]
    rw [e]
    have p1 := fun z : Nam => part_cell isAgg_name (nmC z) 0 _ (nmC_name z)
    have p2 := fun z : Nam => part_agg isAgg_inp size_inp (nmC z) (iC z.2) 1 (iC_size _) (nmC_inp z)
    simp only [Op.eqFields, a1, a2, a3, b1, b2, b3, Sem.run_bind, Sem.run_ite, p1, p2, Result.andThen_ok, eqlIn_inp d, run_equalIn_string w (d + 3) 9 _ _ Try.underlying9, Agg.bytes_toList]
    cases x.1 == y.1 <;> cases decide (x.2 = y.2) <;> simp
theorem neq_nam (x y : Nam) (w : World) : (binOp .neq 44 (.agg (nmC x)) (.agg (nmC y))).run Try.prog w = .ok (.bool (!decide (x = y))) w := by
  rw [run_neq_struct, eqlIn_nam 9995]; rfl
theorem eql_nam (x y : Nam) (w : World) : (binOp .eql 44 (.agg (nmC x)) (.agg (nmC y))).run Try.prog w = .ok (.bool (decide (x = y))) w := by
  rw [run_eql_struct, eqlIn_nam 9995]; rfl
end Go.Proofs.Ytnlilmiakddlaaa
/-! base.order, base.Less, spenceref03.Less: how two paths stand. -/
namespace Go.Proofs.Ytnlilmiakddlaaa
open Go.RowKit Pl Go.Agg
open Go.Lib (compareBytes)
end Go.Proofs.Ytnlilmiakddlaaa
