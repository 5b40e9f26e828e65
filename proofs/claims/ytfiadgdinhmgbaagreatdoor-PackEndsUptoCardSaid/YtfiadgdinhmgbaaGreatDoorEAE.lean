/- Operations on natural numbers as ints, addresses of elements of an array, a byte made a word. (Several texts in one.) -/
import Derived.Test.YtfiadgdinhmgbaaGreatDoorEAA
import Derived.Great.BuildSlice
import Derived.Maps.AppendAt
import Derived.Deep.AppendLies
import Derived.Deep.Slices
import Derived.Laws.MakeOwn
import Derived.ArgAppend
import Derived.Laws.IdiomCopy
/-! Slices of whatever elements, over any program: what they hold, one of them, append, make. -/
namespace Go.Agg
open Go.RowKit
structure Elem (P : Program) (α : Type) where
 ty : TypeId
 st : TypeId
 n : Nat
 bytes : Nat
 val : α → Value
 zero : Value
 pos : 0 < n
 small : n ≤ 1000
 size : ∀ a, (val a).cells.size = n
 one : ∀ a, ∀ v ∈ (val a).cells.toList, v.oneCell' = true
 zsize : zero.cells.size = n
 slice : P.underlying st = some (.slice ty)
 info : ∃ i, P.info? ty = some i ∧ i.zero = some zero ∧ i.size = n ∧ i.bytes = bytes
 load : ∀ (w : World) (p : Addr) (a : α), p.block < w.heap.size → (∀ j v, (val a).cells[j]? = some v → w.cell? (p.add j) = some v) → LoadsL P w ty (some p) (val a)
section
variable {P : Program} {α : Type} (E : Elem P α)
def Elem.cs (a : α) : List Value := (E.val a).cells.toList
theorem Elem.cs_length (a : α) : (E.cs a).length = E.n := by rw [Elem.cs, Array.length_toList]; exact E.size a
def Elem.flat (l : List α) : List Value := l.flatMap E.cs
theorem Elem.flat_length (l : List α) : (E.flat l).length = l.length * E.n := by
 induction l with
 | nil => simp [Elem.flat]
 | cons a l ih => simp only [Elem.flat, List.flatMap_cons, List.length_append, E.cs_length, List.length_cons, Nat.succ_mul] at ih ⊢; omega
theorem Elem.flat_append (a b : List α) : E.flat (a ++ b) = E.flat a ++ E.flat b := by simp [Elem.flat]
theorem Elem.flat_one (a : α) : E.flat [a] = E.cs a := by simp [Elem.flat]
theorem Elem.flat_get : ∀ (l : List α) (k : Nat) (a : α) (i : Nat) (v : Value), l[k]? = some a → (E.val a).cells[i]? = some v → (E.flat l)[k * E.n + i]? = some v
 | [], k, a, i, v, h, _ => by simp at h
 | b :: l, 0, a, i, v, h, hv => by
  obtain rfl : b = a := by simpa using h
  have hlt : i < (E.cs b).length := by rw [E.cs_length]; have := (Array.getElem?_eq_some_iff.1 hv).1; rw [E.size b] at this; omega
  rw [Elem.flat, List.flatMap_cons, Nat.zero_mul, Nat.zero_add, List.getElem?_append_left hlt]
  simpa [Elem.cs] using hv
 | b :: l, k + 1, a, i, v, h, hv => by
  have ih := Elem.flat_get l k a i v (by simpa using h) hv
  rw [Elem.flat, List.flatMap_cons, List.getElem?_append_right (by rw [E.cs_length, Nat.succ_mul]; omega), E.cs_length, show (k + 1) * E.n + i - E.n = k * E.n + i by rw [Nat.succ_mul]; omega]
  exact ih
theorem Elem.flat_all : ∀ (l : List α) (j : Nat) (u : Value), (E.flat l)[j]? = some u → ∃ k a i, l[k]? = some a ∧ (E.val a).cells[i]? = some u ∧ j = k * E.n + i
 | [], j, u, h => by simp [Elem.flat] at h
 | a :: l, j, u, h => by
  rw [Elem.flat, List.flatMap_cons] at h
  by_cases hj : j < E.n
  ·rw [List.getElem?_append_left (by rw [E.cs_length]; exact hj)] at h
   exact ⟨0, a, j, rfl, by simpa [Elem.cs] using h, by simp⟩
  ·rw [List.getElem?_append_right (by rw [E.cs_length]; omega), E.cs_length] at h
   obtain ⟨k, b, i, h1, h2, h3⟩ := Elem.flat_all l (j - E.n) u h
   exact ⟨k + 1, b, i, by simpa using h1, h2, by rw [Nat.succ_mul]; omega⟩
theorem Elem.flat_one' (l : List α) : ∀ u ∈ E.flat l, u.oneCell' = true := by
 intro u hu
 obtain ⟨a, _, h⟩ := List.mem_flatMap.1 hu
 exact E.one a u h
def SliceOf (w : World) (v : Value) (l : List α) : Prop :=
 (∃ p c, v = .slice p 0 c ∧ l = []) ∨ ∃ p cap, v = .slice (some p) l.length cap ∧ p.block < w.heap.size ∧ ∀ j u, (E.flat l)[j]? = some u → w.cell? (p.add j) = some u
variable {E} {w w' : World} {v : Value} {l : List α}
theorem SliceOf.nil (w : World) (p : Option Addr) (c : Nat) : SliceOf E w (.slice p 0 c) [] := .inl ⟨p, c, rfl, rfl⟩
theorem SliceOf.belowAt {B : Nat} (h : SliceOf E w v l) (hb : Below B w w') (hp : ∀ p n c, v = .slice (some p) n c → p.block < B) : SliceOf E w' v l := by
 rcases h with h | ⟨p, cap, rfl, hp', h⟩
 ·exact .inl h
 ·have := hp p _ _ rfl
  exact .inr ⟨p, cap, rfl, Nat.lt_of_lt_of_le hp' hb.size, fun j u hj => (hb.cell (p := p.add j) (by rw [add_block]; exact this)).trans (h j u hj)⟩
theorem SliceOf.below (h : SliceOf E w v l) (hb : Below w.heap.size w w') : SliceOf E w' v l := by
 rcases h with h | ⟨p, cap, rfl, hp, h⟩
 ·exact .inl h
 ·exact .inr ⟨p, cap, rfl, Nat.lt_of_lt_of_le hp hb.size, fun j u hj => (hb.cell (p := p.add j) (by rw [add_block]; exact hp)).trans (h j u hj)⟩
theorem SliceOf.len (h : SliceOf E w v l) (W : World) : (Builtin.len_ #[E.st] 3 #[v]).run P W = .ok (.int .i64 (l.length : Int)) W := by
 rcases h with ⟨a, c, rfl, rfl⟩ | ⟨p, cap, rfl, _, _⟩ <;> simp [Builtin.len_, run_underlying E.slice, goInt]
theorem SliceOf.form (h : SliceOf E w v l) : ∃ p c, v = .slice p l.length c := by
 rcases h with ⟨a, c, rfl, rfl⟩ | ⟨p, cap, rfl, _, _⟩
 ·exact ⟨a, c, rfl⟩
 ·exact ⟨_, cap, rfl⟩
theorem run_sizeOf_elem (W : World) : (Go.sizeOf E.ty).run P W = .ok E.n W := by
 obtain ⟨i, hi, _, hs, _⟩ := E.info
 simp [Go.sizeOf, typeInfo, hi, hs]
theorem SliceOf.at_ (h : SliceOf E w v l) (k : Nat) (a : α) (hk : l[k]? = some a) :
  ∃ p : Addr, (∀ W, (Instr.indexAt E.st v (.int .i64 (k : Int))).run P W = .ok (.pointer (some p)) W) ∧ p.block < w.heap.size ∧ (∀ j u, (E.val a).cells[j]? = some u → w.cell? (p.add j) = some u) ∧ LoadsL P w E.ty (some p) (E.val a) := by
 have hlt := (List.getElem?_eq_some_iff.1 hk).1
 rcases h with ⟨p, c, rfl, rfl⟩ | ⟨p, cap, rfl, hp, h⟩
 ·simp at hlt
 ·have hc : ∀ j u, (E.val a).cells[j]? = some u → w.cell? ((p.add (k * E.n)).add j) = some u := fun j u hj => by
   rw [add_add]
   exact h _ _ (E.flat_get l k a j u hk hj)
  refine ⟨p.add (k * E.n), fun W => ?_, by rw [add_block]; exact hp, hc, E.load w _ a (by rw [add_block]; exact hp) hc⟩
  have hel : P.elem E.st = E.ty := by simp [Program.elem, E.slice]
  rw [run_indexAt_slice W E.st p l.length cap .i64 (k : Int) (by rw [hel]; exact E.slice), if_pos (by omega), hel, run_sizeOf_elem]
  simp [Result.andThen]
def Own (E : Elem P α) (base : Nat) (w : World) (v : Value) (l : List α) : Prop := w.ownsRow base E.ty E.n v l.length (E.flat l)
variable {base : Nat}
theorem Own.nil (E : Elem P α) (base : Nat) (w : World) : Own E base w (.slice none 0 0) [] := ⟨by simp [Elem.flat], .inl ⟨rfl, rfl⟩⟩
theorem Own.slice (h : Own E base w v l) : SliceOf E w v l := by
 obtain ⟨_, ⟨rfl, h0⟩ | ⟨g, cap, cur, rfl, hgb, hcur, hle, _, _, htk⟩⟩ := h
 ·exact .inl ⟨_, _, rfl, List.length_eq_zero_iff.1 h0⟩
 ·refine .inr ⟨_, cap, rfl, heap_lt hcur, fun j u hj => ?_⟩
  rw [add_plain, Nat.zero_add, cell_of_row _ _ _ _ _ _ hcur]
  rw [← htk, List.getElem?_take] at hj
  split at hj
  ·simpa using hj
  ·cases hj
theorem Own.keep (h : Own E base w v l) (hk : ∀ (g : Nat) (cur : Array Value) (t : TypeId) (fr : Nat × Nat), base ≤ g → w.heap[g]? = some (Obj.cells cur t fr) → w'.heap[g]? = some (Obj.cells cur t fr)) : Own E base w' v l := by
 obtain ⟨h1, h2⟩ := h
 refine ⟨h1, ?_⟩
 rcases h2 with h2 | ⟨g, cap, cur, e1, e2, e3, e4⟩
 ·exact .inl h2
 ·exact .inr ⟨g, cap, cur, e1, e2, hk _ _ _ _ e2 e3, e4⟩
theorem Own.below (h : Own E base w v l) (hb : Below w.heap.size w w') : Own E base w' v l := h.keep fun _ _ _ _ _ hg => keep' hb hg
theorem Own.lower {b' : Nat} (h : Own E base w v l) (hb : b' ≤ base) : Own E b' w v l := by
 obtain ⟨h1, h2 | ⟨g, cap, cur, e1, e2, e3, e4⟩⟩ := h
 ·exact ⟨h1, .inl h2⟩
 ·exact ⟨h1, .inr ⟨g, cap, cur, e1, Nat.le_trans hb e2, e3, e4⟩⟩
theorem Own.block (h : Own E base w v l) : ∀ k, v.ownBlock = some k → base ≤ k ∧ ∃ cur, w.heap[k]? = some (.cells cur E.ty (0, 0)) := by
 obtain ⟨_, ⟨rfl, h0⟩ | ⟨g, cap, cur, rfl, hg, hc, _⟩⟩ := h
 ·intro k hk; simp [Value.ownBlock] at hk
 ·intro k hk
  obtain rfl : g = k := by simpa [Value.ownBlock] using hk
  exact ⟨hg, cur, hc⟩
def lenOf : Value → Nat | .slice _ n _ => n | _ => 0
theorem SliceOf.lenOf (h : SliceOf E w v l) : lenOf v = l.length := by
 obtain ⟨p, c, rfl⟩ := h.form
 rfl
structure Pushed (E : Elem P α) (base : Nat) (w w' : World) (v : Value) : Prop where
 below : ∀ B, B ≤ base → B ≤ w.heap.size → Below B w w'
 other : ∀ (g : Nat), g < w.heap.size → some g ≠ v.ownBlock → w'.heap[g]? = w.heap[g]?
 blk : ∀ (g : Nat) (t : TypeId) (cs : Array Value) (fr : Nat × Nat), t ≠ E.ty → w.heap[g]? = some (Obj.cells cs t fr) → w'.heap[g]? = some (Obj.cells cs t fr)
 map : ∀ (g : Nat) (es : Array MapEntry) (c : Nat), w.heap[g]? = some (Obj.map es c) → w'.heap[g]? = some (Obj.map es c)
 size : w.heap.size ≤ w'.heap.size
theorem pushed_of {w w' : World} {v : Value} {l : List α} (h : Own E base w v l) (hg : w.grownBy w' v.ownBlock) : Pushed E base w w' v where
 below := fun B hB hs => (Below.refl B w).grown hg hs fun k hk => Nat.le_trans hB (h.block k hk).1
 other := fun g hlt hne => hg.block g hlt hne
 blk := fun g t cs fr hne hb => (hg.block g (heap_lt hb) (fun e => by
  obtain ⟨_, cur, hc⟩ := h.block g e.symm
  rw [hb] at hc
  injection hc with hc
  injection hc with _ ht
  exact hne ht)).trans hb
 map := fun g es c hb => (hg.block g (heap_lt hb) (fun e => by
  obtain ⟨_, cur, hc⟩ := h.block g e.symm
  rw [hb] at hc
  injection hc with hc
  cases hc)).trans hb
 size := hg.size
theorem run_append (hown : Own E base w v l) (x : Value) (m : List α) (hx : SliceOf E w x m) (h63 : l.length + m.length ≤ 1099511627776 / 8) (hby : E.bytes ≤ 1000) (hbase : base ≤ w.heap.size) (ty : TypeId) :
  ∃ v' w', (Builtin.append_ #[E.st, E.st] ty #[v, x]).run P w = .ok v' w' ∧ Own E base w' v' (l ++ m) ∧ w.grownBy w' v.ownBlock ∧ (v'.ownBlock = v.ownBlock ∨ v'.ownBlock = some w.heap.size) ∧ (v' = .slice none 0 0 ↔ v = .slice none 0 0 ∧ (m = [] )) := by
 obtain ⟨i, hi, hz, hs, hb⟩ := E.info
 have hmul : (l.length + m.length) * E.bytes ≤ 140737488355328 := Nat.le_trans (Nat.mul_le_mul h63 hby) (by omega)
 have hmax : l.length + m.length ≤ maxLen := by simp only [maxLen]; omega
 obtain ⟨p, c, rfl⟩ := hx.form
 cases p with
 | none =>
  have hm : m = [] := by
   rcases hx with ⟨_, _, _, h⟩ | ⟨p, cap, e, _⟩
   ·exact h
   ·injection e with e; cases e
  subst hm
  refine ⟨v, w, ?_, by simpa using hown, ⟨rfl, rfl, rfl, Nat.le_refl _, fun _ _ _ => rfl⟩, .inl rfl, by simp⟩
  obtain ⟨_, ⟨rfl, _⟩ | ⟨g, cap, cur, rfl, _, _, hnc, _⟩⟩ := hown
  ·simp [Builtin.append_, run_underlying E.slice, sizeOf, typeInfo, hi, Builtin.lenOf, Builtin.firstCells]
  ·simp [Builtin.append_, run_underlying E.slice, sizeOf, typeInfo, hi, Builtin.lenOf, Builtin.firstCells, hnc, storeCells]
 | some p =>
  have hcells : ∀ j u, (E.flat m)[j]? = some u → w.cell? (p.add j) = some u := by
   rcases hx with ⟨_, _, _, rfl⟩ | ⟨q, cap, e, _, h⟩
   ·intro j u hj; simp [Elem.flat] at hj
   ·injection e with e
    injection e with e
    subst e
    exact h
  obtain ⟨v', w', hrun, h2, h3, h4, h5⟩ := run_append_own_at (P := P) w base E.st ty E.ty i E.zero E.n E.bytes E.slice hi hz hs hb E.zsize E.pos v l.length (E.flat l) hown p m.length c (E.flat m) (E.flat_length m) hcells (E.flat_one' m) hmax hmul hbase
  refine ⟨v', w', hrun, ?_, h3, h5, ?_⟩
  ·unfold Own
   rw [List.length_append, E.flat_append]
   exact h2
  ·rw [h4, List.length_eq_zero_iff]
theorem run_slice_one (a : α) (w : World) : (Instr.buildSlice E.st 1 #[(0, E.val a)]).run P w = .ok (.slice (some ⟨w.heap.size, 0, none⟩) 1 1) (w.alloc (.cells (E.val a).cells E.ty)) := by
 obtain ⟨i, hi, hz, hs, hb⟩ := E.info
 have hpos := E.pos
 have hsm := E.small
 refine run_buildSlice w E.st E.ty 1 _ (E.val a).cells i E.zero E.slice hi hz (by omega) (by omega) ?_
 rw [hs]
 show Instr.fill _ _ [(0, E.val a)] = _
 rw [fill_cons (off := 0) (size := E.n) (by simp) (E.size a) (by simp), fill_nil]
 congr 1
 apply Array.ext'
 have := E.size a
 simp [splice, this]
theorem slice_of_block {g : Nat} {a : α} (h : Blk w g E.ty (E.val a).cells) : SliceOf E w (.slice (some ⟨g, 0, none⟩) 1 1) [a] :=
 .inr ⟨_, 1, rfl, h.lt, fun j u hj => by rw [E.flat_one, Elem.cs] at hj; rw [add_plain, Nat.zero_add, h.cell]; simpa using hj⟩
section
variable {ops : Array Oper} {rest : List Oper} {o o2 : Oper} {a : Act} {Q : Exit → Act → World → Prop}
theorem wpList_push (hg : o.guard = none) (hg2 : o2.guard = none) (d : Tmp) (hd : o.dst = some d) (y : Operand) (ho : o.op = .buildSlice E.st 1 #[(0, y)]) (s : Operand)
  (ho2 : o2.op = .call { callee := .builtin .append, args := #[s, .tmp d], argTypes := #[E.st, E.st] }) (x : α) (hy : a.eval y = E.val x) (hs : ∀ p, (a.put o.dst p).eval s = v) (hsz : d < a.tmps.size)
  (hown : Own E base w v l) (h63 : l.length + 1 ≤ 1099511627776 / 8) (hby : E.bytes ≤ 1000) (hbase : base ≤ w.heap.size)
  (h : ∀ u v' w', Own E base w' v' (l ++ [x]) → Pushed E base w w' v → wpList P ops Q rest ((a.put o.dst u).put o2.dst v') w') : wpList P ops Q (o :: o2 :: rest) a w := by
 refine wpList_val hg (v := .slice (some ⟨w.heap.size, 0, none⟩) 1 1) (w' := w.alloc (.cells (E.val x).cells E.ty)) (by simp [execOp, ho, hy, run_slice_one]) ?_
 have hb1 : Below w.heap.size w (w.alloc (.cells (E.val x).cells E.ty)) := (Below.refl _ _).alloc (Nat.le_refl _) _
 have hown1 := hown.below hb1
 obtain ⟨v', w', hrun, h2, h3, _, _⟩ := run_append (ty := o2.type) hown1 _ [x] (slice_of_block (Blk.new w E.ty (E.val x).cells)) (by simpa using h63) hby (Nat.le_trans hbase hb1.size)
 have hp := pushed_of hown1 h3
 have hpu : Pushed E base w w' v := {
  below := fun B hB hs => (hb1.mono hs).trans (hp.below B hB (Nat.le_trans hs hb1.size))
  other := fun g hlt hne => (hp.other g (Nat.lt_of_lt_of_le hlt hb1.size) hne).trans (hb1.block g hlt)
  blk := fun g t cs fr hne hb => hp.blk g t cs fr hne (keep' hb1 hb)
  map := fun g es c hb => hp.map g es c (keep' hb1 hb)
  size := Nat.le_trans hb1.size hp.size }
 refine wpList_val hg2 (v := v') (w' := w') ?_ (h _ v' w' h2 hpu)
 have e2 : (a.put o.dst (.slice (some ⟨w.heap.size, 0, none⟩) 1 1)).eval (.tmp d) = .slice (some ⟨w.heap.size, 0, none⟩) 1 1 := by rw [hd]; simp [Act.put, Act.eval, hsz]
 simp [execOp, ho2, resolve, invoke, builtin, hs, e2, hrun]
theorem wpList_appendS (hg : o.guard = none) (s x : Operand) (ho : o.op = .call { callee := .builtin .append, args := #[s, x], argTypes := #[E.st, E.st] }) (vx : Value) (hs : a.eval s = v) (hx : a.eval x = vx) (m : List α)
  (hown : Own E base w v l) (hm : SliceOf E w vx m) (h63 : l.length + m.length ≤ 1099511627776 / 8) (hby : E.bytes ≤ 1000) (hbase : base ≤ w.heap.size)
  (h : ∀ v' w', Own E base w' v' (l ++ m) → Pushed E base w w' v → (v' = .slice none 0 0 ↔ v = .slice none 0 0 ∧ m = []) → wpList P ops Q rest (a.put o.dst v') w') : wpList P ops Q (o :: rest) a w := by
 obtain ⟨v', w', hrun, h2, h3, _, h5⟩ := run_append (ty := o.type) hown _ m hm h63 hby hbase
 refine wpList_val hg (v := v') (w' := w') ?_ (h v' w' h2 (pushed_of hown h3) h5)
 simp [execOp, ho, resolve, invoke, builtin, hs, hx, hrun]
theorem wpList_slice0 (E : Elem P α) (hg : o.guard = none) (ho : o.op = .buildSlice E.st 0 #[]) (hbase : base ≤ w.heap.size)
  (h : ∀ v' w', Own E base w' v' [] → Below w.heap.size w w' → v' ≠ .slice none 0 0 → wpList P ops Q rest (a.put o.dst v') w') : wpList P ops Q (o :: rest) a w := by
 refine wpList_val hg (v := .slice (some ⟨w.heap.size, 0, none⟩) 0 0) (w' := w.alloc (.cells #[] E.ty)) ?_ (h _ _ ?_ ((Below.refl _ _).alloc (Nat.le_refl _) _) (by simp))
 ·simp [execOp, ho, Instr.buildSlice, run_underlying E.slice, run_sizeOf_elem, newRow, Instr.fill]
  rw [show Array.range 0 = #[] by simp, Array.map_empty]
 ·exact ⟨by simp [Elem.flat], .inr ⟨_, 0, #[], rfl, hbase, heap_alloc_new w _, Nat.le_refl _, Nat.zero_le _, by simp, by simp [Elem.flat]⟩⟩
theorem wpList_make0 (E : Elem P α) (hg : o.guard = none) (kl kc : IntKind) (x : Operand) (c : Nat) (ho : o.op = .makeSlice E.st (.const (.int kl 0)) x) (hx : a.eval x = .int kc (c : Int)) (hc : c ≤ 1099511627776 / 8) (hby : E.bytes ≤ 1000) (hbase : base ≤ w.heap.size)
  (h : ∀ v' w', Own E base w' v' [] → Below w.heap.size w w' → wpList P ops Q rest (a.put o.dst v') w') : wpList P ops Q (o :: rest) a w := by
 obtain ⟨i, hi, hz, hs, hb⟩ := E.info
 have hmul : i.bytes * c ≤ 281474976710656 := by
  rw [hb]
  exact Nat.le_trans (Nat.mul_le_mul hby hc) (by omega)
 have hmi : (i.bytes : Int) * (c : Int) ≤ 281474976710656 := by
  have h5 : ((i.bytes * c : Nat) : Int) ≤ 281474976710656 := by omega
  rwa [Int.natCast_mul] at h5
 have hr := run_make (P := P) w E.st E.ty i E.zero E.slice hi hz kl kc 0 (c : Int) (by omega) (by omega) hmi (by omega)
 simp only [Int.toNat_natCast, Int.toNat_zero] at hr
 refine wpList_val hg (v := .slice (some ⟨w.heap.size, 0, none⟩) 0 c) (w' := w.alloc (.cells (madeCells E.zero.cells (c * i.size)) E.ty)) ?_ (h _ _ ?_ ((Below.refl _ _).alloc (Nat.le_refl _) _))
 ·have he : a.eval (.const (.int kl 0)) = .int kl 0 := rfl
  simp [execOp, ho, hx, he, hr]
 ·refine ⟨by simp [Elem.flat], .inr ⟨_, c, _, rfl, hbase, heap_alloc_new w _, Nat.zero_le _, by simp only [maxLen]; omega, ?_, by simp [Elem.flat]⟩⟩
  rw [hs]; simp [madeCells]
theorem run_slice_two (x y : α) (w : World) : (Instr.buildSlice E.st 2 #[(0, E.val x), (1, E.val y)]).run P w = .ok (.slice (some ⟨w.heap.size, 0, none⟩) 2 2) (w.alloc (.cells ((E.val x).cells ++ (E.val y).cells) E.ty)) := by
 obtain ⟨i, hi, hz, hs, hb⟩ := E.info
 have hpos := E.pos
 have hsm := E.small
 have hsx := E.size x
 have hsy := E.size y
 refine run_buildSlice w E.st E.ty 2 _ ((E.val x).cells ++ (E.val y).cells) i E.zero E.slice hi hz (by omega) (by omega) ?_
 rw [hs]
 show Instr.fill _ _ [(0, E.val x), (1, E.val y)] = _
 rw [fill_cons (off := 0) (size := E.n) (by simp) hsx (by simp; omega), fill_cons (off := E.n) (size := E.n) (by simp) hsy (by rw [splice_size _ _ _ (by simp; omega)]; simp; omega), fill_nil]
 congr 1
 apply Array.ext'
 have hlx : (E.val x).cells.toList.length = E.n := by rw [Array.length_toList]; exact hsx
 simp only [splice, Nat.zero_add, hsx, hsy, List.take_zero, List.nil_append, Array.toList_append]
 rw [List.take_append_of_le_length (by omega), List.take_of_length_le (by omega), List.drop_append, List.drop_eq_nil_of_le (by omega : (E.val x).cells.toList.length ≤ E.n + E.n), List.nil_append, List.drop_eq_nil_of_le (by simp; omega), List.append_nil]
theorem slice_of_block2 {g : Nat} {x y : α} (h : Blk w g E.ty ((E.val x).cells ++ (E.val y).cells)) : SliceOf E w (.slice (some ⟨g, 0, none⟩) 2 2) [x, y] :=
 .inr ⟨_, 2, rfl, h.lt, fun j u hj => by
  have e : E.flat [x, y] = ((E.val x).cells ++ (E.val y).cells).toList := by simp [Elem.flat, Elem.cs]
  rw [e] at hj
  rw [add_plain, Nat.zero_add, h.cell, ← Array.getElem?_toList]; exact hj⟩
theorem wpList_push2 (hg : o.guard = none) (hg2 : o2.guard = none) (d : Tmp) (hd : o.dst = some d) (x y : Operand) (ho : o.op = .buildSlice E.st 2 #[(0, x), (1, y)]) (s : Operand)
  (ho2 : o2.op = .call { callee := .builtin .append, args := #[s, .tmp d], argTypes := #[E.st, E.st] }) (vx vy : α) (hx : a.eval x = E.val vx) (hy : a.eval y = E.val vy) (hs : ∀ p, (a.put o.dst p).eval s = v) (hsz : d < a.tmps.size)
  (hown : Own E base w v l) (h63 : l.length + 2 ≤ 1099511627776 / 8) (hby : E.bytes ≤ 1000) (hbase : base ≤ w.heap.size)
  (h : ∀ u v' w', Own E base w' v' (l ++ [vx, vy]) → Pushed E base w w' v → wpList P ops Q rest ((a.put o.dst u).put o2.dst v') w') : wpList P ops Q (o :: o2 :: rest) a w := by
 refine wpList_val hg (v := .slice (some ⟨w.heap.size, 0, none⟩) 2 2) (w' := w.alloc (.cells ((E.val vx).cells ++ (E.val vy).cells) E.ty)) (by simp [execOp, ho, hx, hy, run_slice_two]) ?_
 have hb1 : Below w.heap.size w (w.alloc (.cells ((E.val vx).cells ++ (E.val vy).cells) E.ty)) := (Below.refl _ _).alloc (Nat.le_refl _) _
 have hown1 := hown.below hb1
 obtain ⟨v', w', hrun, h2, h3, _, _⟩ := run_append (ty := o2.type) hown1 _ [vx, vy] (slice_of_block2 (Blk.new w E.ty _)) (by simpa using h63) hby (Nat.le_trans hbase hb1.size)
 have hp := pushed_of hown1 h3
 have hpu : Pushed E base w w' v := {
  below := fun B hB hs => (hb1.mono hs).trans (hp.below B hB (Nat.le_trans hs hb1.size))
  other := fun g hlt hne => (hp.other g (Nat.lt_of_lt_of_le hlt hb1.size) hne).trans (hb1.block g hlt)
  blk := fun g t cs fr hne hb => hp.blk g t cs fr hne (keep' hb1 hb)
  map := fun g es c hb => hp.map g es c (keep' hb1 hb)
  size := Nat.le_trans hb1.size hp.size }
 refine wpList_val hg2 (v := v') (w' := w') ?_ (h _ v' w' h2 hpu)
 have e2 : (a.put o.dst (.slice (some ⟨w.heap.size, 0, none⟩) 2 2)).eval (.tmp d) = .slice (some ⟨w.heap.size, 0, none⟩) 2 2 := by rw [hd]; simp [Act.put, Act.eval, hsz]
 simp [execOp, ho2, resolve, invoke, builtin, hs, e2, hrun]
theorem step_appendS {K : Act → World → Prop} {F : Prop} (hg : o.guard = none) (s x : Operand) (ho : o.op = .call { callee := .builtin .append, args := #[s, x], argTypes := #[E.st, E.st] }) (vx : Value) (hs : a.eval s = v) (hx : a.eval x = vx) (m : List α)
  (hown : Own E base w v l) (hm : SliceOf E w vx m) (h63 : l.length + m.length ≤ 1099511627776 / 8) (hby : E.bytes ≤ 1000) (hbase : base ≤ w.heap.size)
  (h : ∀ v' w', Own E base w' v' (l ++ m) → Pushed E base w w' v → K (a.put o.dst v') w') : if Region.wanted o (yielded ops a.tmps) = true then o.wp P a w K Q else F := by
 rw [if_pos (by simp [Region.wanted, hg])]
 obtain ⟨v', w', hrun, h2, h3, _, _⟩ := run_append (ty := o.type) hown _ m hm h63 hby hbase
 unfold Oper.wp
 have : (execOp a.eval o).run P w = .ok (.value v') w' := by simp [execOp, ho, resolve, invoke, builtin, hs, hx, hrun]
 rw [this]
 exact h v' w' h2 (pushed_of hown h3)
theorem wpList_slice1 (hg : o.guard = none) (y : Operand) (ho : o.op = .buildSlice E.st 1 #[(0, y)]) (x : α) (hy : a.eval y = E.val x) (hbase : base ≤ w.heap.size)
  (h : ∀ v' w', Own E base w' v' [x] → Below w.heap.size w w' → wpList P ops Q rest (a.put o.dst v') w') : wpList P ops Q (o :: rest) a w := by
 refine wpList_val hg (v := .slice (some ⟨w.heap.size, 0, none⟩) 1 1) (w' := w.alloc (.cells (E.val x).cells E.ty)) (by simp [execOp, ho, hy, run_slice_one]) (h _ _ ?_ ((Below.refl _ _).alloc (Nat.le_refl _) _))
 have hs := E.size x
 refine ⟨by rw [E.flat_one, E.cs_length]; simp, .inr ⟨_, 1, _, rfl, hbase, heap_alloc_new w _, Nat.le_refl _, by simp [maxLen], by rw [hs]; simp, ?_⟩⟩
 rw [E.flat_one, Elem.cs, List.take_of_length_le (by rw [Array.length_toList, hs]; simp)]
theorem wpList_slice2 (hg : o.guard = none) (x y : Operand) (ho : o.op = .buildSlice E.st 2 #[(0, x), (1, y)]) (vx vy : α) (hx : a.eval x = E.val vx) (hy : a.eval y = E.val vy)
  (h : ∀ v' w', SliceOf E w' v' [vx, vy] → Below w.heap.size w w' → wpList P ops Q rest (a.put o.dst v') w') : wpList P ops Q (o :: rest) a w :=
 wpList_val hg (v := .slice (some ⟨w.heap.size, 0, none⟩) 2 2) (w' := w.alloc (.cells ((E.val vx).cells ++ (E.val vy).cells) E.ty)) (by simp [execOp, ho, hx, hy, run_slice_two])
  (h _ _ (slice_of_block2 (Blk.new w E.ty _)) ((Below.refl _ _).alloc (Nat.le_refl _) _))
end
end
end Go.Agg
/-! Slices that may be written, their spare room too, over any program: store, append; what a step leaves alone. -/
namespace Go.Agg
open Go.RowKit
structure Only (S : Nat → Prop) (w w' : World) : Prop where
 os : w'.os = w.os
 tape : w'.tape = w.tape
 output : w'.output = w.output
 size : w.heap.size ≤ w'.heap.size
 block : ∀ k, k < w.heap.size → ¬ S k → w'.heap[k]? = w.heap[k]?
theorem Only.refl (S : Nat → Prop) (w : World) : Only S w w := ⟨rfl, rfl, rfl, Nat.le_refl _, fun _ _ _ => rfl⟩
theorem Only.trans {S T : Nat → Prop} {a b c : World} (h : Only S a b) (k : Only T b c) (hT : ∀ i, i < a.heap.size → T i → S i) : Only S a c :=
 ⟨k.os.trans h.os, k.tape.trans h.tape, k.output.trans h.output, Nat.le_trans h.size k.size, fun i hi hS => (k.block i (Nat.lt_of_lt_of_le hi h.size) (fun hT' => hS (hT i hi hT'))).trans (h.block i hi hS)⟩
theorem Only.mono {S T : Nat → Prop} {a b : World} (h : Only S a b) (hT : ∀ i, i < a.heap.size → S i → T i) : Only T a b := ⟨h.os, h.tape, h.output, h.size, fun i hi hS => h.block i hi (fun hs => hS (hT i hi hs))⟩
theorem Only.of_below {S : Nat → Prop} {a b : World} (h : Below a.heap.size a b) : Only S a b := ⟨h.os, h.tape, h.output, h.size, fun i hi _ => h.block i hi⟩
theorem Only.below {S : Nat → Prop} {a b : World} {B : Nat} (h : Only S a b) (hB : B ≤ a.heap.size) (hS : ∀ i, S i → B ≤ i) : Below B a b :=
 ⟨h.os, h.tape, h.output, h.size, fun i hi => h.block i (by omega) (fun hs => by have := hS i hs; omega)⟩
theorem Only.cell {S : Nat → Prop} {a b : World} (h : Only S a b) {p : Addr} (hp : p.block < a.heap.size) (hS : ¬ S p.block) : b.cell? p = a.cell? p := World.cell?_of_block (h.block _ hp hS)
theorem Only.frozen {S : Nat → Prop} {a b : World} (h : Only S a b) {p : Addr} (hp : p.block < a.heap.size) (hS : ¬ S p.block) : b.frozen? p = a.frozen? p := World.frozen?_of_block (h.block _ hp hS)
theorem only_setCells (b o : Nat) (vs : List Value) (w : World) : Only (· = b) w (w.setCells b o vs) := by
 induction vs generalizing o w with
 | nil => exact Only.refl _ _
 | cons v r ih =>
  have h1 : Only (· = b) w (w.setCell ⟨b, o, none⟩ v) := ⟨rfl, rfl, rfl, by simp [World.setCell], fun k _ hk => Below.heap_setCell _ _ _ _ hk⟩
  exact h1.trans (ih (o + 1) _) (fun _ _ h => h)
section
variable {P : Program} {α : Type} {E : Elem P α}
def Room (E : Elem P α) (w : World) (v : Value) (l : List α) : Prop :=
 ∃ b o cap, v = .slice (some ⟨b, o, none⟩) l.length cap ∧ l.length ≤ cap ∧ b < w.heap.size ∧ (∀ j, j < cap * E.n → (w.cell? ⟨b, o + j, none⟩).isSome = true) ∧ (∀ j, j < cap * E.n → w.frozen? ⟨b, o + j, none⟩ = false) ∧
  ∀ j u, (E.flat l)[j]? = some u → w.cell? ⟨b, o + j, none⟩ = some u
def RoomN (E : Elem P α) (w : World) (v : Value) (l : List α) : Prop := (v = .slice none 0 0 ∧ l = []) ∨ Room E w v l
variable {w w' : World} {v : Value} {l : List α}
theorem Room.slice (h : Room E w v l) : SliceOf E w v l := by
 obtain ⟨b, o, cap, rfl, _, hb, _, _, hc⟩ := h
 exact .inr ⟨_, cap, rfl, hb, fun j u hj => by rw [add_plain]; exact hc j u hj⟩
theorem RoomN.slice (h : RoomN E w v l) : SliceOf E w v l := by
 rcases h with ⟨rfl, rfl⟩ | h
 ·exact SliceOf.nil _ _ _
 ·exact h.slice
theorem Room.keep (h : Room E w v l) (hk : ∀ b, v.ownBlock = some b → b < w.heap.size → w'.heap[b]? = w.heap[b]?) (hs : w.heap.size ≤ w'.heap.size) : Room E w' v l := by
 obtain ⟨b, o, cap, rfl, hl, hb, h1, h2, hc⟩ := h
 have hbb := hk b rfl hb
 have e1 : ∀ j, w'.cell? ⟨b, o + j, none⟩ = w.cell? ⟨b, o + j, none⟩ := fun j => World.cell?_of_block hbb
 have e2 : ∀ j, w'.frozen? ⟨b, o + j, none⟩ = w.frozen? ⟨b, o + j, none⟩ := fun j => World.frozen?_of_block hbb
 exact ⟨b, o, cap, rfl, hl, by omega, fun j hj => by rw [e1]; exact h1 j hj, fun j hj => by rw [e2]; exact h2 j hj, fun j u hj => (e1 j).trans (hc j u hj)⟩
theorem RoomN.keep (h : RoomN E w v l) (hk : ∀ b, v.ownBlock = some b → b < w.heap.size → w'.heap[b]? = w.heap[b]?) (hs : w.heap.size ≤ w'.heap.size) : RoomN E w' v l := by
 rcases h with h | h
 ·exact .inl h
 ·exact .inr (h.keep hk hs)
theorem RoomN.only {S : Nat → Prop} (h : RoomN E w v l) (ho : Only S w w') (hS : ∀ b, v.ownBlock = some b → ¬ S b) : RoomN E w' v l := h.keep (fun b hb hlt => ho.block b hlt (hS b hb)) ho.size
theorem RoomN.below (h : RoomN E w v l) (hb : Below w.heap.size w w') : RoomN E w' v l := h.keep (fun b _ hlt => hb.block b hlt) hb.size
theorem RoomN.lt (h : RoomN E w v l) : ∀ b, v.ownBlock = some b → b < w.heap.size := by
 rcases h with ⟨rfl, _⟩ | ⟨b, o, cap, rfl, _, hb, _⟩
 ·intro b hb; simp [Value.ownBlock] at hb
 ·intro c hc
  obtain rfl : b = c := by simpa [Value.ownBlock] using hc
  exact hb
theorem RoomN.len (h : RoomN E w v l) (W : World) : (Builtin.len_ #[E.st] 3 #[v]).run P W = .ok (.int .i64 (l.length : Int)) W := h.slice.len W
theorem RoomN.of_own {base : Nat} (h : Own E base w v l) : RoomN E w v l := by
 obtain ⟨hfl, ⟨rfl, h0⟩ | ⟨g, cap, cur, rfl, hgb, hcur, hle, _, hsz, htk⟩⟩ := h
 ·exact .inl ⟨rfl, List.length_eq_zero_iff.1 h0⟩
 ·refine .inr ⟨g, 0, cap, rfl, hle, heap_lt hcur, fun j hj => ?_, fun j _ => frozen_of_row _ _ _ _ _ hcur, fun j u hj => ?_⟩
  ·rw [cell_of_row _ _ _ _ _ _ hcur, Array.getElem?_eq_getElem (by omega)]; rfl
  ·rw [Nat.zero_add, cell_of_row _ _ _ _ _ _ hcur]
   rw [← htk, List.getElem?_take] at hj
   split at hj
   ·simpa using hj
   ·cases hj
theorem run_append_room (h : RoomN E w v l) (x : Value) (m : List α) (hx : SliceOf E w x m) (h63 : l.length + m.length ≤ 1099511627776 / 8) (hby : E.bytes ≤ 1000) (ty : TypeId) :
  ∃ v' w', (Builtin.append_ #[E.st, E.st] ty #[v, x]).run P w = .ok v' w' ∧ RoomN E w' v' (l ++ m) ∧ RoomN E w' v l ∧ Only (fun b => v.ownBlock = some b) w w' ∧ (∀ b, v'.ownBlock = some b → v.ownBlock = some b ∨ w.heap.size ≤ b) ∧ ∀ b o n cap, v = .slice (some ⟨b, o, none⟩) n cap → v'.ownBlock = some b → v' = .slice (some ⟨b, o, none⟩) (n + m.length) cap := by
 obtain ⟨i, hi, hz, hs, hb⟩ := E.info
 have hmul : (l.length + m.length) * E.bytes ≤ 140737488355328 := Nat.le_trans (Nat.mul_le_mul h63 hby) (by omega)
 have hmax : l.length + m.length ≤ maxLen := by simp only [maxLen]; omega
 have hn := E.pos
 rcases h with ⟨rfl, rfl⟩ | h
 ·obtain ⟨v', w', hr, h2, h3, _, _⟩ := run_append (base := w.heap.size) (ty := ty) (Own.nil E w.heap.size w) x m hx (by simpa using h63) hby (Nat.le_refl _)
  refine ⟨v', w', hr, RoomN.of_own h2, .inl ⟨rfl, rfl⟩, ⟨h3.os, h3.tape, h3.output, h3.size, fun k hk _ => h3.block k hk (by simp [Value.ownBlock])⟩, fun b hb => .inr (h2.block b hb).1, fun b o n cap e => by injection e with e; cases e⟩
 ·have hsl := h.slice
  obtain ⟨b, o, cap, rfl, hlc, hbw, h1, h2, hc⟩ := h
  have hself : RoomN E w (.slice (some ⟨b, o, none⟩) l.length cap) l := .inr ⟨b, o, cap, rfl, hlc, hbw, h1, h2, hc⟩
  obtain ⟨p, c, rfl⟩ := hx.form
  cases p with
  | none =>
   have hm : m = [] := by
    rcases hx with ⟨_, _, _, h⟩ | ⟨p, cap, e, _⟩
    ·exact h
    ·injection e with e; cases e
   subst hm
   refine ⟨_, w, ?_, by simpa using hself, hself, Only.refl _ _, fun b hb => .inl hb, fun b o n cap e _ => by simpa using e⟩
   simp [Builtin.append_, run_underlying E.slice, sizeOf, typeInfo, hi, Builtin.lenOf, Builtin.firstCells, hlc, storeCells]
  | some p =>
   have hcells : ∀ j u, (E.flat m)[j]? = some u → w.cell? (p.add j) = some u := by
    rcases hx with ⟨_, _, _, rfl⟩ | ⟨q, cap, e, _, h⟩
    ·intro j u hj; simp [Elem.flat] at hj
    ·injection e with e
     injection e with e
     subst e
     exact h
   by_cases hfit : l.length + m.length ≤ cap
   ·have hlen := E.flat_length m
    have hll := E.flat_length l
    have hbd : l.length * E.n + m.length * E.n ≤ cap * E.n := by rw [← Nat.add_mul]; exact Nat.mul_le_mul_right _ hfit
    have hr := run_append_room_cells (P := P) w E.st ty E.ty i E.slice hi b o l.length cap p m.length c (E.flat m) (by rw [hs]; exact hlen) hcells (E.flat_one' m) hfit
     (fun j hj => by rw [hs, Nat.add_assoc]; exact h1 _ (by rw [hlen] at hj; omega)) (fun j hj => by rw [hs, Nat.add_assoc]; exact h2 _ (by rw [hlen] at hj; omega))
    rw [hs] at hr
    have hfr : ∀ x, (w.setCells b (o + l.length * E.n) (E.flat m)).frozen? x = w.frozen? x := fun x => World.frozen?_setCells b _ _ w x
    have hin : ∀ j u, (E.flat m)[j]? = some u → (w.setCells b (o + l.length * E.n) (E.flat m)).cell? ⟨b, o + l.length * E.n + j, none⟩ = some u := fun j u hj => by
     obtain ⟨hj', rfl⟩ := List.getElem?_eq_some_iff.1 hj
     exact World.cell?_setCells_in b (E.flat m) (o + l.length * E.n) w (fun k hk => by rw [Nat.add_assoc]; exact h1 _ (by rw [hlen] at hk; omega)) j hj'
    have hout : ∀ j, j < l.length * E.n → (w.setCells b (o + l.length * E.n) (E.flat m)).cell? ⟨b, o + j, none⟩ = w.cell? ⟨b, o + j, none⟩ := fun j hj =>
     World.cell?_setCells_out b _ _ w _ (fun _ _ => .inl (by show o + j < o + l.length * E.n; omega))
    have hsome : ∀ j, j < cap * E.n → ((w.setCells b (o + l.length * E.n) (E.flat m)).cell? ⟨b, o + j, none⟩).isSome = true := fun j hj => by
     by_cases hj1 : j < l.length * E.n
     ·rw [hout j hj1]; exact h1 j hj
     ·by_cases hj2 : j < l.length * E.n + m.length * E.n
      ·have hjl : j - l.length * E.n < (E.flat m).length := by rw [hlen]; omega
       have := hin (j - l.length * E.n) _ (List.getElem?_eq_getElem hjl)
       rw [show o + l.length * E.n + (j - l.length * E.n) = o + j by omega] at this
       rw [this]; rfl
      ·rw [World.cell?_setCells_out b _ _ w _ (fun _ _ => .inr (by show o + l.length * E.n + (E.flat m).length ≤ o + j; rw [hlen]; omega))]
       exact h1 j hj
    have honly := only_setCells b (o + l.length * E.n) (E.flat m) w
    refine ⟨_, _, hr, .inr ⟨b, o, cap, by rw [List.length_append], by rw [List.length_append]; exact hfit, Nat.lt_of_lt_of_le hbw honly.size, hsome, fun j hj => by rw [hfr]; exact h2 j hj, fun j u hj => ?_⟩,
     .inr ⟨b, o, cap, rfl, hlc, Nat.lt_of_lt_of_le hbw honly.size, hsome, fun j hj => by rw [hfr]; exact h2 j hj, fun j u hj => ?_⟩, honly.mono (fun k _ e => by simp [Value.ownBlock, e]), fun k hk => .inl hk, fun b' o' n' cap' e _ => by injection e with e1 e2 e3; injection e1 with e1; injection e1 with e4 e5; subst e2 e3 e4 e5; rfl⟩
    ·rw [E.flat_append] at hj
     by_cases hj1 : j < (E.flat l).length
     ·rw [List.getElem?_append_left hj1] at hj
      rw [hout j (by rw [← hll]; exact hj1)]
      exact hc j u hj
     ·rw [List.getElem?_append_right (by omega)] at hj
      have := hin _ u hj
      rw [hll] at this hj1
      rwa [show o + l.length * E.n + (j - l.length * E.n) = o + j by omega] at this
    ·have hj1 : j < (E.flat l).length := (List.getElem?_eq_some_iff.1 hj).1
     rw [hout j (by rw [← hll]; exact hj1)]
     exact hc j u hj
   ·obtain ⟨v', w', hr, h4, h5⟩ := run_append_arg_grows (P := P) w E.st ty E.ty i E.zero E.n E.bytes E.slice hi hz hs hb E.zsize E.pos ⟨b, o, none⟩ l.length cap (E.flat l) (E.flat_length l) (fun j u hj => by rw [add_plain]; exact hc j u hj)
     p m.length c (E.flat m) (E.flat_length m) hcells (by omega) hmax hmul
    have hown : Own E w.heap.size w' v' (l ++ m) := by
     unfold Own
     rw [List.length_append, E.flat_append]
     exact h4
    have honly : Only (fun _ => False) w w' := ⟨h5.os, h5.tape, h5.output, h5.size, fun k hk _ => h5.block k hk (by simp)⟩
    exact ⟨v', w', hr, RoomN.of_own hown, hself.only honly (fun _ _ h => h), honly.mono (fun _ _ h => h.elim), fun b hb => .inr (hown.block b hb).1, fun b' o' n' cap' e hb' => by
     injection e with e1; injection e1 with e1; injection e1 with e4
     have := (hown.block _ hb').1
     omega⟩
theorem run_storeAt_room (h : Room E w v l) (k : Nat) (a : α) (hk : k < l.length) :
  ∃ p w', (∀ W, (Instr.indexAt E.st v (.int .i64 (k : Int))).run P W = .ok (.pointer (some p)) W) ∧ (Instr.storeAt E.ty (.pointer (some p)) (E.val a)).run P w = .ok () w' ∧ Room E w' v (l.set k a) ∧ Only (fun b => v.ownBlock = some b) w w' := by
 obtain ⟨b, o, cap, rfl, hlc, hbw, h1, h2, hc⟩ := h
 have hn := E.pos
 have hkc : k * E.n + E.n ≤ cap * E.n := by rw [← Nat.succ_mul]; exact Nat.mul_le_mul_right _ (by omega)
 have hlen : (E.val a).cells.toList.length = E.n := by rw [Array.length_toList]; exact E.size a
 have hst := run_storeCells_cells (P := P) b (o + k * E.n) (E.val a).cells.toList 0 w (fun j hj => by rw [Nat.add_zero, Nat.add_assoc]; exact h1 _ (by omega)) (fun j hj => by rw [Nat.add_zero, Nat.add_assoc]; exact h2 _ (by omega)) (E.one a)
 rw [Nat.add_zero] at hst
 have hin : ∀ j u, (E.val a).cells[j]? = some u → (w.setCells b (o + k * E.n) (E.val a).cells.toList).cell? ⟨b, o + k * E.n + j, none⟩ = some u := fun j u hj => by
  have hj0 : (E.val a).cells.toList[j]? = some u := by rw [Array.getElem?_toList]; exact hj
  obtain ⟨hj', rfl⟩ := List.getElem?_eq_some_iff.1 hj0
  exact World.cell?_setCells_in b _ (o + k * E.n) w (fun i hi => by rw [Nat.add_assoc]; exact h1 _ (by omega)) j hj'
 have hout : ∀ j, j < k * E.n ∨ k * E.n + E.n ≤ j → (w.setCells b (o + k * E.n) (E.val a).cells.toList).cell? ⟨b, o + j, none⟩ = w.cell? ⟨b, o + j, none⟩ := fun j hj =>
  World.cell?_setCells_out b _ _ w _ (fun _ _ => by
   show o + j < o + k * E.n ∨ o + k * E.n + (E.val a).cells.toList.length ≤ o + j
   rw [hlen]; omega)
 have honly := only_setCells b (o + k * E.n) (E.val a).cells.toList w
 have hel : P.elem E.st = E.ty := by simp [Program.elem, E.slice]
 refine ⟨⟨b, o + k * E.n, none⟩, _, fun W => ?_, ?_, ⟨b, o, cap, by simp, by simpa using hlc, Nat.lt_of_lt_of_le hbw honly.size, fun j hj => ?_, fun j hj => by rw [World.frozen?_setCells]; exact h2 j hj, fun j u hj => ?_⟩, honly.mono (fun k _ e => by simp [Value.ownBlock, e])⟩
 ·rw [run_indexAt_slice W E.st ⟨b, o, none⟩ l.length cap .i64 (k : Int) (by rw [hel]; exact E.slice), if_pos (by omega), hel, run_sizeOf_elem]
  simp [Result.andThen, add_plain]
 ·have hsz : ∀ W, (sizeOf E.ty).run P W = .ok E.n W := fun W => run_sizeOf_elem W
  have he := E.size a
  simp [Instr.storeAt, Instr.sureAddr, storeVar, hsz, he, hst]
 ·by_cases hj1 : j < k * E.n ∨ k * E.n + E.n ≤ j
  ·rw [hout j hj1]; exact h1 j hj
  ·have hjl : j - k * E.n < (E.val a).cells.size := by rw [E.size]; omega
   have := hin (j - k * E.n) _ (Array.getElem?_eq_getElem hjl)
   rw [show o + k * E.n + (j - k * E.n) = o + j by omega] at this
   rw [this]; rfl
 ·obtain ⟨q, c, i, h3, h4, rfl⟩ := Elem.flat_all E _ j u hj
  have hi : i < E.n := by have := (Array.getElem?_eq_some_iff.1 h4).1; rw [E.size] at this; exact this
  by_cases hq : q = k
  ·subst hq
   rw [List.getElem?_set_self hk] at h3
   obtain rfl := Option.some.inj h3
   have := hin i u h4
   rwa [Nat.add_assoc] at this
  ·rw [List.getElem?_set_ne (Ne.symm hq)] at h3
   have hdis : q * E.n + i < k * E.n ∨ k * E.n + E.n ≤ q * E.n + i := by
    rcases Nat.lt_or_gt_of_ne hq with h | h
    ·have : q * E.n + E.n ≤ k * E.n := by rw [← Nat.succ_mul]; exact Nat.mul_le_mul_right _ h
     omega
    ·have : k * E.n + E.n ≤ q * E.n := by rw [← Nat.succ_mul]; exact Nat.mul_le_mul_right _ h
     omega
   rw [hout _ hdis]
   exact hc _ u (E.flat_get l q c i u h3 h4)
end
end Go.Agg
/-! One cell of a block written. -/
namespace Go.Agg
open Go.RowKit
variable {P : Program}
theorem Blk.set {w : World} {g : Nat} {t : TypeId} {cs : Array Value} (h : Blk w g t cs) (i : Nat) (v : Value) : Blk (w.setCell ⟨g, i, none⟩ v) g t (cs.setIfInBounds i v) := by
 unfold Blk at *
 simp [World.setCell, Array.getElem?_modify, h]
theorem Blk.run_put {w : World} {g : Nat} {t ty : TypeId} {cs : Array Value} (h : Blk w g t cs) (i : Nat) (hi : i < cs.size) (v : Value) (hv : v.cells = #[v]) (h1 : v.oneCell' = true) (hs : (P.info? ty).map (·.size) = some 1) :
  (Instr.storeAt ty (.pointer (some ⟨g, i, none⟩)) v).run P w = .ok () (w.setCell ⟨g, i, none⟩ v) := by
 have hst := run_storeCells_cells (P := P) g i v.cells.toList 0 w (fun j hj => by
  rw [hv] at hj
  obtain rfl : j = 0 := by simpa using hj
  rw [h.cell]
  simp [hi]) (fun j _ => frozen_of_row _ _ _ _ _ h) (by rw [hv]; simpa using h1)
 have hsz : (Go.sizeOf ty).run P w = .ok 1 w := by
  cases hq : P.info? ty with
  | none => simp [hq] at hs
  | some d =>
   have : d.size = 1 := by simpa [hq] using hs
   simp [Go.sizeOf, typeInfo, hq, this]
 rw [hv] at hst
 simp only [Nat.add_zero, World.setCells] at hst
 simp [Instr.storeAt, Instr.sureAddr, storeVar, hsz, hv, hst]
end Go.Agg
/-! The digest that the document tells (chapter 2), as a function: plain Lean, no program in sight. -/
namespace Go.Sha
abbrev W := BitVec 32
structure St where
 (a b c d e f g h : W)
deriving DecidableEq
def rot (x : W) (k : Nat) : W := (x >>> k) ||| (x <<< (32 - k))
def s0 (x : W) : W := rot x 2 ^^^ rot x 13 ^^^ rot x 22
def s1 (x : W) : W := rot x 6 ^^^ rot x 11 ^^^ rot x 25
def t0 (x : W) : W := rot x 7 ^^^ rot x 18 ^^^ (x >>> 3)
def t1 (x : W) : W := rot x 17 ^^^ rot x 19 ^^^ (x >>> 10)
def ch (x y z : W) : W := z ^^^ (x &&& (y ^^^ z))
def maj (x y z : W) : W := (x &&& (y ||| z)) ||| (y &&& z)
theorem ch_eq (x y z : W) : (x &&& y) ||| (~~~x &&& z) = ch x y z := by
 unfold ch; ext i hi; simp; cases x[i] <;> cases y[i] <;> cases z[i] <;> rfl
theorem maj_eq (x y z : W) : ((x &&& y) ||| (x &&& z)) ||| (y &&& z) = maj x y z := by
 unfold maj; ext i hi; simp; cases x[i] <;> cases y[i] <;> cases z[i] <;> rfl
def round (k w : W) (x : St) : St :=
 let p := x.h + s1 x.e + ch x.e x.f x.g + k + w
 ⟨p + (s0 x.a + maj x.a x.b x.c), x.a, x.b, x.c, x.d + p, x.e, x.f, x.g⟩
def ks : List W := [
 0x428a2f98, 0x71374491, 0xb5c0fbcf, 0xe9b5dba5, 0x3956c25b, 0x59f111f1, 0x923f82a4, 0xab1c5ed5,
 0xd807aa98, 0x12835b01, 0x243185be, 0x550c7dc3, 0x72be5d74, 0x80deb1fe, 0x9bdc06a7, 0xc19bf174,
 0xe49b69c1, 0xefbe4786, 0x0fc19dc6, 0x240ca1cc, 0x2de92c6f, 0x4a7484aa, 0x5cb0a9dc, 0x76f988da,
 0x983e5152, 0xa831c66d, 0xb00327c8, 0xbf597fc7, 0xc6e00bf3, 0xd5a79147, 0x06ca6351, 0x14292967,
 0x27b70a85, 0x2e1b2138, 0x4d2c6dfc, 0x53380d13, 0x650a7354, 0x766a0abb, 0x81c2c92e, 0x92722c85,
 0xa2bfe8a1, 0xa81a664b, 0xc24b8b70, 0xc76c51a3, 0xd192e819, 0xd6990624, 0xf40e3585, 0x106aa070,
 0x19a4c116, 0x1e376c08, 0x2748774c, 0x34b0bcb5, 0x391c0cb3, 0x4ed8aa4a, 0x5b9cca4f, 0x682e6ff3,
 0x748f82ee, 0x78a5636f, 0x84c87814, 0x8cc70208, 0x90befffa, 0xa4506ceb, 0xbef9a3f7, 0xc67178f2]
theorem ks_length : ks.length = 64 := rfl
def word (b : List UInt8) (i : Nat) : W := BitVec.ofNat 32 (16777216 * (b.getD i 0).toNat + 65536 * (b.getD (i + 1) 0).toNat + 256 * (b.getD (i + 2) 0).toNat + (b.getD (i + 3) 0).toNat)
def nextW (w : List W) : W := t1 (w.getD (w.length - 2) 0) + w.getD (w.length - 7) 0 + t0 (w.getD (w.length - 15) 0) + w.getD (w.length - 16) 0
def words (b : List UInt8) : Nat → List W
 | 0 => []
 | t + 1 => let w := words b t; w ++ [if t < 16 then word b (4 * t) else nextW w]
theorem words_length (b : List UInt8) (t : Nat) : (words b t).length = t := by
 induction t with
 | zero => rfl
 | succ t ih => simp [words, ih]
def rounds (b : List UInt8) : Nat → St → St
 | 0, x => x
 | t + 1, x => round (ks.getD t 0) ((words b 64).getD t 0) (rounds b t x)
def add (x y : St) : St := ⟨x.a + y.a, x.b + y.b, x.c + y.c, x.d + y.d, x.e + y.e, x.f + y.f, x.g + y.g, x.h + y.h⟩
def block (x : St) (b : List UInt8) : St := add x (rounds b 64 x)
def first : St := ⟨0x6a09e667, 0xbb67ae85, 0x3c6ef372, 0xa54ff53a, 0x510e527f, 0x9b05688c, 0x1f83d9ab, 0x5be0cd19⟩
def blocks (l : List UInt8) : Nat → St → St
 | 0, x => x
 | n + 1, x => block (blocks l n x) ((l.drop (64 * n)).take 64)
def tail (n : Nat) : List UInt8 := (128 : UInt8) :: (List.replicate ((119 - n % 64) % 64) 0 ++ (List.range 8).map fun i => UInt8.ofNat (8 * n / 256 ^ (7 - i)))
def padded (l : List UInt8) : List UInt8 := l ++ tail l.length
theorem tail_length (n : Nat) : (tail n).length = (119 - n % 64) % 64 + 9 := by simp [tail]
theorem padded_mod (l : List UInt8) : (padded l).length % 64 = 0 := by
 simp only [padded, List.length_append, tail_length]; omega
def St.list (x : St) : List W := [x.a, x.b, x.c, x.d, x.e, x.f, x.g, x.h]
def St.byte (x : St) (i : Nat) : UInt8 := UInt8.ofNat ((x.list.getD (i / 4) 0).toNat / 256 ^ (3 - i % 4))
def digest (l : List UInt8) : List UInt8 := (List.range 32).map (blocks (padded l) ((padded l).length / 64) first).byte
def fold (s : List UInt8) : List UInt8 := (List.range 20).map fun i => if i < 12 then s.getD i 0 ^^^ s.getD (i + 20) 0 else s.getD i 0
example : (digest []).take 4 = [0xe3, 0xb0, 0xc4, 0x42] := by decide +kernel
example : (digest [97, 98, 99]).take 4 = [0xba, 0x78, 0x16, 0xbf] := by decide +kernel
end Go.Sha
/-! Words of 32 bits as values: what the operations make of them. -/
namespace Go.Agg
open Go.RowKit Go.Sha
def vW (x : W) : Value := .int .u32 (x.toNat : Int)
theorem ofInt_vW (x : W) : BitVec.ofInt 32 (x.toNat : Int) = x := by
 rw [BitVec.ofInt_natCast, BitVec.ofNat_toNat, BitVec.setWidth_eq]
theorem wrap_u32W (x : W) : IntKind.u32.wrap ((x.toNat : Nat) : Int) = (x.toNat : Int) := by
 have := x.isLt
 simp only [IntKind.wrap, IntKind.signed, IntKind.bits, Bool.false_and, Bool.false_eq_true, if_false]
 omega
section
variable {P : Program} {w : World} {t : TypeId} {x y : W}
theorem run_xorW : (binOp .xor t (vW x) (vW y)).run P w = .ok (vW (x ^^^ y)) w := by
 have h : IntKind.u32.wrap (((BitVec.ofInt 32 (x.toNat : Int) ^^^ BitVec.ofInt 32 (y.toNat : Int)).toNat : Nat) : Int) = ((x ^^^ y).toNat : Int) := by rw [ofInt_vW, ofInt_vW]; exact wrap_u32W _
 simp only [binOp, vW, Op.intBits]
 exact congrArg (fun n => Result.ok (Value.int .u32 n) w) h
theorem run_andW : (binOp .and t (vW x) (vW y)).run P w = .ok (vW (x &&& y)) w := by
 have h : IntKind.u32.wrap (((BitVec.ofInt 32 (x.toNat : Int) &&& BitVec.ofInt 32 (y.toNat : Int)).toNat : Nat) : Int) = ((x &&& y).toNat : Int) := by rw [ofInt_vW, ofInt_vW]; exact wrap_u32W _
 simp only [binOp, vW, Op.intBits]
 exact congrArg (fun n => Result.ok (Value.int .u32 n) w) h
theorem run_orW : (binOp .or t (vW x) (vW y)).run P w = .ok (vW (x ||| y)) w := by
 have h : IntKind.u32.wrap (((BitVec.ofInt 32 (x.toNat : Int) ||| BitVec.ofInt 32 (y.toNat : Int)).toNat : Nat) : Int) = ((x ||| y).toNat : Int) := by rw [ofInt_vW, ofInt_vW]; exact wrap_u32W _
 simp only [binOp, vW, Op.intBits]
 exact congrArg (fun n => Result.ok (Value.int .u32 n) w) h
theorem run_addW : (binOp .add t (vW x) (vW y)).run P w = .ok (vW (x + y)) w := by
 have h : IntKind.u32.wrap ((x.toNat : Int) + (y.toNat : Int)) = ((x + y).toNat : Int) := by
  rw [BitVec.toNat_add]
  simp only [IntKind.wrap, IntKind.signed, IntKind.bits, Bool.false_and, Bool.false_eq_true, if_false]
  omega
 simp only [binOp, vW, Op.intArith]
 exact congrArg (fun n => Result.ok (Value.int .u32 n) w) h
theorem run_shlW (k : IntKind) (n : Nat) (hn : n < 32) : (binOp .shl t (vW x) (.int k (n : Int))).run P w = .ok (vW (x <<< n)) w := by
 have h : IntKind.u32.wrap ((x.toNat : Int) * 2 ^ (min ((n : Int).toNat) 32)) = ((x <<< n).toNat : Int) := by
  rw [BitVec.toNat_shiftLeft, Nat.shiftLeft_eq, show min ((n : Int).toNat) 32 = n by omega]
  simp only [IntKind.wrap, IntKind.signed, IntKind.bits, Bool.false_and, Bool.false_eq_true, if_false]
  have : ((x.toNat : Int) * 2 ^ n) = ((x.toNat * 2 ^ n : Nat) : Int) := by push_cast; rfl
  rw [this]
  omega
 simp only [binOp, vW, Op.shift, if_neg (show ¬ (n : Int) < 0 by omega)]
 exact congrArg (fun n => Result.ok (Value.int .u32 n) w) h
theorem run_shrW (k : IntKind) (n : Nat) (hn : n < 32) : (binOp .shr t (vW x) (.int k (n : Int))).run P w = .ok (vW (x >>> n)) w := by
 have h : ((x.toNat : Int).fdiv (2 ^ (min ((n : Int).toNat) 32))) = ((x >>> n).toNat : Int) := by
  rw [BitVec.toNat_ushiftRight, Nat.shiftRight_eq_div_pow, show min ((n : Int).toNat) 32 = n by omega]
  have : ((2 : Int) ^ n) = ((2 ^ n : Nat) : Int) := by push_cast; rfl
  rw [this, Int.fdiv_eq_ediv_of_nonneg _ (Int.natCast_nonneg _)]
  exact (Int.natCast_ediv _ _).symm
 simp only [binOp, vW, Op.shift, if_neg (show ¬ (n : Int) < 0 by omega)]
 exact congrArg (fun n => Result.ok (Value.int .u32 n) w) h
end
section
variable {P : Program} {o : Oper} {a : Act} {w : World} {t u : TypeId} {p q : Operand} {x y : W}
theorem exec_xorW (ho : o.op = .binOp .xor t p q u) (hx : a.eval p = vW x) (hy : a.eval q = vW y) : (execOp a.eval o).run P w = .ok (.value (vW (x ^^^ y))) w := by
 simp only [execOp, ho, hx, hy]
 simp [eqGuard, run_xorW]
theorem exec_andW (ho : o.op = .binOp .and t p q u) (hx : a.eval p = vW x) (hy : a.eval q = vW y) : (execOp a.eval o).run P w = .ok (.value (vW (x &&& y))) w := by
 simp only [execOp, ho, hx, hy]
 simp [eqGuard, run_andW]
theorem exec_orW (ho : o.op = .binOp .or t p q u) (hx : a.eval p = vW x) (hy : a.eval q = vW y) : (execOp a.eval o).run P w = .ok (.value (vW (x ||| y))) w := by
 simp only [execOp, ho, hx, hy]
 simp [eqGuard, run_orW]
theorem exec_addW (ho : o.op = .binOp .add t p q u) (hx : a.eval p = vW x) (hy : a.eval q = vW y) : (execOp a.eval o).run P w = .ok (.value (vW (x + y))) w := by
 simp only [execOp, ho, hx, hy]
 simp [eqGuard, run_addW]
theorem exec_shlW {k : IntKind} (n : Nat) (hn : n < 32) (ho : o.op = .binOp .shl t p q u) (hx : a.eval p = vW x) (hy : a.eval q = .int k (n : Int)) : (execOp a.eval o).run P w = .ok (.value (vW (x <<< n))) w := by
 simp only [execOp, ho, hx, hy]
 simp [eqGuard, run_shlW k n hn]
theorem exec_shrW {k : IntKind} (n : Nat) (hn : n < 32) (ho : o.op = .binOp .shr t p q u) (hx : a.eval p = vW x) (hy : a.eval q = .int k (n : Int)) : (execOp a.eval o).run P w = .ok (.value (vW (x >>> n))) w := by
 simp only [execOp, ho, hx, hy]
 simp [eqGuard, run_shrW k n hn]
end
end Go.Agg
/-! The digest, taken piece by piece: the plain law. -/
namespace Go.Sha
theorem blocks_append (l b : List UInt8) : ∀ (k : Nat) (x : St), 64 * k ≤ l.length → blocks (l ++ b) k x = blocks l k x
 | 0, _, _ => rfl
 | k + 1, x, h => by
  rw [blocks, blocks, blocks_append l b k x (by omega)]
  congr 1
  rw [List.drop_append_of_le_length (by omega), List.take_append_of_le_length (by rw [List.length_drop]; omega)]
def sp (l : List UInt8) : St := blocks l (l.length / 64) first
def rst (l : List UInt8) : List UInt8 := l.drop (64 * (l.length / 64))
theorem rst_length (l : List UInt8) : (rst l).length = l.length % 64 := by rw [rst, List.length_drop]; omega
theorem sp_short {l b : List UInt8} (h : l.length % 64 + b.length < 64) : sp (l ++ b) = sp l ∧ rst (l ++ b) = rst l ++ b := by
 have e : (l ++ b).length / 64 = l.length / 64 := by rw [List.length_append]; omega
 refine ⟨by rw [sp, sp, e, blocks_append l b _ _ (by omega)], ?_⟩
 rw [rst, rst, e, List.drop_append_of_le_length (by omega)]
theorem sp_full {l b : List UInt8} (h : l.length % 64 + b.length = 64) : sp (l ++ b) = block (sp l) (rst l ++ b) ∧ rst (l ++ b) = [] := by
 have e : (l ++ b).length / 64 = l.length / 64 + 1 := by rw [List.length_append]; omega
 refine ⟨?_, ?_⟩
 ·rw [sp, e, blocks, blocks_append l b _ _ (by omega), List.drop_append_of_le_length (by omega), List.take_of_length_le (by rw [List.length_append, List.length_drop]; omega)]
  rfl
 ·rw [rst, e]
  exact List.drop_eq_nil_of_le (by rw [List.length_append]; omega)
theorem digest_sp (l : List UInt8) : digest l = (List.range 32).map (sp (padded l)).byte := rfl
theorem shaByte_at (x : St) (i : Nat) : x.byte i = UInt8.ofNat ((x.list.getD (i / 4) 0).toNat / 256 ^ (3 - i % 4)) := rfl
def encL (n : Nat) : List UInt8 := if h : 128 ≤ n then UInt8.ofNat (n % 128 + 128) :: encL (n / 128) else [UInt8.ofNat n]
end Go.Sha
/-! Words out of bytes, turned and mixed; a digest folded: as the code has it. -/
namespace Go.Sha
def mixP (x : W) (ks : List Nat) : W := ks.foldl (fun o k => o ^^^ rot x k) 0
theorem mix_s0 (x : W) : mixP x [2, 13, 22] = s0 x := by simp [mixP, s0]
theorem mix_s1 (x : W) : mixP x [6, 11, 25] = s1 x := by simp [mixP, s1]
theorem mix_t0 (x : W) : mixP x [7, 18] ^^^ (x >>> 3) = t0 x := by simp [mixP, t0]
theorem mix_t1 (x : W) : mixP x [17, 19] ^^^ (x >>> 10) = t1 x := by simp [mixP, t1]
theorem mixP_snoc (x : W) (ks : List Nat) (k : Nat) : mixP x (ks ++ [k]) = mixP x ks ^^^ rot x k := by simp [mixP]
def wB (c : UInt8) : W := BitVec.ofNat 32 c.toNat
theorem wB_toNat (c : UInt8) : (wB c).toNat = c.toNat := by
 have := c.toNat_lt
 simp only [wB, BitVec.toNat_ofNat]
 omega
theorem shl_toNat (c : UInt8) (k : Nat) (hk : k ≤ 24) : (wB c <<< k).toNat = c.toNat * 2 ^ k := by
 have h := c.toNat_lt
 rw [BitVec.toNat_shiftLeft, wB_toNat, Nat.shiftLeft_eq]
 refine Nat.mod_eq_of_lt (Nat.lt_of_lt_of_le (Nat.mul_lt_mul_of_pos_right h (Nat.pow_pos (by omega))) ?_)
 calc 2 ^ 8 * 2 ^ k = 2 ^ (8 + k) := by rw [Nat.pow_add]
  _ ≤ 2 ^ 32 := Nat.pow_le_pow_right (by omega) (by omega)
theorem word_or (c0 c1 c2 c3 : UInt8) : (((wB c0 <<< 24) ||| (wB c1 <<< 16)) ||| (wB c2 <<< 8)) ||| wB c3 = BitVec.ofNat 32 (16777216 * c0.toNat + 65536 * c1.toNat + 256 * c2.toNat + c3.toNat) := by
 have h0 := c0.toNat_lt
 have h1 := c1.toNat_lt
 have h2 := c2.toNat_lt
 have h3 := c3.toNat_lt
 apply BitVec.eq_of_toNat_eq
 rw [BitVec.toNat_or, BitVec.toNat_or, BitVec.toNat_or, shl_toNat _ _ (by omega), shl_toNat _ _ (by omega), shl_toNat _ _ (by omega), wB_toNat, BitVec.toNat_ofNat]
 generalize c0.toNat = a at *
 generalize c1.toNat = b at *
 generalize c2.toNat = c at *
 generalize c3.toNat = d at *
 simp only [Nat.reducePow] at *
 have e1 : a * 16777216 ||| b * 65536 = a * 16777216 + b * 65536 := by
  have h := Nat.shiftLeft_add_eq_or_of_lt (i := 24) (b := b * 65536) (by simp only [Nat.reducePow]; omega) a
  simp only [Nat.shiftLeft_eq, Nat.reducePow] at h
  exact h.symm
 have e2 : (a * 16777216 + b * 65536) ||| c * 256 = a * 16777216 + b * 65536 + c * 256 := by
  have h := Nat.shiftLeft_add_eq_or_of_lt (i := 16) (b := c * 256) (by simp only [Nat.reducePow]; omega) (a * 256 + b)
  have e : (a * 256 + b) * 65536 = a * 16777216 + b * 65536 := by omega
  simp only [Nat.shiftLeft_eq, Nat.reducePow, e] at h
  exact h.symm
 have e3 : (a * 16777216 + b * 65536 + c * 256) ||| d = a * 16777216 + b * 65536 + c * 256 + d := by
  have h := Nat.shiftLeft_add_eq_or_of_lt (i := 8) (b := d) (by simp only [Nat.reducePow]; omega) (a * 65536 + b * 256 + c)
  have e : (a * 65536 + b * 256 + c) * 256 = a * 16777216 + b * 65536 + c * 256 := by omega
  simp only [Nat.shiftLeft_eq, Nat.reducePow, e] at h
  exact h.symm
 rw [e1, e2, e3]
 omega
def foldG (s : List UInt8) : Nat → List UInt8
 | 0 => List.replicate 20 0
 | k + 1 => (foldG s k).set (k % 20) ((foldG s k).getD (k % 20) 0 ^^^ s.getD k 0)
theorem foldG_length (s : List UInt8) (k : Nat) : (foldG s k).length = 20 := by
 induction k with
 | zero => rfl
 | succ k ih => simp [foldG, ih]
theorem digest_length (l : List UInt8) : (digest l).length = 32 := by simp [digest]
def sumF (l : List UInt8) : List UInt8 := foldG (digest l) 32
theorem sumF_length (l : List UInt8) : (sumF l).length = 20 := foldG_length _ _
end Go.Sha
/-! Operations on natural numbers as ints, addresses of elements of an array, a byte made a word. -/
namespace Go.Agg
open Go.RowKit Go.Sha
section
variable {P : Program} {o : Oper} {a : Act} {w : World} {t u : TypeId} {x y : Operand} {m n : Nat}
theorem wrap_i64N (n : Nat) (h : n < 9223372036854775808) : IntKind.i64.wrap (n : Int) = (n : Int) := by rw [IntKind.wrap_i64]; omega
theorem exec_addI (h : m + n < 9223372036854775808) (ho : o.op = .binOp .add t x y u) (hx : a.eval x = .int .i64 (m : Int)) (hy : a.eval y = .int .i64 (n : Int)) : (execOp a.eval o).run P w = .ok (.value (.int .i64 ((m + n : Nat) : Int))) w := by
 have hc : (binOp .add t (.int .i64 (m : Int)) (.int .i64 (n : Int))).run P w = .ok (.int .i64 ((m + n : Nat) : Int)) w := by
  simp only [binOp, Op.intArith]
  refine congrArg (fun n => Result.ok (Value.int .i64 n) w) ?_
  rw [← Int.natCast_add]
  exact wrap_i64N _ h
 simp only [execOp, ho, hx, hy]
 simp [eqGuard, hc]
theorem exec_subI (h : n ≤ m) (hm : m < 9223372036854775808) (ho : o.op = .binOp .sub t x y u) (hx : a.eval x = .int .i64 (m : Int)) (hy : a.eval y = .int .i64 (n : Int)) : (execOp a.eval o).run P w = .ok (.value (.int .i64 ((m - n : Nat) : Int))) w := by
 have hc : (binOp .sub t (.int .i64 (m : Int)) (.int .i64 (n : Int))).run P w = .ok (.int .i64 ((m - n : Nat) : Int)) w := by
  simp only [binOp, Op.intArith]
  refine congrArg (fun n => Result.ok (Value.int .i64 n) w) ?_
  rw [← Int.natCast_sub h]
  exact wrap_i64N _ (by omega)
 simp only [execOp, ho, hx, hy]
 simp [eqGuard, hc]
theorem exec_mulI (h : m * n < 9223372036854775808) (ho : o.op = .binOp .mul t x y u) (hx : a.eval x = .int .i64 (m : Int)) (hy : a.eval y = .int .i64 (n : Int)) : (execOp a.eval o).run P w = .ok (.value (.int .i64 ((m * n : Nat) : Int))) w := by
 have hc : (binOp .mul t (.int .i64 (m : Int)) (.int .i64 (n : Int))).run P w = .ok (.int .i64 ((m * n : Nat) : Int)) w := by
  simp only [binOp, Op.intArith]
  refine congrArg (fun n => Result.ok (Value.int .i64 n) w) ?_
  rw [← Int.natCast_mul]
  exact wrap_i64N _ h
 simp only [execOp, ho, hx, hy]
 simp [eqGuard, hc]
theorem exec_idx {vx vy v : Value} (ho : o.op = .indexAddr t x y) (hx : a.eval x = vx) (hy : a.eval y = vy) (hr : (Instr.indexAt t vx vy).run P w = .ok v w) : (execOp a.eval o).run P w = .ok (.value v) w := by
 simp [execOp, ho, hx, hy, hr]
theorem run_idxArr {e : TypeId} {k : Nat} (ht : P.underlying t = some (.array k e)) (hs : (P.info? e).map (·.size) = some 1) (g b i : Nat) (h : i < k) : (Instr.indexAt t (.pointer (some ⟨g, b, none⟩)) (.int .i64 (i : Int))).run P w = .ok (.pointer (some ⟨g, b + i, none⟩)) w := by
 have hl : P.arrayLen t = k := by simp [Program.arrayLen, ht]
 have he : P.elem t = e := by simp [Program.elem, ht]
 have h0 : (0 : Int) ≤ (i : Int) := by omega
 have h1 : (i : Int) < (k : Int) := by omega
 cases hq : P.info? e with
 | none => simp [hq] at hs
 | some j =>
  have hj : j.size = 1 := by simpa [hq] using hs
  rw [run_indexAt_array w t _ _ _ (by rw [hl, he]; exact ht)]
  rw [hl, he]
  simp [h0, h1, sizeOf, typeInfo, hq, hj]
  first | rfl | simp [Addr.add]
end
end Go.Agg
