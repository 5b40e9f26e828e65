/- resolve.Resolved, resolve.Input: cells, elements, whether one can be. (Several texts in one.) -/
import Derived.Test.YtdebbmembkbniaaGreatTAA
import Derived.Great.BuildSlice
import Derived.Maps.AppendAt
import Derived.Deep.AppendLies
import Derived.Deep.Slices
import Derived.Laws.MakeOwn
import Derived.Lib.Bytealg
import Derived.Lib.BytesEntry
/-! Slices of whatever elements, over any program: what they hold, one of them, append, make. -/
namespace Go.Agg
open Go.RowKit
structure Elem (P : Program) (α : Type) where
 ty : TypeId
 st : TypeId
 n : Nat
 bytes : Nat
 val : α → Value
 zero : Value
 pos : 0 < n
 small : n ≤ 1000
 size : ∀ a, (val a).cells.size = n
 one : ∀ a, ∀ v ∈ (val a).cells.toList, v.oneCell' = true
 zsize : zero.cells.size = n
 slice : P.underlying st = some (.slice ty)
 info : ∃ i, P.info? ty = some i ∧ i.zero = some zero ∧ i.size = n ∧ i.bytes = bytes
 load : ∀ (w : World) (p : Addr) (a : α), p.block < w.heap.size → (∀ j v, (val a).cells[j]? = some v → w.cell? (p.add j) = some v) → LoadsL P w ty (some p) (val a)
section
variable {P : Program} {α : Type} (E : Elem P α)
def Elem.cs (a : α) : List Value := (E.val a).cells.toList
theorem Elem.cs_length (a : α) : (E.cs a).length = E.n := by rw [Elem.cs, Array.length_toList]; exact E.size a
def Elem.flat (l : List α) : List Value := l.flatMap E.cs
theorem Elem.flat_length (l : List α) : (E.flat l).length = l.length * E.n := by
 induction l with
 | nil => simp [Elem.flat]
 | cons a l ih => simp only [Elem.flat, List.flatMap_cons, List.length_append, E.cs_length, List.length_cons, Nat.succ_mul] at ih ⊢; omega
theorem Elem.flat_append (a b : List α) : E.flat (a ++ b) = E.flat a ++ E.flat b := by simp [Elem.flat]
theorem Elem.flat_one (a : α) : E.flat [a] = E.cs a := by simp [Elem.flat]
theorem Elem.flat_get : ∀ (l : List α) (k : Nat) (a : α) (i : Nat) (v : Value), l[k]? = some a → (E.val a).cells[i]? = some v → (E.flat l)[k * E.n + i]? = some v
 | [], k, a, i, v, h, _ => by simp at h
 | b :: l, 0, a, i, v, h, hv => by
  obtain rfl : b = a := by simpa using h
  have hlt : i < (E.cs b).length := by rw [E.cs_length]; have := (Array.getElem?_eq_some_iff.1 hv).1; rw [E.size b] at this; omega
  rw [Elem.flat, List.flatMap_cons, Nat.zero_mul, Nat.zero_add, List.getElem?_append_left hlt]
  simpa [Elem.cs] using hv
 | b :: l, k + 1, a, i, v, h, hv => by
  have ih := Elem.flat_get l k a i v (by simpa using h) hv
  rw [Elem.flat, List.flatMap_cons, List.getElem?_append_right (by rw [E.cs_length, Nat.succ_mul]; omega), E.cs_length, show (k + 1) * E.n + i - E.n = k * E.n + i by rw [Nat.succ_mul]; omega]
  exact ih
theorem Elem.flat_all : ∀ (l : List α) (j : Nat) (u : Value), (E.flat l)[j]? = some u → ∃ k a i, l[k]? = some a ∧ (E.val a).cells[i]? = some u ∧ j = k * E.n + i
 | [], j, u, h => by simp [Elem.flat] at h
 | a :: l, j, u, h => by
  rw [Elem.flat, List.flatMap_cons] at h
  by_cases hj : j < E.n
  ·rw [List.getElem?_append_left (by rw [E.cs_length]; exact hj)] at h
   exact ⟨0, a, j, rfl, by simpa [Elem.cs] using h, by simp⟩
  ·rw [List.getElem?_append_right (by rw [E.cs_length]; omega), E.cs_length] at h
   obtain ⟨k, b, i, h1, h2, h3⟩ := Elem.flat_all l (j - E.n) u h
   exact ⟨k + 1, b, i, by simpa using h1, h2, by rw [Nat.succ_mul]; omega⟩
theorem Elem.flat_one' (l : List α) : ∀ u ∈ E.flat l, u.oneCell' = true := by
 intro u hu
 obtain ⟨a, _, h⟩ := List.mem_flatMap.1 hu
 exact E.one a u h
def SliceOf (w : World) (v : Value) (l : List α) : Prop :=
 (∃ p c, v = .slice p 0 c ∧ l = []) ∨ ∃ p cap, v = .slice (some p) l.length cap ∧ p.block < w.heap.size ∧ ∀ j u, (E.flat l)[j]? = some u → w.cell? (p.add j) = some u
variable {E} {w w' : World} {v : Value} {l : List α}
theorem SliceOf.nil (w : World) (p : Option Addr) (c : Nat) : SliceOf E w (.slice p 0 c) [] := .inl ⟨p, c, rfl, rfl⟩
theorem SliceOf.belowAt {B : Nat} (h : SliceOf E w v l) (hb : Below B w w') (hp : ∀ p n c, v = .slice (some p) n c → p.block < B) : SliceOf E w' v l := by
 rcases h with h | ⟨p, cap, rfl, hp', h⟩
 ·exact .inl h
 ·have := hp p _ _ rfl
  exact .inr ⟨p, cap, rfl, Nat.lt_of_lt_of_le hp' hb.size, fun j u hj => (hb.cell (p := p.add j) (by rw [add_block]; exact this)).trans (h j u hj)⟩
theorem SliceOf.below (h : SliceOf E w v l) (hb : Below w.heap.size w w') : SliceOf E w' v l := by
 rcases h with h | ⟨p, cap, rfl, hp, h⟩
 ·exact .inl h
 ·exact .inr ⟨p, cap, rfl, Nat.lt_of_lt_of_le hp hb.size, fun j u hj => (hb.cell (p := p.add j) (by rw [add_block]; exact hp)).trans (h j u hj)⟩
theorem SliceOf.len (h : SliceOf E w v l) (W : World) : (Builtin.len_ #[E.st] 3 #[v]).run P W = .ok (.int .i64 (l.length : Int)) W := by
 rcases h with ⟨a, c, rfl, rfl⟩ | ⟨p, cap, rfl, _, _⟩ <;> simp [Builtin.len_, run_underlying E.slice, goInt]
theorem SliceOf.form (h : SliceOf E w v l) : ∃ p c, v = .slice p l.length c := by
 rcases h with ⟨a, c, rfl, rfl⟩ | ⟨p, cap, rfl, _, _⟩
 ·exact ⟨a, c, rfl⟩
 ·exact ⟨_, cap, rfl⟩
theorem run_sizeOf_elem (W : World) : (Go.sizeOf E.ty).run P W = .ok E.n W := by
 obtain ⟨i, hi, _, hs, _⟩ := E.info
 simp [Go.sizeOf, typeInfo, hi, hs]
theorem SliceOf.at_ (h : SliceOf E w v l) (k : Nat) (a : α) (hk : l[k]? = some a) :
  ∃ p : Addr, (∀ W, (Instr.indexAt E.st v (.int .i64 (k : Int))).run P W = .ok (.pointer (some p)) W) ∧ p.block < w.heap.size ∧ (∀ j u, (E.val a).cells[j]? = some u → w.cell? (p.add j) = some u) ∧ LoadsL P w E.ty (some p) (E.val a) := by
 have hlt := (List.getElem?_eq_some_iff.1 hk).1
 rcases h with ⟨p, c, rfl, rfl⟩ | ⟨p, cap, rfl, hp, h⟩
 ·simp at hlt
 ·have hc : ∀ j u, (E.val a).cells[j]? = some u → w.cell? ((p.add (k * E.n)).add j) = some u := fun j u hj => by
   rw [add_add]
   exact h _ _ (E.flat_get l k a j u hk hj)
  refine ⟨p.add (k * E.n), fun W => ?_, by rw [add_block]; exact hp, hc, E.load w _ a (by rw [add_block]; exact hp) hc⟩
  have hel : P.elem E.st = E.ty := by simp [Program.elem, E.slice]
  rw [run_indexAt_slice W E.st p l.length cap .i64 (k : Int) (by rw [hel]; exact E.slice), if_pos (by omega), hel, run_sizeOf_elem]
  simp [Result.andThen]
def Own (E : Elem P α) (base : Nat) (w : World) (v : Value) (l : List α) : Prop := w.ownsRow base E.ty E.n v l.length (E.flat l)
variable {base : Nat}
theorem Own.nil (E : Elem P α) (base : Nat) (w : World) : Own E base w (.slice none 0 0) [] := ⟨by simp [Elem.flat], .inl ⟨rfl, rfl⟩⟩
theorem Own.slice (h : Own E base w v l) : SliceOf E w v l := by
 obtain ⟨_, ⟨rfl, h0⟩ | ⟨g, cap, cur, rfl, hgb, hcur, hle, _, _, htk⟩⟩ := h
 ·exact .inl ⟨_, _, rfl, List.length_eq_zero_iff.1 h0⟩
 ·refine .inr ⟨_, cap, rfl, heap_lt hcur, fun j u hj => ?_⟩
  rw [add_plain, Nat.zero_add, cell_of_row _ _ _ _ _ _ hcur]
  rw [← htk, List.getElem?_take] at hj
  split at hj
  ·simpa using hj
  ·cases hj
theorem Own.keep (h : Own E base w v l) (hk : ∀ (g : Nat) (cur : Array Value) (t : TypeId) (fr : Nat × Nat), base ≤ g → w.heap[g]? = some (Obj.cells cur t fr) → w'.heap[g]? = some (Obj.cells cur t fr)) : Own E base w' v l := by
 obtain ⟨h1, h2⟩ := h
 refine ⟨h1, ?_⟩
 rcases h2 with h2 | ⟨g, cap, cur, e1, e2, e3, e4⟩
 ·exact .inl h2
 ·exact .inr ⟨g, cap, cur, e1, e2, hk _ _ _ _ e2 e3, e4⟩
theorem Own.below (h : Own E base w v l) (hb : Below w.heap.size w w') : Own E base w' v l := h.keep fun _ _ _ _ _ hg => keep' hb hg
theorem Own.lower {b' : Nat} (h : Own E base w v l) (hb : b' ≤ base) : Own E b' w v l := by
 obtain ⟨h1, h2 | ⟨g, cap, cur, e1, e2, e3, e4⟩⟩ := h
 ·exact ⟨h1, .inl h2⟩
 ·exact ⟨h1, .inr ⟨g, cap, cur, e1, Nat.le_trans hb e2, e3, e4⟩⟩
theorem Own.block (h : Own E base w v l) : ∀ k, v.ownBlock = some k → base ≤ k ∧ ∃ cur, w.heap[k]? = some (.cells cur E.ty (0, 0)) := by
 obtain ⟨_, ⟨rfl, h0⟩ | ⟨g, cap, cur, rfl, hg, hc, _⟩⟩ := h
 ·intro k hk; simp [Value.ownBlock] at hk
 ·intro k hk
  obtain rfl : g = k := by simpa [Value.ownBlock] using hk
  exact ⟨hg, cur, hc⟩
def lenOf : Value → Nat | .slice _ n _ => n | _ => 0
structure Pushed (E : Elem P α) (base : Nat) (w w' : World) (v : Value) : Prop where
 below : ∀ B, B ≤ base → B ≤ w.heap.size → Below B w w'
 other : ∀ (g : Nat), g < w.heap.size → some g ≠ v.ownBlock → w'.heap[g]? = w.heap[g]?
 blk : ∀ (g : Nat) (t : TypeId) (cs : Array Value) (fr : Nat × Nat), t ≠ E.ty → w.heap[g]? = some (Obj.cells cs t fr) → w'.heap[g]? = some (Obj.cells cs t fr)
 map : ∀ (g : Nat) (es : Array MapEntry) (c : Nat), w.heap[g]? = some (Obj.map es c) → w'.heap[g]? = some (Obj.map es c)
 size : w.heap.size ≤ w'.heap.size
theorem pushed_of {w w' : World} {v : Value} {l : List α} (h : Own E base w v l) (hg : w.grownBy w' v.ownBlock) : Pushed E base w w' v where
 below := fun B hB hs => (Below.refl B w).grown hg hs fun k hk => Nat.le_trans hB (h.block k hk).1
 other := fun g hlt hne => hg.block g hlt hne
 blk := fun g t cs fr hne hb => (hg.block g (heap_lt hb) (fun e => by
  obtain ⟨_, cur, hc⟩ := h.block g e.symm
  rw [hb] at hc
  injection hc with hc
  injection hc with _ ht
  exact hne ht)).trans hb
 map := fun g es c hb => (hg.block g (heap_lt hb) (fun e => by
  obtain ⟨_, cur, hc⟩ := h.block g e.symm
  rw [hb] at hc
  injection hc with hc
  cases hc)).trans hb
 size := hg.size
theorem run_append (hown : Own E base w v l) (x : Value) (m : List α) (hx : SliceOf E w x m) (h63 : l.length + m.length ≤ 1099511627776 / 8) (hby : E.bytes ≤ 1000) (hbase : base ≤ w.heap.size) (ty : TypeId) :
  ∃ v' w', (Builtin.append_ #[E.st, E.st] ty #[v, x]).run P w = .ok v' w' ∧ Own E base w' v' (l ++ m) ∧ w.grownBy w' v.ownBlock ∧ (v'.ownBlock = v.ownBlock ∨ v'.ownBlock = some w.heap.size) ∧ (v' = .slice none 0 0 ↔ v = .slice none 0 0 ∧ (m = [] )) := by
 obtain ⟨i, hi, hz, hs, hb⟩ := E.info
 have hmul : (l.length + m.length) * E.bytes ≤ 140737488355328 := Nat.le_trans (Nat.mul_le_mul h63 hby) (by omega)
 have hmax : l.length + m.length ≤ maxLen := by simp only [maxLen]; omega
 obtain ⟨p, c, rfl⟩ := hx.form
 cases p with
 | none =>
  have hm : m = [] := by
   rcases hx with ⟨_, _, _, h⟩ | ⟨p, cap, e, _⟩
   ·exact h
   ·injection e with e; cases e
  subst hm
  refine ⟨v, w, ?_, by simpa using hown, ⟨rfl, rfl, rfl, Nat.le_refl _, fun _ _ _ => rfl⟩, .inl rfl, by simp⟩
  obtain ⟨_, ⟨rfl, _⟩ | ⟨g, cap, cur, rfl, _, _, hnc, _⟩⟩ := hown
  ·simp [Builtin.append_, run_underlying E.slice, sizeOf, typeInfo, hi, Builtin.lenOf, Builtin.firstCells]
  ·simp [Builtin.append_, run_underlying E.slice, sizeOf, typeInfo, hi, Builtin.lenOf, Builtin.firstCells, hnc, storeCells]
 | some p =>
  have hcells : ∀ j u, (E.flat m)[j]? = some u → w.cell? (p.add j) = some u := by
   rcases hx with ⟨_, _, _, rfl⟩ | ⟨q, cap, e, _, h⟩
   ·intro j u hj; simp [Elem.flat] at hj
   ·injection e with e
    injection e with e
    subst e
    exact h
  obtain ⟨v', w', hrun, h2, h3, h4, h5⟩ := run_append_own_at (P := P) w base E.st ty E.ty i E.zero E.n E.bytes E.slice hi hz hs hb E.zsize E.pos v l.length (E.flat l) hown p m.length c (E.flat m) (E.flat_length m) hcells (E.flat_one' m) hmax hmul hbase
  refine ⟨v', w', hrun, ?_, h3, h5, ?_⟩
  ·unfold Own
   rw [List.length_append, E.flat_append]
   exact h2
  ·rw [h4, List.length_eq_zero_iff]
theorem run_slice_one (a : α) (w : World) : (Instr.buildSlice E.st 1 #[(0, E.val a)]).run P w = .ok (.slice (some ⟨w.heap.size, 0, none⟩) 1 1) (w.alloc (.cells (E.val a).cells E.ty)) := by
 obtain ⟨i, hi, hz, hs, hb⟩ := E.info
 have hpos := E.pos
 have hsm := E.small
 refine run_buildSlice w E.st E.ty 1 _ (E.val a).cells i E.zero E.slice hi hz (by omega) (by omega) ?_
 rw [hs]
 show Instr.fill _ _ [(0, E.val a)] = _
 rw [fill_cons (off := 0) (size := E.n) (by simp) (E.size a) (by simp), fill_nil]
 congr 1
 apply Array.ext'
 have := E.size a
 simp [splice, this]
theorem slice_of_block {g : Nat} {a : α} (h : Blk w g E.ty (E.val a).cells) : SliceOf E w (.slice (some ⟨g, 0, none⟩) 1 1) [a] :=
 .inr ⟨_, 1, rfl, h.lt, fun j u hj => by rw [E.flat_one, Elem.cs] at hj; rw [add_plain, Nat.zero_add, h.cell]; simpa using hj⟩
section
variable {ops : Array Oper} {rest : List Oper} {o o2 : Oper} {a : Act} {Q : Exit → Act → World → Prop}
theorem wpList_push (hg : o.guard = none) (hg2 : o2.guard = none) (d : Tmp) (hd : o.dst = some d) (y : Operand) (ho : o.op = .buildSlice E.st 1 #[(0, y)]) (s : Operand)
  (ho2 : o2.op = .call { callee := .builtin .append, args := #[s, .tmp d], argTypes := #[E.st, E.st] }) (x : α) (hy : a.eval y = E.val x) (hs : ∀ p, (a.put o.dst p).eval s = v) (hsz : d < a.tmps.size)
  (hown : Own E base w v l) (h63 : l.length + 1 ≤ 1099511627776 / 8) (hby : E.bytes ≤ 1000) (hbase : base ≤ w.heap.size)
  (h : ∀ u v' w', Own E base w' v' (l ++ [x]) → Pushed E base w w' v → wpList P ops Q rest ((a.put o.dst u).put o2.dst v') w') : wpList P ops Q (o :: o2 :: rest) a w := by
 refine wpList_val hg (v := .slice (some ⟨w.heap.size, 0, none⟩) 1 1) (w' := w.alloc (.cells (E.val x).cells E.ty)) (by simp [execOp, ho, hy, run_slice_one]) ?_
 have hb1 : Below w.heap.size w (w.alloc (.cells (E.val x).cells E.ty)) := (Below.refl _ _).alloc (Nat.le_refl _) _
 have hown1 := hown.below hb1
 obtain ⟨v', w', hrun, h2, h3, _, _⟩ := run_append (ty := o2.type) hown1 _ [x] (slice_of_block (Blk.new w E.ty (E.val x).cells)) (by simpa using h63) hby (Nat.le_trans hbase hb1.size)
 have hp := pushed_of hown1 h3
 have hpu : Pushed E base w w' v := {
  below := fun B hB hs => (hb1.mono hs).trans (hp.below B hB (Nat.le_trans hs hb1.size))
  other := fun g hlt hne => (hp.other g (Nat.lt_of_lt_of_le hlt hb1.size) hne).trans (hb1.block g hlt)
  blk := fun g t cs fr hne hb => hp.blk g t cs fr hne (keep' hb1 hb)
  map := fun g es c hb => hp.map g es c (keep' hb1 hb)
  size := Nat.le_trans hb1.size hp.size }
 refine wpList_val hg2 (v := v') (w' := w') ?_ (h _ v' w' h2 hpu)
 have e2 : (a.put o.dst (.slice (some ⟨w.heap.size, 0, none⟩) 1 1)).eval (.tmp d) = .slice (some ⟨w.heap.size, 0, none⟩) 1 1 := by rw [hd]; simp [Act.put, Act.eval, hsz]
 simp [execOp, ho2, resolve, invoke, builtin, hs, e2, hrun]
theorem wpList_appendS (hg : o.guard = none) (s x : Operand) (ho : o.op = .call { callee := .builtin .append, args := #[s, x], argTypes := #[E.st, E.st] }) (vx : Value) (hs : a.eval s = v) (hx : a.eval x = vx) (m : List α)
  (hown : Own E base w v l) (hm : SliceOf E w vx m) (h63 : l.length + m.length ≤ 1099511627776 / 8) (hby : E.bytes ≤ 1000) (hbase : base ≤ w.heap.size)
  (h : ∀ v' w', Own E base w' v' (l ++ m) → Pushed E base w w' v → (v' = .slice none 0 0 ↔ v = .slice none 0 0 ∧ m = []) → wpList P ops Q rest (a.put o.dst v') w') : wpList P ops Q (o :: rest) a w := by
 obtain ⟨v', w', hrun, h2, h3, _, h5⟩ := run_append (ty := o.type) hown _ m hm h63 hby hbase
 refine wpList_val hg (v := v') (w' := w') ?_ (h v' w' h2 (pushed_of hown h3) h5)
 simp [execOp, ho, resolve, invoke, builtin, hs, hx, hrun]
theorem wpList_slice0 (E : Elem P α) (hg : o.guard = none) (ho : o.op = .buildSlice E.st 0 #[]) (hbase : base ≤ w.heap.size)
  (h : ∀ v' w', Own E base w' v' [] → Below w.heap.size w w' → v' ≠ .slice none 0 0 → wpList P ops Q rest (a.put o.dst v') w') : wpList P ops Q (o :: rest) a w := by
 refine wpList_val hg (v := .slice (some ⟨w.heap.size, 0, none⟩) 0 0) (w' := w.alloc (.cells #[] E.ty)) ?_ (h _ _ ?_ ((Below.refl _ _).alloc (Nat.le_refl _) _) (by simp))
 ·simp [execOp, ho, Instr.buildSlice, run_underlying E.slice, run_sizeOf_elem, newRow, Instr.fill]
  rw [show Array.range 0 = #[] by simp, Array.map_empty]
 ·exact ⟨by simp [Elem.flat], .inr ⟨_, 0, #[], rfl, hbase, heap_alloc_new w _, Nat.le_refl _, Nat.zero_le _, by simp, by simp [Elem.flat]⟩⟩
theorem wpList_make0 (E : Elem P α) (hg : o.guard = none) (kl kc : IntKind) (x : Operand) (c : Nat) (ho : o.op = .makeSlice E.st (.const (.int kl 0)) x) (hx : a.eval x = .int kc (c : Int)) (hc : c ≤ 1099511627776 / 8) (hby : E.bytes ≤ 1000) (hbase : base ≤ w.heap.size)
  (h : ∀ v' w', Own E base w' v' [] → Below w.heap.size w w' → wpList P ops Q rest (a.put o.dst v') w') : wpList P ops Q (o :: rest) a w := by
 obtain ⟨i, hi, hz, hs, hb⟩ := E.info
 have hmul : i.bytes * c ≤ 281474976710656 := by
  rw [hb]
  exact Nat.le_trans (Nat.mul_le_mul hby hc) (by omega)
 have hmi : (i.bytes : Int) * (c : Int) ≤ 281474976710656 := by
  have h5 : ((i.bytes * c : Nat) : Int) ≤ 281474976710656 := by omega
  rwa [Int.natCast_mul] at h5
 have hr := run_make (P := P) w E.st E.ty i E.zero E.slice hi hz kl kc 0 (c : Int) (by omega) (by omega) hmi (by omega)
 simp only [Int.toNat_natCast, Int.toNat_zero] at hr
 refine wpList_val hg (v := .slice (some ⟨w.heap.size, 0, none⟩) 0 c) (w' := w.alloc (.cells (madeCells E.zero.cells (c * i.size)) E.ty)) ?_ (h _ _ ?_ ((Below.refl _ _).alloc (Nat.le_refl _) _))
 ·have he : a.eval (.const (.int kl 0)) = .int kl 0 := rfl
  simp [execOp, ho, hx, he, hr]
 ·refine ⟨by simp [Elem.flat], .inr ⟨_, c, _, rfl, hbase, heap_alloc_new w _, Nat.zero_le _, by simp only [maxLen]; omega, ?_, by simp [Elem.flat]⟩⟩
  rw [hs]; simp [madeCells]
theorem run_slice_two (x y : α) (w : World) : (Instr.buildSlice E.st 2 #[(0, E.val x), (1, E.val y)]).run P w = .ok (.slice (some ⟨w.heap.size, 0, none⟩) 2 2) (w.alloc (.cells ((E.val x).cells ++ (E.val y).cells) E.ty)) := by
 obtain ⟨i, hi, hz, hs, hb⟩ := E.info
 have hpos := E.pos
 have hsm := E.small
 have hsx := E.size x
 have hsy := E.size y
 refine run_buildSlice w E.st E.ty 2 _ ((E.val x).cells ++ (E.val y).cells) i E.zero E.slice hi hz (by omega) (by omega) ?_
 rw [hs]
 show Instr.fill _ _ [(0, E.val x), (1, E.val y)] = _
 rw [fill_cons (off := 0) (size := E.n) (by simp) hsx (by simp; omega), fill_cons (off := E.n) (size := E.n) (by simp) hsy (by rw [splice_size _ _ _ (by simp; omega)]; simp; omega), fill_nil]
 congr 1
 apply Array.ext'
 have hlx : (E.val x).cells.toList.length = E.n := by rw [Array.length_toList]; exact hsx
 simp only [splice, Nat.zero_add, hsx, hsy, List.take_zero, List.nil_append, Array.toList_append]
 rw [List.take_append_of_le_length (by omega), List.take_of_length_le (by omega), List.drop_append, List.drop_eq_nil_of_le (by omega : (E.val x).cells.toList.length ≤ E.n + E.n), List.nil_append, List.drop_eq_nil_of_le (by simp; omega), List.append_nil]
theorem slice_of_block2 {g : Nat} {x y : α} (h : Blk w g E.ty ((E.val x).cells ++ (E.val y).cells)) : SliceOf E w (.slice (some ⟨g, 0, none⟩) 2 2) [x, y] :=
 .inr ⟨_, 2, rfl, h.lt, fun j u hj => by
  have e : E.flat [x, y] = ((E.val x).cells ++ (E.val y).cells).toList := by simp [Elem.flat, Elem.cs]
  rw [e] at hj
  rw [add_plain, Nat.zero_add, h.cell, ← Array.getElem?_toList]; exact hj⟩
theorem wpList_push2 (hg : o.guard = none) (hg2 : o2.guard = none) (d : Tmp) (hd : o.dst = some d) (x y : Operand) (ho : o.op = .buildSlice E.st 2 #[(0, x), (1, y)]) (s : Operand)
  (ho2 : o2.op = .call { callee := .builtin .append, args := #[s, .tmp d], argTypes := #[E.st, E.st] }) (vx vy : α) (hx : a.eval x = E.val vx) (hy : a.eval y = E.val vy) (hs : ∀ p, (a.put o.dst p).eval s = v) (hsz : d < a.tmps.size)
  (hown : Own E base w v l) (h63 : l.length + 2 ≤ 1099511627776 / 8) (hby : E.bytes ≤ 1000) (hbase : base ≤ w.heap.size)
  (h : ∀ u v' w', Own E base w' v' (l ++ [vx, vy]) → Pushed E base w w' v → wpList P ops Q rest ((a.put o.dst u).put o2.dst v') w') : wpList P ops Q (o :: o2 :: rest) a w := by
 refine wpList_val hg (v := .slice (some ⟨w.heap.size, 0, none⟩) 2 2) (w' := w.alloc (.cells ((E.val vx).cells ++ (E.val vy).cells) E.ty)) (by simp [execOp, ho, hx, hy, run_slice_two]) ?_
 have hb1 : Below w.heap.size w (w.alloc (.cells ((E.val vx).cells ++ (E.val vy).cells) E.ty)) := (Below.refl _ _).alloc (Nat.le_refl _) _
 have hown1 := hown.below hb1
 obtain ⟨v', w', hrun, h2, h3, _, _⟩ := run_append (ty := o2.type) hown1 _ [vx, vy] (slice_of_block2 (Blk.new w E.ty _)) (by simpa using h63) hby (Nat.le_trans hbase hb1.size)
 have hp := pushed_of hown1 h3
 have hpu : Pushed E base w w' v := {
  below := fun B hB hs => (hb1.mono hs).trans (hp.below B hB (Nat.le_trans hs hb1.size))
  other := fun g hlt hne => (hp.other g (Nat.lt_of_lt_of_le hlt hb1.size) hne).trans (hb1.block g hlt)
  blk := fun g t cs fr hne hb => hp.blk g t cs fr hne (keep' hb1 hb)
  map := fun g es c hb => hp.map g es c (keep' hb1 hb)
  size := Nat.le_trans hb1.size hp.size }
 refine wpList_val hg2 (v := v') (w' := w') ?_ (h _ v' w' h2 hpu)
 have e2 : (a.put o.dst (.slice (some ⟨w.heap.size, 0, none⟩) 2 2)).eval (.tmp d) = .slice (some ⟨w.heap.size, 0, none⟩) 2 2 := by rw [hd]; simp [Act.put, Act.eval, hsz]
 simp [execOp, ho2, resolve, invoke, builtin, hs, e2, hrun]
theorem step_appendS {K : Act → World → Prop} {F : Prop} (hg : o.guard = none) (s x : Operand) (ho : o.op = .call { callee := .builtin .append, args := #[s, x], argTypes := #[E.st, E.st] }) (vx : Value) (hs : a.eval s = v) (hx : a.eval x = vx) (m : List α)
  (hown : Own E base w v l) (hm : SliceOf E w vx m) (h63 : l.length + m.length ≤ 1099511627776 / 8) (hby : E.bytes ≤ 1000) (hbase : base ≤ w.heap.size)
  (h : ∀ v' w', Own E base w' v' (l ++ m) → Pushed E base w w' v → K (a.put o.dst v') w') : if Region.wanted o (yielded ops a.tmps) = true then o.wp P a w K Q else F := by
 rw [if_pos (by simp [Region.wanted, hg])]
 obtain ⟨v', w', hrun, h2, h3, _, _⟩ := run_append (ty := o.type) hown _ m hm h63 hby hbase
 unfold Oper.wp
 have : (execOp a.eval o).run P w = .ok (.value v') w' := by simp [execOp, ho, resolve, invoke, builtin, hs, hx, hrun]
 rw [this]
 exact h v' w' h2 (pushed_of hown h3)
theorem wpList_slice1 (hg : o.guard = none) (y : Operand) (ho : o.op = .buildSlice E.st 1 #[(0, y)]) (x : α) (hy : a.eval y = E.val x) (hbase : base ≤ w.heap.size)
  (h : ∀ v' w', Own E base w' v' [x] → Below w.heap.size w w' → wpList P ops Q rest (a.put o.dst v') w') : wpList P ops Q (o :: rest) a w := by
 refine wpList_val hg (v := .slice (some ⟨w.heap.size, 0, none⟩) 1 1) (w' := w.alloc (.cells (E.val x).cells E.ty)) (by simp [execOp, ho, hy, run_slice_one]) (h _ _ ?_ ((Below.refl _ _).alloc (Nat.le_refl _) _))
 have hs := E.size x
 refine ⟨by rw [E.flat_one, E.cs_length]; simp, .inr ⟨_, 1, _, rfl, hbase, heap_alloc_new w _, Nat.le_refl _, by simp [maxLen], by rw [hs]; simp, ?_⟩⟩
 rw [E.flat_one, Elem.cs, List.take_of_length_le (by rw [Array.length_toList, hs]; simp)]
end
end
end Go.Agg
/-! Slices of paths: what they hold. -/
namespace Go.Proofs.YtdebbmembkbniaaGreat
open Go.RowKit Pl Go.Agg
abbrev P20 : Type := { p : List UInt8 × List UInt8 // p.1.length = 20 }
instance : Inhabited P20 := ⟨⟨(z20, []), rfl⟩⟩
def pV (p : P20) : Value := .agg (pC p.1.1 p.1.2)
def cells20 (p : P20) : List Value := (pC p.1.1 p.1.2).toList
theorem cells20_length (p : P20) : (cells20 p).length = 21 := by simp [cells20, pC_size, p.2]
def flat (l : List P20) : List Value := l.flatMap cells20
theorem flat_length (l : List P20) : (flat l).length = l.length * 21 := by
 induction l with
 | nil => rfl
 | cons p l ih => simp only [flat, List.flatMap_cons, List.length_append, cells20_length, List.length_cons] at ih ⊢; omega
theorem flat_append (a b : List P20) : flat (a ++ b) = flat a ++ flat b := by simp [flat]
theorem flat_get : ∀ (l : List P20) (j : Nat) (p : P20) (i : Nat) (v : Value), l[j]? = some p → (pC p.1.1 p.1.2)[i]? = some v → (flat l)[j * 21 + i]? = some v
 | [], j, p, i, v, h, _ => by simp at h
 | q :: l, 0, p, i, v, h, hv => by
  obtain rfl : q = p := by simpa using h
  have hlt : i < (cells20 q).length := by rw [cells20_length]; have := (Array.getElem?_eq_some_iff.1 hv).1; rw [pC_size, q.2] at this; omega
  rw [flat, List.flatMap_cons, Nat.zero_mul, Nat.zero_add, List.getElem?_append_left hlt]
  simpa [cells20] using hv
 | q :: l, j + 1, p, i, v, h, hv => by
  have ih := flat_get l j p i v (by simpa using h) hv
  rw [flat, List.flatMap_cons, List.getElem?_append_right (by rw [cells20_length]; omega), cells20_length, show (j + 1) * 21 + i - 21 = j * 21 + i by omega]
  exact ih
theorem info_path : ∃ i, Tryz.prog.info? 48 = some i ∧ i.zero = some (.agg (pC z20 [])) ∧ i.size = 21 ∧ i.bytes = 40 := by
 have hz := pC_zero
 have hs : (Tryz.prog.info? 48).map (·.size) = some 21 := by kernel_rfl
 have hb : (Tryz.prog.info? 48).map (·.bytes) = some 40 := by kernel_rfl
 cases hi : Tryz.prog.info? 48 with
 | none => rw [hi] at hz; cases hz
 | some i =>
  rw [hi] at hz hs hb
  exact ⟨i, rfl, Option.some.inj hz, Option.some.inj hs, Option.some.inj hb⟩
theorem cells20_one (p : P20) (v : Value) (hv : v ∈ cells20 p) : v.oneCell' = true := by
 have h := pC_one p.1.1 p.1.2
 rw [Array.all_eq_true_iff_forall_mem] at h
 exact h v (by simpa [cells20] using hv)
def E20 : Elem Tryz.prog P20 where
 ty := 48
 st := 55
 n := 21
 bytes := 40
 val := pV
 zero := .agg (pC z20 [])
 pos := by omega
 small := by omega
 size := fun p => by simp [pV, Value.cells, pC_size, p.2]
 one := fun p v hv => cells20_one p v hv
 zsize := by simp [Value.cells, pC_size, z20_length]
 slice := by kernel_rfl
 info := info_path
 load := fun w a p hp h => LoadsL.of_cells hp h pC_under rfl (pC_info _ _ p.2)
abbrev ElemsAt (w : World) (v : Value) (l : List P20) : Prop := SliceOf E20 w v l
theorem flat20 (l : List P20) : E20.flat l = flat l := rfl
theorem elems_len {w : World} {v : Value} {l : List P20} (h : ElemsAt w v l) (W : World) : (Builtin.len_ #[55] 3 #[v]).run Tryz.prog W = .ok (.int .i64 (l.length : Int)) W := h.len W
theorem elem_at {w : World} {v : Value} {l : List P20} (h : ElemsAt w v l) (k : Nat) (x : P20) (hx : l[k]? = some x) :
  ∃ p : Addr, (∀ W, (Instr.indexAt 55 v (.int .i64 (k : Int))).run Tryz.prog W = .ok (.pointer (some p)) W) ∧ LoadsL Tryz.prog w 48 (some p) (.agg (pC x.1.1 x.1.2)) ∧ LoadsL Tryz.prog w 9 (some (p.add 20)) (.string ⟨x.1.2.toArray⟩) := by
 obtain ⟨p, h1, h2, h3, h4⟩ := h.at_ k x hx
 exact ⟨p, h1, h4, LoadsL.of_cell (h3 20 _ (pC_name _ _ x.2)) Tryz.underlying9 rfl⟩
end Go.Proofs.YtdebbmembkbniaaGreat
/-! Hashes of twenty bytes. -/
namespace Go.Proofs.YtdebbmembkbniaaGreat
open Go.RowKit Pl Go.Agg
abbrev H20 : Type := { h : List UInt8 // h.length = 20 }
instance : Inhabited H20 := ⟨⟨z20, rfl⟩⟩
instance : DecidableEq P20 := inferInstance
instance : DecidableEq H20 := inferInstance
end Go.Proofs.YtdebbmembkbniaaGreat
/-! (of general use) Bytes and texts as elements. -/
namespace Go.Proofs.YtdebbmembkbniaaGreat
open Go.RowKit Pl Go.Agg
theorem info_of {P : Program} {ty : TypeId} {z : Value} {n b : Nat} (hz : (P.info? ty).map (·.zero) = some (some z)) (hs : (P.info? ty).map (·.size) = some n) (hb : (P.info? ty).map (·.bytes) = some b) :
  ∃ i, P.info? ty = some i ∧ i.zero = some z ∧ i.size = n ∧ i.bytes = b := by
 cases hi : P.info? ty with
 | none => rw [hi] at hz; cases hz
 | some i =>
  rw [hi] at hz hs hb
  exact ⟨i, rfl, Option.some.inj hz, Option.some.inj hs, Option.some.inj hb⟩
theorem one_of {cs : Array Value} (h : cs.all (·.oneCell') = true) (v : Value) (hv : v ∈ cs.toList) : v.oneCell' = true := by
 rw [Array.all_eq_true_iff_forall_mem] at h
 exact h v (by simpa using hv)
def EB : Elem Tryz.prog UInt8 where
 ty := 5
 st := 23
 n := 1
 bytes := 1
 val := fun c => .int .u8 (c.toNat : Int)
 zero := .int .u8 0
 pos := by omega
 small := by omega
 size := fun x => rfl
 one := fun x v hv => by
  obtain rfl : v = .int .u8 (x.toNat : Int) := by simpa [Value.cells] using hv
  rfl
 zsize := rfl
 slice := by kernel_rfl
 info := info_of (by kernel_rfl) (by kernel_rfl) (by kernel_rfl)
 load := fun w a x hp h => LoadsL.of_cell (by have := h 0 _ rfl; rwa [show a.add 0 = a from rfl] at this) Tryz.underlying5 rfl
abbrev BytesAt (w : World) (v : Value) (l : List UInt8) : Prop := SliceOf EB w v l
theorem bytes_len {w : World} {v : Value} {l : List UInt8} (h : BytesAt w v l) (W : World) : (Builtin.len_ #[23] 3 #[v]).run Tryz.prog W = .ok (.int .i64 (l.length : Int)) W := h.len W
theorem str_len' (s : List UInt8) (w : World) : (Builtin.len_ #[9] 3 #[.string ⟨s.toArray⟩]).run Tryz.prog w = .ok (.int .i64 (s.length : Int)) w := by
 rw [run_len_string w 9 3 _ Tryz.underlying9, Agg.bytes_size]; rfl
theorem byte_at {w : World} {v : Value} {l : List UInt8} (h : BytesAt w v l) (k : Nat) (x : UInt8) (hx : l[k]? = some x) :
  ∃ p : Addr, (∀ W, (Instr.indexAt 23 v (.int .i64 (k : Int))).run Tryz.prog W = .ok (.pointer (some p)) W) ∧ LoadsL Tryz.prog w 5 (some p) (.int .u8 (x.toNat : Int)) := by
 obtain ⟨p, h1, _, _, h4⟩ := h.at_ k x hx
 exact ⟨p, h1, h4⟩
end Go.Proofs.YtdebbmembkbniaaGreat
/-! (of general use) base.order, base.Less, spenceref03.Less: how two paths stand. -/
namespace Go.Proofs.YtdebbmembkbniaaGreat
open Go.RowKit Pl Go.Agg
open Go.Lib (compareBytes)
def cmpP (h n h' n' : List UInt8) : Int := if h == h' then compareBytes n n' else compareBytes h h'
theorem run_compareBytes (w : World) (a b : List UInt8) (g off g' off' c c' : Nat) (ha : ∀ j x, a[j]? = some x → w.cell? ⟨g, off + j, none⟩ = some (.int .u8 (x.toNat : Int))) (hb : ∀ j x, b[j]? = some x → w.cell? ⟨g', off' + j, none⟩ = some (.int .u8 (x.toNat : Int))) :
  (Extern.BytealgCompare.compare #[.slice (some ⟨g, off, none⟩) a.length c, .slice (some ⟨g', off', none⟩) b.length c']).run Tryz.prog w = .ok (.int .i64 (compareBytes a b)) w := by
 change Sem.run Tryz.prog (do pure (goInt (Extern.BytealgCompare.cmp (← Extern.Bytes.bytesOf (.slice (some ⟨g, off, none⟩) a.length c)) (← Extern.Bytes.bytesOf (.slice (some ⟨g', off', none⟩) b.length c'))))) w = _
 have key : ∀ (l : List UInt8) (g off : Nat), (∀ j x, l[j]? = some x → w.cell? ⟨g, off + j, none⟩ = some (.int .u8 (x.toNat : Int))) → (Extern.Bytes.loadBytes ⟨g, off, none⟩ l.length .empty).run Tryz.prog w = .ok ⟨l.toArray⟩ w := fun l g off h => by
  have := Lib.run_loadBytesX (P := Tryz.prog) (w := w) (l.map fun c => (c.toNat : Int)) ⟨g, off, none⟩ .empty (fun j x hj => by
   rw [List.getElem?_map] at hj
   cases hl : l[j]? with
   | none => rw [hl] at hj; simp at hj
   | some c =>
    rw [hl] at hj
    obtain rfl := Option.some.inj hj
    have := h j c hl
    rw [Addr.add]
    split
    ·rename_i h0; simpa [h0] using this
    ·exact this)
  simp only [List.length_map] at this
  rw [this]
  have : Lib.bytesOf (l.map fun c => (c.toNat : Int)) = l := by
   simp [Lib.bytesOf, Function.comp_def]
  rw [this]; simp
 have h1 := key a g off ha
 have h2 := key b g' off' hb
 simp only [Extern.Bytes.bytesOf, Sem.run_bind, Sem.run_pure, Result.andThen, h1, h2]
 rw [Lib.cmp_eq]
 simp [goInt]
set_option maxRecDepth 100000 in
theorem bytesCompare_any (w : World) (a b : List UInt8) (g off g' off' c c' : Nat) (ha : ∀ j x, a[j]? = some x → w.cell? ⟨g, off + j, none⟩ = some (.int .u8 (x.toNat : Int))) (hb : ∀ j x, b[j]? = some x → w.cell? ⟨g', off' + j, none⟩ = some (.int .u8 (x.toNat : Int))) :
  Calls Tryz.prog 130 #[.slice (some ⟨g, off, none⟩) a.length c, .slice (some ⟨g', off', none⟩) b.length c'] w fun e w' => e = .returned (.int .i64 (compareBytes a b)) ∧ w = w' := by
 have hr := run_compareBytes w a b g off g' off' c c' ha hb
 go_enter Tryz.func130, Tryz.ntmps130
 go_wp2
 rw [run_callFunc_extern Tryz.func173 (by kernel_rfl) (by kernel_rfl) (by kernel_rfl) (e := Extern.BytealgCompare.compare) (by kernel_rfl), hr]
 simp only [Result.andThen]
 rw [Oper.upon_value]
 go_wp2
 go_ret
 exact ⟨rfl, rfl⟩
theorem isNaN_any (s : ByteArray) (w : World) : Calls Tryz.prog 172 #[.string s] w fun e w' => e = .returned (.bool false) ∧ w = w' := by
 go_enter Tryz.func172, Tryz.ntmps172
 go_wp2
 all_goals go_ret
 all_goals simp
theorem compare_cases : ∀ (a b : List UInt8), compareBytes a b = if Op.bytesLess a b then -1 else if Op.bytesLess b a then 1 else 0
 | [], [] => rfl
 | [], _ :: _ => by simp [compareBytes, Op.bytesLess]
 | _ :: _, [] => by simp [compareBytes, Op.bytesLess]
 | x :: a, y :: b => by
  have ih := compare_cases a b
  unfold compareBytes Op.bytesLess
  by_cases h1 : x < y
  ·simp [h1]
  ·by_cases h2 : y < x
   ·have : ¬ x = y := fun e => by subst e; exact h1 h2
    simp [h1, h2, this]
   ·have : x = y := UInt8.le_antisymm (UInt8.not_lt.1 h2) (UInt8.not_lt.1 h1)
    subst this
    simp [h1, ih]
theorem bytesLess_asymm : ∀ (a b : List UInt8), Op.bytesLess a b = true → Op.bytesLess b a = false
 | [], [], h => by simp [Op.bytesLess] at h
 | [], _ :: _, _ => by simp [Op.bytesLess]
 | _ :: _, [], h => by simp [Op.bytesLess] at h
 | x :: a, y :: b, h => by
  simp only [Op.bytesLess, Bool.or_eq_true, Bool.and_eq_true, decide_eq_true_eq, beq_iff_eq] at h
  simp only [Op.bytesLess, Bool.or_eq_false_iff, decide_eq_false_iff_not, Bool.and_eq_false_iff, beq_eq_false_iff_ne]
  rcases h with h | ⟨rfl, h⟩
  ·exact ⟨fun h' => absurd (UInt8.lt_trans h h') (UInt8.lt_irrefl _), .inl (fun e => by subst e; exact UInt8.lt_irrefl _ h)⟩
  ·exact ⟨UInt8.lt_irrefl _, .inr (bytesLess_asymm a b h)⟩
theorem bytesLess_irrefl (a : List UInt8) : Op.bytesLess a a = false := by
 cases h : Op.bytesLess a a with
 | false => rfl
 | true => exact absurd (bytesLess_asymm a a h) (by rw [h]; simp)
theorem bytesLess_total : ∀ (a b : List UInt8), a ≠ b → Op.bytesLess a b = false → Op.bytesLess b a = true
 | [], [], h, _ => absurd rfl h
 | [], _ :: _, _, h => by simp [Op.bytesLess] at h
 | _ :: _, [], _, _ => by simp [Op.bytesLess]
 | x :: a, y :: b, hne, h => by
  simp only [Op.bytesLess, Bool.or_eq_false_iff, decide_eq_false_iff_not, Bool.and_eq_false_iff, beq_eq_false_iff_ne] at h
  simp only [Op.bytesLess, Bool.or_eq_true, Bool.and_eq_true, decide_eq_true_eq, beq_iff_eq]
  by_cases e : x = y
  ·subst e
   refine .inr ⟨rfl, bytesLess_total a b (fun e => hne (by rw [e])) ?_⟩
   exact h.2.resolve_left (fun h' => h' rfl)
  ·exact .inl (UInt8.lt_of_le_of_ne (UInt8.not_lt.1 h.1) (Ne.symm e))
theorem cmpString_any (a b : List UInt8) (w : World) : Calls Tryz.prog 129 #[.string ⟨a.toArray⟩, .string ⟨b.toArray⟩] w fun e w' => e = .returned (.int .i64 (compareBytes a b)) ∧ w = w' := by
 have hta := Agg.bytes_toList a
 have htb := Agg.bytes_toList b
 rw [compare_cases]
 by_cases hab : a = b
 ·subst hab
  have h1 := bytesLess_irrefl a
  rw [h1]
  go_enter Tryz.func129, Tryz.ntmps129
  go_wp2_with (go_at_call 172; refine (isNaN_any _ _).mono ?_; rintro e w' ⟨rfl, rfl⟩)
  go_ret
  exact ⟨rfl, rfl⟩
 ·have hb : (a == b) = false := by simpa using hab
  cases h1 : Op.bytesLess a b with
  | true =>
   have h2 := bytesLess_asymm _ _ h1
   go_enter Tryz.func129, Tryz.ntmps129
   go_wp2_with (go_at_call 172; refine (isNaN_any _ _).mono ?_; rintro e w' ⟨rfl, rfl⟩)
   go_ret
   exact ⟨rfl, rfl⟩
  | false =>
   have h2 := bytesLess_total _ _ hab h1
   rw [h2]
   go_enter Tryz.func129, Tryz.ntmps129
   go_wp2_with (go_at_call 172; refine (isNaN_any _ _).mono ?_; rintro e w' ⟨rfl, rfl⟩)
   go_ret
   exact ⟨rfl, rfl⟩
theorem pC_byte (h n : List UInt8) (j : Nat) (x : UInt8) (hj : h[j]? = some x) : (pC h n)[j]? = some (.int .u8 (x.toNat : Int)) := by
 have hlt := (List.getElem?_eq_some_iff.1 hj).1
 have := pC_hash h n j (.int .u8 (x.toNat : Int)) (by rw [hC_get h j hlt]; rw [List.getElem?_eq_getElem hlt] at hj; rw [Option.some.inj hj])
 simpa using this
theorem slice_hash (g : Nat) (w : World) : (Instr.sliceAt 43 (.pointer (some ⟨g, 0, none⟩)) none none none).run Tryz.prog w = .ok (.slice (some ⟨g, 0, none⟩) 20 20) w := by kernel_rfl
end Go.Proofs.YtdebbmembkbniaaGreat
/-! (of general use) spenceref03.Less -/
namespace Go.Proofs.YtdebbmembkbniaaGreat
open Go.RowKit Pl Go.Agg
open Go.Lib (compareBytes)
theorem compare_diff : ∀ (k : Nat) (a b : List UInt8) (x y : UInt8), a[k]? = some x → b[k]? = some y → a.take k = b.take k → x ≠ y → decide (compareBytes a b < 0) = decide (x < y)
 | 0, x :: a, y :: b, _, _, hx, hy, _, hne => by
  simp only [List.getElem?_cons_zero, Option.some.injEq] at hx hy
  subst hx hy
  unfold compareBytes
  by_cases h1 : x < y
  ·simp [h1]
  ·have h2 : y < x := UInt8.lt_of_le_of_ne (UInt8.not_lt.1 h1) (Ne.symm hne)
   simp [h1, h2]
 | k + 1, x :: a, y :: b, _, _, hx, hy, ht, hne => by
  simp only [List.getElem?_cons_succ] at hx hy
  simp only [List.take_succ_cons, List.cons.injEq] at ht
  obtain ⟨rfl, ht⟩ := ht
  have := compare_diff k a b _ _ hx hy ht hne
  unfold compareBytes
  simpa [UInt8.lt_irrefl] using this
 | 0, [], _, _, _, hx, _, _, _ => by simp at hx
 | 0, _ :: _, [], _, _, _, hy, _, _ => by simp at hy
 | _ + 1, [], _, _, _, hx, _, _, _ => by simp at hx
 | _ + 1, _ :: _, [], _, _, _, hy, _, _ => by simp at hy
theorem compare_less (a b : List UInt8) : decide (compareBytes a b < 0) = Op.bytesLess a b := by
 rw [compare_cases]
 cases Op.bytesLess a b <;> cases Op.bytesLess b a <;> simp
end Go.Proofs.YtdebbmembkbniaaGreat
/-! resolve.Resolved, resolve.Input: cells, elements, whether one can be. -/
namespace Go.Proofs.YtdebbmembkbniaaGreat
open Go.RowKit Pl Go.Agg
abbrev Rin : Type := List UInt8 × P20
abbrev Rv : Type := List UInt8 × List Rin × List UInt8
instance : DecidableEq Rin := inferInstance
instance : DecidableEq (List Rin × List UInt8) := inferInstance
instance : DecidableEq Rv := inferInstance
def riC (x : Rin) : Array Value := #[.string ⟨x.1.toArray⟩] ++ pC x.2.1.1 x.2.1.2
theorem riC_size (x : Rin) : (riC x).size = 22 := by simp [riC, pC_size, x.2.2]
theorem riC_one (x : Rin) : (riC x).all (·.oneCell') = true := by
 rw [riC, Array.all_append, pC_one]; simp [Value.oneCell']
theorem riC_name (x : Rin) : (riC x)[0]? = some (.string ⟨x.1.toArray⟩) := by rw [riC, Array.getElem?_append_left (by simp)]; rfl
theorem riC_path (x : Rin) (j : Nat) (v : Value) (h : (pC x.2.1.1 x.2.1.2)[j]? = some v) : (riC x)[1 + j]? = some v := by
 rw [riC, Array.getElem?_append_right (by simp)]; simpa using h
theorem riC_hash (x : Rin) (j : Nat) (v : Value) (h : (hC x.2.1.1)[j]? = some v) : (riC x)[1 + j]? = some v := by
 refine riC_path x j v ?_
 have := (Array.getElem?_eq_some_iff.1 h).1
 rw [show pC x.2.1.1 x.2.1.2 = hC x.2.1.1 ++ #[.string ⟨x.2.1.2.toArray⟩] from rfl, Array.getElem?_append_left this]; exact h
def zR : Rin := ([], ⟨(z20, []), rfl⟩)
theorem riC_zero : (Tryz.prog.info? 77).map (·.zero) = some (some (.agg (riC zR))) := by kernel_rfl
theorem riC_info (x : Rin) : (Tryz.prog.info? 77).map (·.size) = some (riC x).size := by rw [riC_size]; kernel_rfl
theorem riC_under : Tryz.prog.underlying 77 = some (.struct (Tryz.prog.fieldsOf 77)) := by kernel_rfl
theorem rfC_zero : (Tryz.prog.info? 95).map (·.zero) = some (some (.agg (riC zR))) := by kernel_rfl
theorem rfC_info (x : Rin) : (Tryz.prog.info? 95).map (·.size) = some (riC x).size := by rw [riC_size]; kernel_rfl
theorem rfC_under : Tryz.prog.underlying 95 = some (.struct (Tryz.prog.fieldsOf 95)) := by kernel_rfl
def ERi : Elem Tryz.prog Rin where
 ty := 77
 st := 22
 n := 22
 bytes := 56
 val := fun x => .agg (riC x)
 zero := .agg (riC zR)
 pos := by omega
 small := by omega
 size := fun x => by simp [Value.cells, riC_size]
 one := fun x v hv => one_of (riC_one x) v hv
 zsize := by simp [Value.cells, riC_size]
 slice := by kernel_rfl
 info := info_of riC_zero (by kernel_rfl) (by kernel_rfl)
 load := fun w a x hp h => LoadsL.of_cells hp h riC_under rfl (riC_info x)
def ERf : Elem Tryz.prog Rin where
 ty := 95
 st := 34
 n := 22
 bytes := 56
 val := fun x => .agg (riC x)
 zero := .agg (riC zR)
 pos := by omega
 small := by omega
 size := fun x => by simp [Value.cells, riC_size]
 one := fun x v hv => one_of (riC_one x) v hv
 zsize := by simp [Value.cells, riC_size]
 slice := by kernel_rfl
 info := info_of rfC_zero (by kernel_rfl) (by kernel_rfl)
 load := fun w a x hp h => LoadsL.of_cells hp h rfC_under rfl (rfC_info x)
theorem ris_len {w : World} {v : Value} {l : List Rin} (h : SliceOf ERi w v l) (W : World) : (Builtin.len_ #[22] 3 #[v]).run Tryz.prog W = .ok (.int .i64 (l.length : Int)) W := h.len W
theorem rfs_len {w : World} {v : Value} {l : List Rin} (h : SliceOf ERf w v l) (W : World) : (Builtin.len_ #[34] 3 #[v]).run Tryz.prog W = .ok (.int .i64 (l.length : Int)) W := h.len W
structure RinL (w : World) (p : Addr) (x : Rin) : Prop where
 name : LoadsL Tryz.prog w 9 (some (p.add 0)) (.string ⟨x.1.toArray⟩)
 path : LoadsL Tryz.prog w 48 (some (p.add 1)) (.agg (pC x.2.1.1 x.2.1.2))
 pname : LoadsL Tryz.prog w 9 (some ((p.add 1).add 20)) (.string ⟨x.2.1.2.toArray⟩)
theorem RinL.of_cells {w : World} {p : Addr} {x : Rin} (hp : p.block < w.heap.size) (h : ∀ j u, (riC x)[j]? = some u → w.cell? (p.add j) = some u) : RinL w p x where
 name := LoadsL.of_cell (h 0 _ (riC_name x)) Tryz.underlying9 rfl
 path := LoadsL.of_cells (by rw [add_block]; exact hp) (fun j v hj => by rw [add_add]; exact h _ _ (riC_path x j v hj)) pC_under rfl (pC_info _ _ x.2.2)
 pname := LoadsL.of_cell (by rw [add_add]; exact h _ _ (riC_path x 20 _ (pC_name _ _ x.2.2))) Tryz.underlying9 rfl
theorem RinL.below {w w' : World} {p : Addr} {x : Rin} (h : RinL w p x) (hb : Below w.heap.size w w') : RinL w' p x := ⟨h.name.below hb, h.path.below hb, h.pname.below hb⟩
theorem ri_at {w : World} {v : Value} {l : List Rin} (h : SliceOf ERi w v l) (k : Nat) (x : Rin) (hx : l[k]? = some x) :
  ∃ p : Addr, (∀ W, (Instr.indexAt 22 v (.int .i64 (k : Int))).run Tryz.prog W = .ok (.pointer (some p)) W) ∧ LoadsL Tryz.prog w 77 (some p) (.agg (riC x)) ∧ RinL w p x := by
 obtain ⟨p, h1, h2, h3, h4⟩ := h.at_ k x hx
 exact ⟨p, h1, h4, RinL.of_cells h2 h3⟩
theorem rf_at {w : World} {v : Value} {l : List Rin} (h : SliceOf ERf w v l) (k : Nat) (x : Rin) (hx : l[k]? = some x) :
  ∃ p : Addr, (∀ W, (Instr.indexAt 34 v (.int .i64 (k : Int))).run Tryz.prog W = .ok (.pointer (some p)) W) ∧ LoadsL Tryz.prog w 95 (some p) (.agg (riC x)) ∧ RinL w p x := by
 obtain ⟨p, h1, h2, h3, h4⟩ := h.at_ k x hx
 exact ⟨p, h1, h4, RinL.of_cells h2 h3⟩
structure RinB (w : World) (g : Nat) (x : Rin) : Prop where
 all : LoadsL Tryz.prog w 77 (some ⟨g, 0, none⟩) (.agg (riC x))
 name : LoadsL Tryz.prog w 9 (some ⟨g, 0, none⟩) (.string ⟨x.1.toArray⟩)
 path : LoadsL Tryz.prog w 48 (some ⟨g, 1, none⟩) (.agg (pC x.2.1.1 x.2.1.2))
 pname : LoadsL Tryz.prog w 9 (some ⟨g, 21, none⟩) (.string ⟨x.2.1.2.toArray⟩)
theorem RinB.of_blk {w : World} {g : Nat} {x : Rin} (h : Blk w g 77 (riC x)) : RinB w g x where
 all := h.loads riC_under rfl (riC_info x)
 name := h.one 0 (riC_name x) Tryz.underlying9 rfl
 path := h.sub 1 _ (riC_path x) pC_under rfl (pC_info _ _ x.2.2)
 pname := h.one 21 (riC_path x 20 _ (pC_name _ _ x.2.2)) Tryz.underlying9 rfl
theorem RinB.below {w w' : World} {g : Nat} {x : Rin} (h : RinB w g x) (hb : Below w.heap.size w w') : RinB w' g x := ⟨h.all.below hb, h.name.below hb, h.path.below hb, h.pname.below hb⟩
def RvAt (w : World) (v : Value) (r : Rv) : Prop := ∃ vi vr, v = .agg #[.string ⟨r.1.toArray⟩, vi, vr] ∧ SliceOf ERi w vi r.2.1 ∧ BytesAt w vr r.2.2
def RfAt (w : World) (v : Value) (r : Rv) : Prop := ∃ vi vr, v = .agg #[.string ⟨r.1.toArray⟩, vi, vr] ∧ SliceOf ERf w vi r.2.1 ∧ BytesAt w vr r.2.2
theorem RvAt.below {w w' : World} {v : Value} {r : Rv} (h : RvAt w v r) (hb : Below w.heap.size w w') : RvAt w' v r := by
 obtain ⟨vi, vr, e, h1, h2⟩ := h
 exact ⟨vi, vr, e, h1.below hb, h2.below hb⟩
structure RvB (w : World) (g : Nat) (n : List UInt8) (vi vr : Value) : Prop where
 all : LoadsL Tryz.prog w 25 (some ⟨g, 0, none⟩) (.agg #[.string ⟨n.toArray⟩, vi, vr])
 name : LoadsL Tryz.prog w 9 (some ⟨g, 0, none⟩) (.string ⟨n.toArray⟩)
 inp : LoadsL Tryz.prog w 22 (some ⟨g, 1, none⟩) vi
 rcp : LoadsL Tryz.prog w 23 (some ⟨g, 2, none⟩) vr
theorem rv_under : Tryz.prog.underlying 25 = some (.struct (Tryz.prog.fieldsOf 25)) := by kernel_rfl
theorem ris_under : Tryz.prog.underlying 22 = some (.slice 77) := by kernel_rfl
theorem bytes_under : Tryz.prog.underlying 23 = some (.slice 5) := by kernel_rfl
theorem RvB.of_blk {w : World} {g : Nat} {n : List UInt8} {vi vr : Value} (h : Blk w g 25 #[.string ⟨n.toArray⟩, vi, vr]) : RvB w g n vi vr where
 all := h.loads rv_under rfl (by kernel_rfl)
 name := h.one 0 rfl Tryz.underlying9 rfl
 inp := h.one 1 rfl ris_under rfl
 rcp := h.one 2 rfl bytes_under rfl
theorem RvB.below {w w' : World} {g : Nat} {n : List UInt8} {vi vr : Value} (h : RvB w g n vi vr) (hb : Below w.heap.size w w') : RvB w' g n vi vr := ⟨h.all.below hb, h.name.below hb, h.inp.below hb, h.rcp.below hb⟩
structure RfB (w : World) (g : Nat) (n : List UInt8) (vi vr : Value) : Prop where
 all : LoadsL Tryz.prog w 36 (some ⟨g, 0, none⟩) (.agg #[.string ⟨n.toArray⟩, vi, vr])
 name : LoadsL Tryz.prog w 9 (some ⟨g, 0, none⟩) (.string ⟨n.toArray⟩)
 inp : LoadsL Tryz.prog w 34 (some ⟨g, 1, none⟩) vi
 rcp : LoadsL Tryz.prog w 23 (some ⟨g, 2, none⟩) vr
theorem rf_under : Tryz.prog.underlying 36 = some (.struct (Tryz.prog.fieldsOf 36)) := by kernel_rfl
theorem rfs_under : Tryz.prog.underlying 34 = some (.slice 95) := by kernel_rfl
theorem RfB.of_blk {w : World} {g : Nat} {n : List UInt8} {vi vr : Value} (h : Blk w g 36 #[.string ⟨n.toArray⟩, vi, vr]) : RfB w g n vi vr where
 all := h.loads rf_under rfl (by kernel_rfl)
 name := h.one 0 rfl Tryz.underlying9 rfl
 inp := h.one 1 rfl rfs_under rfl
 rcp := h.one 2 rfl bytes_under rfl
theorem RfB.below {w w' : World} {g : Nat} {n : List UInt8} {vi vr : Value} (h : RfB w g n vi vr) (hb : Below w.heap.size w w') : RfB w' g n vi vr := ⟨h.all.below hb, h.name.below hb, h.inp.below hb, h.rcp.below hb⟩
/-! whether one can be -/
def canRi (x : Rin) (b : List UInt8) : Bool := isName x.1 && Op.bytesLess b x.1 && isName x.2.1.2
def canRs : List UInt8 → List Rin → Bool
 | _, [] => true
 | b, x :: l => canRi x b && canRs x.1 l
def canRv (r : Rv) : Bool := isName r.1 && decide (r.2.1.length ≤ 8) && decide (r.2.2.length ≤ 1000) && canRs [] r.2.1
def behindR (l : List Rin) : List UInt8 := match l.getLast? with | none => [] | some x => x.1
def lastOrR (b : List UInt8) (l : List Rin) : List UInt8 := match l.getLast? with | none => b | some x => x.1
theorem canRs_append (b : List UInt8) (l m : List Rin) : canRs b (l ++ m) = (canRs b l && canRs (lastOrR b l) m) := by
 induction l generalizing b with
 | nil => simp [canRs, lastOrR]
 | cons x l ih =>
  have : lastOrR b (x :: l) = lastOrR x.1 l := by
   unfold lastOrR
   cases l with
   | nil => rfl
   | cons y l => simp [List.getLast?_cons]
  simp only [List.cons_append, canRs, ih, this, Bool.and_assoc]
theorem lastOrR_nil (l : List Rin) : lastOrR [] l = behindR l := rfl
theorem canRs_succ {l : List Rin} {k : Nat} {x : Rin} (h : l[k]? = some x) : canRs [] (l.take (k + 1)) = (canRs [] (l.take k) && canRi x (behindR (l.take k))) := by
 rw [List.take_add_one, h, canRs_append, lastOrR_nil]
 simp [canRs]
theorem behindR_succ {l : List Rin} {k : Nat} {x : Rin} (h : l[k]? = some x) : behindR (l.take (k + 1)) = x.1 := by
 rw [List.take_add_one, h]
 simp [behindR]
theorem canRs_take {l : List Rin} {k : Nat} (h : canRs [] (l.take k) = false) : canRs [] l = false := by
 have := canRs_append [] (l.take k) (l.drop k)
 rw [List.take_append_drop, h, Bool.false_and] at this
 exact this
end Go.Proofs.YtdebbmembkbniaaGreat
