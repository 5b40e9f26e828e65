/- Words out of bytes, turned and mixed; a digest folded: as the code has it. (Several texts in one.) -/
import Derived.Test.YtgekpghjlhcpkaaDAC
import Derived.Stop.BytesEq
import Derived.Test.YtgekpghjlhcpkaaDAA
import Derived.Great.BuildSlice
import Derived.Maps.AppendAt
import Derived.Deep.AppendLies
import Derived.Deep.Slices
import Derived.Laws.MakeOwn
/-! (of general use) Parse: a text's path (base and spenceref03). -/
namespace Go.Agg
open Go.RowKit
section
variable {P : Program} {ops : Array Oper} {rest : List Oper} {o : Oper} {a : Act} {w : World} {Q : Exit → Act → World → Prop}
/-- a value of several cells stored into the midst of a block -/
theorem wpList_set_sub (hg : o.guard = none) (hd : o.dst = none) (ty : TypeId) (x y : Operand) (ho : o.op = .store ty x y) (g off : Nat) (cells new : Array Value) (hx : a.eval x = .pointer (some ⟨g, off, none⟩)) (hy : a.eval y = .agg cells)
    (t : TypeId) (old : Array Value) (hb : w.heap[g]? = some (.cells old t (0, 0))) (hi : (P.info? ty).map (·.size) = some cells.size) (hle : off + cells.size ≤ old.size) (h1 : cells.all (·.oneCell') = true)
    (hnew : (old.toList.take off ++ cells.toList ++ old.toList.drop (off + cells.size)).toArray = new)
    (h : wpList P ops Q rest a (w.setRow g new)) : wpList P ops Q (o :: rest) a w := by
  refine wpList_skp hg hd ?_ h
  have hr := run_storeCells_at (P := P) g off t cells.toList 0 old w hb (by simp; omega) (fun v hv => (Array.all_eq_true_iff_forall_mem.1 h1) v (by simpa using hv))
  simp only [Nat.add_zero, Array.length_toList] at hr
  rw [hnew] at hr
  cases hq : P.info? ty with
  | none => simp [hq] at hi
  | some i =>
    have hs : cells.size = i.size := by simp [hq] at hi; omega
    simp [execOp, ho, hx, hy, Instr.storeAt, Instr.sureAddr, storeVar, sizeOf, typeInfo, hq, Value.cells, hs, hr]
end
end Go.Agg
namespace Go.Proofs.Ytgekpghjlhcpkaa
open Go.RowKit Pl Go.Mp Go.Agg
def parseH (s : List UInt8) : List UInt8 := ((parse s).map (·.1)).getD z20
def parseN (s : List UInt8) : List UInt8 := ((parse s).map (·.2)).getD []
def parseE (s : List UInt8) : Int := if (parse s).isSome then 0 else 4
theorem pC_zero : (Try.prog.info? 47).map (·.zero) = some (some (.agg (pC z20 []))) := by kernel_rfl
theorem pC_info (h n : List UInt8) (hl : h.length = 20) : (Try.prog.info? 47).map (·.size) = some (pC h n).size := by rw [pC_size, hl]; kernel_rfl
theorem pC_one (h n : List UInt8) : (pC h n).all (·.oneCell') = true := by simp [pC, hC, Lib.byteCells, Value.oneCell']
theorem pC_under : Try.prog.underlying 47 = some (.struct (Try.prog.fieldsOf 47)) := by kernel_rfl
theorem sixteen (s : List UInt8) (hs : s.length < 4294967281) : (⟨s.toArray⟩ : ByteArray).size < 4294967281 := by rw [Agg.bytes_size]; exact hs
theorem pC_setHash (h h' n : List UInt8) (hl : h.length = 20) (hl' : h'.length = 20) : ((pC h n).toList.take 0 ++ (hC h').toList ++ (pC h n).toList.drop (0 + (hC h').size)).toArray = pC h' n := by
  apply Array.ext'
  simp [pC, hC, Lib.byteCells, hl, hl']
theorem pC_setName (h n n' : List UInt8) (hl : h.length = 20) : (pC h n).setIfInBounds 20 (.string ⟨n'.toArray⟩) = pC h n' := by
  apply Array.ext'
  simp [pC, hC, Lib.byteCells, hl]
theorem hashH_length (s : List UInt8) : (hashH s).length = 20 := by
  unfold hashH
  cases h : Pl.hash s with
  | none => rfl
  | some x => exact hash_length h
theorem cut_le (c : UInt8) (s : List UInt8) : (cut1 c s).2.1.length ≤ s.length := by
  induction s with
  | nil => simp [cut1]
  | cons b l ih => unfold cut1; split <;> simp <;> omega
end Go.Proofs.Ytgekpghjlhcpkaa
/-! '==' of hashes and of paths. -/
namespace Go.Proofs.Ytgekpghjlhcpkaa
open Go.RowKit Pl Go.Agg
set_option maxRecDepth 100000 in
theorem eqlIn_hash (d : Nat) (h h' : List UInt8) (hl : h.length = 20) (hl' : h'.length = 20) (w : World) : (Op.equalIn (d + 2) 45 (.agg (hC h)) (.agg (hC h'))).run Try.prog w = .ok (h == h') w :=
  run_equalIn_bytes w d 45 5 20 Try.underlying45 rfl (fun w => by kernel_rfl) h h' hl hl'
theorem eql_hash (h h' : List UInt8) (hl : h.length = 20) (hl' : h'.length = 20) (w : World) : (binOp .eql 45 (.agg (hC h)) (.agg (hC h'))).run Try.prog w = .ok (.bool (h == h')) w := by
  rw [run_eql_struct, eqlIn_hash 9998 h h' hl hl' w]; rfl
theorem path_fields : (Try.prog.fieldsOf 47).toList.map (fun f => (f.name, f.type, f.offset)) = [("Hash", 45, 0), ("Name", 9, 20)] := by kernel_rfl
theorem isAgg_hash (w : World) : (isAgg 45).run Try.prog w = .ok true w := by kernel_rfl
theorem isAgg_name (w : World) : (isAgg 9).run Try.prog w = .ok false w := by kernel_rfl
theorem size_hash (w : World) : (sizeOf 45).run Try.prog w = .ok 20 w := by kernel_rfl
theorem part_hash (h n : List UInt8) (hl : h.length = 20) (w : World) : (Go.part 45 (pC h n) 0).run Try.prog w = .ok (.agg (hC h)) w := by
  unfold Go.part
  simp only [Sem.run_bind, isAgg_hash, Result.andThen_ok, if_true, size_hash, Sem.run_pure]
  congr 2
  simp [pC, hC_size, hl]
theorem part_name (h n : List UInt8) (hl : h.length = 20) (w : World) : (Go.part 9 (pC h n) 20).run Try.prog w = .ok (.string ⟨n.toArray⟩) w := by
  unfold Go.part
  simp only [Sem.run_bind, isAgg_name, Result.andThen_ok, Bool.false_eq_true, if_false, pC_name h n hl, Sem.run_pure]
theorem eql_path (h n h' n' : List UInt8) (hl : h.length = 20) (hl' : h'.length = 20) (w : World) : (binOp .eql 47 (.agg (pC h n)) (.agg (pC h' n'))).run Try.prog w = .ok (.bool (h == h' && n == n')) w := by
  rw [run_eql_struct, run_equalIn_struct w 9999 47 _ _ pC_under (by kernel_rfl)]
  have hf := path_fields
  generalize (Try.prog.fieldsOf 47).toList = fs at hf ⊢
  cases fs with
  | nil => exact absurd hf (by simp)
  | cons f1 fs =>
  cases fs with
  | nil => exact absurd hf (by simp)
  | cons f2 fs =>
  cases fs with
  | cons f3 fs => exact absurd hf (by simp)
  | nil =>
    simp only [List.map_cons, List.map_nil, List.cons.injEq, Prod.mk.injEq, and_true] at hf
    obtain ⟨⟨a1, a2, a3⟩, b1, b2, b3⟩ := hf
    simp only [Op.eqFields, a1, a2, a3, b1, b2, b3, Sem.run_bind, Sem.run_ite, part_hash _ _ hl, part_hash _ _ hl', part_name _ _ hl, part_name _ _ hl', Result.andThen_ok, eqlIn_hash 9997 _ _ hl hl', run_equalIn_string w 9998 9 _ _ Try.underlying9, Agg.bytes_toList]
    cases h == h' <;> cases n == n' <;> simp
end Go.Proofs.Ytgekpghjlhcpkaa
/-! Slices of whatever elements, over any program: what they hold, one of them, append, make. -/
namespace Go.Agg
open Go.RowKit
structure Elem (P : Program) (α : Type) where
  ty : TypeId
  st : TypeId
  n : Nat
  bytes : Nat
  val : α → Value
  zero : Value
  pos : 0 < n
  small : n ≤ 1000
  size : ∀ a, (val a).cells.size = n
  one : ∀ a, ∀ v ∈ (val a).cells.toList, v.oneCell' = true
  zsize : zero.cells.size = n
  slice : P.underlying st = some (.slice ty)
  info : ∃ i, P.info? ty = some i ∧ i.zero = some zero ∧ i.size = n ∧ i.bytes = bytes
  load : ∀ (w : World) (p : Addr) (a : α), p.block < w.heap.size → (∀ j v, (val a).cells[j]? = some v → w.cell? (p.add j) = some v) → LoadsL P w ty (some p) (val a)
section
variable {P : Program} {α : Type} (E : Elem P α)
def Elem.cs (a : α) : List Value := (E.val a).cells.toList
theorem Elem.cs_length (a : α) : (E.cs a).length = E.n := by rw [Elem.cs, Array.length_toList]; exact E.size a
def Elem.flat (l : List α) : List Value := l.flatMap E.cs
theorem Elem.flat_length (l : List α) : (E.flat l).length = l.length * E.n := by
  induction l with
  | nil => simp [Elem.flat]
  | cons a l ih => simp only [Elem.flat, List.flatMap_cons, List.length_append, E.cs_length, List.length_cons, Nat.succ_mul] at ih ⊢; omega
theorem Elem.flat_append (a b : List α) : E.flat (a ++ b) = E.flat a ++ E.flat b := by simp [Elem.flat]
theorem Elem.flat_one (a : α) : E.flat [a] = E.cs a := by simp [Elem.flat]
theorem Elem.flat_get : ∀ (l : List α) (k : Nat) (a : α) (i : Nat) (v : Value), l[k]? = some a → (E.val a).cells[i]? = some v → (E.flat l)[k * E.n + i]? = some v
  | [], k, a, i, v, h, _ => by simp at h
  | b :: l, 0, a, i, v, h, hv => by
    obtain rfl : b = a := by simpa using h
    have hlt : i < (E.cs b).length := by rw [E.cs_length]; have := (Array.getElem?_eq_some_iff.1 hv).1; rw [E.size b] at this; omega
    rw [Elem.flat, List.flatMap_cons, Nat.zero_mul, Nat.zero_add, List.getElem?_append_left hlt]
    simpa [Elem.cs] using hv
  | b :: l, k + 1, a, i, v, h, hv => by
    have ih := Elem.flat_get l k a i v (by simpa using h) hv
    rw [Elem.flat, List.flatMap_cons, List.getElem?_append_right (by rw [E.cs_length, Nat.succ_mul]; omega), E.cs_length, show (k + 1) * E.n + i - E.n = k * E.n + i by rw [Nat.succ_mul]; omega]
    exact ih
theorem Elem.flat_all : ∀ (l : List α) (j : Nat) (u : Value), (E.flat l)[j]? = some u → ∃ k a i, l[k]? = some a ∧ (E.val a).cells[i]? = some u ∧ j = k * E.n + i
  | [], j, u, h => by simp [Elem.flat] at h
  | a :: l, j, u, h => by
    rw [Elem.flat, List.flatMap_cons] at h
    by_cases hj : j < E.n
    · rw [List.getElem?_append_left (by rw [E.cs_length]; exact hj)] at h
      exact ⟨0, a, j, rfl, by simpa [Elem.cs] using h, by simp⟩
    · rw [List.getElem?_append_right (by rw [E.cs_length]; omega), E.cs_length] at h
      obtain ⟨k, b, i, h1, h2, h3⟩ := Elem.flat_all l (j - E.n) u h
      exact ⟨k + 1, b, i, by simpa using h1, h2, by rw [Nat.succ_mul]; omega⟩
theorem Elem.flat_one' (l : List α) : ∀ u ∈ E.flat l, u.oneCell' = true := by
  intro u hu
  obtain ⟨a, _, h⟩ := List.mem_flatMap.1 hu
  exact E.one a u h
/-- a slice of these -/
def SliceOf (w : World) (v : Value) (l : List α) : Prop :=
  (∃ p c, v = .slice p 0 c ∧ l = []) ∨ ∃ p cap, v = .slice (some p) l.length cap ∧ p.block < w.heap.size ∧ ∀ j u, (E.flat l)[j]? = some u → w.cell? (p.add j) = some u
variable {E} {w w' : World} {v : Value} {l : List α}
theorem SliceOf.nil (w : World) (p : Option Addr) (c : Nat) : SliceOf E w (.slice p 0 c) [] := .inl ⟨p, c, rfl, rfl⟩
theorem SliceOf.belowAt {B : Nat} (h : SliceOf E w v l) (hb : Below B w w') (hp : ∀ p n c, v = .slice (some p) n c → p.block < B) : SliceOf E w' v l := by
  rcases h with h | ⟨p, cap, rfl, hp', h⟩
  · exact .inl h
  · have := hp p _ _ rfl
    exact .inr ⟨p, cap, rfl, Nat.lt_of_lt_of_le hp' hb.size, fun j u hj => (hb.cell (p := p.add j) (by rw [add_block]; exact this)).trans (h j u hj)⟩
theorem SliceOf.below (h : SliceOf E w v l) (hb : Below w.heap.size w w') : SliceOf E w' v l := by
  rcases h with h | ⟨p, cap, rfl, hp, h⟩
  · exact .inl h
  · exact .inr ⟨p, cap, rfl, Nat.lt_of_lt_of_le hp hb.size, fun j u hj => (hb.cell (p := p.add j) (by rw [add_block]; exact hp)).trans (h j u hj)⟩
theorem SliceOf.len (h : SliceOf E w v l) (W : World) : (Builtin.len_ #[E.st] 3 #[v]).run P W = .ok (.int .i64 (l.length : Int)) W := by
  rcases h with ⟨a, c, rfl, rfl⟩ | ⟨p, cap, rfl, _, _⟩ <;> simp [Builtin.len_, run_underlying E.slice, goInt]
theorem SliceOf.form (h : SliceOf E w v l) : ∃ p c, v = .slice p l.length c := by
  rcases h with ⟨a, c, rfl, rfl⟩ | ⟨p, cap, rfl, _, _⟩
  · exact ⟨a, c, rfl⟩
  · exact ⟨_, cap, rfl⟩
theorem run_sizeOf_elem (W : World) : (Go.sizeOf E.ty).run P W = .ok E.n W := by
  obtain ⟨i, hi, _, hs, _⟩ := E.info
  simp [Go.sizeOf, typeInfo, hi, hs]
/-- one of them -/
theorem SliceOf.at_ (h : SliceOf E w v l) (k : Nat) (a : α) (hk : l[k]? = some a) :
    ∃ p : Addr, (∀ W, (Instr.indexAt E.st v (.int .i64 (k : Int))).run P W = .ok (.pointer (some p)) W) ∧ p.block < w.heap.size ∧ (∀ j u, (E.val a).cells[j]? = some u → w.cell? (p.add j) = some u) ∧ LoadsL P w E.ty (some p) (E.val a) := by
  have hlt := (List.getElem?_eq_some_iff.1 hk).1
  rcases h with ⟨p, c, rfl, rfl⟩ | ⟨p, cap, rfl, hp, h⟩
  · simp at hlt
  · have hc : ∀ j u, (E.val a).cells[j]? = some u → w.cell? ((p.add (k * E.n)).add j) = some u := fun j u hj => by
      rw [add_add]
      exact h _ _ (E.flat_get l k a j u hk hj)
    refine ⟨p.add (k * E.n), fun W => ?_, by rw [add_block]; exact hp, hc, E.load w _ a (by rw [add_block]; exact hp) hc⟩
    have hel : P.elem E.st = E.ty := by simp [Program.elem, E.slice]
    rw [run_indexAt_slice W E.st p l.length cap .i64 (k : Int) (by rw [hel]; exact E.slice), if_pos (by omega), hel, run_sizeOf_elem]
    simp [Result.andThen]
/-- a slice of the call's own -/
def Own (E : Elem P α) (base : Nat) (w : World) (v : Value) (l : List α) : Prop := w.ownsRow base E.ty E.n v l.length (E.flat l)
variable {base : Nat}
theorem Own.nil (E : Elem P α) (base : Nat) (w : World) : Own E base w (.slice none 0 0) [] := ⟨by simp [Elem.flat], .inl ⟨rfl, rfl⟩⟩
theorem Own.slice (h : Own E base w v l) : SliceOf E w v l := by
  obtain ⟨_, ⟨rfl, h0⟩ | ⟨g, cap, cur, rfl, hgb, hcur, hle, _, _, htk⟩⟩ := h
  · exact .inl ⟨_, _, rfl, List.length_eq_zero_iff.1 h0⟩
  · refine .inr ⟨_, cap, rfl, heap_lt hcur, fun j u hj => ?_⟩
    rw [add_plain, Nat.zero_add, cell_of_row _ _ _ _ _ _ hcur]
    rw [← htk, List.getElem?_take] at hj
    split at hj
    · simpa using hj
    · cases hj
theorem Own.keep (h : Own E base w v l) (hk : ∀ (g : Nat) (cur : Array Value) (t : TypeId) (fr : Nat × Nat), base ≤ g → w.heap[g]? = some (Obj.cells cur t fr) → w'.heap[g]? = some (Obj.cells cur t fr)) : Own E base w' v l := by
  obtain ⟨h1, h2⟩ := h
  refine ⟨h1, ?_⟩
  rcases h2 with h2 | ⟨g, cap, cur, e1, e2, e3, e4⟩
  · exact .inl h2
  · exact .inr ⟨g, cap, cur, e1, e2, hk _ _ _ _ e2 e3, e4⟩
theorem Own.below (h : Own E base w v l) (hb : Below w.heap.size w w') : Own E base w' v l := h.keep fun _ _ _ _ _ hg => keep' hb hg
theorem Own.lower {b' : Nat} (h : Own E base w v l) (hb : b' ≤ base) : Own E b' w v l := by
  obtain ⟨h1, h2 | ⟨g, cap, cur, e1, e2, e3, e4⟩⟩ := h
  · exact ⟨h1, .inl h2⟩
  · exact ⟨h1, .inr ⟨g, cap, cur, e1, Nat.le_trans hb e2, e3, e4⟩⟩
theorem Own.block (h : Own E base w v l) : ∀ k, v.ownBlock = some k → base ≤ k ∧ ∃ cur, w.heap[k]? = some (.cells cur E.ty (0, 0)) := by
  obtain ⟨_, ⟨rfl, h0⟩ | ⟨g, cap, cur, rfl, hg, hc, _⟩⟩ := h
  · intro k hk; simp [Value.ownBlock] at hk
  · intro k hk
    obtain rfl : g = k := by simpa [Value.ownBlock] using hk
    exact ⟨hg, cur, hc⟩
def lenOf : Value → Nat | .slice _ n _ => n | _ => 0
theorem SliceOf.lenOf (h : SliceOf E w v l) : lenOf v = l.length := by
  obtain ⟨p, c, rfl⟩ := h.form
  rfl
/-- what a push leaves -/
structure Pushed (E : Elem P α) (base : Nat) (w w' : World) (v : Value) : Prop where
  below : ∀ B, B ≤ base → B ≤ w.heap.size → Below B w w'
  other : ∀ (g : Nat), g < w.heap.size → some g ≠ v.ownBlock → w'.heap[g]? = w.heap[g]?
  blk : ∀ (g : Nat) (t : TypeId) (cs : Array Value) (fr : Nat × Nat), t ≠ E.ty → w.heap[g]? = some (Obj.cells cs t fr) → w'.heap[g]? = some (Obj.cells cs t fr)
  map : ∀ (g : Nat) (es : Array MapEntry) (c : Nat), w.heap[g]? = some (Obj.map es c) → w'.heap[g]? = some (Obj.map es c)
  size : w.heap.size ≤ w'.heap.size
theorem pushed_of {w w' : World} {v : Value} {l : List α} (h : Own E base w v l) (hg : w.grownBy w' v.ownBlock) : Pushed E base w w' v where
  below := fun B hB hs => (Below.refl B w).grown hg hs fun k hk => Nat.le_trans hB (h.block k hk).1
  other := fun g hlt hne => hg.block g hlt hne
  blk := fun g t cs fr hne hb => (hg.block g (heap_lt hb) (fun e => by
    obtain ⟨_, cur, hc⟩ := h.block g e.symm
    rw [hb] at hc
    injection hc with hc
    injection hc with _ ht
    exact hne ht)).trans hb
  map := fun g es c hb => (hg.block g (heap_lt hb) (fun e => by
    obtain ⟨_, cur, hc⟩ := h.block g e.symm
    rw [hb] at hc
    injection hc with hc
    cases hc)).trans hb
  size := hg.size
/-- append, the row of the call's own -/
theorem run_append (hown : Own E base w v l) (x : Value) (m : List α) (hx : SliceOf E w x m) (h63 : l.length + m.length ≤ 1099511627776 / 8) (hby : E.bytes ≤ 1000) (hbase : base ≤ w.heap.size) (ty : TypeId) :
    ∃ v' w', (Builtin.append_ #[E.st, E.st] ty #[v, x]).run P w = .ok v' w' ∧ Own E base w' v' (l ++ m) ∧ w.grownBy w' v.ownBlock ∧ (v'.ownBlock = v.ownBlock ∨ v'.ownBlock = some w.heap.size) ∧ (v' = .slice none 0 0 ↔ v = .slice none 0 0 ∧ (m = [] )) := by
  obtain ⟨i, hi, hz, hs, hb⟩ := E.info
  have hmul : (l.length + m.length) * E.bytes ≤ 140737488355328 := Nat.le_trans (Nat.mul_le_mul h63 hby) (by omega)
  have hmax : l.length + m.length ≤ maxLen := by simp only [maxLen]; omega
  obtain ⟨p, c, rfl⟩ := hx.form
  cases p with
  | none =>
    have hm : m = [] := by
      rcases hx with ⟨_, _, _, h⟩ | ⟨p, cap, e, _⟩
      · exact h
      · injection e with e; cases e
    subst hm
    refine ⟨v, w, ?_, by simpa using hown, ⟨rfl, rfl, rfl, Nat.le_refl _, fun _ _ _ => rfl⟩, .inl rfl, by simp⟩
    obtain ⟨_, ⟨rfl, _⟩ | ⟨g, cap, cur, rfl, _, _, hnc, _⟩⟩ := hown
    · simp [Builtin.append_, run_underlying E.slice, sizeOf, typeInfo, hi, Builtin.lenOf, Builtin.firstCells]
    · simp [Builtin.append_, run_underlying E.slice, sizeOf, typeInfo, hi, Builtin.lenOf, Builtin.firstCells, hnc, storeCells]
  | some p =>
    have hcells : ∀ j u, (E.flat m)[j]? = some u → w.cell? (p.add j) = some u := by
      rcases hx with ⟨_, _, _, rfl⟩ | ⟨q, cap, e, _, h⟩
      · intro j u hj; simp [Elem.flat] at hj
      · injection e with e
        injection e with e
        subst e
        exact h
    obtain ⟨v', w', hrun, h2, h3, h4, h5⟩ := run_append_own_at (P := P) w base E.st ty E.ty i E.zero E.n E.bytes E.slice hi hz hs hb E.zsize E.pos v l.length (E.flat l) hown p m.length c (E.flat m) (E.flat_length m) hcells (E.flat_one' m) hmax hmul hbase
    refine ⟨v', w', hrun, ?_, h3, h5, ?_⟩
    · unfold Own
      rw [List.length_append, E.flat_append]
      exact h2
    · rw [h4, List.length_eq_zero_iff]
/-- a slice literal of one -/
theorem run_slice_one (a : α) (w : World) : (Instr.buildSlice E.st 1 #[(0, E.val a)]).run P w = .ok (.slice (some ⟨w.heap.size, 0, none⟩) 1 1) (w.alloc (.cells (E.val a).cells E.ty)) := by
  obtain ⟨i, hi, hz, hs, hb⟩ := E.info
  have hpos := E.pos
  have hsm := E.small
  refine run_buildSlice w E.st E.ty 1 _ (E.val a).cells i E.zero E.slice hi hz (by omega) (by omega) ?_
  rw [hs]
  show Instr.fill _ _ [(0, E.val a)] = _
  rw [fill_cons (off := 0) (size := E.n) (by simp) (E.size a) (by simp), fill_nil]
  congr 1
  apply Array.ext'
  have := E.size a
  simp [splice, this]
theorem slice_of_block {g : Nat} {a : α} (h : Blk w g E.ty (E.val a).cells) : SliceOf E w (.slice (some ⟨g, 0, none⟩) 1 1) [a] :=
  .inr ⟨_, 1, rfl, h.lt, fun j u hj => by rw [E.flat_one, Elem.cs] at hj; rw [add_plain, Nat.zero_add, h.cell]; simpa using hj⟩
section
variable {ops : Array Oper} {rest : List Oper} {o o2 : Oper} {a : Act} {Q : Exit → Act → World → Prop}
/-- 'append(s, x)' of one element: the literal, and the append -/
theorem wpList_push (hg : o.guard = none) (hg2 : o2.guard = none) (d : Tmp) (hd : o.dst = some d) (y : Operand) (ho : o.op = .buildSlice E.st 1 #[(0, y)]) (s : Operand)
    (ho2 : o2.op = .call { callee := .builtin .append, args := #[s, .tmp d], argTypes := #[E.st, E.st] }) (x : α) (hy : a.eval y = E.val x) (hs : ∀ p, (a.put o.dst p).eval s = v) (hsz : d < a.tmps.size)
    (hown : Own E base w v l) (h63 : l.length + 1 ≤ 1099511627776 / 8) (hby : E.bytes ≤ 1000) (hbase : base ≤ w.heap.size)
    (h : ∀ u v' w', Own E base w' v' (l ++ [x]) → Pushed E base w w' v → wpList P ops Q rest ((a.put o.dst u).put o2.dst v') w') : wpList P ops Q (o :: o2 :: rest) a w := by
  refine wpList_val hg (v := .slice (some ⟨w.heap.size, 0, none⟩) 1 1) (w' := w.alloc (.cells (E.val x).cells E.ty)) (by simp [execOp, ho, hy, run_slice_one]) ?_
  have hb1 : Below w.heap.size w (w.alloc (.cells (E.val x).cells E.ty)) := (Below.refl _ _).alloc (Nat.le_refl _) _
  have hown1 := hown.below hb1
  obtain ⟨v', w', hrun, h2, h3, _, _⟩ := run_append (ty := o2.type) hown1 _ [x] (slice_of_block (Blk.new w E.ty (E.val x).cells)) (by simpa using h63) hby (Nat.le_trans hbase hb1.size)
  have hp := pushed_of hown1 h3
  have hpu : Pushed E base w w' v := {
    below := fun B hB hs => (hb1.mono hs).trans (hp.below B hB (Nat.le_trans hs hb1.size))
    other := fun g hlt hne => (hp.other g (Nat.lt_of_lt_of_le hlt hb1.size) hne).trans (hb1.block g hlt)
    blk := fun g t cs fr hne hb => hp.blk g t cs fr hne (keep' hb1 hb)
    map := fun g es c hb => hp.map g es c (keep' hb1 hb)
    size := Nat.le_trans hb1.size hp.size }
  refine wpList_val hg2 (v := v') (w' := w') ?_ (h _ v' w' h2 hpu)
  have e2 : (a.put o.dst (.slice (some ⟨w.heap.size, 0, none⟩) 1 1)).eval (.tmp d) = .slice (some ⟨w.heap.size, 0, none⟩) 1 1 := by rw [hd]; simp [Act.put, Act.eval, hsz]
  simp [execOp, ho2, resolve, invoke, builtin, hs, e2, hrun]
/-- 'append(s, x...)' -/
theorem wpList_appendS (hg : o.guard = none) (s x : Operand) (ho : o.op = .call { callee := .builtin .append, args := #[s, x], argTypes := #[E.st, E.st] }) (vx : Value) (hs : a.eval s = v) (hx : a.eval x = vx) (m : List α)
    (hown : Own E base w v l) (hm : SliceOf E w vx m) (h63 : l.length + m.length ≤ 1099511627776 / 8) (hby : E.bytes ≤ 1000) (hbase : base ≤ w.heap.size)
    (h : ∀ v' w', Own E base w' v' (l ++ m) → Pushed E base w w' v → (v' = .slice none 0 0 ↔ v = .slice none 0 0 ∧ m = []) → wpList P ops Q rest (a.put o.dst v') w') : wpList P ops Q (o :: rest) a w := by
  obtain ⟨v', w', hrun, h2, h3, _, h5⟩ := run_append (ty := o.type) hown _ m hm h63 hby hbase
  refine wpList_val hg (v := v') (w' := w') ?_ (h v' w' h2 (pushed_of hown h3) h5)
  simp [execOp, ho, resolve, invoke, builtin, hs, hx, hrun]
/-- '[]T{}' -/
theorem wpList_slice0 (E : Elem P α) (hg : o.guard = none) (ho : o.op = .buildSlice E.st 0 #[]) (hbase : base ≤ w.heap.size)
    (h : ∀ v' w', Own E base w' v' [] → Below w.heap.size w w' → v' ≠ .slice none 0 0 → wpList P ops Q rest (a.put o.dst v') w') : wpList P ops Q (o :: rest) a w := by
  refine wpList_val hg (v := .slice (some ⟨w.heap.size, 0, none⟩) 0 0) (w' := w.alloc (.cells #[] E.ty)) ?_ (h _ _ ?_ ((Below.refl _ _).alloc (Nat.le_refl _) _) (by simp))
  · simp [execOp, ho, Instr.buildSlice, run_underlying E.slice, run_sizeOf_elem, newRow, Instr.fill]
    rw [show Array.range 0 = #[] by simp, Array.map_empty]
  · exact ⟨by simp [Elem.flat], .inr ⟨_, 0, #[], rfl, hbase, heap_alloc_new w _, Nat.le_refl _, Nat.zero_le _, by simp, by simp [Elem.flat]⟩⟩
/-- 'make([]T, 0, c)' -/
theorem wpList_make0 (E : Elem P α) (hg : o.guard = none) (kl kc : IntKind) (x : Operand) (c : Nat) (ho : o.op = .makeSlice E.st (.const (.int kl 0)) x) (hx : a.eval x = .int kc (c : Int)) (hc : c ≤ 1099511627776 / 8) (hby : E.bytes ≤ 1000) (hbase : base ≤ w.heap.size)
    (h : ∀ v' w', Own E base w' v' [] → Below w.heap.size w w' → wpList P ops Q rest (a.put o.dst v') w') : wpList P ops Q (o :: rest) a w := by
  obtain ⟨i, hi, hz, hs, hb⟩ := E.info
  have hmul : i.bytes * c ≤ 281474976710656 := by
    rw [hb]
    exact Nat.le_trans (Nat.mul_le_mul hby hc) (by omega)
  have hmi : (i.bytes : Int) * (c : Int) ≤ 281474976710656 := by
    have h5 : ((i.bytes * c : Nat) : Int) ≤ 281474976710656 := by omega
    rwa [Int.natCast_mul] at h5
  have hr := run_make (P := P) w E.st E.ty i E.zero E.slice hi hz kl kc 0 (c : Int) (by omega) (by omega) hmi (by omega)
  simp only [Int.toNat_natCast, Int.toNat_zero] at hr
  refine wpList_val hg (v := .slice (some ⟨w.heap.size, 0, none⟩) 0 c) (w' := w.alloc (.cells (madeCells E.zero.cells (c * i.size)) E.ty)) ?_ (h _ _ ?_ ((Below.refl _ _).alloc (Nat.le_refl _) _))
  · have he : a.eval (.const (.int kl 0)) = .int kl 0 := rfl
    simp [execOp, ho, hx, he, hr]
  · refine ⟨by simp [Elem.flat], .inr ⟨_, c, _, rfl, hbase, heap_alloc_new w _, Nat.zero_le _, by simp only [maxLen]; omega, ?_, by simp [Elem.flat]⟩⟩
    rw [hs]; simp [madeCells]
/-- a slice literal of two -/
theorem run_slice_two (x y : α) (w : World) : (Instr.buildSlice E.st 2 #[(0, E.val x), (1, E.val y)]).run P w = .ok (.slice (some ⟨w.heap.size, 0, none⟩) 2 2) (w.alloc (.cells ((E.val x).cells ++ (E.val y).cells) E.ty)) := by
  obtain ⟨i, hi, hz, hs, hb⟩ := E.info
  have hpos := E.pos
  have hsm := E.small
  have hsx := E.size x
  have hsy := E.size y
  refine run_buildSlice w E.st E.ty 2 _ ((E.val x).cells ++ (E.val y).cells) i E.zero E.slice hi hz (by omega) (by omega) ?_
  rw [hs]
  show Instr.fill _ _ [(0, E.val x), (1, E.val y)] = _
  rw [fill_cons (off := 0) (size := E.n) (by simp) hsx (by simp; omega), fill_cons (off := E.n) (size := E.n) (by simp) hsy (by rw [splice_size _ _ _ (by simp; omega)]; simp; omega), fill_nil]
  congr 1
  apply Array.ext'
  have hlx : (E.val x).cells.toList.length = E.n := by rw [Array.length_toList]; exact hsx
  simp only [splice, Nat.zero_add, hsx, hsy, List.take_zero, List.nil_append, Array.toList_append]
  rw [List.take_append_of_le_length (by omega), List.take_of_length_le (by omega), List.drop_append, List.drop_eq_nil_of_le (by omega : (E.val x).cells.toList.length ≤ E.n + E.n), List.nil_append, List.drop_eq_nil_of_le (by simp; omega), List.append_nil]
theorem slice_of_block2 {g : Nat} {x y : α} (h : Blk w g E.ty ((E.val x).cells ++ (E.val y).cells)) : SliceOf E w (.slice (some ⟨g, 0, none⟩) 2 2) [x, y] :=
  .inr ⟨_, 2, rfl, h.lt, fun j u hj => by
    have e : E.flat [x, y] = ((E.val x).cells ++ (E.val y).cells).toList := by simp [Elem.flat, Elem.cs]
    rw [e] at hj
    rw [add_plain, Nat.zero_add, h.cell, ← Array.getElem?_toList]; exact hj⟩
/-- 'append(s, x, y)' -/
theorem wpList_push2 (hg : o.guard = none) (hg2 : o2.guard = none) (d : Tmp) (hd : o.dst = some d) (x y : Operand) (ho : o.op = .buildSlice E.st 2 #[(0, x), (1, y)]) (s : Operand)
    (ho2 : o2.op = .call { callee := .builtin .append, args := #[s, .tmp d], argTypes := #[E.st, E.st] }) (vx vy : α) (hx : a.eval x = E.val vx) (hy : a.eval y = E.val vy) (hs : ∀ p, (a.put o.dst p).eval s = v) (hsz : d < a.tmps.size)
    (hown : Own E base w v l) (h63 : l.length + 2 ≤ 1099511627776 / 8) (hby : E.bytes ≤ 1000) (hbase : base ≤ w.heap.size)
    (h : ∀ u v' w', Own E base w' v' (l ++ [vx, vy]) → Pushed E base w w' v → wpList P ops Q rest ((a.put o.dst u).put o2.dst v') w') : wpList P ops Q (o :: o2 :: rest) a w := by
  refine wpList_val hg (v := .slice (some ⟨w.heap.size, 0, none⟩) 2 2) (w' := w.alloc (.cells ((E.val vx).cells ++ (E.val vy).cells) E.ty)) (by simp [execOp, ho, hx, hy, run_slice_two]) ?_
  have hb1 : Below w.heap.size w (w.alloc (.cells ((E.val vx).cells ++ (E.val vy).cells) E.ty)) := (Below.refl _ _).alloc (Nat.le_refl _) _
  have hown1 := hown.below hb1
  obtain ⟨v', w', hrun, h2, h3, _, _⟩ := run_append (ty := o2.type) hown1 _ [vx, vy] (slice_of_block2 (Blk.new w E.ty _)) (by simpa using h63) hby (Nat.le_trans hbase hb1.size)
  have hp := pushed_of hown1 h3
  have hpu : Pushed E base w w' v := {
    below := fun B hB hs => (hb1.mono hs).trans (hp.below B hB (Nat.le_trans hs hb1.size))
    other := fun g hlt hne => (hp.other g (Nat.lt_of_lt_of_le hlt hb1.size) hne).trans (hb1.block g hlt)
    blk := fun g t cs fr hne hb => hp.blk g t cs fr hne (keep' hb1 hb)
    map := fun g es c hb => hp.map g es c (keep' hb1 hb)
    size := Nat.le_trans hb1.size hp.size }
  refine wpList_val hg2 (v := v') (w' := w') ?_ (h _ v' w' h2 hpu)
  have e2 : (a.put o.dst (.slice (some ⟨w.heap.size, 0, none⟩) 2 2)).eval (.tmp d) = .slice (some ⟨w.heap.size, 0, none⟩) 2 2 := by rw [hd]; simp [Act.put, Act.eval, hsz]
  simp [execOp, ho2, resolve, invoke, builtin, hs, e2, hrun]
/-- an append at a step of a region that draws its order -/
theorem step_appendS {K : Act → World → Prop} {F : Prop} (hg : o.guard = none) (s x : Operand) (ho : o.op = .call { callee := .builtin .append, args := #[s, x], argTypes := #[E.st, E.st] }) (vx : Value) (hs : a.eval s = v) (hx : a.eval x = vx) (m : List α)
    (hown : Own E base w v l) (hm : SliceOf E w vx m) (h63 : l.length + m.length ≤ 1099511627776 / 8) (hby : E.bytes ≤ 1000) (hbase : base ≤ w.heap.size)
    (h : ∀ v' w', Own E base w' v' (l ++ m) → Pushed E base w w' v → K (a.put o.dst v') w') : if Region.wanted o (yielded ops a.tmps) = true then o.wp P a w K Q else F := by
  rw [if_pos (by simp [Region.wanted, hg])]
  obtain ⟨v', w', hrun, h2, h3, _, _⟩ := run_append (ty := o.type) hown _ m hm h63 hby hbase
  unfold Oper.wp
  have : (execOp a.eval o).run P w = .ok (.value v') w' := by simp [execOp, ho, resolve, invoke, builtin, hs, hx, hrun]
  rw [this]
  exact h v' w' h2 (pushed_of hown h3)
/-- '[]T{x}' -/
theorem wpList_slice1 (hg : o.guard = none) (y : Operand) (ho : o.op = .buildSlice E.st 1 #[(0, y)]) (x : α) (hy : a.eval y = E.val x) (hbase : base ≤ w.heap.size)
    (h : ∀ v' w', Own E base w' v' [x] → Below w.heap.size w w' → wpList P ops Q rest (a.put o.dst v') w') : wpList P ops Q (o :: rest) a w := by
  refine wpList_val hg (v := .slice (some ⟨w.heap.size, 0, none⟩) 1 1) (w' := w.alloc (.cells (E.val x).cells E.ty)) (by simp [execOp, ho, hy, run_slice_one]) (h _ _ ?_ ((Below.refl _ _).alloc (Nat.le_refl _) _))
  have hs := E.size x
  refine ⟨by rw [E.flat_one, E.cs_length]; simp, .inr ⟨_, 1, _, rfl, hbase, heap_alloc_new w _, Nat.le_refl _, by simp [maxLen], by rw [hs]; simp, ?_⟩⟩
  rw [E.flat_one, Elem.cs, List.take_of_length_le (by rw [Array.length_toList, hs]; simp)]
/-- '[]T{x, y}' -/
theorem wpList_slice2 (hg : o.guard = none) (x y : Operand) (ho : o.op = .buildSlice E.st 2 #[(0, x), (1, y)]) (vx vy : α) (hx : a.eval x = E.val vx) (hy : a.eval y = E.val vy)
    (h : ∀ v' w', SliceOf E w' v' [vx, vy] → Below w.heap.size w w' → wpList P ops Q rest (a.put o.dst v') w') : wpList P ops Q (o :: rest) a w :=
  wpList_val hg (v := .slice (some ⟨w.heap.size, 0, none⟩) 2 2) (w' := w.alloc (.cells ((E.val vx).cells ++ (E.val vy).cells) E.ty)) (by simp [execOp, ho, hx, hy, run_slice_two])
    (h _ _ (slice_of_block2 (Blk.new w E.ty _)) ((Below.refl _ _).alloc (Nat.le_refl _) _))
end
end
end Go.Agg
/-! Slices of paths: what they hold. -/
namespace Go.Proofs.Ytgekpghjlhcpkaa
open Go.RowKit Pl Go.Agg
/-- a path whose hash has twenty bytes -/
abbrev P20 : Type := { p : List UInt8 × List UInt8 // p.1.length = 20 }
instance : Inhabited P20 := ⟨⟨(z20, []), rfl⟩⟩
def pV (p : P20) : Value := .agg (pC p.1.1 p.1.2)
def cells20 (p : P20) : List Value := (pC p.1.1 p.1.2).toList
theorem cells20_length (p : P20) : (cells20 p).length = 21 := by simp [cells20, pC_size, p.2]
def flat (l : List P20) : List Value := l.flatMap cells20
theorem flat_length (l : List P20) : (flat l).length = l.length * 21 := by
  induction l with
  | nil => rfl
  | cons p l ih => simp only [flat, List.flatMap_cons, List.length_append, cells20_length, List.length_cons] at ih ⊢; omega
theorem flat_append (a b : List P20) : flat (a ++ b) = flat a ++ flat b := by simp [flat]
theorem flat_get : ∀ (l : List P20) (j : Nat) (p : P20) (i : Nat) (v : Value), l[j]? = some p → (pC p.1.1 p.1.2)[i]? = some v → (flat l)[j * 21 + i]? = some v
  | [], j, p, i, v, h, _ => by simp at h
  | q :: l, 0, p, i, v, h, hv => by
    obtain rfl : q = p := by simpa using h
    have hlt : i < (cells20 q).length := by rw [cells20_length]; have := (Array.getElem?_eq_some_iff.1 hv).1; rw [pC_size, q.2] at this; omega
    rw [flat, List.flatMap_cons, Nat.zero_mul, Nat.zero_add, List.getElem?_append_left hlt]
    simpa [cells20] using hv
  | q :: l, j + 1, p, i, v, h, hv => by
    have ih := flat_get l j p i v (by simpa using h) hv
    rw [flat, List.flatMap_cons, List.getElem?_append_right (by rw [cells20_length]; omega), cells20_length, show (j + 1) * 21 + i - 21 = j * 21 + i by omega]
    exact ih
theorem info_path : ∃ i, Try.prog.info? 47 = some i ∧ i.zero = some (.agg (pC z20 [])) ∧ i.size = 21 ∧ i.bytes = 40 := by
  have hz := pC_zero
  have hs : (Try.prog.info? 47).map (·.size) = some 21 := by kernel_rfl
  have hb : (Try.prog.info? 47).map (·.bytes) = some 40 := by kernel_rfl
  cases hi : Try.prog.info? 47 with
  | none => rw [hi] at hz; cases hz
  | some i =>
    rw [hi] at hz hs hb
    exact ⟨i, rfl, Option.some.inj hz, Option.some.inj hs, Option.some.inj hb⟩
theorem cells20_one (p : P20) (v : Value) (hv : v ∈ cells20 p) : v.oneCell' = true := by
  have h := pC_one p.1.1 p.1.2
  rw [Array.all_eq_true_iff_forall_mem] at h
  exact h v (by simpa [cells20] using hv)
end Go.Proofs.Ytgekpghjlhcpkaa
/-! (of general use) Bytes and texts as elements. -/
namespace Go.Proofs.Ytgekpghjlhcpkaa
open Go.RowKit Pl Go.Agg
theorem info_of {P : Program} {ty : TypeId} {z : Value} {n b : Nat} (hz : (P.info? ty).map (·.zero) = some (some z)) (hs : (P.info? ty).map (·.size) = some n) (hb : (P.info? ty).map (·.bytes) = some b) :
    ∃ i, P.info? ty = some i ∧ i.zero = some z ∧ i.size = n ∧ i.bytes = b := by
  cases hi : P.info? ty with
  | none => rw [hi] at hz; cases hz
  | some i =>
    rw [hi] at hz hs hb
    exact ⟨i, rfl, Option.some.inj hz, Option.some.inj hs, Option.some.inj hb⟩
theorem one_of {cs : Array Value} (h : cs.all (·.oneCell') = true) (v : Value) (hv : v ∈ cs.toList) : v.oneCell' = true := by
  rw [Array.all_eq_true_iff_forall_mem] at h
  exact h v (by simpa using hv)
/-- bytes -/
def EB : Elem Try.prog UInt8 where
  ty := 5
  st := 23
  n := 1
  bytes := 1
  val := fun c => .int .u8 (c.toNat : Int)
  zero := .int .u8 0
  pos := by omega
  small := by omega
  size := fun x => rfl
  one := fun x v hv => by
    obtain rfl : v = .int .u8 (x.toNat : Int) := by simpa [Value.cells] using hv
    rfl
  zsize := rfl
  slice := by kernel_rfl
  info := info_of (by kernel_rfl) (by kernel_rfl) (by kernel_rfl)
  load := fun w a x hp h => LoadsL.of_cell (by have := h 0 _ rfl; rwa [show a.add 0 = a from rfl] at this) Try.underlying5 rfl
abbrev BytesAt (w : World) (v : Value) (l : List UInt8) : Prop := SliceOf EB w v l
theorem bytes_len {w : World} {v : Value} {l : List UInt8} (h : BytesAt w v l) (W : World) : (Builtin.len_ #[23] 3 #[v]).run Try.prog W = .ok (.int .i64 (l.length : Int)) W := h.len W
theorem str_len' (s : List UInt8) (w : World) : (Builtin.len_ #[9] 3 #[.string ⟨s.toArray⟩]).run Try.prog w = .ok (.int .i64 (s.length : Int)) w := by
  rw [run_len_string w 9 3 _ Try.underlying9, Agg.bytes_size]; rfl
theorem byte_at {w : World} {v : Value} {l : List UInt8} (h : BytesAt w v l) (k : Nat) (x : UInt8) (hx : l[k]? = some x) :
    ∃ p : Addr, (∀ W, (Instr.indexAt 23 v (.int .i64 (k : Int))).run Try.prog W = .ok (.pointer (some p)) W) ∧ LoadsL Try.prog w 5 (some p) (.int .u8 (x.toNat : Int)) := by
  obtain ⟨p, h1, _, _, h4⟩ := h.at_ k x hx
  exact ⟨p, h1, h4⟩
end Go.Proofs.Ytgekpghjlhcpkaa
/-! Hashes of twenty bytes. -/
namespace Go.Proofs.Ytgekpghjlhcpkaa
open Go.RowKit Pl Go.Agg
abbrev H20 : Type := { h : List UInt8 // h.length = 20 }
instance : Inhabited H20 := ⟨⟨z20, rfl⟩⟩
instance : DecidableEq P20 := inferInstance
instance : DecidableEq H20 := inferInstance
end Go.Proofs.Ytgekpghjlhcpkaa
/-! Builts, and what was made: their cells; both as elements of slices. -/
namespace Go.Proofs.Ytgekpghjlhcpkaa
open Go.RowKit Pl Go.Agg
/-- a class and a path -/
abbrev Md : Type := H20 × P20
instance : DecidableEq Md := inferInstance
instance : DecidableEq (List Md) := inferInstance
/-- a built -/
structure Bu where
  cl : H20
  ky : H20
  pa : P20
  by_ : Int
  ins : List Md
  deriving DecidableEq
/-- how a slice lies -/
abbrev IV : Type := Option Addr × Nat × Nat
def ivV (i : IV) : Value := .slice i.1 i.2.1 i.2.2
/-- a built, and how its inputs lie -/
abbrev BuV : Type := Bu × IV
def mC (x : Md) : Array Value := hC x.1.1 ++ pC x.2.1.1 x.2.1.2
def bC (x : BuV) : Array Value := hC x.1.cl.1 ++ (hC x.1.ky.1 ++ (pC x.1.pa.1.1 x.1.pa.1.2 ++ #[.int .i64 x.1.by_, ivV x.2]))
def zM : Md := (⟨z20, rfl⟩, ⟨(z20, []), rfl⟩)
def zB : Bu := ⟨⟨z20, rfl⟩, ⟨z20, rfl⟩, ⟨(z20, []), rfl⟩, 0, []⟩
theorem mC_size (x : Md) : (mC x).size = 41 := by simp [mC, pC_size, hC_size, x.1.2, x.2.2]
theorem bC_size (x : BuV) : (bC x).size = 63 := by simp [bC, pC_size, hC_size, x.1.cl.2, x.1.ky.2, x.1.pa.2]
theorem mC_one (x : Md) : (mC x).all (·.oneCell') = true := by rw [mC, Array.all_append, pC_one, hC_one]; rfl
theorem bC_one (x : BuV) : (bC x).all (·.oneCell') = true := by
  rw [bC, Array.all_append, Array.all_append, Array.all_append, pC_one, hC_one, hC_one]; simp [Value.oneCell', ivV]
theorem mC_cl (x : Md) (j : Nat) (v : Value) (h : (hC x.1.1)[j]? = some v) : (mC x)[0 + j]? = some v := by
  have := (Array.getElem?_eq_some_iff.1 h).1
  rw [mC, Nat.zero_add, Array.getElem?_append_left this]; exact h
theorem mC_pa (x : Md) (j : Nat) (v : Value) (h : (pC x.2.1.1 x.2.1.2)[j]? = some v) : (mC x)[20 + j]? = some v := by
  rw [mC, Array.getElem?_append_right (by rw [hC_size, x.1.2]; omega), hC_size, x.1.2, show 20 + j - 20 = j by omega]; exact h
theorem bC_cl (x : BuV) (j : Nat) (v : Value) (h : (hC x.1.cl.1)[j]? = some v) : (bC x)[0 + j]? = some v := by
  have := (Array.getElem?_eq_some_iff.1 h).1
  rw [bC, Nat.zero_add, Array.getElem?_append_left this]; exact h
theorem bC_ky (x : BuV) (j : Nat) (v : Value) (h : (hC x.1.ky.1)[j]? = some v) : (bC x)[20 + j]? = some v := by
  have := (Array.getElem?_eq_some_iff.1 h).1
  rw [bC, Array.getElem?_append_right (by rw [hC_size, x.1.cl.2]; omega), hC_size, x.1.cl.2, show 20 + j - 20 = j by omega, Array.getElem?_append_left this]; exact h
theorem bC_pa (x : BuV) (j : Nat) (v : Value) (h : (pC x.1.pa.1.1 x.1.pa.1.2)[j]? = some v) : (bC x)[40 + j]? = some v := by
  have := (Array.getElem?_eq_some_iff.1 h).1
  rw [bC, Array.getElem?_append_right (by rw [hC_size, x.1.cl.2]; omega), hC_size, x.1.cl.2, show 40 + j - 20 = 20 + j by omega, Array.getElem?_append_right (by rw [hC_size, x.1.ky.2]; omega), hC_size, x.1.ky.2, show 20 + j - 20 = j by omega, Array.getElem?_append_left this]; exact h
theorem bC_tail (x : BuV) (j : Nat) : (bC x)[61 + j]? = (#[.int .i64 x.1.by_, ivV x.2] : Array Value)[j]? := by
  rw [bC, Array.getElem?_append_right (by rw [hC_size, x.1.cl.2]; omega), hC_size, x.1.cl.2, show 61 + j - 20 = 41 + j by omega, Array.getElem?_append_right (by rw [hC_size, x.1.ky.2]; omega), hC_size, x.1.ky.2, show 41 + j - 20 = 21 + j by omega, Array.getElem?_append_right (by rw [pC_size, x.1.pa.2]; omega), pC_size, x.1.pa.2, show 21 + j - (20 + 1) = j by omega]
theorem mC_zero : (Try.prog.info? 72).map (·.zero) = some (some (.agg (mC zM))) := by kernel_rfl
theorem mC_info (x : Md) : (Try.prog.info? 72).map (·.size) = some (mC x).size := by rw [mC_size]; kernel_rfl
theorem mC_under : Try.prog.underlying 72 = some (.struct (Try.prog.fieldsOf 72)) := by kernel_rfl
theorem made_under : Try.prog.underlying 26 = some (.slice 72) := by kernel_rfl
/-- what was made, as elements -/
def EMd : Elem Try.prog Md where
  ty := 72
  st := 26
  n := 41
  bytes := 64
  val := fun x => .agg (mC x)
  zero := .agg (mC zM)
  pos := by omega
  small := by omega
  size := fun x => by simp [Value.cells, mC_size]
  one := fun x v hv => one_of (mC_one x) v hv
  zsize := by simp [Value.cells, mC_size]
  slice := by kernel_rfl
  info := info_of mC_zero (by kernel_rfl) (by kernel_rfl)
  load := fun w a x hp h => LoadsL.of_cells hp h mC_under rfl (mC_info x)
abbrev MdsAt (w : World) (v : Value) (l : List Md) : Prop := SliceOf EMd w v l
theorem mds_len {w : World} {v : Value} {l : List Md} (h : MdsAt w v l) (W : World) : (Builtin.len_ #[26] 3 #[v]).run Try.prog W = .ok (.int .i64 (l.length : Int)) W := h.len W
/-- builts: each, with its inputs -/
def InsAt (w : World) (x : BuV) : Prop := MdsAt w (ivV x.2) x.1.ins
theorem InsAt.below {w w' : World} {x : BuV} (h : InsAt w x) (hb : Below w.heap.size w w') : InsAt w' x := SliceOf.below h hb
/-- what lies at one that was made -/
structure MdL (w : World) (p : Addr) (x : Md) : Prop where
  all : LoadsL Try.prog w 72 (some p) (.agg (mC x))
  cls : LoadsL Try.prog w 45 (some (p.add 0)) (.agg (hC x.1.1))
  path : LoadsL Try.prog w 47 (some (p.add 20)) (.agg (pC x.2.1.1 x.2.1.2))
  pname : LoadsL Try.prog w 9 (some ((p.add 20).add 20)) (.string ⟨x.2.1.2.toArray⟩)
theorem MdL.of_cells {w : World} {p : Addr} {x : Md} (hp : p.block < w.heap.size) (h : ∀ j u, (mC x)[j]? = some u → w.cell? (p.add j) = some u) : MdL w p x where
  all := LoadsL.of_cells hp h mC_under rfl (mC_info x)
  cls := LoadsL.of_cells (by rw [add_block]; exact hp) (fun j v hj => by rw [add_add]; exact h _ _ (mC_cl x j v hj)) Try.underlying45 rfl (hC_info _ x.1.2)
  path := LoadsL.of_cells (by rw [add_block]; exact hp) (fun j v hj => by rw [add_add]; exact h _ _ (mC_pa x j v hj)) pC_under rfl (pC_info _ _ x.2.2)
  pname := LoadsL.of_cell (by rw [add_add]; exact h _ _ (mC_pa x 20 _ (pC_name _ _ x.2.2))) Try.underlying9 rfl
theorem MdL.below {w w' : World} {p : Addr} {x : Md} (h : MdL w p x) (hb : Below w.heap.size w w') : MdL w' p x := ⟨h.all.below hb, h.cls.below hb, h.path.below hb, h.pname.below hb⟩
theorem mds_at {w : World} {v : Value} {l : List Md} (h : MdsAt w v l) (k : Nat) (x : Md) (hk : l[k]? = some x) :
    ∃ q : Addr, (∀ W, (Instr.indexAt 26 v (.int .i64 (k : Int))).run Try.prog W = .ok (.pointer (some q)) W) ∧ MdL w q x := by
  obtain ⟨p, h1, h2, h3, _⟩ := h.at_ k x hk
  exact ⟨p, h1, MdL.of_cells h2 h3⟩
/-- what lies in a box with one -/
structure MdG (w : World) (b : Nat) (x : Md) : Prop where
  all : LoadsL Try.prog w 72 (some ⟨b, 0, none⟩) (.agg (mC x))
  cls : LoadsL Try.prog w 45 (some ⟨b, 0, none⟩) (.agg (hC x.1.1))
  path : LoadsL Try.prog w 47 (some ⟨b, 20, none⟩) (.agg (pC x.2.1.1 x.2.1.2))
  pname : LoadsL Try.prog w 9 (some ⟨b, 40, none⟩) (.string ⟨x.2.1.2.toArray⟩)
theorem MdG.of_blk {w : World} {b : Nat} {x : Md} (h : Blk w b 72 (mC x)) : MdG w b x := by
  have H := MdL.of_cells (w := w) (p := ⟨b, 0, none⟩) (x := x) h.lt (fun j u hj => by rw [add_plain, h.cell, Nat.zero_add]; exact hj)
  exact ⟨H.all, H.cls, H.path, H.pname⟩
theorem MdG.below {w w' : World} {b : Nat} {x : Md} (h : MdG w b x) (hb : Below w.heap.size w w') : MdG w' b x := ⟨h.all.below hb, h.cls.below hb, h.path.below hb, h.pname.below hb⟩
theorem MdL.of_blk {w : World} {g : Nat} {x : Md} (h : Blk w g 72 (mC x)) : MdL w ⟨g, 0, none⟩ x :=
  MdL.of_cells h.lt fun j u hj => by rw [add_plain, h.cell, Nat.zero_add]; exact hj
end Go.Proofs.Ytgekpghjlhcpkaa
/-! The digest that the document tells (chapter 2), as a function: plain Lean, no program in sight. -/
namespace Go.Sha
abbrev W := BitVec 32
/-- the eight words -/
structure St where
  (a b c d e f g h : W)
deriving DecidableEq
def rot (x : W) (k : Nat) : W := (x >>> k) ||| (x <<< (32 - k))
def s0 (x : W) : W := rot x 2 ^^^ rot x 13 ^^^ rot x 22
def s1 (x : W) : W := rot x 6 ^^^ rot x 11 ^^^ rot x 25
def t0 (x : W) : W := rot x 7 ^^^ rot x 18 ^^^ (x >>> 3)
def t1 (x : W) : W := rot x 17 ^^^ rot x 19 ^^^ (x >>> 10)
def ch (x y z : W) : W := z ^^^ (x &&& (y ^^^ z))
def maj (x y z : W) : W := (x &&& (y ||| z)) ||| (y &&& z)
theorem ch_eq (x y z : W) : (x &&& y) ||| (~~~x &&& z) = ch x y z := by
  unfold ch; ext i hi; simp; cases x[i] <;> cases y[i] <;> cases z[i] <;> rfl
theorem maj_eq (x y z : W) : ((x &&& y) ||| (x &&& z)) ||| (y &&& z) = maj x y z := by
  unfold maj; ext i hi; simp; cases x[i] <;> cases y[i] <;> cases z[i] <;> rfl
/-- one round -/
def round (k w : W) (x : St) : St :=
  let p := x.h + s1 x.e + ch x.e x.f x.g + k + w
  ⟨p + (s0 x.a + maj x.a x.b x.c), x.a, x.b, x.c, x.d + p, x.e, x.f, x.g⟩
def ks : List W := [
  0x428a2f98, 0x71374491, 0xb5c0fbcf, 0xe9b5dba5, 0x3956c25b, 0x59f111f1, 0x923f82a4, 0xab1c5ed5,
  0xd807aa98, 0x12835b01, 0x243185be, 0x550c7dc3, 0x72be5d74, 0x80deb1fe, 0x9bdc06a7, 0xc19bf174,
  0xe49b69c1, 0xefbe4786, 0x0fc19dc6, 0x240ca1cc, 0x2de92c6f, 0x4a7484aa, 0x5cb0a9dc, 0x76f988da,
  0x983e5152, 0xa831c66d, 0xb00327c8, 0xbf597fc7, 0xc6e00bf3, 0xd5a79147, 0x06ca6351, 0x14292967,
  0x27b70a85, 0x2e1b2138, 0x4d2c6dfc, 0x53380d13, 0x650a7354, 0x766a0abb, 0x81c2c92e, 0x92722c85,
  0xa2bfe8a1, 0xa81a664b, 0xc24b8b70, 0xc76c51a3, 0xd192e819, 0xd6990624, 0xf40e3585, 0x106aa070,
  0x19a4c116, 0x1e376c08, 0x2748774c, 0x34b0bcb5, 0x391c0cb3, 0x4ed8aa4a, 0x5b9cca4f, 0x682e6ff3,
  0x748f82ee, 0x78a5636f, 0x84c87814, 0x8cc70208, 0x90befffa, 0xa4506ceb, 0xbef9a3f7, 0xc67178f2]
theorem ks_length : ks.length = 64 := rfl
/-- four bytes as a word, the highest first -/
def word (b : List UInt8) (i : Nat) : W := BitVec.ofNat 32 (16777216 * (b.getD i 0).toNat + 65536 * (b.getD (i + 1) 0).toNat + 256 * (b.getD (i + 2) 0).toNat + (b.getD (i + 3) 0).toNat)
def nextW (w : List W) : W := t1 (w.getD (w.length - 2) 0) + w.getD (w.length - 7) 0 + t0 (w.getD (w.length - 15) 0) + w.getD (w.length - 16) 0
/-- the first t words of a block -/
def words (b : List UInt8) : Nat → List W
  | 0 => []
  | t + 1 => let w := words b t; w ++ [if t < 16 then word b (4 * t) else nextW w]
theorem words_length (b : List UInt8) (t : Nat) : (words b t).length = t := by
  induction t with
  | zero => rfl
  | succ t ih => simp [words, ih]
def rounds (b : List UInt8) : Nat → St → St
  | 0, x => x
  | t + 1, x => round (ks.getD t 0) ((words b 64).getD t 0) (rounds b t x)
def add (x y : St) : St := ⟨x.a + y.a, x.b + y.b, x.c + y.c, x.d + y.d, x.e + y.e, x.f + y.f, x.g + y.g, x.h + y.h⟩
/-- a block turns the words -/
def block (x : St) (b : List UInt8) : St := add x (rounds b 64 x)
def first : St := ⟨0x6a09e667, 0xbb67ae85, 0x3c6ef372, 0xa54ff53a, 0x510e527f, 0x9b05688c, 0x1f83d9ab, 0x5be0cd19⟩
/-- n blocks of bytes -/
def blocks (l : List UInt8) : Nat → St → St
  | 0, x => x
  | n + 1, x => block (blocks l n x) ((l.drop (64 * n)).take 64)
def tail (n : Nat) : List UInt8 := (128 : UInt8) :: (List.replicate ((119 - n % 64) % 64) 0 ++ (List.range 8).map fun i => UInt8.ofNat (8 * n / 256 ^ (7 - i)))
def padded (l : List UInt8) : List UInt8 := l ++ tail l.length
theorem tail_length (n : Nat) : (tail n).length = (119 - n % 64) % 64 + 9 := by simp [tail]
theorem padded_mod (l : List UInt8) : (padded l).length % 64 = 0 := by
  simp only [padded, List.length_append, tail_length]; omega
def St.list (x : St) : List W := [x.a, x.b, x.c, x.d, x.e, x.f, x.g, x.h]
def St.byte (x : St) (i : Nat) : UInt8 := UInt8.ofNat ((x.list.getD (i / 4) 0).toNat / 256 ^ (3 - i % 4))
def digest (l : List UInt8) : List UInt8 := (List.range 32).map (blocks (padded l) ((padded l).length / 64) first).byte
/-- a digest, folded -/
def fold (s : List UInt8) : List UInt8 := (List.range 20).map fun i => if i < 12 then s.getD i 0 ^^^ s.getD (i + 20) 0 else s.getD i 0
example : (digest []).take 4 = [0xe3, 0xb0, 0xc4, 0x42] := by decide +kernel
example : (digest [97, 98, 99]).take 4 = [0xba, 0x78, 0x16, 0xbf] := by decide +kernel
end Go.Sha
/-! Words of 32 bits as values: what the operations make of them. -/
namespace Go.Agg
open Go.RowKit Go.Sha
def vW (x : W) : Value := .int .u32 (x.toNat : Int)
theorem ofInt_vW (x : W) : BitVec.ofInt 32 (x.toNat : Int) = x := by
  rw [BitVec.ofInt_natCast, BitVec.ofNat_toNat, BitVec.setWidth_eq]
theorem wrap_u32W (x : W) : IntKind.u32.wrap ((x.toNat : Nat) : Int) = (x.toNat : Int) := by
  have := x.isLt
  simp only [IntKind.wrap, IntKind.signed, IntKind.bits, Bool.false_and, Bool.false_eq_true, if_false]
  omega
section
variable {P : Program} {w : World} {t : TypeId} {x y : W}
theorem run_xorW : (binOp .xor t (vW x) (vW y)).run P w = .ok (vW (x ^^^ y)) w := by
  have h : IntKind.u32.wrap (((BitVec.ofInt 32 (x.toNat : Int) ^^^ BitVec.ofInt 32 (y.toNat : Int)).toNat : Nat) : Int) = ((x ^^^ y).toNat : Int) := by rw [ofInt_vW, ofInt_vW]; exact wrap_u32W _
  simp only [binOp, vW, Op.intBits]
  exact congrArg (fun n => Result.ok (Value.int .u32 n) w) h
theorem run_andW : (binOp .and t (vW x) (vW y)).run P w = .ok (vW (x &&& y)) w := by
  have h : IntKind.u32.wrap (((BitVec.ofInt 32 (x.toNat : Int) &&& BitVec.ofInt 32 (y.toNat : Int)).toNat : Nat) : Int) = ((x &&& y).toNat : Int) := by rw [ofInt_vW, ofInt_vW]; exact wrap_u32W _
  simp only [binOp, vW, Op.intBits]
  exact congrArg (fun n => Result.ok (Value.int .u32 n) w) h
theorem run_orW : (binOp .or t (vW x) (vW y)).run P w = .ok (vW (x ||| y)) w := by
  have h : IntKind.u32.wrap (((BitVec.ofInt 32 (x.toNat : Int) ||| BitVec.ofInt 32 (y.toNat : Int)).toNat : Nat) : Int) = ((x ||| y).toNat : Int) := by rw [ofInt_vW, ofInt_vW]; exact wrap_u32W _
  simp only [binOp, vW, Op.intBits]
  exact congrArg (fun n => Result.ok (Value.int .u32 n) w) h
theorem run_addW : (binOp .add t (vW x) (vW y)).run P w = .ok (vW (x + y)) w := by
  have h : IntKind.u32.wrap ((x.toNat : Int) + (y.toNat : Int)) = ((x + y).toNat : Int) := by
    rw [BitVec.toNat_add]
    simp only [IntKind.wrap, IntKind.signed, IntKind.bits, Bool.false_and, Bool.false_eq_true, if_false]
    omega
  simp only [binOp, vW, Op.intArith]
  exact congrArg (fun n => Result.ok (Value.int .u32 n) w) h
theorem run_shlW (k : IntKind) (n : Nat) (hn : n < 32) : (binOp .shl t (vW x) (.int k (n : Int))).run P w = .ok (vW (x <<< n)) w := by
  have h : IntKind.u32.wrap ((x.toNat : Int) * 2 ^ (min ((n : Int).toNat) 32)) = ((x <<< n).toNat : Int) := by
    rw [BitVec.toNat_shiftLeft, Nat.shiftLeft_eq, show min ((n : Int).toNat) 32 = n by omega]
    simp only [IntKind.wrap, IntKind.signed, IntKind.bits, Bool.false_and, Bool.false_eq_true, if_false]
    have : ((x.toNat : Int) * 2 ^ n) = ((x.toNat * 2 ^ n : Nat) : Int) := by push_cast; rfl
    rw [this]
    omega
  simp only [binOp, vW, Op.shift, if_neg (show ¬ (n : Int) < 0 by omega)]
  exact congrArg (fun n => Result.ok (Value.int .u32 n) w) h
theorem run_shrW (k : IntKind) (n : Nat) (hn : n < 32) : (binOp .shr t (vW x) (.int k (n : Int))).run P w = .ok (vW (x >>> n)) w := by
  have h : ((x.toNat : Int).fdiv (2 ^ (min ((n : Int).toNat) 32))) = ((x >>> n).toNat : Int) := by
    rw [BitVec.toNat_ushiftRight, Nat.shiftRight_eq_div_pow, show min ((n : Int).toNat) 32 = n by omega]
    have : ((2 : Int) ^ n) = ((2 ^ n : Nat) : Int) := by push_cast; rfl
    rw [this, Int.fdiv_eq_ediv_of_nonneg _ (Int.natCast_nonneg _)]
    exact (Int.natCast_ediv _ _).symm
  simp only [binOp, vW, Op.shift, if_neg (show ¬ (n : Int) < 0 by omega)]
  exact congrArg (fun n => Result.ok (Value.int .u32 n) w) h
end
section
variable {P : Program} {o : Oper} {a : Act} {w : World} {t u : TypeId} {p q : Operand} {x y : W}
theorem exec_xorW (ho : o.op = .binOp .xor t p q u) (hx : a.eval p = vW x) (hy : a.eval q = vW y) : (execOp a.eval o).run P w = .ok (.value (vW (x ^^^ y))) w := by
  simp only [execOp, ho, hx, hy]
  simp [eqGuard, run_xorW]
theorem exec_andW (ho : o.op = .binOp .and t p q u) (hx : a.eval p = vW x) (hy : a.eval q = vW y) : (execOp a.eval o).run P w = .ok (.value (vW (x &&& y))) w := by
  simp only [execOp, ho, hx, hy]
  simp [eqGuard, run_andW]
theorem exec_orW (ho : o.op = .binOp .or t p q u) (hx : a.eval p = vW x) (hy : a.eval q = vW y) : (execOp a.eval o).run P w = .ok (.value (vW (x ||| y))) w := by
  simp only [execOp, ho, hx, hy]
  simp [eqGuard, run_orW]
theorem exec_addW (ho : o.op = .binOp .add t p q u) (hx : a.eval p = vW x) (hy : a.eval q = vW y) : (execOp a.eval o).run P w = .ok (.value (vW (x + y))) w := by
  simp only [execOp, ho, hx, hy]
  simp [eqGuard, run_addW]
theorem exec_shlW {k : IntKind} (n : Nat) (hn : n < 32) (ho : o.op = .binOp .shl t p q u) (hx : a.eval p = vW x) (hy : a.eval q = .int k (n : Int)) : (execOp a.eval o).run P w = .ok (.value (vW (x <<< n))) w := by
  simp only [execOp, ho, hx, hy]
  simp [eqGuard, run_shlW k n hn]
theorem exec_shrW {k : IntKind} (n : Nat) (hn : n < 32) (ho : o.op = .binOp .shr t p q u) (hx : a.eval p = vW x) (hy : a.eval q = .int k (n : Int)) : (execOp a.eval o).run P w = .ok (.value (vW (x >>> n))) w := by
  simp only [execOp, ho, hx, hy]
  simp [eqGuard, run_shrW k n hn]
end
end Go.Agg
/-! The digest, taken piece by piece: the plain law. -/
namespace Go.Sha
theorem blocks_append (l b : List UInt8) : ∀ (k : Nat) (x : St), 64 * k ≤ l.length → blocks (l ++ b) k x = blocks l k x
  | 0, _, _ => rfl
  | k + 1, x, h => by
    rw [blocks, blocks, blocks_append l b k x (by omega)]
    congr 1
    rw [List.drop_append_of_le_length (by omega), List.take_append_of_le_length (by rw [List.length_drop]; omega)]
/-- the words behind whole blocks, the bytes behind them -/
def sp (l : List UInt8) : St := blocks l (l.length / 64) first
def rst (l : List UInt8) : List UInt8 := l.drop (64 * (l.length / 64))
theorem rst_length (l : List UInt8) : (rst l).length = l.length % 64 := by rw [rst, List.length_drop]; omega
theorem sp_short {l b : List UInt8} (h : l.length % 64 + b.length < 64) : sp (l ++ b) = sp l ∧ rst (l ++ b) = rst l ++ b := by
  have e : (l ++ b).length / 64 = l.length / 64 := by rw [List.length_append]; omega
  refine ⟨by rw [sp, sp, e, blocks_append l b _ _ (by omega)], ?_⟩
  rw [rst, rst, e, List.drop_append_of_le_length (by omega)]
theorem sp_full {l b : List UInt8} (h : l.length % 64 + b.length = 64) : sp (l ++ b) = block (sp l) (rst l ++ b) ∧ rst (l ++ b) = [] := by
  have e : (l ++ b).length / 64 = l.length / 64 + 1 := by rw [List.length_append]; omega
  refine ⟨?_, ?_⟩
  · rw [sp, e, blocks, blocks_append l b _ _ (by omega), List.drop_append_of_le_length (by omega), List.take_of_length_le (by rw [List.length_append, List.length_drop]; omega)]
    rfl
  · rw [rst, e]
    exact List.drop_eq_nil_of_le (by rw [List.length_append]; omega)
theorem digest_sp (l : List UInt8) : digest l = (List.range 32).map (sp (padded l)).byte := rfl
theorem shaByte_at (x : St) (i : Nat) : x.byte i = UInt8.ofNat ((x.list.getD (i / 4) 0).toNat / 256 ^ (3 - i % 4)) := rfl
/-- a tag's, and parts', bytes as they are summed -/
def encL (n : Nat) : List UInt8 := if h : 128 ≤ n then UInt8.ofNat (n % 128 + 128) :: encL (n / 128) else [UInt8.ofNat n]
end Go.Sha
/-! Words out of bytes, turned and mixed; a digest folded: as the code has it. -/
namespace Go.Sha
/-- a word, right-turned by numbers, put together -/
def mixP (x : W) (ks : List Nat) : W := ks.foldl (fun o k => o ^^^ rot x k) 0
theorem mix_s0 (x : W) : mixP x [2, 13, 22] = s0 x := by simp [mixP, s0]
theorem mix_s1 (x : W) : mixP x [6, 11, 25] = s1 x := by simp [mixP, s1]
theorem mix_t0 (x : W) : mixP x [7, 18] ^^^ (x >>> 3) = t0 x := by simp [mixP, t0]
theorem mix_t1 (x : W) : mixP x [17, 19] ^^^ (x >>> 10) = t1 x := by simp [mixP, t1]
theorem mixP_snoc (x : W) (ks : List Nat) (k : Nat) : mixP x (ks ++ [k]) = mixP x ks ^^^ rot x k := by simp [mixP]
/-- a byte as a word -/
def wB (c : UInt8) : W := BitVec.ofNat 32 c.toNat
theorem wB_toNat (c : UInt8) : (wB c).toNat = c.toNat := by
  have := c.toNat_lt
  simp only [wB, BitVec.toNat_ofNat]
  omega
theorem shl_toNat (c : UInt8) (k : Nat) (hk : k ≤ 24) : (wB c <<< k).toNat = c.toNat * 2 ^ k := by
  have h := c.toNat_lt
  rw [BitVec.toNat_shiftLeft, wB_toNat, Nat.shiftLeft_eq]
  refine Nat.mod_eq_of_lt (Nat.lt_of_lt_of_le (Nat.mul_lt_mul_of_pos_right h (Nat.pow_pos (by omega))) ?_)
  calc 2 ^ 8 * 2 ^ k = 2 ^ (8 + k) := by rw [Nat.pow_add]
    _ ≤ 2 ^ 32 := Nat.pow_le_pow_right (by omega) (by omega)
theorem word_or (c0 c1 c2 c3 : UInt8) : (((wB c0 <<< 24) ||| (wB c1 <<< 16)) ||| (wB c2 <<< 8)) ||| wB c3 = BitVec.ofNat 32 (16777216 * c0.toNat + 65536 * c1.toNat + 256 * c2.toNat + c3.toNat) := by
  have h0 := c0.toNat_lt
  have h1 := c1.toNat_lt
  have h2 := c2.toNat_lt
  have h3 := c3.toNat_lt
  apply BitVec.eq_of_toNat_eq
  rw [BitVec.toNat_or, BitVec.toNat_or, BitVec.toNat_or, shl_toNat _ _ (by omega), shl_toNat _ _ (by omega), shl_toNat _ _ (by omega), wB_toNat, BitVec.toNat_ofNat]
  generalize c0.toNat = a at *
  generalize c1.toNat = b at *
  generalize c2.toNat = c at *
  generalize c3.toNat = d at *
  simp only [Nat.reducePow] at *
  have e1 : a * 16777216 ||| b * 65536 = a * 16777216 + b * 65536 := by
    have h := Nat.shiftLeft_add_eq_or_of_lt (i := 24) (b := b * 65536) (by simp only [Nat.reducePow]; omega) a
    simp only [Nat.shiftLeft_eq, Nat.reducePow] at h
    exact h.symm
  have e2 : (a * 16777216 + b * 65536) ||| c * 256 = a * 16777216 + b * 65536 + c * 256 := by
    have h := Nat.shiftLeft_add_eq_or_of_lt (i := 16) (b := c * 256) (by simp only [Nat.reducePow]; omega) (a * 256 + b)
    have e : (a * 256 + b) * 65536 = a * 16777216 + b * 65536 := by omega
    simp only [Nat.shiftLeft_eq, Nat.reducePow, e] at h
    exact h.symm
  have e3 : (a * 16777216 + b * 65536 + c * 256) ||| d = a * 16777216 + b * 65536 + c * 256 + d := by
    have h := Nat.shiftLeft_add_eq_or_of_lt (i := 8) (b := d) (by simp only [Nat.reducePow]; omega) (a * 65536 + b * 256 + c)
    have e : (a * 65536 + b * 256 + c) * 256 = a * 16777216 + b * 65536 + c * 256 := by omega
    simp only [Nat.shiftLeft_eq, Nat.reducePow, e] at h
    exact h.symm
  rw [e1, e2, e3]
  omega
/-- a digest folded, byte by byte -/
def foldG (s : List UInt8) : Nat → List UInt8
  | 0 => List.replicate 20 0
  | k + 1 => (foldG s k).set (k % 20) ((foldG s k).getD (k % 20) 0 ^^^ s.getD k 0)
theorem foldG_length (s : List UInt8) (k : Nat) : (foldG s k).length = 20 := by
  induction k with
  | zero => rfl
  | succ k ih => simp [foldG, ih]
theorem digest_length (l : List UInt8) : (digest l).length = 32 := by simp [digest]
/-- the folded digest of texts -/
def sumF (l : List UInt8) : List UInt8 := foldG (digest l) 32
theorem sumF_length (l : List UInt8) : (sumF l).length = 20 := foldG_length _ _
end Go.Sha
