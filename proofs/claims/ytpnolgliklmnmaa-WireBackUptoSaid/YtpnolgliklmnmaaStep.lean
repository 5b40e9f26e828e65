/- Steps of a walk that keep the world abstract, over any program: loads that stay, new blocks, stores into them. -/
import Derived.Test.YtpnolgliklmnmaaAgg3
namespace Go.Agg
open Go.RowKit
variable {P : Program}
def Later.push {W : World} (x : Later W) (y : Later x.w) : Later W := ⟨y.w, belowThen x.h (Nat.le_refl _) y.h⟩
/-- what lies there, in each later world -/
def LoadsL (P : Program) (W : World) (ty : TypeId) (p : Option Addr) (v : Value) : Prop := ∀ y : Later W, (Instr.loadAt ty (.pointer p)).run P y.w = .ok v y.w
theorem LoadsL.now {W : World} {ty : TypeId} {p : Option Addr} {v : Value} (h : LoadsL P W ty p v) : (Instr.loadAt ty (.pointer p)).run P W = .ok v W := h (Later.mk' W)
theorem LoadsL.below {W W' : World} {ty : TypeId} {p : Option Addr} {v : Value} (h : LoadsL P W ty p v) (hb : Below W.heap.size W W') : LoadsL P W' ty p v := fun y => h ⟨y.w, belowThen hb (Nat.le_refl _) y.h⟩
theorem add_plain (g off j : Nat) : (⟨g, off, none⟩ : Addr).add j = ⟨g, off + j, none⟩ := by unfold Addr.add; split <;> simp_all
theorem add_block (a : Addr) (j : Nat) : (a.add j).block = a.block := by unfold Addr.add; split <;> rfl
theorem add_add (a : Addr) (i j : Nat) : (a.add i).add j = a.add (i + j) := by
  unfold Addr.add
  by_cases hi : i = 0 <;> by_cases hj : j = 0 <;> simp [hi, hj, Nat.add_assoc]
theorem LoadsL.of_cells {w : World} {a : Addr} {ty : TypeId} {cs : Array Value} {d : TypeDesc} (hg : a.block < w.heap.size) (h : ∀ j v, cs[j]? = some v → w.cell? (a.add j) = some v)
    (hu : P.underlying ty = some d) (hd : (match d with | .struct _ | .array _ _ => true | _ => false) = true) (hi : (P.info? ty).map (·.size) = some cs.size) : LoadsL P w ty (some a) (.agg cs) := fun y => by
  have hl : (loadCells a cs.toList.length).run P y.w = .ok cs.toList.toArray y.w :=
    run_loadCells_list (P := P) y.w a cs.toList (fun j v hv => (y.h.cell (p := a.add j) (by rw [add_block]; exact hg)).trans (h j v (by simpa using hv)))
  cases hq : P.info? ty with
  | none => simp [hq] at hi
  | some i =>
    have hs : i.size = cs.size := by simpa [hq] using hi
    have hagg : (isAgg ty).run P y.w = .ok true y.w := by
      unfold isAgg
      rw [Sem.run_bind, run_underlying hu y.w]
      cases d <;> simp_all
    simp only [Array.length_toList, Array.toArray_toList] at hl
    simp [Instr.loadAt, Instr.sureAddr, loadVar, Sem.run_bind, hagg, sizeOf, typeInfo, hq, hs, hl]
theorem LoadsL.of_cell {w : World} {a : Addr} {ty : TypeId} {v : Value} {d : TypeDesc} (h : w.cell? a = some v) (hu : P.underlying ty = some d) (hd : (match d with | .struct _ | .array _ _ => true | _ => false) = false) :
    LoadsL P w ty (some a) v := fun y => by
  have hc := y.cell h
  have hagg : (isAgg ty).run P y.w = .ok false y.w := by
    unfold isAgg
    rw [Sem.run_bind, run_underlying hu y.w]
    cases d <;> simp_all
  simp [Instr.loadAt, Instr.sureAddr, loadVar, Sem.run_bind, hagg, go_sem, hc]
/-- a block, whole -/
def Blk (w : World) (g : Nat) (t : TypeId) (cs : Array Value) : Prop := w.heap[g]? = some (.cells cs t (0, 0))
section
variable {w w' : World} {g : Nat} {t : TypeId} {cs : Array Value}
theorem Blk.lt (h : Blk w g t cs) : g < w.heap.size := heap_lt h
theorem Blk.cell (h : Blk w g t cs) (i : Nat) : w.cell? ⟨g, i, none⟩ = cs[i]? := cell_of_row w g i cs t (0, 0) h
theorem Blk.below (h : Blk w g t cs) (hb : Below w.heap.size w w') : Blk w' g t cs := keep' hb h
theorem Blk.belowAt {B : Nat} (h : Blk w g t cs) (hb : Below B w w') (hg : g < B) : Blk w' g t cs := keep hb h hg
theorem Blk.loads (h : Blk w g t cs) {ty : TypeId} {d : TypeDesc} (hu : P.underlying ty = some d) (hd : (match d with | .struct _ | .array _ _ => true | _ => false) = true) (hi : (P.info? ty).map (·.size) = some cs.size) :
    LoadsL P w ty (some ⟨g, 0, none⟩) (.agg cs) :=
  LoadsL.of_cells h.lt (fun j v hj => by rw [add_plain, h.cell, Nat.zero_add]; exact hj) hu hd hi
theorem Blk.sub (h : Blk w g t cs) {ty : TypeId} {d : TypeDesc} (off : Nat) (ds : Array Value) (hsub : ∀ j v, ds[j]? = some v → cs[off + j]? = some v) (hu : P.underlying ty = some d) (hd : (match d with | .struct _ | .array _ _ => true | _ => false) = true) (hi : (P.info? ty).map (·.size) = some ds.size) :
    LoadsL P w ty (some ⟨g, off, none⟩) (.agg ds) :=
  LoadsL.of_cells h.lt (fun j v hj => by rw [add_plain, h.cell]; exact hsub j v hj) hu hd hi
theorem Blk.one (h : Blk w g t cs) {ty : TypeId} {d : TypeDesc} (off : Nat) {v : Value} (hv : cs[off]? = some v) (hu : P.underlying ty = some d) (hd : (match d with | .struct _ | .array _ _ => true | _ => false) = false) :
    LoadsL P w ty (some ⟨g, off, none⟩) v := LoadsL.of_cell (by rw [h.cell]; exact hv) hu hd
theorem Blk.new (w : World) (t : TypeId) (cs : Array Value) : Blk (w.alloc (.cells cs t)) w.heap.size t cs := heap_alloc_new w _
end
/-! at a list of operations -/
section
variable {ops : Array Oper} {rest : List Oper} {o : Oper} {a : Act} {w : World} {Q : Exit → Act → World → Prop}
theorem wpList_loadL {ty : TypeId} {p : Option Addr} {v : Value} (h : LoadsL P w ty p v) (hw : Region.wanted o (yielded ops a.tmps) = true) (x : Operand) (ho : o.op = .load ty x) (hx : a.eval x = .pointer p) (hk : wpList P ops Q rest (a.put o.dst v) w) : wpList P ops Q (o :: rest) a w :=
  wpList_loadw ty x ho hw _ hx v h.now hk
theorem wpQuiet_loadL {W : World} {Q : Act → Prop} {ty : TypeId} {p : Option Addr} {v : Value} (h : LoadsL P W ty p v) (hw : Region.wanted o (yielded ops a.tmps) = true) (x : Operand) (ho : o.op = .load ty x) (hx : a.eval x = .pointer p)
    (hk : wpQuiet P ops (fun w' => ∃ x : Later W, w' = x.w) Q rest (a.put o.dst v)) : wpQuiet P ops (fun w' => ∃ x : Later W, w' = x.w) Q (o :: rest) a :=
  wpQuiet_load hw ty x ho _ hx v (later_all h) hk
/-- the walk stops here -/
theorem walk_stop {p : Prop} (h : p ∧ True) : p := h.1
/-- a new variable, zero -/
theorem wpList_zero (hg : o.guard = none) (ty : TypeId) (ho : o.op = .alloc ty) (cs : Array Value) (hz : (P.info? ty).map (·.zero) = some (some (.agg cs)))
    (h : ∀ g w', Blk w' g ty cs → Below w.heap.size w w' → w.heap.size ≤ g → wpList P ops Q rest (a.put o.dst (.pointer (some ⟨g, 0, none⟩))) w') : wpList P ops Q (o :: rest) a w :=
  wpList_alloc_row hg ty ho cs hz (h _ _ (Blk.new _ _ _) ((Below.refl _ _).alloc (Nat.le_refl _) _) (Nat.le_refl _))
/-- a new variable that holds a value of several cells -/
theorem wpList_box (hg : o.guard = none) (ty : TypeId) (x : Operand) (ho : o.op = .box ty x) (cs : Array Value) (hx : a.eval x = .agg cs)
    (h : ∀ g w', Blk w' g ty cs → Below w.heap.size w w' → w.heap.size ≤ g → wpList P ops Q rest (a.put o.dst (.pointer (some ⟨g, 0, none⟩))) w') : wpList P ops Q (o :: rest) a w := by
  refine wpList_val hg ?_ (h _ _ (Blk.new w ty cs) ((Below.refl _ _).alloc (Nat.le_refl _) _) (Nat.le_refl _))
  simp [execOp, ho, hx, Instr.box, newVar, newRow, Value.cells]
/-- .. made and stored -/
theorem wpList_new {o2 : Oper} (hg : o.guard = none) (hg2 : o2.guard = none) (hd2 : o2.dst = none) (ty : TypeId) (d k : Tmp) (ho : o.op = .alloc ty) (hd : o.dst = some d) (ho2 : o2.op = .store ty (.tmp d) (.tmp k)) (hkd : Nat.beq d k = false) (z cs : Array Value)
    (hz : (P.info? ty).map (·.zero) = some (some (.agg z))) (hzs : z.size = cs.size) (hi : (P.info? ty).map (·.size) = some cs.size) (h1 : cs.all (·.oneCell') = true)
    (hy : a.eval (.tmp k) = .agg cs) (hsz : d < a.tmps.size)
    (h : ∀ g w', Blk w' g ty cs → Below w.heap.size w w' → w.heap.size ≤ g → wpList P ops Q rest (a.put o.dst (.pointer (some ⟨g, 0, none⟩))) w') : wpList P ops Q (o :: o2 :: rest) a w := by
  refine wpList_alloc_row hg ty ho z hz ?_
  have hb := heap_alloc_new w (.cells z ty)
  have hne : d ≠ k := Nat.ne_of_beq_eq_false hkd
  refine wpList_set_row hg2 hd2 ty _ _ ho2 w.heap.size cs ?_ ?_ ty z hb hi hzs h1 ?_
  · rw [hd]
    simp [Act.put, Act.eval, hsz]
  · rw [hd, ← hy]
    simp [Act.put, Act.eval, hne]
  · exact h _ _ (setRow_heap _ _ _ _ _ _ hb) (below_setRow ((Below.refl _ _).alloc (Nat.le_refl _) _) (Nat.le_refl _)) (Nat.le_refl _)
/-- a whole value stored into a block of the call's own -/
theorem wpList_put (hg : o.guard = none) (hd : o.dst = none) (ty : TypeId) (x y : Operand) (ho : o.op = .store ty x y) (g : Nat) (cs old : Array Value) (hx : a.eval x = .pointer (some ⟨g, 0, none⟩)) (hy : a.eval y = .agg cs)
    (hb : Blk w g ty old) (hi : (P.info? ty).map (·.size) = some cs.size) (hold : old.size = cs.size) (h1 : cs.all (·.oneCell') = true)
    (h : ∀ w', Blk w' g ty cs → Below g w w' → w'.heap.size = w.heap.size → (∀ k, k ≠ g → w'.heap[k]? = w.heap[k]?) → wpList P ops Q rest a w') : wpList P ops Q (o :: rest) a w := by
  refine wpList_set_row hg hd ty x y ho g cs hx hy ty old hb hi hold h1 ?_
  exact h _ (setRow_heap _ _ _ _ _ _ hb) (below_setRow (Below.refl _ _) (Nat.le_refl _)) (by simp) (fun k hk => setRow_other w g k cs hk)
end
end Go.Agg
