/- (of general use) Bytes and texts as elements. (Several texts in one.) -/
import Derived.WalkKit
import Derived.WalkSpells
import Derived.WalkLawsBesides
import Derived.Lib.OthersKept
import Derived.Lib.Hide
import Derived.BigQuiet
import Derived.Great.FillDense
import Derived.StillTailTactics
import Derived.Great.BuildSlice
import Derived.Maps.AppendAt
import Derived.Deep.AppendLies
import Derived.Deep.Slices
import Derived.Laws.MakeOwn
import Derived.Test.YtfiadgdinhmgbaaDoorChecked
import Derived.Test.YtfiadgdinhmgbaaDoorHAA
/-! Small laws on operations at whole arrays and structs, over any program. -/
namespace Go.Agg
open Go.RowKit
variable {P : Program}
theorem run_index_agg {t e : TypeId} {n : Nat} {cs : List Value} {k : IntKind} {i : Nat} {v : Value} (w : World) (ht : P.underlying t = some (.array n e)) (hs : (P.info? e).map (·.size) = some 1)
  (ha : ∀ w, (isAgg e).run P w = .ok false w) (hi : i < n) (hv : cs[i]? = some v) : (Instr.index t (.agg cs.toArray) (.int k i)).run P w = .ok v w := by
 cases hq : P.info? e with
 | none => simp [hq] at hs
 | some j =>
  have hs' : j.size = 1 := by simpa [hq] using hs
  have h0 : (i : Int) < n := by omega
  simp [Instr.index, asIntOf, Sem.run_bind, run_underlying ht, hi, sizeOf, typeInfo, hq, hs', part, ha, hv]
theorem run_index_str {t : TypeId} {s : List UInt8} {k : IntKind} {i : Nat} {c : UInt8} (w : World) (ht : P.underlying t = some .string) (hv : s[i]? = some c) :
  (Instr.index t (.string ⟨s.toArray⟩) (.int k (i : Int))).run P w = .ok (.int .u8 (c.toNat : Int)) w := by
 obtain ⟨hi, he⟩ := List.getElem?_eq_some_iff.1 hv
 rw [run_index_string w t _ k _ ht]
 have hsz : (⟨s.toArray⟩ : ByteArray).size = s.length := by simp [ByteArray.size]
 rw [dif_pos ⟨by omega, by rw [hsz]; omega⟩]
 simp [ByteArray.getElem_eq_getElem_data, he]
/-! Strings as lists of bytes. -/
theorem bytes_append (a b : List UInt8) : (⟨a.toArray⟩ : ByteArray) ++ ⟨b.toArray⟩ = ⟨(a ++ b).toArray⟩ := by
 apply ByteArray.ext
 simp [ByteArray.data_append]
theorem bytes_extract (s : List UInt8) (i j : Nat) : (⟨s.toArray⟩ : ByteArray).extract i j = ⟨((s.take j).drop i).toArray⟩ := by
 apply ByteArray.ext
 rcases Nat.le_total i j with h | h
 ·simp [ByteArray.data_extract, List.take_drop, show i + (j - i) = j by omega]
 ·simp [ByteArray.data_extract, show j - i = 0 by omega, List.drop_eq_nil_of_le (show (s.take j).length ≤ i by have := List.length_take_le j s; omega)]
theorem bytes_toList (a : List UInt8) : (⟨a.toArray⟩ : ByteArray).toList = a := by
 simp [ByteArray.toList_eq]
theorem bytes_size (a : List UInt8) : (⟨a.toArray⟩ : ByteArray).size = a.length := by simp [ByteArray.size]
theorem heap_lt {w : World} {k : Nat} {o : Obj} (h : w.heap[k]? = some o) : k < w.heap.size := (Array.getElem?_eq_some_iff.1 h).1
theorem keep {B k : Nat} {w w' : World} {o : Obj} (hb : Below B w w') (h : w.heap[k]? = some o) (hk : k < B) : w'.heap[k]? = some o := (hb.block k hk).trans h
theorem keep' {k : Nat} {w w' : World} {o : Obj} (hb : Below w.heap.size w w') (h : w.heap[k]? = some o) : w'.heap[k]? = some o := keep hb h (heap_lt h)
section
variable {ops : Array Oper} {rest : List Oper} {o : Oper} {a : Act} {w : World} {Q : Exit → Act → World → Prop}
theorem wpList_val (hg : o.guard = none) {v : Value} {w' : World} (hrun : (execOp a.eval o).run P w = .ok (.value v) w') (h : wpList P ops Q rest (a.put o.dst v) w') : wpList P ops Q (o :: rest) a w := by
 refine wpList_plain hg fun K' hK' => ?_
 unfold Oper.wp
 rw [hrun]
 exact hK' _ _ h
theorem wpList_skp (hg : o.guard = none) (hd : o.dst = none) {w' : World} (hrun : (execOp a.eval o).run P w = .ok .skip w') (h : wpList P ops Q rest a w') : wpList P ops Q (o :: rest) a w := by
 refine wpList_plain hg fun K' hK' => ?_
 unfold Oper.wp
 rw [hrun, Oper.upon_skip, hd]
 exact hK' _ _ h
theorem wpList_alloc_row (hg : o.guard = none) (ty : TypeId) (ho : o.op = .alloc ty) (cs : Array Value) (hz : (P.info? ty).map (·.zero) = some (some (.agg cs)))
  (h : wpList P ops Q rest (a.put o.dst (.pointer (some ⟨w.heap.size, 0, none⟩))) (w.alloc (.cells cs ty))) : wpList P ops Q (o :: rest) a w := by
 refine wpList_val hg ?_ h
 cases hq : P.info? ty with
 | none => simp [hq] at hz
 | some i =>
  have hs : i.zero = some (.agg cs) := by simpa [hq] using hz
  simp [execOp, ho, Instr.alloc, zeroValue, typeInfo, hq, hs, newVar, newRow, Value.cells]
theorem wpList_set_row (hg : o.guard = none) (hd : o.dst = none) (ty : TypeId) (x y : Operand) (ho : o.op = .store ty x y) (g : Nat) (cells : Array Value) (hx : a.eval x = .pointer (some ⟨g, 0, none⟩)) (hy : a.eval y = .agg cells)
  (t : TypeId) (old : Array Value) (hb : w.heap[g]? = some (.cells old t (0, 0))) (hi : (P.info? ty).map (·.size) = some cells.size) (hold : old.size = cells.size) (h1 : cells.all (·.oneCell') = true)
  (h : wpList P ops Q rest a (w.setRow g cells)) : wpList P ops Q (o :: rest) a w := by
 refine wpList_skp hg hd ?_ h
 simp [execOp, ho, hx, hy, Instr.storeAt, Instr.sureAddr, run_storeVar_row w g t ty old cells hb hi hold h1]
theorem wpList_build_zero (hg : o.guard = none) (ty : TypeId) (ho : o.op = .build ty #[]) (v : Value) (hr : ∀ w, (Instr.build ty #[]).run P w = .ok v w)
  (h : wpList P ops Q rest (a.put o.dst v) w) : wpList P ops Q (o :: rest) a w := by
 refine wpList_val hg ?_ h
 simp [execOp, ho, hr]
theorem post_row_tmp {fn : Func} {p u : Tmp} {ty : TypeId} (h : fn.results = #[.cell p ty, .tmp u]) {R : Ending → World → Prop} {g : Nat} {t : TypeId} {cs : Array Value} {fr : Nat × Nat} {d : TypeDesc} {v : Value}
  (hp : a.tmps.getD p undef = .pointer (some ⟨g, 0, none⟩)) (hv : a.tmps.getD u undef = v) (hb : w.heap[g]? = some (.cells cs t fr)) (hu : P.underlying ty = some d)
  (hd : (match d with | .struct _ | .array _ _ => true | _ => false) = true) (hi : (P.info? ty).map (·.size) = some cs.size) (hdf : a.defers = []) (hR : R (.returned (.tuple #[.agg cs, v])) w) : bodyPost P fn R .ret a w := by
 refine bodyPost_ret ?_ hdf hR
 rw [results_cell_tmp h, hp, hv]
 simp [asAddr, run_loadVar_row w g t ty cs fr d hb hu hd hi, Result.andThen]
theorem post_row {fn : Func} {p : Tmp} {ty : TypeId} (h : fn.results = #[.cell p ty]) {R : Ending → World → Prop} {g : Nat} {t : TypeId} {cs : Array Value} {fr : Nat × Nat} {d : TypeDesc}
  (hp : a.tmps.getD p undef = .pointer (some ⟨g, 0, none⟩)) (hb : w.heap[g]? = some (.cells cs t fr)) (hu : P.underlying ty = some d)
  (hd : (match d with | .struct _ | .array _ _ => true | _ => false) = true) (hi : (P.info? ty).map (·.size) = some cs.size) (hdf : a.defers = []) (hR : R (.returned (.agg cs)) w) : bodyPost P fn R .ret a w :=
 bodyPost_ret (results_cell_row h a.tmps w g t cs fr d hp hb hu hd hi) hdf hR
end
/-! A region that draws its order, whose operations read and call: in whatever order. The class of worlds: those behind W, below W's size as W. -/
structure Later (W : World) where
 w : World
 h : Below W.heap.size W w
def Later.mk' (W : World) : Later W := ⟨W, Below.refl _ _⟩
instance (W : World) : Nonempty (Later W) := ⟨Later.mk' W⟩
theorem Later.heap {W : World} (x : Later W) {k : Nat} {o : Obj} (h : W.heap[k]? = some o) : x.w.heap[k]? = some o := keep' x.h h
theorem Later.cell {W : World} (x : Later W) {p : Addr} {v : Value} (h : W.cell? p = some v) : x.w.cell? p = some v := (x.h.cell (block_lt_of_cell h)).trans h
theorem Calls.later {f : FuncId} {args : Array Value} {W : World} {x : Later W} {v : Value} (h : Calls P f args x.w fun e w' => e = .returned v ∧ Below x.w.heap.size x.w w') :
  Calls P f args x.w fun e w'' => e = .returned v ∧ ∃ y : Later W, w'' = y.w :=
 h.mono fun _ w' ⟨he, hw⟩ => ⟨he, ⟨w', x.h.trans (hw.mono x.h.size)⟩, rfl⟩
theorem Calls.later_same {f : FuncId} {args : Array Value} {W : World} {x : Later W} {v : Value} (h : Calls P f args x.w fun e w' => e = .returned v ∧ x.w = w') :
  Calls P f args x.w fun e w'' => e = .returned v ∧ ∃ y : Later W, w'' = y.w :=
 h.mono fun _ _ ⟨he, hw⟩ => ⟨he, x, hw.symm⟩
theorem wp_region_later_lit {id : Nat} {Q : Exit → Act → World → Prop} {a : Act} {w : World} {l : List Oper} (hm : P.follows .mixedOrders = true) (hB : Region.lexB .any l.toArray = true)
  (h : wpQuiet P l.toArray (fun w' => ∃ x : Later w, w' = x.w) (fun a' => ∀ w', (∃ x : Later w, w' = x.w) → Q .normal a' w') l a) : (Code.region id l.toArray true).wp P Q a w :=
 wp_region_quiet (C := fun w' => ∃ x : Later w, w' = x.w) hm hB ⟨⟨_, (Below.refl _ _).drew⟩, rfl⟩ (by simpa using h)
theorem wpQuiet_load {ops : Array Oper} {rest : List Oper} {o : Oper} {a : Act} {C : World → Prop} {Q : Act → Prop} (hw : Region.wanted o (yielded ops a.tmps) = true) (ty : TypeId) (x : Operand) (ho : o.op = .load ty x) (p : Value) (hx : a.eval x = p) (v : Value)
  (hrun : ∀ w, C w → (Instr.loadAt ty p).run P w = .ok v w) (h : wpQuiet P ops C Q rest (a.put o.dst v)) : wpQuiet P ops C Q (o :: rest) a := by
 refine wpQuiet_step fun K hK => ?_
 rw [if_pos hw]
 refine ⟨v, fun w hC => ?_, hK _ h⟩
 unfold Oper.quietAt
 simp [execOp, ho, hx, hrun w hC, Oper.quietUpon]
theorem later_all {W : World} {R : World → Prop} (h : ∀ x : Later W, R x.w) : ∀ w, (∃ x : Later W, w = x.w) → R w := fun _ ⟨x, e⟩ => e ▸ h x
theorem run_loadAt_sub {w : World} {g off : Nat} {t ty : TypeId} {C cs : Array Value} {fr : Nat × Nat} {d : TypeDesc} (hb : w.heap[g]? = some (.cells C t fr)) (hsub : ∀ j v, cs[j]? = some v → C[off + j]? = some v)
  (hu : P.underlying ty = some d) (hd : (match d with | .struct _ | .array _ _ => true | _ => false) = true) (hi : (P.info? ty).map (·.size) = some cs.size) :
  (Instr.loadAt ty (.pointer (some ⟨g, off, none⟩))).run P w = .ok (.agg cs) w := by
 have hl : (loadCells ⟨g, off, none⟩ cs.toList.length).run P w = .ok cs.toList.toArray w :=
  run_loadCells_list (P := P) w ⟨g, off, none⟩ cs.toList (fun j v hv => by
   have hadd : (⟨g, off, none⟩ : Addr).add j = ⟨g, off + j, none⟩ := by unfold Addr.add; split <;> simp_all
   rw [hadd, cell_of_row w g (off + j) C t fr hb]
   exact hsub j v (by simpa using hv))
 cases hq : P.info? ty with
 | none => simp [hq] at hi
 | some i =>
  have hs : i.size = cs.size := by simpa [hq] using hi
  have hagg : (isAgg ty).run P w = .ok true w := by
   unfold isAgg
   rw [Sem.run_bind, run_underlying hu w]
   cases d <;> simp_all
  simp only [Array.length_toList, Array.toArray_toList] at hl
  simp [Instr.loadAt, Instr.sureAddr, loadVar, Sem.run_bind, hagg, sizeOf, typeInfo, hq, hs, hl]
theorem below_setRow {B g : Nat} {a w : World} {cs : Array Value} (h : Below B a w) (hg : B ≤ g) : Below B a (w.setRow g cs) :=
 h.trans ⟨rfl, rfl, rfl, by simp, fun k hk => setRow_other w g k cs (by omega)⟩
end Go.Agg
/-! Struct literals of parts of several cells, over any program. -/
namespace Go.Agg
open Go.RowKit
def splice (C : Array Value) (off : Nat) (cs : Array Value) : Array Value := (C.toList.take off ++ cs.toList ++ C.toList.drop (off + cs.size)).toArray
theorem splice_size (C : Array Value) (off : Nat) (cs : Array Value) (h : off + cs.size ≤ C.size) : (splice C off cs).size = C.size := by
 simp [splice]; omega
theorem fill_cons {place : Nat → Option (Nat × Nat)} {C : Array Value} {i off size : Nat} {v : Value} {rest : List (Nat × Value)} (hp : place i = some (off, size)) (hs : v.cells.size = size) (hle : off + size ≤ C.size) :
  Instr.fill place C ((i, v) :: rest) = Instr.fill place (splice C off v.cells) rest := by
 subst hs
 rw [Instr.fill]
 simp only [hp]
 rw [if_neg (by simp; omega)]
 congr 1
 obtain ⟨h1, h2⟩ := Great.foldl_set off v.cells.toList 0 C
 apply Array.ext_getElem?
 intro k
 have e : Array.foldl (fun (cs : Array Value) (x : Value × Nat) => cs.setIfInBounds (off + x.2) x.1) C v.cells.zipIdx = (v.cells.toList.zipIdx 0).foldl (fun cs (x : Value × Nat) => cs.setIfInBounds (off + x.2) x.1) C := by
  rw [← Array.foldl_toList, Array.toList_zipIdx]
 refine (congrArg (fun (x : Array Value) => x[k]?) e).trans ?_
 rw [h2 k]
 simp only [splice, Nat.add_zero, List.getElem?_toArray, Array.length_toList]
 have hC : C.toList.length = C.size := Array.length_toList
 by_cases hk : k < off
 ·rw [if_neg (by omega), List.append_assoc, List.getElem?_append_left (by simp; omega), List.getElem?_take, if_pos hk]; simp
 ·by_cases hk2 : k < off + v.cells.size
  ·rw [if_pos ⟨by omega, hk2, by omega⟩, List.getElem?_append_left (by simp; omega), List.getElem?_append_right (by simp; omega)]
   simp [show min off C.size = off by omega]
  ·rw [if_neg (by omega), List.getElem?_append_right (by simp; omega), List.getElem?_drop]
   simp [show min off C.size = off by omega]
   congr 1; omega
theorem fill_nil {place : Nat → Option (Nat × Nat)} {C : Array Value} : Instr.fill place C [] = some C := rfl
theorem wpStill_load {P : Program} {w : World} {ops : Array Oper} {rest : List Oper} {o : Oper} {a : Act} {Q : Act → Prop} (hw : Region.wanted o (yielded ops a.tmps) = true) (ty : TypeId) (x : Operand) (ho : o.op = .load ty x) (p : Value) (hx : a.eval x = p) (v : Value)
  (hrun : (Instr.loadAt ty p).run P w = .ok v w) (h : wpStill P ops w Q rest (a.put o.dst v)) : wpStill P ops w Q (o :: rest) a := by
 refine wpStill_step fun K hK => ?_
 rw [if_pos hw]
 unfold Oper.still
 simp only [execOp, ho, hx, hrun, Sem.run_bind, Sem.run_pure, Result.andThen]
 exact ⟨rfl, hK _ h⟩
theorem wpStill_build {P : Program} {w : World} {ops : Array Oper} {rest : List Oper} {o : Oper} {a : Act} {Q : Act → Prop} (hw : Region.wanted o (yielded ops a.tmps) = true) (ty : TypeId) (ps : Array (Nat × Operand)) (ho : o.op = .build ty ps) (v : Value)
  (qs : Array (Nat × Value)) (hq : (ps.map fun p => (p.1, a.eval p.2)) = qs) (hrun : (Instr.build ty qs).run P w = .ok v w) (h : wpStill P ops w Q rest (a.put o.dst v)) : wpStill P ops w Q (o :: rest) a := by
 subst hq
 refine wpStill_step fun K hK => ?_
 rw [if_pos hw]
 unfold Oper.still
 simp only [execOp, ho, hrun, Sem.run_bind, Sem.run_pure, Result.andThen]
 exact ⟨rfl, hK _ h⟩
theorem wpList_build {P : Program} {ops : Array Oper} {rest : List Oper} {o : Oper} {a : Act} {w : World} {Q : Exit → Act → World → Prop} (hg : o.guard = none) (ty : TypeId) (ps : Array (Nat × Operand)) (ho : o.op = .build ty ps) (v : Value)
  (qs : Array (Nat × Value)) (hq : (ps.map fun p => (p.1, a.eval p.2)) = qs) (hrun : (Instr.build ty qs).run P w = .ok v w) (h : wpList P ops Q rest (a.put o.dst v) w) : wpList P ops Q (o :: rest) a w := by
 subst hq
 refine wpList_val hg ?_ h
 simp only [execOp, ho, hrun, Sem.run_bind, Sem.run_pure, Result.andThen]
theorem belowThen {B : Nat} {a b c : World} (h : Below B a b) (hB : B ≤ a.heap.size) (k : Below b.heap.size b c) : Below B a c := h.trans (k.mono (Nat.le_trans hB h.size))
theorem wpQuiet_val {P : Program} {ops : Array Oper} {rest : List Oper} {o : Oper} {a : Act} {C : World → Prop} {Q : Act → Prop} (hw : Region.wanted o (yielded ops a.tmps) = true) (v : Value)
  (hrun : ∀ w, C w → (execOp a.eval o).run P w = .ok (.value v) w) (h : wpQuiet P ops C Q rest (a.put o.dst v)) : wpQuiet P ops C Q (o :: rest) a := by
 refine wpQuiet_step fun K hK => ?_
 rw [if_pos hw]
 refine ⟨v, fun w hC => ?_, hK _ h⟩
 unfold Oper.quietAt
 simp [hrun w hC, Oper.quietUpon]
theorem wpQuiet_eql {P : Program} {ops : Array Oper} {rest : List Oper} {o : Oper} {a : Act} {C : World → Prop} {Q : Act → Prop} (hw : Region.wanted o (yielded ops a.tmps) = true) (t u : TypeId) (x y : Operand) (ho : o.op = .binOp .eql t x y u)
  (xs ys : Array Value) (hx : a.eval x = .agg xs) (hy : a.eval y = .agg ys) (b : Bool) (hg : P.eqGuardType P.depth t = false) (hrun : ∀ w, (binOp .eql t (.agg xs) (.agg ys)).run P w = .ok (.bool b) w)
  (h : wpQuiet P ops C Q rest (a.put o.dst (.bool b))) : wpQuiet P ops C Q (o :: rest) a := by
 refine wpQuiet_val hw _ (fun w _ => ?_) h
 simp [execOp, ho, hx, hy, hrun, run_eqGuard_agg w .eql t x y xs ys hg]
theorem wpQuiet_build2 {P : Program} {ops : Array Oper} {rest : List Oper} {o : Oper} {a : Act} {C : World → Prop} {Q : Act → Prop} (ty : TypeId) (i : Nat) (x : Operand) (j : Nat) (y : Operand) (ho : o.op = .build ty #[(i, x), (j, y)]) (hw : Region.wanted o (yielded ops a.tmps) = true)
  (vx vy : Value) (hx : a.eval x = vx) (hy : a.eval y = vy) (v : Value) (hrun : ∀ w, (Instr.build ty #[(i, vx), (j, vy)]).run P w = .ok v w) (h : wpQuiet P ops C Q rest (a.put o.dst v)) : wpQuiet P ops C Q (o :: rest) a := by
 subst hx hy
 refine wpQuiet_val hw _ (fun w _ => ?_) h
 simp [execOp, ho, hrun]
theorem wpQuiet_build1 {P : Program} {ops : Array Oper} {rest : List Oper} {o : Oper} {a : Act} {C : World → Prop} {Q : Act → Prop} (ty : TypeId) (i : Nat) (x : Operand) (ho : o.op = .build ty #[(i, x)]) (hw : Region.wanted o (yielded ops a.tmps) = true)
  (vx : Value) (hx : a.eval x = vx) (v : Value) (hrun : ∀ w, (Instr.build ty #[(i, vx)]).run P w = .ok v w) (h : wpQuiet P ops C Q rest (a.put o.dst v)) : wpQuiet P ops C Q (o :: rest) a := by
 subst hx
 refine wpQuiet_val hw _ (fun w _ => ?_) h
 simp [execOp, ho, hrun]
theorem wpQuiet_build0 {P : Program} {ops : Array Oper} {rest : List Oper} {o : Oper} {a : Act} {C : World → Prop} {Q : Act → Prop} (ty : TypeId) (ho : o.op = .build ty #[]) (hw : Region.wanted o (yielded ops a.tmps) = true)
  (v : Value) (hrun : ∀ w, (Instr.build ty #[]).run P w = .ok v w) (h : wpQuiet P ops C Q rest (a.put o.dst v)) : wpQuiet P ops C Q (o :: rest) a := by
 refine wpQuiet_val hw _ (fun w _ => ?_) h
 simp [execOp, ho, hrun]
theorem slice_from {P : Program} (w : World) {t : TypeId} (ht : P.underlying t = some .string) (s : List UInt8) (k : IntKind) (i : Nat) (hi : i ≤ s.length) :
  (Instr.slice t (.string ⟨s.toArray⟩) (some (.int k (i : Int))) none none).run P w = .ok (.string ⟨(s.drop i).toArray⟩) w := by
 rw [run_slice_string_from_if w t _ k i ht, if_pos (by rw [bytes_size]; omega), bytes_extract, bytes_size]
 simp
theorem slice_to {P : Program} (w : World) {t : TypeId} (ht : P.underlying t = some .string) (s : List UInt8) (k : IntKind) (i : Nat) (hi : i ≤ s.length) :
  (Instr.slice t (.string ⟨s.toArray⟩) none (some (.int k (i : Int))) none).run P w = .ok (.string ⟨(s.take i).toArray⟩) w := by
 rw [run_slice_string_to_if w t _ k i ht, if_pos (by rw [bytes_size]; omega), bytes_extract]
 simp
end Go.Agg
/-! Guarded operations in a region that keeps its order: struct literals. -/
namespace Go.Agg
open Go.RowKit
section
variable {P : Program} {ops : Array Oper} {rest : List Oper} {o : Oper} {a : Act} {w : World} {Q : Exit → Act → World → Prop}
theorem wpList_valw (hw : Region.wanted o (yielded ops a.tmps) = true) {v : Value} {w' : World} (hrun : (execOp a.eval o).run P w = .ok (.value v) w') (h : wpList P ops Q rest (a.put o.dst v) w') : wpList P ops Q (o :: rest) a w := by
 unfold wpList
 rw [if_pos hw]
 left
 unfold Oper.wp
 rw [hrun]
 exact h
theorem wpList_build2 (ty : TypeId) (i : Nat) (x : Operand) (j : Nat) (y : Operand) (ho : o.op = .build ty #[(i, x), (j, y)]) (hw : Region.wanted o (yielded ops a.tmps) = true)
  (vx vy : Value) (hx : a.eval x = vx) (hy : a.eval y = vy) (v : Value) (hrun : ∀ w, (Instr.build ty #[(i, vx), (j, vy)]).run P w = .ok v w) (h : wpList P ops Q rest (a.put o.dst v) w) : wpList P ops Q (o :: rest) a w := by
 subst hx hy
 refine wpList_valw hw ?_ h
 simp [execOp, ho, hrun]
theorem wpList_build1 (ty : TypeId) (i : Nat) (x : Operand) (ho : o.op = .build ty #[(i, x)]) (hw : Region.wanted o (yielded ops a.tmps) = true)
  (vx : Value) (hx : a.eval x = vx) (v : Value) (hrun : ∀ w, (Instr.build ty #[(i, vx)]).run P w = .ok v w) (h : wpList P ops Q rest (a.put o.dst v) w) : wpList P ops Q (o :: rest) a w := by
 subst hx
 refine wpList_valw hw ?_ h
 simp [execOp, ho, hrun]
theorem wpList_build0 (ty : TypeId) (ho : o.op = .build ty #[]) (hw : Region.wanted o (yielded ops a.tmps) = true)
  (v : Value) (hrun : ∀ w, (Instr.build ty #[]).run P w = .ok v w) (h : wpList P ops Q rest (a.put o.dst v) w) : wpList P ops Q (o :: rest) a w := by
 refine wpList_valw hw ?_ h
 simp [execOp, ho, hrun]
theorem wpList_loadw (ty : TypeId) (x : Operand) (ho : o.op = .load ty x) (hw : Region.wanted o (yielded ops a.tmps) = true) (p : Value) (hx : a.eval x = p) (v : Value) (hrun : (Instr.loadAt ty p).run P w = .ok v w) (h : wpList P ops Q rest (a.put o.dst v) w) : wpList P ops Q (o :: rest) a w := by
 refine wpList_valw hw ?_ h
 simp [execOp, ho, hx, hrun]
theorem run_eqw (op : BinOp) (hop : op = .eql ∨ op = .neq) (t u : TypeId) (x y : Operand) (ho : o.op = .binOp op t x y u) (xs ys : Array Value) (hx : a.eval x = .agg xs) (hy : a.eval y = .agg ys) (b : Bool) (hg : P.eqGuardType P.depth t = false)
  (hrun : ∀ w, (binOp op t (.agg xs) (.agg ys)).run P w = .ok (.bool b) w) (w : World) : (execOp a.eval o).run P w = .ok (.value (.bool b)) w := by
 rcases hop with rfl | rfl <;> simp [execOp, ho, hx, hy, hrun, run_eqGuard_agg w _ t x y xs ys hg]
theorem wpList_neqw (t u : TypeId) (x y : Operand) (ho : o.op = .binOp .neq t x y u) (hw : Region.wanted o (yielded ops a.tmps) = true) (xs ys : Array Value) (hx : a.eval x = .agg xs) (hy : a.eval y = .agg ys) (b : Bool) (hg : P.eqGuardType P.depth t = false)
  (hrun : ∀ w, (binOp .neq t (.agg xs) (.agg ys)).run P w = .ok (.bool b) w) (h : wpList P ops Q rest (a.put o.dst (.bool b)) w) : wpList P ops Q (o :: rest) a w :=
 wpList_valw hw (run_eqw .neq (.inr rfl) t u x y ho xs ys hx hy b hg hrun w) h
theorem wpQuiet_neq {C : World → Prop} {Q : Act → Prop} (t u : TypeId) (x y : Operand) (ho : o.op = .binOp .neq t x y u) (hw : Region.wanted o (yielded ops a.tmps) = true) (xs ys : Array Value) (hx : a.eval x = .agg xs) (hy : a.eval y = .agg ys) (b : Bool) (hg : P.eqGuardType P.depth t = false)
  (hrun : ∀ w, (binOp .neq t (.agg xs) (.agg ys)).run P w = .ok (.bool b) w) (h : wpQuiet P ops C Q rest (a.put o.dst (.bool b))) : wpQuiet P ops C Q (o :: rest) a :=
 wpQuiet_val hw _ (fun w _ => run_eqw .neq (.inr rfl) t u x y ho xs ys hx hy b hg hrun w) h
theorem wpList_eqlw (t u : TypeId) (x y : Operand) (ho : o.op = .binOp .eql t x y u) (hw : Region.wanted o (yielded ops a.tmps) = true) (xs ys : Array Value) (hx : a.eval x = .agg xs) (hy : a.eval y = .agg ys) (b : Bool) (hg : P.eqGuardType P.depth t = false)
  (hrun : ∀ w, (binOp .eql t (.agg xs) (.agg ys)).run P w = .ok (.bool b) w) (h : wpList P ops Q rest (a.put o.dst (.bool b)) w) : wpList P ops Q (o :: rest) a w :=
 wpList_valw hw (run_eqw .eql (.inl rfl) t u x y ho xs ys hx hy b hg hrun w) h
theorem wpList_buildSlice1 (ty : TypeId) (len i : Nat) (x : Operand) (ho : o.op = .buildSlice ty len #[(i, x)]) (hw : Region.wanted o (yielded ops a.tmps) = true)
  (vx : Value) (hx : a.eval x = vx) (v : Value) (w' : World) (hrun : (Instr.buildSlice ty len #[(i, vx)]).run P w = .ok v w') (h : wpList P ops Q rest (a.put o.dst v) w') : wpList P ops Q (o :: rest) a w := by
 subst hx
 refine wpList_valw hw ?_ h
 simp [execOp, ho, hrun]
end
end Go.Agg
/-! Steps of a walk that keep the world abstract, over any program: loads that stay, new blocks, stores into them. -/
namespace Go.Agg
open Go.RowKit
variable {P : Program}
def Later.push {W : World} (x : Later W) (y : Later x.w) : Later W := ⟨y.w, belowThen x.h (Nat.le_refl _) y.h⟩
def LoadsL (P : Program) (W : World) (ty : TypeId) (p : Option Addr) (v : Value) : Prop := ∀ y : Later W, (Instr.loadAt ty (.pointer p)).run P y.w = .ok v y.w
theorem LoadsL.now {W : World} {ty : TypeId} {p : Option Addr} {v : Value} (h : LoadsL P W ty p v) : (Instr.loadAt ty (.pointer p)).run P W = .ok v W := h (Later.mk' W)
theorem LoadsL.below {W W' : World} {ty : TypeId} {p : Option Addr} {v : Value} (h : LoadsL P W ty p v) (hb : Below W.heap.size W W') : LoadsL P W' ty p v := fun y => h ⟨y.w, belowThen hb (Nat.le_refl _) y.h⟩
theorem add_plain (g off j : Nat) : (⟨g, off, none⟩ : Addr).add j = ⟨g, off + j, none⟩ := by unfold Addr.add; split <;> simp_all
theorem add_block (a : Addr) (j : Nat) : (a.add j).block = a.block := by unfold Addr.add; split <;> rfl
theorem add_add (a : Addr) (i j : Nat) : (a.add i).add j = a.add (i + j) := by
 unfold Addr.add
 by_cases hi : i = 0 <;> by_cases hj : j = 0 <;> simp [hi, hj, Nat.add_assoc]
theorem LoadsL.of_cells {w : World} {a : Addr} {ty : TypeId} {cs : Array Value} {d : TypeDesc} (hg : a.block < w.heap.size) (h : ∀ j v, cs[j]? = some v → w.cell? (a.add j) = some v)
  (hu : P.underlying ty = some d) (hd : (match d with | .struct _ | .array _ _ => true | _ => false) = true) (hi : (P.info? ty).map (·.size) = some cs.size) : LoadsL P w ty (some a) (.agg cs) := fun y => by
 have hl : (loadCells a cs.toList.length).run P y.w = .ok cs.toList.toArray y.w :=
  run_loadCells_list (P := P) y.w a cs.toList (fun j v hv => (y.h.cell (p := a.add j) (by rw [add_block]; exact hg)).trans (h j v (by simpa using hv)))
 cases hq : P.info? ty with
 | none => simp [hq] at hi
 | some i =>
  have hs : i.size = cs.size := by simpa [hq] using hi
  have hagg : (isAgg ty).run P y.w = .ok true y.w := by
   unfold isAgg
   rw [Sem.run_bind, run_underlying hu y.w]
   cases d <;> simp_all
  simp only [Array.length_toList, Array.toArray_toList] at hl
  simp [Instr.loadAt, Instr.sureAddr, loadVar, Sem.run_bind, hagg, sizeOf, typeInfo, hq, hs, hl]
theorem LoadsL.of_cell {w : World} {a : Addr} {ty : TypeId} {v : Value} {d : TypeDesc} (h : w.cell? a = some v) (hu : P.underlying ty = some d) (hd : (match d with | .struct _ | .array _ _ => true | _ => false) = false) :
  LoadsL P w ty (some a) v := fun y => by
 have hc := y.cell h
 have hagg : (isAgg ty).run P y.w = .ok false y.w := by
  unfold isAgg
  rw [Sem.run_bind, run_underlying hu y.w]
  cases d <;> simp_all
 simp [Instr.loadAt, Instr.sureAddr, loadVar, Sem.run_bind, hagg, go_sem, hc]
def Blk (w : World) (g : Nat) (t : TypeId) (cs : Array Value) : Prop := w.heap[g]? = some (.cells cs t (0, 0))
section
variable {w w' : World} {g : Nat} {t : TypeId} {cs : Array Value}
theorem Blk.lt (h : Blk w g t cs) : g < w.heap.size := heap_lt h
theorem Blk.cell (h : Blk w g t cs) (i : Nat) : w.cell? ⟨g, i, none⟩ = cs[i]? := cell_of_row w g i cs t (0, 0) h
theorem Blk.below (h : Blk w g t cs) (hb : Below w.heap.size w w') : Blk w' g t cs := keep' hb h
theorem Blk.belowAt {B : Nat} (h : Blk w g t cs) (hb : Below B w w') (hg : g < B) : Blk w' g t cs := keep hb h hg
theorem Blk.loads (h : Blk w g t cs) {ty : TypeId} {d : TypeDesc} (hu : P.underlying ty = some d) (hd : (match d with | .struct _ | .array _ _ => true | _ => false) = true) (hi : (P.info? ty).map (·.size) = some cs.size) :
  LoadsL P w ty (some ⟨g, 0, none⟩) (.agg cs) :=
 LoadsL.of_cells h.lt (fun j v hj => by rw [add_plain, h.cell, Nat.zero_add]; exact hj) hu hd hi
theorem Blk.sub (h : Blk w g t cs) {ty : TypeId} {d : TypeDesc} (off : Nat) (ds : Array Value) (hsub : ∀ j v, ds[j]? = some v → cs[off + j]? = some v) (hu : P.underlying ty = some d) (hd : (match d with | .struct _ | .array _ _ => true | _ => false) = true) (hi : (P.info? ty).map (·.size) = some ds.size) :
  LoadsL P w ty (some ⟨g, off, none⟩) (.agg ds) :=
 LoadsL.of_cells h.lt (fun j v hj => by rw [add_plain, h.cell]; exact hsub j v hj) hu hd hi
theorem Blk.one (h : Blk w g t cs) {ty : TypeId} {d : TypeDesc} (off : Nat) {v : Value} (hv : cs[off]? = some v) (hu : P.underlying ty = some d) (hd : (match d with | .struct _ | .array _ _ => true | _ => false) = false) :
  LoadsL P w ty (some ⟨g, off, none⟩) v := LoadsL.of_cell (by rw [h.cell]; exact hv) hu hd
theorem Blk.new (w : World) (t : TypeId) (cs : Array Value) : Blk (w.alloc (.cells cs t)) w.heap.size t cs := heap_alloc_new w _
end
/-! at a list of operations -/
section
variable {ops : Array Oper} {rest : List Oper} {o : Oper} {a : Act} {w : World} {Q : Exit → Act → World → Prop}
theorem wpList_loadL {ty : TypeId} {p : Option Addr} {v : Value} (h : LoadsL P w ty p v) (hw : Region.wanted o (yielded ops a.tmps) = true) (x : Operand) (ho : o.op = .load ty x) (hx : a.eval x = .pointer p) (hk : wpList P ops Q rest (a.put o.dst v) w) : wpList P ops Q (o :: rest) a w :=
 wpList_loadw ty x ho hw _ hx v h.now hk
theorem wpQuiet_loadL {W : World} {Q : Act → Prop} {ty : TypeId} {p : Option Addr} {v : Value} (h : LoadsL P W ty p v) (hw : Region.wanted o (yielded ops a.tmps) = true) (x : Operand) (ho : o.op = .load ty x) (hx : a.eval x = .pointer p)
  (hk : wpQuiet P ops (fun w' => ∃ x : Later W, w' = x.w) Q rest (a.put o.dst v)) : wpQuiet P ops (fun w' => ∃ x : Later W, w' = x.w) Q (o :: rest) a :=
 wpQuiet_load hw ty x ho _ hx v (later_all h) hk
theorem walk_stop {p : Prop} (h : p ∧ True) : p := h.1
theorem wpList_zero (hg : o.guard = none) (ty : TypeId) (ho : o.op = .alloc ty) (cs : Array Value) (hz : (P.info? ty).map (·.zero) = some (some (.agg cs)))
  (h : ∀ g w', Blk w' g ty cs → Below w.heap.size w w' → w.heap.size ≤ g → wpList P ops Q rest (a.put o.dst (.pointer (some ⟨g, 0, none⟩))) w') : wpList P ops Q (o :: rest) a w :=
 wpList_alloc_row hg ty ho cs hz (h _ _ (Blk.new _ _ _) ((Below.refl _ _).alloc (Nat.le_refl _) _) (Nat.le_refl _))
theorem wpList_box (hg : o.guard = none) (ty : TypeId) (x : Operand) (ho : o.op = .box ty x) (cs : Array Value) (hx : a.eval x = .agg cs)
  (h : ∀ g w', Blk w' g ty cs → Below w.heap.size w w' → w.heap.size ≤ g → wpList P ops Q rest (a.put o.dst (.pointer (some ⟨g, 0, none⟩))) w') : wpList P ops Q (o :: rest) a w := by
 refine wpList_val hg ?_ (h _ _ (Blk.new w ty cs) ((Below.refl _ _).alloc (Nat.le_refl _) _) (Nat.le_refl _))
 simp [execOp, ho, hx, Instr.box, newVar, newRow, Value.cells]
theorem wpList_new {o2 : Oper} (hg : o.guard = none) (hg2 : o2.guard = none) (hd2 : o2.dst = none) (ty : TypeId) (d k : Tmp) (ho : o.op = .alloc ty) (hd : o.dst = some d) (ho2 : o2.op = .store ty (.tmp d) (.tmp k)) (hkd : Nat.beq d k = false) (z cs : Array Value)
  (hz : (P.info? ty).map (·.zero) = some (some (.agg z))) (hzs : z.size = cs.size) (hi : (P.info? ty).map (·.size) = some cs.size) (h1 : cs.all (·.oneCell') = true)
  (hy : a.eval (.tmp k) = .agg cs) (hsz : d < a.tmps.size)
  (h : ∀ g w', Blk w' g ty cs → Below w.heap.size w w' → w.heap.size ≤ g → wpList P ops Q rest (a.put o.dst (.pointer (some ⟨g, 0, none⟩))) w') : wpList P ops Q (o :: o2 :: rest) a w := by
 refine wpList_alloc_row hg ty ho z hz ?_
 have hb := heap_alloc_new w (.cells z ty)
 have hne : d ≠ k := Nat.ne_of_beq_eq_false hkd
 refine wpList_set_row hg2 hd2 ty _ _ ho2 w.heap.size cs ?_ ?_ ty z hb hi hzs h1 ?_
 ·rw [hd]
  simp [Act.put, Act.eval, hsz]
 ·rw [hd, ← hy]
  simp [Act.put, Act.eval, hne]
 ·exact h _ _ (setRow_heap _ _ _ _ _ _ hb) (below_setRow ((Below.refl _ _).alloc (Nat.le_refl _) _) (Nat.le_refl _)) (Nat.le_refl _)
theorem wpList_put (hg : o.guard = none) (hd : o.dst = none) (ty : TypeId) (x y : Operand) (ho : o.op = .store ty x y) (g : Nat) (cs old : Array Value) (hx : a.eval x = .pointer (some ⟨g, 0, none⟩)) (hy : a.eval y = .agg cs)
  (hb : Blk w g ty old) (hi : (P.info? ty).map (·.size) = some cs.size) (hold : old.size = cs.size) (h1 : cs.all (·.oneCell') = true)
  (h : ∀ w', Blk w' g ty cs → Below g w w' → w'.heap.size = w.heap.size → (∀ k, k ≠ g → w'.heap[k]? = w.heap[k]?) → wpList P ops Q rest a w') : wpList P ops Q (o :: rest) a w := by
 refine wpList_set_row hg hd ty x y ho g cs hx hy ty old hb hi hold h1 ?_
 exact h _ (setRow_heap _ _ _ _ _ _ hb) (below_setRow (Below.refl _ _) (Nat.le_refl _)) (by simp) (fun k hk => setRow_other w g k cs hk)
end
end Go.Agg
/-! Slices of whatever elements, over any program: what they hold, one of them, append, make. -/
namespace Go.Agg
open Go.RowKit
structure Elem (P : Program) (α : Type) where
 ty : TypeId
 st : TypeId
 n : Nat
 bytes : Nat
 val : α → Value
 zero : Value
 pos : 0 < n
 small : n ≤ 1000
 size : ∀ a, (val a).cells.size = n
 one : ∀ a, ∀ v ∈ (val a).cells.toList, v.oneCell' = true
 zsize : zero.cells.size = n
 slice : P.underlying st = some (.slice ty)
 info : ∃ i, P.info? ty = some i ∧ i.zero = some zero ∧ i.size = n ∧ i.bytes = bytes
 load : ∀ (w : World) (p : Addr) (a : α), p.block < w.heap.size → (∀ j v, (val a).cells[j]? = some v → w.cell? (p.add j) = some v) → LoadsL P w ty (some p) (val a)
section
variable {P : Program} {α : Type} (E : Elem P α)
def Elem.cs (a : α) : List Value := (E.val a).cells.toList
theorem Elem.cs_length (a : α) : (E.cs a).length = E.n := by rw [Elem.cs, Array.length_toList]; exact E.size a
def Elem.flat (l : List α) : List Value := l.flatMap E.cs
theorem Elem.flat_length (l : List α) : (E.flat l).length = l.length * E.n := by
 induction l with
 | nil => simp [Elem.flat]
 | cons a l ih => simp only [Elem.flat, List.flatMap_cons, List.length_append, E.cs_length, List.length_cons, Nat.succ_mul] at ih ⊢; omega
theorem Elem.flat_append (a b : List α) : E.flat (a ++ b) = E.flat a ++ E.flat b := by simp [Elem.flat]
theorem Elem.flat_one (a : α) : E.flat [a] = E.cs a := by simp [Elem.flat]
theorem Elem.flat_get : ∀ (l : List α) (k : Nat) (a : α) (i : Nat) (v : Value), l[k]? = some a → (E.val a).cells[i]? = some v → (E.flat l)[k * E.n + i]? = some v
 | [], k, a, i, v, h, _ => by simp at h
 | b :: l, 0, a, i, v, h, hv => by
  obtain rfl : b = a := by simpa using h
  have hlt : i < (E.cs b).length := by rw [E.cs_length]; have := (Array.getElem?_eq_some_iff.1 hv).1; rw [E.size b] at this; omega
  rw [Elem.flat, List.flatMap_cons, Nat.zero_mul, Nat.zero_add, List.getElem?_append_left hlt]
  simpa [Elem.cs] using hv
 | b :: l, k + 1, a, i, v, h, hv => by
  have ih := Elem.flat_get l k a i v (by simpa using h) hv
  rw [Elem.flat, List.flatMap_cons, List.getElem?_append_right (by rw [E.cs_length, Nat.succ_mul]; omega), E.cs_length, show (k + 1) * E.n + i - E.n = k * E.n + i by rw [Nat.succ_mul]; omega]
  exact ih
theorem Elem.flat_all : ∀ (l : List α) (j : Nat) (u : Value), (E.flat l)[j]? = some u → ∃ k a i, l[k]? = some a ∧ (E.val a).cells[i]? = some u ∧ j = k * E.n + i
 | [], j, u, h => by simp [Elem.flat] at h
 | a :: l, j, u, h => by
  rw [Elem.flat, List.flatMap_cons] at h
  by_cases hj : j < E.n
  ·rw [List.getElem?_append_left (by rw [E.cs_length]; exact hj)] at h
   exact ⟨0, a, j, rfl, by simpa [Elem.cs] using h, by simp⟩
  ·rw [List.getElem?_append_right (by rw [E.cs_length]; omega), E.cs_length] at h
   obtain ⟨k, b, i, h1, h2, h3⟩ := Elem.flat_all l (j - E.n) u h
   exact ⟨k + 1, b, i, by simpa using h1, h2, by rw [Nat.succ_mul]; omega⟩
theorem Elem.flat_one' (l : List α) : ∀ u ∈ E.flat l, u.oneCell' = true := by
 intro u hu
 obtain ⟨a, _, h⟩ := List.mem_flatMap.1 hu
 exact E.one a u h
def SliceOf (w : World) (v : Value) (l : List α) : Prop :=
 (∃ p c, v = .slice p 0 c ∧ l = []) ∨ ∃ p cap, v = .slice (some p) l.length cap ∧ p.block < w.heap.size ∧ ∀ j u, (E.flat l)[j]? = some u → w.cell? (p.add j) = some u
variable {E} {w w' : World} {v : Value} {l : List α}
theorem SliceOf.nil (w : World) (p : Option Addr) (c : Nat) : SliceOf E w (.slice p 0 c) [] := .inl ⟨p, c, rfl, rfl⟩
theorem SliceOf.belowAt {B : Nat} (h : SliceOf E w v l) (hb : Below B w w') (hp : ∀ p n c, v = .slice (some p) n c → p.block < B) : SliceOf E w' v l := by
 rcases h with h | ⟨p, cap, rfl, hp', h⟩
 ·exact .inl h
 ·have := hp p _ _ rfl
  exact .inr ⟨p, cap, rfl, Nat.lt_of_lt_of_le hp' hb.size, fun j u hj => (hb.cell (p := p.add j) (by rw [add_block]; exact this)).trans (h j u hj)⟩
theorem SliceOf.below (h : SliceOf E w v l) (hb : Below w.heap.size w w') : SliceOf E w' v l := by
 rcases h with h | ⟨p, cap, rfl, hp, h⟩
 ·exact .inl h
 ·exact .inr ⟨p, cap, rfl, Nat.lt_of_lt_of_le hp hb.size, fun j u hj => (hb.cell (p := p.add j) (by rw [add_block]; exact hp)).trans (h j u hj)⟩
theorem SliceOf.len (h : SliceOf E w v l) (W : World) : (Builtin.len_ #[E.st] 3 #[v]).run P W = .ok (.int .i64 (l.length : Int)) W := by
 rcases h with ⟨a, c, rfl, rfl⟩ | ⟨p, cap, rfl, _, _⟩ <;> simp [Builtin.len_, run_underlying E.slice, goInt]
theorem SliceOf.form (h : SliceOf E w v l) : ∃ p c, v = .slice p l.length c := by
 rcases h with ⟨a, c, rfl, rfl⟩ | ⟨p, cap, rfl, _, _⟩
 ·exact ⟨a, c, rfl⟩
 ·exact ⟨_, cap, rfl⟩
theorem run_sizeOf_elem (W : World) : (Go.sizeOf E.ty).run P W = .ok E.n W := by
 obtain ⟨i, hi, _, hs, _⟩ := E.info
 simp [Go.sizeOf, typeInfo, hi, hs]
theorem SliceOf.at_ (h : SliceOf E w v l) (k : Nat) (a : α) (hk : l[k]? = some a) :
  ∃ p : Addr, (∀ W, (Instr.indexAt E.st v (.int .i64 (k : Int))).run P W = .ok (.pointer (some p)) W) ∧ p.block < w.heap.size ∧ (∀ j u, (E.val a).cells[j]? = some u → w.cell? (p.add j) = some u) ∧ LoadsL P w E.ty (some p) (E.val a) := by
 have hlt := (List.getElem?_eq_some_iff.1 hk).1
 rcases h with ⟨p, c, rfl, rfl⟩ | ⟨p, cap, rfl, hp, h⟩
 ·simp at hlt
 ·have hc : ∀ j u, (E.val a).cells[j]? = some u → w.cell? ((p.add (k * E.n)).add j) = some u := fun j u hj => by
   rw [add_add]
   exact h _ _ (E.flat_get l k a j u hk hj)
  refine ⟨p.add (k * E.n), fun W => ?_, by rw [add_block]; exact hp, hc, E.load w _ a (by rw [add_block]; exact hp) hc⟩
  have hel : P.elem E.st = E.ty := by simp [Program.elem, E.slice]
  rw [run_indexAt_slice W E.st p l.length cap .i64 (k : Int) (by rw [hel]; exact E.slice), if_pos (by omega), hel, run_sizeOf_elem]
  simp [Result.andThen]
def Own (E : Elem P α) (base : Nat) (w : World) (v : Value) (l : List α) : Prop := w.ownsRow base E.ty E.n v l.length (E.flat l)
variable {base : Nat}
theorem Own.nil (E : Elem P α) (base : Nat) (w : World) : Own E base w (.slice none 0 0) [] := ⟨by simp [Elem.flat], .inl ⟨rfl, rfl⟩⟩
theorem Own.slice (h : Own E base w v l) : SliceOf E w v l := by
 obtain ⟨_, ⟨rfl, h0⟩ | ⟨g, cap, cur, rfl, hgb, hcur, hle, _, _, htk⟩⟩ := h
 ·exact .inl ⟨_, _, rfl, List.length_eq_zero_iff.1 h0⟩
 ·refine .inr ⟨_, cap, rfl, heap_lt hcur, fun j u hj => ?_⟩
  rw [add_plain, Nat.zero_add, cell_of_row _ _ _ _ _ _ hcur]
  rw [← htk, List.getElem?_take] at hj
  split at hj
  ·simpa using hj
  ·cases hj
theorem Own.keep (h : Own E base w v l) (hk : ∀ (g : Nat) (cur : Array Value) (t : TypeId) (fr : Nat × Nat), base ≤ g → w.heap[g]? = some (Obj.cells cur t fr) → w'.heap[g]? = some (Obj.cells cur t fr)) : Own E base w' v l := by
 obtain ⟨h1, h2⟩ := h
 refine ⟨h1, ?_⟩
 rcases h2 with h2 | ⟨g, cap, cur, e1, e2, e3, e4⟩
 ·exact .inl h2
 ·exact .inr ⟨g, cap, cur, e1, e2, hk _ _ _ _ e2 e3, e4⟩
theorem Own.below (h : Own E base w v l) (hb : Below w.heap.size w w') : Own E base w' v l := h.keep fun _ _ _ _ _ hg => keep' hb hg
theorem Own.lower {b' : Nat} (h : Own E base w v l) (hb : b' ≤ base) : Own E b' w v l := by
 obtain ⟨h1, h2 | ⟨g, cap, cur, e1, e2, e3, e4⟩⟩ := h
 ·exact ⟨h1, .inl h2⟩
 ·exact ⟨h1, .inr ⟨g, cap, cur, e1, Nat.le_trans hb e2, e3, e4⟩⟩
theorem Own.block (h : Own E base w v l) : ∀ k, v.ownBlock = some k → base ≤ k ∧ ∃ cur, w.heap[k]? = some (.cells cur E.ty (0, 0)) := by
 obtain ⟨_, ⟨rfl, h0⟩ | ⟨g, cap, cur, rfl, hg, hc, _⟩⟩ := h
 ·intro k hk; simp [Value.ownBlock] at hk
 ·intro k hk
  obtain rfl : g = k := by simpa [Value.ownBlock] using hk
  exact ⟨hg, cur, hc⟩
def lenOf : Value → Nat | .slice _ n _ => n | _ => 0
theorem SliceOf.lenOf (h : SliceOf E w v l) : lenOf v = l.length := by
 obtain ⟨p, c, rfl⟩ := h.form
 rfl
structure Pushed (E : Elem P α) (base : Nat) (w w' : World) (v : Value) : Prop where
 below : ∀ B, B ≤ base → B ≤ w.heap.size → Below B w w'
 other : ∀ (g : Nat), g < w.heap.size → some g ≠ v.ownBlock → w'.heap[g]? = w.heap[g]?
 blk : ∀ (g : Nat) (t : TypeId) (cs : Array Value) (fr : Nat × Nat), t ≠ E.ty → w.heap[g]? = some (Obj.cells cs t fr) → w'.heap[g]? = some (Obj.cells cs t fr)
 map : ∀ (g : Nat) (es : Array MapEntry) (c : Nat), w.heap[g]? = some (Obj.map es c) → w'.heap[g]? = some (Obj.map es c)
 size : w.heap.size ≤ w'.heap.size
theorem pushed_of {w w' : World} {v : Value} {l : List α} (h : Own E base w v l) (hg : w.grownBy w' v.ownBlock) : Pushed E base w w' v where
 below := fun B hB hs => (Below.refl B w).grown hg hs fun k hk => Nat.le_trans hB (h.block k hk).1
 other := fun g hlt hne => hg.block g hlt hne
 blk := fun g t cs fr hne hb => (hg.block g (heap_lt hb) (fun e => by
  obtain ⟨_, cur, hc⟩ := h.block g e.symm
  rw [hb] at hc
  injection hc with hc
  injection hc with _ ht
  exact hne ht)).trans hb
 map := fun g es c hb => (hg.block g (heap_lt hb) (fun e => by
  obtain ⟨_, cur, hc⟩ := h.block g e.symm
  rw [hb] at hc
  injection hc with hc
  cases hc)).trans hb
 size := hg.size
theorem run_append (hown : Own E base w v l) (x : Value) (m : List α) (hx : SliceOf E w x m) (h63 : l.length + m.length ≤ 1099511627776 / 8) (hby : E.bytes ≤ 1000) (hbase : base ≤ w.heap.size) (ty : TypeId) :
  ∃ v' w', (Builtin.append_ #[E.st, E.st] ty #[v, x]).run P w = .ok v' w' ∧ Own E base w' v' (l ++ m) ∧ w.grownBy w' v.ownBlock ∧ (v'.ownBlock = v.ownBlock ∨ v'.ownBlock = some w.heap.size) ∧ (v' = .slice none 0 0 ↔ v = .slice none 0 0 ∧ (m = [] )) := by
 obtain ⟨i, hi, hz, hs, hb⟩ := E.info
 have hmul : (l.length + m.length) * E.bytes ≤ 140737488355328 := Nat.le_trans (Nat.mul_le_mul h63 hby) (by omega)
 have hmax : l.length + m.length ≤ maxLen := by simp only [maxLen]; omega
 obtain ⟨p, c, rfl⟩ := hx.form
 cases p with
 | none =>
  have hm : m = [] := by
   rcases hx with ⟨_, _, _, h⟩ | ⟨p, cap, e, _⟩
   ·exact h
   ·injection e with e; cases e
  subst hm
  refine ⟨v, w, ?_, by simpa using hown, ⟨rfl, rfl, rfl, Nat.le_refl _, fun _ _ _ => rfl⟩, .inl rfl, by simp⟩
  obtain ⟨_, ⟨rfl, _⟩ | ⟨g, cap, cur, rfl, _, _, hnc, _⟩⟩ := hown
  ·simp [Builtin.append_, run_underlying E.slice, sizeOf, typeInfo, hi, Builtin.lenOf, Builtin.firstCells]
  ·simp [Builtin.append_, run_underlying E.slice, sizeOf, typeInfo, hi, Builtin.lenOf, Builtin.firstCells, hnc, storeCells]
 | some p =>
  have hcells : ∀ j u, (E.flat m)[j]? = some u → w.cell? (p.add j) = some u := by
   rcases hx with ⟨_, _, _, rfl⟩ | ⟨q, cap, e, _, h⟩
   ·intro j u hj; simp [Elem.flat] at hj
   ·injection e with e
    injection e with e
    subst e
    exact h
  obtain ⟨v', w', hrun, h2, h3, h4, h5⟩ := run_append_own_at (P := P) w base E.st ty E.ty i E.zero E.n E.bytes E.slice hi hz hs hb E.zsize E.pos v l.length (E.flat l) hown p m.length c (E.flat m) (E.flat_length m) hcells (E.flat_one' m) hmax hmul hbase
  refine ⟨v', w', hrun, ?_, h3, h5, ?_⟩
  ·unfold Own
   rw [List.length_append, E.flat_append]
   exact h2
  ·rw [h4, List.length_eq_zero_iff]
theorem run_slice_one (a : α) (w : World) : (Instr.buildSlice E.st 1 #[(0, E.val a)]).run P w = .ok (.slice (some ⟨w.heap.size, 0, none⟩) 1 1) (w.alloc (.cells (E.val a).cells E.ty)) := by
 obtain ⟨i, hi, hz, hs, hb⟩ := E.info
 have hpos := E.pos
 have hsm := E.small
 refine run_buildSlice w E.st E.ty 1 _ (E.val a).cells i E.zero E.slice hi hz (by omega) (by omega) ?_
 rw [hs]
 show Instr.fill _ _ [(0, E.val a)] = _
 rw [fill_cons (off := 0) (size := E.n) (by simp) (E.size a) (by simp), fill_nil]
 congr 1
 apply Array.ext'
 have := E.size a
 simp [splice, this]
theorem slice_of_block {g : Nat} {a : α} (h : Blk w g E.ty (E.val a).cells) : SliceOf E w (.slice (some ⟨g, 0, none⟩) 1 1) [a] :=
 .inr ⟨_, 1, rfl, h.lt, fun j u hj => by rw [E.flat_one, Elem.cs] at hj; rw [add_plain, Nat.zero_add, h.cell]; simpa using hj⟩
section
variable {ops : Array Oper} {rest : List Oper} {o o2 : Oper} {a : Act} {Q : Exit → Act → World → Prop}
theorem wpList_push (hg : o.guard = none) (hg2 : o2.guard = none) (d : Tmp) (hd : o.dst = some d) (y : Operand) (ho : o.op = .buildSlice E.st 1 #[(0, y)]) (s : Operand)
  (ho2 : o2.op = .call { callee := .builtin .append, args := #[s, .tmp d], argTypes := #[E.st, E.st] }) (x : α) (hy : a.eval y = E.val x) (hs : ∀ p, (a.put o.dst p).eval s = v) (hsz : d < a.tmps.size)
  (hown : Own E base w v l) (h63 : l.length + 1 ≤ 1099511627776 / 8) (hby : E.bytes ≤ 1000) (hbase : base ≤ w.heap.size)
  (h : ∀ u v' w', Own E base w' v' (l ++ [x]) → Pushed E base w w' v → wpList P ops Q rest ((a.put o.dst u).put o2.dst v') w') : wpList P ops Q (o :: o2 :: rest) a w := by
 refine wpList_val hg (v := .slice (some ⟨w.heap.size, 0, none⟩) 1 1) (w' := w.alloc (.cells (E.val x).cells E.ty)) (by simp [execOp, ho, hy, run_slice_one]) ?_
 have hb1 : Below w.heap.size w (w.alloc (.cells (E.val x).cells E.ty)) := (Below.refl _ _).alloc (Nat.le_refl _) _
 have hown1 := hown.below hb1
 obtain ⟨v', w', hrun, h2, h3, _, _⟩ := run_append (ty := o2.type) hown1 _ [x] (slice_of_block (Blk.new w E.ty (E.val x).cells)) (by simpa using h63) hby (Nat.le_trans hbase hb1.size)
 have hp := pushed_of hown1 h3
 have hpu : Pushed E base w w' v := {
  below := fun B hB hs => (hb1.mono hs).trans (hp.below B hB (Nat.le_trans hs hb1.size))
  other := fun g hlt hne => (hp.other g (Nat.lt_of_lt_of_le hlt hb1.size) hne).trans (hb1.block g hlt)
  blk := fun g t cs fr hne hb => hp.blk g t cs fr hne (keep' hb1 hb)
  map := fun g es c hb => hp.map g es c (keep' hb1 hb)
  size := Nat.le_trans hb1.size hp.size }
 refine wpList_val hg2 (v := v') (w' := w') ?_ (h _ v' w' h2 hpu)
 have e2 : (a.put o.dst (.slice (some ⟨w.heap.size, 0, none⟩) 1 1)).eval (.tmp d) = .slice (some ⟨w.heap.size, 0, none⟩) 1 1 := by rw [hd]; simp [Act.put, Act.eval, hsz]
 simp [execOp, ho2, resolve, invoke, builtin, hs, e2, hrun]
theorem wpList_appendS (hg : o.guard = none) (s x : Operand) (ho : o.op = .call { callee := .builtin .append, args := #[s, x], argTypes := #[E.st, E.st] }) (vx : Value) (hs : a.eval s = v) (hx : a.eval x = vx) (m : List α)
  (hown : Own E base w v l) (hm : SliceOf E w vx m) (h63 : l.length + m.length ≤ 1099511627776 / 8) (hby : E.bytes ≤ 1000) (hbase : base ≤ w.heap.size)
  (h : ∀ v' w', Own E base w' v' (l ++ m) → Pushed E base w w' v → (v' = .slice none 0 0 ↔ v = .slice none 0 0 ∧ m = []) → wpList P ops Q rest (a.put o.dst v') w') : wpList P ops Q (o :: rest) a w := by
 obtain ⟨v', w', hrun, h2, h3, _, h5⟩ := run_append (ty := o.type) hown _ m hm h63 hby hbase
 refine wpList_val hg (v := v') (w' := w') ?_ (h v' w' h2 (pushed_of hown h3) h5)
 simp [execOp, ho, resolve, invoke, builtin, hs, hx, hrun]
theorem wpList_slice0 (E : Elem P α) (hg : o.guard = none) (ho : o.op = .buildSlice E.st 0 #[]) (hbase : base ≤ w.heap.size)
  (h : ∀ v' w', Own E base w' v' [] → Below w.heap.size w w' → v' ≠ .slice none 0 0 → wpList P ops Q rest (a.put o.dst v') w') : wpList P ops Q (o :: rest) a w := by
 refine wpList_val hg (v := .slice (some ⟨w.heap.size, 0, none⟩) 0 0) (w' := w.alloc (.cells #[] E.ty)) ?_ (h _ _ ?_ ((Below.refl _ _).alloc (Nat.le_refl _) _) (by simp))
 ·simp [execOp, ho, Instr.buildSlice, run_underlying E.slice, run_sizeOf_elem, newRow, Instr.fill]
  rw [show Array.range 0 = #[] by simp, Array.map_empty]
 ·exact ⟨by simp [Elem.flat], .inr ⟨_, 0, #[], rfl, hbase, heap_alloc_new w _, Nat.le_refl _, Nat.zero_le _, by simp, by simp [Elem.flat]⟩⟩
theorem wpList_make0 (E : Elem P α) (hg : o.guard = none) (kl kc : IntKind) (x : Operand) (c : Nat) (ho : o.op = .makeSlice E.st (.const (.int kl 0)) x) (hx : a.eval x = .int kc (c : Int)) (hc : c ≤ 1099511627776 / 8) (hby : E.bytes ≤ 1000) (hbase : base ≤ w.heap.size)
  (h : ∀ v' w', Own E base w' v' [] → Below w.heap.size w w' → wpList P ops Q rest (a.put o.dst v') w') : wpList P ops Q (o :: rest) a w := by
 obtain ⟨i, hi, hz, hs, hb⟩ := E.info
 have hmul : i.bytes * c ≤ 281474976710656 := by
  rw [hb]
  exact Nat.le_trans (Nat.mul_le_mul hby hc) (by omega)
 have hmi : (i.bytes : Int) * (c : Int) ≤ 281474976710656 := by
  have h5 : ((i.bytes * c : Nat) : Int) ≤ 281474976710656 := by omega
  rwa [Int.natCast_mul] at h5
 have hr := run_make (P := P) w E.st E.ty i E.zero E.slice hi hz kl kc 0 (c : Int) (by omega) (by omega) hmi (by omega)
 simp only [Int.toNat_natCast, Int.toNat_zero] at hr
 refine wpList_val hg (v := .slice (some ⟨w.heap.size, 0, none⟩) 0 c) (w' := w.alloc (.cells (madeCells E.zero.cells (c * i.size)) E.ty)) ?_ (h _ _ ?_ ((Below.refl _ _).alloc (Nat.le_refl _) _))
 ·have he : a.eval (.const (.int kl 0)) = .int kl 0 := rfl
  simp [execOp, ho, hx, he, hr]
 ·refine ⟨by simp [Elem.flat], .inr ⟨_, c, _, rfl, hbase, heap_alloc_new w _, Nat.zero_le _, by simp only [maxLen]; omega, ?_, by simp [Elem.flat]⟩⟩
  rw [hs]; simp [madeCells]
theorem run_slice_two (x y : α) (w : World) : (Instr.buildSlice E.st 2 #[(0, E.val x), (1, E.val y)]).run P w = .ok (.slice (some ⟨w.heap.size, 0, none⟩) 2 2) (w.alloc (.cells ((E.val x).cells ++ (E.val y).cells) E.ty)) := by
 obtain ⟨i, hi, hz, hs, hb⟩ := E.info
 have hpos := E.pos
 have hsm := E.small
 have hsx := E.size x
 have hsy := E.size y
 refine run_buildSlice w E.st E.ty 2 _ ((E.val x).cells ++ (E.val y).cells) i E.zero E.slice hi hz (by omega) (by omega) ?_
 rw [hs]
 show Instr.fill _ _ [(0, E.val x), (1, E.val y)] = _
 rw [fill_cons (off := 0) (size := E.n) (by simp) hsx (by simp; omega), fill_cons (off := E.n) (size := E.n) (by simp) hsy (by rw [splice_size _ _ _ (by simp; omega)]; simp; omega), fill_nil]
 congr 1
 apply Array.ext'
 have hlx : (E.val x).cells.toList.length = E.n := by rw [Array.length_toList]; exact hsx
 simp only [splice, Nat.zero_add, hsx, hsy, List.take_zero, List.nil_append, Array.toList_append]
 rw [List.take_append_of_le_length (by omega), List.take_of_length_le (by omega), List.drop_append, List.drop_eq_nil_of_le (by omega : (E.val x).cells.toList.length ≤ E.n + E.n), List.nil_append, List.drop_eq_nil_of_le (by simp; omega), List.append_nil]
theorem slice_of_block2 {g : Nat} {x y : α} (h : Blk w g E.ty ((E.val x).cells ++ (E.val y).cells)) : SliceOf E w (.slice (some ⟨g, 0, none⟩) 2 2) [x, y] :=
 .inr ⟨_, 2, rfl, h.lt, fun j u hj => by
  have e : E.flat [x, y] = ((E.val x).cells ++ (E.val y).cells).toList := by simp [Elem.flat, Elem.cs]
  rw [e] at hj
  rw [add_plain, Nat.zero_add, h.cell, ← Array.getElem?_toList]; exact hj⟩
theorem wpList_push2 (hg : o.guard = none) (hg2 : o2.guard = none) (d : Tmp) (hd : o.dst = some d) (x y : Operand) (ho : o.op = .buildSlice E.st 2 #[(0, x), (1, y)]) (s : Operand)
  (ho2 : o2.op = .call { callee := .builtin .append, args := #[s, .tmp d], argTypes := #[E.st, E.st] }) (vx vy : α) (hx : a.eval x = E.val vx) (hy : a.eval y = E.val vy) (hs : ∀ p, (a.put o.dst p).eval s = v) (hsz : d < a.tmps.size)
  (hown : Own E base w v l) (h63 : l.length + 2 ≤ 1099511627776 / 8) (hby : E.bytes ≤ 1000) (hbase : base ≤ w.heap.size)
  (h : ∀ u v' w', Own E base w' v' (l ++ [vx, vy]) → Pushed E base w w' v → wpList P ops Q rest ((a.put o.dst u).put o2.dst v') w') : wpList P ops Q (o :: o2 :: rest) a w := by
 refine wpList_val hg (v := .slice (some ⟨w.heap.size, 0, none⟩) 2 2) (w' := w.alloc (.cells ((E.val vx).cells ++ (E.val vy).cells) E.ty)) (by simp [execOp, ho, hx, hy, run_slice_two]) ?_
 have hb1 : Below w.heap.size w (w.alloc (.cells ((E.val vx).cells ++ (E.val vy).cells) E.ty)) := (Below.refl _ _).alloc (Nat.le_refl _) _
 have hown1 := hown.below hb1
 obtain ⟨v', w', hrun, h2, h3, _, _⟩ := run_append (ty := o2.type) hown1 _ [vx, vy] (slice_of_block2 (Blk.new w E.ty _)) (by simpa using h63) hby (Nat.le_trans hbase hb1.size)
 have hp := pushed_of hown1 h3
 have hpu : Pushed E base w w' v := {
  below := fun B hB hs => (hb1.mono hs).trans (hp.below B hB (Nat.le_trans hs hb1.size))
  other := fun g hlt hne => (hp.other g (Nat.lt_of_lt_of_le hlt hb1.size) hne).trans (hb1.block g hlt)
  blk := fun g t cs fr hne hb => hp.blk g t cs fr hne (keep' hb1 hb)
  map := fun g es c hb => hp.map g es c (keep' hb1 hb)
  size := Nat.le_trans hb1.size hp.size }
 refine wpList_val hg2 (v := v') (w' := w') ?_ (h _ v' w' h2 hpu)
 have e2 : (a.put o.dst (.slice (some ⟨w.heap.size, 0, none⟩) 2 2)).eval (.tmp d) = .slice (some ⟨w.heap.size, 0, none⟩) 2 2 := by rw [hd]; simp [Act.put, Act.eval, hsz]
 simp [execOp, ho2, resolve, invoke, builtin, hs, e2, hrun]
theorem step_appendS {K : Act → World → Prop} {F : Prop} (hg : o.guard = none) (s x : Operand) (ho : o.op = .call { callee := .builtin .append, args := #[s, x], argTypes := #[E.st, E.st] }) (vx : Value) (hs : a.eval s = v) (hx : a.eval x = vx) (m : List α)
  (hown : Own E base w v l) (hm : SliceOf E w vx m) (h63 : l.length + m.length ≤ 1099511627776 / 8) (hby : E.bytes ≤ 1000) (hbase : base ≤ w.heap.size)
  (h : ∀ v' w', Own E base w' v' (l ++ m) → Pushed E base w w' v → K (a.put o.dst v') w') : if Region.wanted o (yielded ops a.tmps) = true then o.wp P a w K Q else F := by
 rw [if_pos (by simp [Region.wanted, hg])]
 obtain ⟨v', w', hrun, h2, h3, _, _⟩ := run_append (ty := o.type) hown _ m hm h63 hby hbase
 unfold Oper.wp
 have : (execOp a.eval o).run P w = .ok (.value v') w' := by simp [execOp, ho, resolve, invoke, builtin, hs, hx, hrun]
 rw [this]
 exact h v' w' h2 (pushed_of hown h3)
theorem wpList_slice1 (hg : o.guard = none) (y : Operand) (ho : o.op = .buildSlice E.st 1 #[(0, y)]) (x : α) (hy : a.eval y = E.val x) (hbase : base ≤ w.heap.size)
  (h : ∀ v' w', Own E base w' v' [x] → Below w.heap.size w w' → wpList P ops Q rest (a.put o.dst v') w') : wpList P ops Q (o :: rest) a w := by
 refine wpList_val hg (v := .slice (some ⟨w.heap.size, 0, none⟩) 1 1) (w' := w.alloc (.cells (E.val x).cells E.ty)) (by simp [execOp, ho, hy, run_slice_one]) (h _ _ ?_ ((Below.refl _ _).alloc (Nat.le_refl _) _))
 have hs := E.size x
 refine ⟨by rw [E.flat_one, E.cs_length]; simp, .inr ⟨_, 1, _, rfl, hbase, heap_alloc_new w _, Nat.le_refl _, by simp [maxLen], by rw [hs]; simp, ?_⟩⟩
 rw [E.flat_one, Elem.cs, List.take_of_length_le (by rw [Array.length_toList, hs]; simp)]
theorem wpList_slice2 (hg : o.guard = none) (x y : Operand) (ho : o.op = .buildSlice E.st 2 #[(0, x), (1, y)]) (vx vy : α) (hx : a.eval x = E.val vx) (hy : a.eval y = E.val vy)
  (h : ∀ v' w', SliceOf E w' v' [vx, vy] → Below w.heap.size w w' → wpList P ops Q rest (a.put o.dst v') w') : wpList P ops Q (o :: rest) a w :=
 wpList_val hg (v := .slice (some ⟨w.heap.size, 0, none⟩) 2 2) (w' := w.alloc (.cells ((E.val vx).cells ++ (E.val vy).cells) E.ty)) (by simp [execOp, ho, hx, hy, run_slice_two])
  (h _ _ (slice_of_block2 (Blk.new w E.ty _)) ((Below.refl _ _).alloc (Nat.le_refl _) _))
end
end
end Go.Agg
/-! (of general use) base.Letters: the letters of any hash. -/
namespace Go.Proofs.YtfiadgdinhmgbaaDoor
open Go.RowKit Pl
def hC (h : List UInt8) : Array Value := (Lib.byteCells h).toArray
theorem hC_size (h : List UInt8) : (hC h).size = h.length := by simp [hC, Lib.byteCells]
theorem or_disjoint (a x m : Nat) (ha : a < 2 ^ m) (hx : x < 256) (hm : m < 5) : bits .or .u32 (a : Int) ((x : Int) % 4294967296 * 2 ^ m % 4294967296) = ((a + 2 ^ m * x : Nat) : Int) := by
 have h5 : 2 ^ m ≤ 2 ^ 4 := Nat.pow_le_pow_right (by omega) (by omega)
 have hp : 2 ^ m * x ≤ 2 ^ 4 * 255 := Nat.mul_le_mul h5 (by omega)
 have e : ((x : Int) % 4294967296 * 2 ^ m % 4294967296) = ((2 ^ m * x : Nat) : Int) := by
  rw [Int.emod_eq_of_lt (a := (x : Int)) (by omega) (by omega)]
  have : (x : Int) * 2 ^ m = ((2 ^ m * x : Nat) : Int) := by push_cast; exact Int.mul_comm _ _
  rw [this, Int.emod_eq_of_lt (by omega) (by omega)]
 rw [e, u32_or_nat _ _ (by omega) (by omega), Nat.or_comm, ← Nat.two_pow_add_eq_or_of_lt ha, Nat.add_comm]
theorem or_held (h : List UInt8) (k : Nat) (hl : h.length = 20) (hk : k < 20) :
  bits .or .u32 ((heldTo h k (8 * k / 5) : Nat) : Int) (((h[k]?.getD 0).toNat : Int) % 4294967296 * 2 ^ (8 * k - 5 * (8 * k / 5)) % 4294967296) = ((heldTo h (k + 1) (8 * k / 5) : Nat) : Int) := by
 rw [or_disjoint _ _ _ (heldTo_lt h k _ (by omega) (by omega)) (UInt8.toNat_lt _) (by omega), heldTo_byte h k _ (by omega) (by omega)]
 simp [List.getElem?_eq_getElem (show k < h.length by omega)]
def lo5 (a : Nat) : Nat := a % 32
theorem lo5_lt (a : Nat) : lo5 a < 32 := Nat.mod_lt _ (by omega)
theorem and31 (a : Nat) (ha : a < 4294967296) : bits .and .u32 (a : Int) 31 = ((lo5 a : Nat) : Int) := by
 rw [show (31 : Int) = ((31 : Nat) : Int) from rfl, u32_and_nat a 31 ha (by omega), Nat.and_two_pow_sub_one_eq_mod a 5]; rfl
theorem letter_at (kd : IntKind) (n : Nat) (hn : n < 32) (w : World) :
  (Instr.index 9 (.string ⟨#[48, 49, 50, 51, 52, 53, 54, 55, 56, 57, 97, 98, 99, 100, 102, 103, 104, 105, 106, 107, 108, 109, 110, 112, 113, 114, 115, 118, 119, 120, 121, 122]⟩) (.int kd (n : Int))).run Tryd.prog w = .ok (.int .u8 ((letter n).toNat : Int)) w := by
 refine Agg.run_index_str (s := alpha) w Tryd.underlying9 ?_
 simp [letter, List.getD, List.getElem?_eq_getElem (show n < alpha.length from hn)]
theorem fresh_builder {T e : TypeId} {B : Nat} (w : World) (b : Nat) (hb : b = w.heap.size) (hB : B ≤ w.heap.size) : Lib.IsBuilderF T e B b [] (w.alloc (.cells #[.pointer none, .slice none 0 0] T)) := by
 subst hb
 refine .inl ⟨hB, .slice none 0 0, ?_, ?_, by simp [Value.ownBlock]⟩
 ·exact heap_alloc_new _ _
 ·exact World.ownsRowF_of (World.ownsRow_nil _ _ _ _)
end Go.Proofs.YtfiadgdinhmgbaaDoor
/-! (of general use) Bytes and texts as elements. -/
namespace Go.Proofs.YtfiadgdinhmgbaaDoor
open Go.RowKit Pl Go.Agg
theorem info_of {P : Program} {ty : TypeId} {z : Value} {n b : Nat} (hz : (P.info? ty).map (·.zero) = some (some z)) (hs : (P.info? ty).map (·.size) = some n) (hb : (P.info? ty).map (·.bytes) = some b) :
  ∃ i, P.info? ty = some i ∧ i.zero = some z ∧ i.size = n ∧ i.bytes = b := by
 cases hi : P.info? ty with
 | none => rw [hi] at hz; cases hz
 | some i =>
  rw [hi] at hz hs hb
  exact ⟨i, rfl, Option.some.inj hz, Option.some.inj hs, Option.some.inj hb⟩
theorem one_of {cs : Array Value} (h : cs.all (·.oneCell') = true) (v : Value) (hv : v ∈ cs.toList) : v.oneCell' = true := by
 rw [Array.all_eq_true_iff_forall_mem] at h
 exact h v (by simpa using hv)
def EB : Elem Tryd.prog UInt8 where
 ty := 5
 st := 23
 n := 1
 bytes := 1
 val := fun c => .int .u8 (c.toNat : Int)
 zero := .int .u8 0
 pos := by omega
 small := by omega
 size := fun x => rfl
 one := fun x v hv => by
  obtain rfl : v = .int .u8 (x.toNat : Int) := by simpa [Value.cells] using hv
  rfl
 zsize := rfl
 slice := by kernel_rfl
 info := info_of (by kernel_rfl) (by kernel_rfl) (by kernel_rfl)
 load := fun w a x hp h => LoadsL.of_cell (by have := h 0 _ rfl; rwa [show a.add 0 = a from rfl] at this) Tryd.underlying5 rfl
abbrev BytesAt (w : World) (v : Value) (l : List UInt8) : Prop := SliceOf EB w v l
theorem bytes_len {w : World} {v : Value} {l : List UInt8} (h : BytesAt w v l) (W : World) : (Builtin.len_ #[23] 3 #[v]).run Tryd.prog W = .ok (.int .i64 (l.length : Int)) W := h.len W
theorem str_len' (s : List UInt8) (w : World) : (Builtin.len_ #[9] 3 #[.string ⟨s.toArray⟩]).run Tryd.prog w = .ok (.int .i64 (s.length : Int)) w := by
 rw [run_len_string w 9 3 _ Tryd.underlying9, Agg.bytes_size]; rfl
theorem byte_at {w : World} {v : Value} {l : List UInt8} (h : BytesAt w v l) (k : Nat) (x : UInt8) (hx : l[k]? = some x) :
  ∃ p : Addr, (∀ W, (Instr.indexAt 23 v (.int .i64 (k : Int))).run Tryd.prog W = .ok (.pointer (some p)) W) ∧ LoadsL Tryd.prog w 5 (some p) (.int .u8 (x.toNat : Int)) := by
 obtain ⟨p, h1, _, _, h4⟩ := h.at_ k x hx
 exact ⟨p, h1, h4⟩
end Go.Proofs.YtfiadgdinhmgbaaDoor
