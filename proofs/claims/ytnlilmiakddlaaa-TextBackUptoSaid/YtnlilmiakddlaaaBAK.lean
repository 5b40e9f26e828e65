/- Frames of bytes: the plain law. (Several texts in one.) -/
import Derived.Test.YtnlilmiakddlaaaBAG
import Derived.Deep.MidRow
import Derived.Test.YtnlilmiakddlaaaBAF
import Derived.Laws.CopyOwn
import Derived.Deep.RegionHeld3
import Derived.Test.YtnlilmiakddlaaaBAE
import Derived.Lib.ConvBytes
import Derived.Laws.IdiomStrings
import Derived.Laws.BytesArg
import Derived.StillTailTactics
/-! A row of cells stored into the middle of a block. -/
namespace Go.Agg
open Go.RowKit
variable {P : Program}
def setAll (cs : Array Value) : Nat → List Value → Array Value
  | _, [] => cs
  | i, v :: vs => setAll (cs.setIfInBounds i v) (i + 1) vs
theorem Blk.setAll {g : Nat} {t : TypeId} : ∀ (vs : List Value) (i : Nat) (w : World) (cs : Array Value), Blk w g t cs → Blk (w.setCells g i vs) g t (Agg.setAll cs i vs)
  | [], _, _, _, h => h
  | v :: vs, i, _, _, h => Blk.setAll vs (i + 1) _ _ (h.set i v)
theorem setAll_mid : ∀ (vs a b c : List Value), b.length = vs.length → setAll (a ++ (b ++ c)).toArray a.length vs = (a ++ (vs ++ c)).toArray
  | [], a, b, c, h => by
    obtain rfl := List.length_eq_zero_iff.1 h
    rfl
  | v :: vs, a, [], c, h => by simp at h
  | v :: vs, a, y :: b, c, h => by
    have e : (a ++ (y :: b ++ c)).toArray.setIfInBounds a.length v = ((a ++ [v]) ++ (b ++ c)).toArray := by simp
    have h1 := setAll_mid vs (a ++ [v]) b c (by simpa using h)
    rw [setAll, e, show a.length + 1 = (a ++ [v]).length by simp, h1]
    simp
/-- a row stored: what lies there then -/
theorem Blk.run_row {w : World} {g : Nat} {t ty : TypeId} (a b c ds : Array Value) (h : Blk w g t (a ++ (b ++ c))) (hb : b.size = ds.size) (hs : (P.info? ty).map (·.size) = some ds.size) (h1 : ds.all (·.oneCell') = true) {i : Nat} (hi : i = a.size) :
    ∃ w', (Instr.storeAt ty (.pointer (some ⟨g, i, none⟩)) (.agg ds)).run P w = .ok () w' ∧ Blk w' g t (a ++ (ds ++ c)) ∧ Only (· = g) w w' := by
  subst hi
  refine ⟨_, run_storeAt_mid w g a.size ty ds (fun j hj => ⟨?_, frozen_of_row _ _ _ _ _ h⟩) hs h1, ?_, only_setCells _ _ _ _⟩
  · rw [h.cell]
    simp
    omega
  · have h2 := h.setAll ds.toList a.size
    have e := setAll_mid ds.toList a.toList b.toList c.toList (by simpa using hb)
    have e1 : (a.toList ++ (b.toList ++ c.toList)).toArray = a ++ (b ++ c) := by apply Array.ext'; simp
    have e2 : (a.toList ++ (ds.toList ++ c.toList)).toArray = a ++ (ds ++ c) := by apply Array.ext'; simp
    rw [e1, e2, Array.length_toList] at e
    rw [← e]
    exact h2
/-- one cell stored -/
theorem Blk.run_one {w : World} {g : Nat} {t ty : TypeId} {cs : Array Value} (h : Blk w g t cs) (i : Nat) (hi : i < cs.size) (v : Value) (hv : v.cells = #[v]) (h1 : v.oneCell' = true) (hs : (P.info? ty).map (·.size) = some 1) (ds : Array Value) (he : cs.setIfInBounds i v = ds) :
    ∃ w', (Instr.storeAt ty (.pointer (some ⟨g, i, none⟩)) v).run P w = .ok () w' ∧ Blk w' g t ds ∧ Only (· = g) w w' := by
  subst he
  exact ⟨_, h.run_put i hi v hv h1 hs, h.set i v, rfl, rfl, rfl, by simp [World.setCell], fun k _ hk => Below.heap_setCell _ _ _ _ hk⟩
end Go.Agg
/-! Operations of a region that draws: a store, a copy of bytes, literals. -/
namespace Go.Agg
open Go.RowKit
variable {P : Program}
section
variable {ops : Array Oper} {o : Oper} {a : Act} {w : World} {Q : Exit → Act → World → Prop} {K : Act → World → Prop} {F : Prop}
theorem step_store {w' : World} (hg : o.guard = none) (hd : o.dst = none) (ty : TypeId) (x y : Operand) (ho : o.op = .store ty x y) (p v : Value) (hx : a.eval x = p) (hy : a.eval y = v)
    (hrun : (Instr.storeAt ty p v).run P w = .ok () w') (h : K a w') : if Region.wanted o (yielded ops a.tmps) = true then o.wp P a w K Q else F := by
  rw [if_pos (by simp [Region.wanted, hg])]
  unfold Oper.wp
  have : (execOp a.eval o).run P w = .ok .skip w' := by simp [execOp, ho, hx, hy, hrun]
  rw [this, Oper.upon_skip, hd]
  exact h
theorem step_val {v : Value} {w' : World} (hg : o.guard = none) (hrun : (execOp a.eval o).run P w = .ok (.value v) w') (h : K (a.put o.dst v) w') : if Region.wanted o (yielded ops a.tmps) = true then o.wp P a w K Q else F := by
  rw [if_pos (by simp [Region.wanted, hg])]
  unfold Oper.wp
  rw [hrun]
  exact h
theorem step_slice1 {α : Type} {E : Elem P α} (hg : o.guard = none) (y : Operand) (ho : o.op = .buildSlice E.st 1 #[(0, y)]) (x : α) (hy : a.eval y = E.val x)
    (h : ∀ v' w', Own E w.heap.size w' v' [x] → Below w.heap.size w w' → K (a.put o.dst v') w') : if Region.wanted o (yielded ops a.tmps) = true then o.wp P a w K Q else F := by
  refine step_val hg (v := .slice (some ⟨w.heap.size, 0, none⟩) 1 1) (w' := w.alloc (.cells (E.val x).cells E.ty)) (by simp [execOp, ho, hy, run_slice_one]) (h _ _ ?_ ((Below.refl _ _).alloc (Nat.le_refl _) _))
  have hs := E.size x
  refine ⟨by rw [E.flat_one, E.cs_length]; simp, .inr ⟨_, 1, _, rfl, Nat.le_refl _, heap_alloc_new w _, Nat.le_refl _, by simp [maxLen], by rw [hs]; simp, ?_⟩⟩
  rw [E.flat_one, Elem.cs, List.take_of_length_le (by rw [Array.length_toList, hs]; simp)]
/-- '&T{..}' -/
theorem step_box (hg : o.guard = none) (ty : TypeId) (x : Operand) (ho : o.op = .box ty x) (cs : Array Value) (hx : a.eval x = .agg cs)
    (h : ∀ g w', Blk w' g ty cs → Below w.heap.size w w' → w.heap.size ≤ g → K (a.put o.dst (.pointer (some ⟨g, 0, none⟩))) w') : if Region.wanted o (yielded ops a.tmps) = true then o.wp P a w K Q else F :=
  step_val hg (v := .pointer (some ⟨w.heap.size, 0, none⟩)) (w' := w.alloc (.cells cs ty)) (by simp [execOp, ho, hx, Instr.box, newVar, newRow, Value.cells]) (h _ _ (Blk.new w ty cs) ((Below.refl _ _).alloc (Nat.le_refl _) _) (Nat.le_refl _))
end
end Go.Agg
namespace Go.Proofs.Ytnlilmiakddlaaa
open Go.RowKit Pl Go.Agg
theorem flat_bytes (l : List UInt8) : EB.flat l = Lib.byteCells l := by
  simp only [Elem.flat, Lib.byteCells]
  induction l with
  | nil => rfl
  | cons c t ih =>
    rw [List.flatMap_cons, ih]
    rfl
theorem run_copyB {w : World} {g n : Nat} {t : TypeId} {cur : List Value} {u : Value} {l : List UInt8} (ty : TypeId) (hu : SliceOf EB w u l) (hb : Blk w g t cur.toArray) (hn : cur.length = n) (hl : l.length ≤ n) :
    ∃ w', (Builtin.copy_ #[23, 23] ty #[.slice (some ⟨g, 0, none⟩) n n, u]).run Try.prog w = .ok (goInt l.length) w' ∧ Blk w' g t (Lib.byteCells l ++ cur.drop l.length).toArray ∧ Only (· = g) w w' := by
  have hund : Try.prog.underlying 23 = some (.slice 5) := by kernel_rfl
  have hsz : (Try.prog.info? 5).map (·.size) = some 1 := by kernel_rfl
  have hc : (Lib.byteCells l).length = l.length := by simp [Lib.byteCells]
  by_cases h0 : l.length = 0
  · obtain rfl : l = [] := List.length_eq_zero_iff.1 h0
    obtain ⟨p, c, hf⟩ := hu.form
    subst hf
    exact ⟨w, run_copy_none w _ _ _ 5 _ _ _ _ _ _ hund hsz (by simp), by simpa [Lib.byteCells] using hb, Only.refl _ _⟩
  · rcases hu with ⟨_, _, _, h1⟩ | ⟨q, c, rfl, hq, hcell⟩
    · exact absurd (by simp [h1]) h0
    · rw [flat_bytes] at hcell
      have hrun := run_copy_row (P := Try.prog) w 23 23 ty 5 g 0 n n q l.length c cur.toArray t (Lib.byteCells l) hund hsz hb (by rw [hc]; exact (Nat.min_eq_left hl).symm) hcell (by simp [hc]; omega)
        (fun v hv => by
          simp only [Lib.byteCells, List.mem_map] at hv
          obtain ⟨b, _, rfl⟩ := hv
          rfl)
      rw [hc] at hrun
      refine ⟨_, hrun, ?_, rfl, rfl, rfl, by simp [World.setRow], fun k _ hk => setRow_other w g k _ hk⟩
      have h1 := setRow_heap w g cur.toArray (List.take 0 cur.toArray.toList ++ Lib.byteCells l ++ List.drop (0 + l.length) cur.toArray.toList).toArray t _ hb
      refine Eq.trans h1 ?_
      simp
theorem step_copyB {ops : Array Oper} {o : Oper} {a : Act} {w : World} {Q : Exit → Act → World → Prop} {K : Act → World → Prop} {F : Prop} {g n : Nat} {t : TypeId} {cur : List Value} {u : Value} {l : List UInt8} (hg : o.guard = none) (d s : Operand)
    (ho : o.op = .call { callee := .builtin .copy, args := #[d, s], argTypes := #[23, 23] }) (hd : a.eval d = .slice (some ⟨g, 0, none⟩) n n) (hs : a.eval s = u) (hu : SliceOf EB w u l) (hb : Blk w g t cur.toArray) (hn : cur.length = n) (hl : l.length ≤ n)
    (h : ∀ w', Blk w' g t (Lib.byteCells l ++ cur.drop l.length).toArray → Only (· = g) w w' → K (a.put o.dst (goInt l.length)) w') : if Region.wanted o (yielded ops a.tmps) = true then o.wp Try.prog a w K Q else F := by
  obtain ⟨w', hrun, h1, h2⟩ := run_copyB o.type hu hb hn hl
  exact step_val hg (by simp [execOp, ho, resolve, invoke, builtin, hd, hs, hrun]) (h w' h1 h2)
end Go.Proofs.Ytnlilmiakddlaaa
/-! A region that draws its order, step by step: each operation that may come up, by its own law. -/
namespace Go.Agg
open Go.RowKit
variable {P : Program}
section
variable {l : List Oper} {md : Region.Mode} {Q : Exit → Act → World → Prop} {S : World → Prop} {fuel : Nat} {listed : Array Bool} {a : Act} {w : World}
def takeB (md : Region.Mode) (l : List Oper) (listed : Array Bool) (i : Nat) : Bool :=
  Region.noSelect l.toArray && Region.free md l.toArray listed i && (Region.ready md l.toArray listed).contains i
theorem any_take {o : Oper} (i : Nat) (v : Value) (ho : l[i]? = some o) (hB : takeB md l listed i = true) (hQ : ∀ c a w, Q (.panic c) (a.put o.dst v) w → Q (.panic c) a w) (hw : Region.wanted o (yielded l.toArray a.tmps) = true)
    (hy : ∀ w, (execOp a.eval o).run P w = .ok (.value v) w) (h : wpAny P md l.toArray Q fuel (listed.setIfInBounds i true) (a.put o.dst v) w) : wpAny P md l.toArray Q (fuel + 1) listed a w := by
  simp only [takeB, Bool.and_eq_true] at hB
  exact wpAny_take (by simpa using ho) hB.1.1 hB.1.2 hB.2 hQ (.inl ⟨hw, hy⟩) h
theorem any_ready (rs : List Nat) (hr : Region.ready md l.toArray listed = rs) (hne : rs ≠ []) (h : AllReady P md l.toArray Q fuel listed a w rs) : wpAny P md l.toArray Q (fuel + 1) listed a w := wpAny_ready hr hne h
theorem any_cons {o : Oper} {i : Nat} {rs : List Nat} (ho : l[i]? = some o)
    (h : if Region.wanted o (yielded l.toArray a.tmps) = true then Oper.wp P o a w (wpAny P md l.toArray Q fuel (listed.setIfInBounds i true)) Q else wpAny P md l.toArray Q fuel (listed.setIfInBounds i true) (a.put o.dst undef) w)
    (hs : AllReady P md l.toArray Q fuel listed a w rs) : AllReady P md l.toArray Q fuel listed a w (i :: rs) :=
  AllReady.cons (by simpa using ho) (fun K' hK => by
    split at h
    · rename_i hw; rw [if_pos hw]; exact Oper.wp_mono hK h
    · rename_i hw; rw [if_neg hw]; exact hK _ _ h) hs
theorem any_end (hr : Region.ready md l.toArray listed = []) (h : Q .normal a w) : wpAny P md l.toArray Q fuel listed a w := by
  cases fuel with
  | zero => exact ⟨hr, h⟩
  | succ n => exact ⟨fun _ => h, by rw [hr]; intro i hi; cases hi⟩
/-! .. while S holds -/
theorem held_take {o : Oper} (i : Nat) (v : Value) (ho : l[i]? = some o) (hB : takeB md l listed i = true) (hQ : ∀ c a w, Q (.panic c) (a.put o.dst v) w → Q (.panic c) a w) (hw : Region.wanted o (yielded l.toArray a.tmps) = true)
    (hy : ∀ w, S w → (execOp a.eval o).run P w = .ok (.value v) w) (hS : S w) (h : wpAnyH P md l.toArray Q S fuel (listed.setIfInBounds i true) (a.put o.dst v) w) : wpAnyH P md l.toArray Q S (fuel + 1) listed a w := by
  simp only [takeB, Bool.and_eq_true] at hB
  exact wpAnyH_take (by simpa using ho) hB.1.1 hB.1.2 hB.2 hQ (.inl ⟨hw, hy⟩) hS h
theorem held_ready (rs : List Nat) (hr : Region.ready md l.toArray listed = rs) (hne : rs ≠ []) (h : AllReadyH P md l.toArray Q S fuel listed a w rs) : wpAnyH P md l.toArray Q S (fuel + 1) listed a w := wpAnyH_ready hr hne h
theorem held_cons {o : Oper} {i : Nat} {rs : List Nat} (ho : l[i]? = some o)
    (h : if Region.wanted o (yielded l.toArray a.tmps) = true then Oper.wp P o a w (fun a' w' => S w' ∧ wpAnyH P md l.toArray Q S fuel (listed.setIfInBounds i true) a' w') Q else S w ∧ wpAnyH P md l.toArray Q S fuel (listed.setIfInBounds i true) (a.put o.dst undef) w)
    (hs : AllReadyH P md l.toArray Q S fuel listed a w rs) : AllReadyH P md l.toArray Q S fuel listed a w (i :: rs) :=
  AllReadyH.cons (by simpa using ho) (fun K' hK => by
    split at h
    · rename_i hw; rw [if_pos hw]; exact Oper.wp_mono (fun a w h => hK.out a w h.1 fun _ => h.2) h
    · rename_i hw; rw [if_neg hw]; exact hK.out _ _ h.1 fun _ => h.2) hs
theorem held_end (hr : Region.ready md l.toArray listed = []) (h : Q .normal a w) : wpAnyH P md l.toArray Q S fuel listed a w := by
  cases fuel with
  | zero => exact ⟨hr, h⟩
  | succ n => exact ⟨fun _ => h, by rw [hr]; intro i hi; cases hi⟩
theorem any_one {o : Oper} (i : Nat) (ho : l[i]? = some o) (hr : Region.ready md l.toArray listed = [i])
    (h : if Region.wanted o (yielded l.toArray a.tmps) = true then Oper.wp P o a w (wpAny P md l.toArray Q fuel (listed.setIfInBounds i true)) Q else wpAny P md l.toArray Q fuel (listed.setIfInBounds i true) (a.put o.dst undef) w) : wpAny P md l.toArray Q (fuel + 1) listed a w :=
  any_ready [i] hr (by simp) (any_cons ho h AllReady.nil)
theorem held_one {o : Oper} (i : Nat) (ho : l[i]? = some o) (hr : Region.ready md l.toArray listed = [i])
    (h : if Region.wanted o (yielded l.toArray a.tmps) = true then Oper.wp P o a w (fun a' w' => S w' ∧ wpAnyH P md l.toArray Q S fuel (listed.setIfInBounds i true) a' w') Q else S w ∧ wpAnyH P md l.toArray Q S fuel (listed.setIfInBounds i true) (a.put o.dst undef) w) : wpAnyH P md l.toArray Q S (fuel + 1) listed a w :=
  held_ready [i] hr (by simp) (held_cons ho h AllReadyH.nil)
end
section
variable {ops : Array Oper} {o : Oper} {a : Act} {w : World} {Q : Exit → Act → World → Prop} {K : Act → World → Prop} {F : Prop}
/-- a call of a Go function, by its contract -/
theorem step_call (hg : o.guard = none) (f : FuncId) (xs : Array Operand) (ts : Array TypeId) (ho : o.op = .call { callee := .value (.func f), args := xs, argTypes := ts }) (vs : Array Value) (hv : xs.map a.eval = vs)
    (he : ∀ w, (callFunc f vs).run P w = .ok (.enter f vs) w) (h : Calls P f vs w fun e w' => ∃ v, e = .returned v ∧ K (a.put o.dst v) w') : if Region.wanted o (yielded ops a.tmps) = true then o.wp P a w K Q else F := by
  rw [if_pos (by simp [Region.wanted, hg])]
  unfold Oper.wp
  have : (execOp a.eval o).run P w = .ok (.enter f vs) w := by
    subst hv
    have hf : a.eval (Operand.func f) = .func (.func f) #[] #[] := rfl
    simp [execOp, ho, resolve, invoke, hf, Deferred.ofValue, he]
  rw [this, Oper.upon_enter]
  refine h.mono ?_
  rintro e w' ⟨v, rfl, hk⟩
  exact hk
/-- a load whose answer is known -/
theorem step_load (hg : o.guard = none) (ty : TypeId) (x : Operand) (ho : o.op = .load ty x) (p v : Value) (hx : a.eval x = p) (hrun : (Instr.loadAt ty p).run P w = .ok v w) (h : K (a.put o.dst v) w) : if Region.wanted o (yielded ops a.tmps) = true then o.wp P a w K Q else F :=
  step_val hg (by simp [execOp, ho, hx, hrun]) h
end
end Go.Agg
/-! A load by its run; a block behind changes elsewhere. -/
namespace Go.Agg
open Go.RowKit
theorem exec_loadB {P : Program} {o : Oper} {a : Act} {w : World} {ty : TypeId} {x : Operand} {p v : Value} (ho : o.op = .load ty x) (hx : a.eval x = p) (hrun : (Instr.loadAt ty p).run P w = .ok v w) : (execOp a.eval o).run P w = .ok (.value v) w := by simp [execOp, ho, hx, hrun]
theorem Blk.onlyP {w w' : World} {S : Nat → Prop} {g : Nat} {t : TypeId} {cs : Array Value} (h : Blk w g t cs) (ho : Only S w w') (hS : ¬ S g) : Blk w' g t cs := (ho.block g h.lt hS).trans h
end Go.Agg
/-! Inputs by names, as they are built. -/
namespace Go.Agg
open Go.RowKit
theorem exec_build1D {P : Program} {o : Oper} {a : Act} {w : World} {ty : TypeId} {i : Nat} {x : Operand} {vx v : Value} (ho : o.op = .build ty #[(i, x)]) (hx : a.eval x = vx) (hrun : (Instr.build ty #[(i, vx)]).run P w = .ok v w) : (execOp a.eval o).run P w = .ok (.value v) w := by
  subst hx
  simp [execOp, ho, hrun]
theorem exec_build2D {P : Program} {o : Oper} {a : Act} {w : World} {ty : TypeId} {i j : Nat} {x y : Operand} {vx vy v : Value} (ho : o.op = .build ty #[(i, x), (j, y)]) (hx : a.eval x = vx) (hy : a.eval y = vy) (hrun : (Instr.build ty #[(i, vx), (j, vy)]).run P w = .ok v w) : (execOp a.eval o).run P w = .ok (.value v) w := by
  subst hx hy
  simp [execOp, ho, hrun]
end Go.Agg
namespace Go.Proofs.Ytnlilmiakddlaaa
open Go.RowKit Pl Go.Agg
theorem inpBuilt : ∀ parts, Try.prog.built 42 parts = Instr.fill (#[(0, 21), (21, 20), (41, 1)][·]?) (iC zI) parts := fun _ => by kernel_rfl
theorem namBuilt : ∀ parts, Try.prog.built 44 parts = Instr.fill (#[(0, 1), (1, 42)][·]?) (nmC zN) parts := fun _ => by kernel_rfl
theorem build_src (p : P20) (w : World) : (Instr.build 42 #[(0, .agg (pC p.1.1 p.1.2))]).run Try.prog w = .ok (.agg (iC (p, zH, false))) w := by
  have h1 : (pC p.1.1 p.1.2).size = 21 := by rw [pC_size, p.2]
  have hz : (iC zI).size = 42 := iC_size _
  refine run_build w _ _ _ ?_
  rw [inpBuilt]
  rw [fill_cons (off := 0) (size := 21) rfl (by simp only [Value.cells]; exact h1) (by omega)]
  rw [fill_nil]
  refine congrArg some ?_
  simp only [Value.cells]
  have e : iC zI = pC z20 [] ++ (hC z20 ++ #[.bool false]) := rfl
  have e2 : iC (p, zH, false) = pC p.1.1 p.1.2 ++ (hC z20 ++ #[.bool false]) := rfl
  rw [e, e2]
  generalize hC z20 ++ #[Value.bool false] = T
  have l2 : (pC z20 []).toList.length = 21 := by rw [Array.length_toList, pC_size]; rfl
  apply Array.ext'
  simp [Go.Agg.splice, h1, l2]
theorem build_nam (n : List UInt8) (i : Inp) (w : World) : (Instr.build 44 #[(0, .string ⟨n.toArray⟩), (1, .agg (iC i))]).run Try.prog w = .ok (.agg (nmC (n, i))) w := by
  have h1 : (iC i).size = 42 := iC_size _
  have hz : (nmC zN).size = 43 := nmC_size _
  have hs1 : (Go.Agg.splice (nmC zN) 0 #[.string ⟨n.toArray⟩]).size = 43 := by rw [Go.Agg.splice_size _ _ _ (by simp; omega), hz]
  refine run_build w _ _ _ ?_
  rw [namBuilt]
  rw [fill_cons (off := 0) (size := 1) rfl rfl (by omega)]
  rw [fill_cons (off := 1) (size := 42) rfl (by simp only [Value.cells]; exact h1) (by simp only [Value.cells]; omega)]
  rw [fill_nil]
  refine congrArg some ?_
  clear hs1
  simp only [Value.cells]
  generalize nmC zN = Z at *
  apply Array.ext'
  have l3 : Z.toList.length = 43 := by rw [Array.length_toList]; exact hz
  simp [Go.Agg.splice, nmC, h1, l3, List.drop_eq_nil_of_le]
theorem build_cls (h : H20) (w : World) : (Instr.build 42 #[(1, .agg (hC h.1)), (2, .bool true)]).run Try.prog w = .ok (.agg (iC (zP, h, true))) w := by
  have h1 : (hC h.1).size = 20 := by rw [hC_size, h.2]
  have hz : (iC zI).size = 42 := iC_size _
  have hs1 : (Go.Agg.splice (iC zI) 21 (hC h.1)).size = 42 := by rw [Go.Agg.splice_size _ _ _ (by omega), hz]
  refine run_build w _ _ _ ?_
  rw [inpBuilt]
  rw [fill_cons (off := 21) (size := 20) rfl (by simp only [Value.cells]; exact h1) (by omega)]
  rw [fill_cons (off := 41) (size := 1) rfl rfl (by simp only [Value.cells]; omega)]
  rw [fill_nil]
  refine congrArg some ?_
  clear hs1
  simp only [Value.cells]
  have e : iC zI = pC z20 [] ++ (hC z20 ++ #[.bool false]) := rfl
  have e2 : iC (zP, h, true) = pC z20 [] ++ (hC h.1 ++ #[.bool true]) := rfl
  rw [e, e2]
  have l1 : (pC z20 []).toList.length = 21 := by rw [Array.length_toList, pC_size]; rfl
  have l2 : (hC z20).toList.length = 20 := by rw [Array.length_toList, hC_size]; rfl
  have l3 : (hC h.1).toList.length = 20 := by rw [Array.length_toList]; exact h1
  generalize pC z20 [] = X at *
  generalize hC z20 = Y at *
  generalize hC h.1 = Z at *
  apply Array.ext'
  simp [Go.Agg.splice, l1, l2, l3, h1, List.take_append, List.drop_append, List.drop_eq_nil_of_le, List.take_of_length_le]
end Go.Proofs.Ytnlilmiakddlaaa
/-! resolve.Resolved, resolve.Input: cells, elements, whether one can be. -/
namespace Go.Proofs.Ytnlilmiakddlaaa
open Go.RowKit Pl Go.Agg
/-- a name, and a path -/
abbrev Rin : Type := List UInt8 × P20
abbrev Rv : Type := List UInt8 × List Rin × List UInt8
instance : DecidableEq Rin := inferInstance
instance : DecidableEq (List Rin × List UInt8) := inferInstance
instance : DecidableEq Rv := inferInstance
def riC (x : Rin) : Array Value := #[.string ⟨x.1.toArray⟩] ++ pC x.2.1.1 x.2.1.2
theorem riC_size (x : Rin) : (riC x).size = 22 := by simp [riC, pC_size, x.2.2]
theorem riC_one (x : Rin) : (riC x).all (·.oneCell') = true := by
  rw [riC, Array.all_append, pC_one]; simp [Value.oneCell']
theorem riC_name (x : Rin) : (riC x)[0]? = some (.string ⟨x.1.toArray⟩) := by rw [riC, Array.getElem?_append_left (by simp)]; rfl
theorem riC_path (x : Rin) (j : Nat) (v : Value) (h : (pC x.2.1.1 x.2.1.2)[j]? = some v) : (riC x)[1 + j]? = some v := by
  rw [riC, Array.getElem?_append_right (by simp)]; simpa using h
theorem riC_hash (x : Rin) (j : Nat) (v : Value) (h : (hC x.2.1.1)[j]? = some v) : (riC x)[1 + j]? = some v := by
  refine riC_path x j v ?_
  have := (Array.getElem?_eq_some_iff.1 h).1
  rw [show pC x.2.1.1 x.2.1.2 = hC x.2.1.1 ++ #[.string ⟨x.2.1.2.toArray⟩] from rfl, Array.getElem?_append_left this]; exact h
def zR : Rin := ([], ⟨(z20, []), rfl⟩)
/-- what lies at an input -/
structure RinL (w : World) (p : Addr) (x : Rin) : Prop where
  name : LoadsL Try.prog w 9 (some (p.add 0)) (.string ⟨x.1.toArray⟩)
  path : LoadsL Try.prog w 40 (some (p.add 1)) (.agg (pC x.2.1.1 x.2.1.2))
  pname : LoadsL Try.prog w 9 (some ((p.add 1).add 20)) (.string ⟨x.2.1.2.toArray⟩)
theorem RinL.of_cells {w : World} {p : Addr} {x : Rin} (hp : p.block < w.heap.size) (h : ∀ j u, (riC x)[j]? = some u → w.cell? (p.add j) = some u) : RinL w p x where
  name := LoadsL.of_cell (h 0 _ (riC_name x)) Try.underlying9 rfl
  path := LoadsL.of_cells (by rw [add_block]; exact hp) (fun j v hj => by rw [add_add]; exact h _ _ (riC_path x j v hj)) pC_under rfl (pC_info _ _ x.2.2)
  pname := LoadsL.of_cell (by rw [add_add]; exact h _ _ (riC_path x 20 _ (pC_name _ _ x.2.2))) Try.underlying9 rfl
theorem RinL.below {w w' : World} {p : Addr} {x : Rin} (h : RinL w p x) (hb : Below w.heap.size w w') : RinL w' p x := ⟨h.name.below hb, h.path.below hb, h.pname.below hb⟩
theorem bytes_under : Try.prog.underlying 23 = some (.slice 5) := by kernel_rfl
/-! whether one can be -/
def canRi (x : Rin) (b : List UInt8) : Bool := isName x.1 && Op.bytesLess b x.1 && isName x.2.1.2
def canRs : List UInt8 → List Rin → Bool
  | _, [] => true
  | b, x :: l => canRi x b && canRs x.1 l
def canRv (r : Rv) : Bool := isName r.1 && decide (r.2.1.length ≤ 8) && decide (r.2.2.length ≤ 1000) && canRs [] r.2.1
def behindR (l : List Rin) : List UInt8 := match l.getLast? with | none => [] | some x => x.1
def lastOrR (b : List UInt8) (l : List Rin) : List UInt8 := match l.getLast? with | none => b | some x => x.1
theorem canRs_append (b : List UInt8) (l m : List Rin) : canRs b (l ++ m) = (canRs b l && canRs (lastOrR b l) m) := by
  induction l generalizing b with
  | nil => simp [canRs, lastOrR]
  | cons x l ih =>
    have : lastOrR b (x :: l) = lastOrR x.1 l := by
      unfold lastOrR
      cases l with
      | nil => rfl
      | cons y l => simp [List.getLast?_cons]
    simp only [List.cons_append, canRs, ih, this, Bool.and_assoc]
theorem lastOrR_nil (l : List Rin) : lastOrR [] l = behindR l := rfl
theorem canRs_succ {l : List Rin} {k : Nat} {x : Rin} (h : l[k]? = some x) : canRs [] (l.take (k + 1)) = (canRs [] (l.take k) && canRi x (behindR (l.take k))) := by
  rw [List.take_add_one, h, canRs_append, lastOrR_nil]
  simp [canRs]
theorem behindR_succ {l : List Rin} {k : Nat} {x : Rin} (h : l[k]? = some x) : behindR (l.take (k + 1)) = x.1 := by
  rw [List.take_add_one, h]
  simp [behindR]
theorem canRs_take {l : List Rin} {k : Nat} (h : canRs [] (l.take k) = false) : canRs [] l = false := by
  have := canRs_append [] (l.take k) (l.drop k)
  rw [List.take_append_drop, h, Bool.false_and] at this
  exact this
end Go.Proofs.Ytnlilmiakddlaaa
/-! '[]byte(s)' and 'string(b)' -/
namespace Go.Proofs.Ytnlilmiakddlaaa
open Go.RowKit Pl Go.Agg
theorem bytes_below (w : World) (e : TypeId) (s : ByteArray) : Below w.heap.size w (Lib.bytesWorld w e s) :=
  ⟨rfl, rfl, rfl, by rw [Lib.bytesWorld_size]; omega, fun k hk => Lib.bytesWorld_at_old w e s k hk⟩
/-- a new row of bytes, as '[]byte(s)' makes it -/
def NewBytes (w w' : World) (v : Value) (s : List UInt8) : Prop :=
  ∃ cap fr, v = .slice (some ⟨w.heap.size, 0, none⟩) s.length cap ∧ s.length ≤ cap ∧ w'.heap[w.heap.size]? = some (.cells ((Lib.byteCells s).toArray ++ Array.replicate (cap - s.length) (.int .u8 0)) 5 fr) ∧ (fr.1 = cap ∧ fr.2 = cap + 1)
theorem NewBytes.slice {w w' : World} {v : Value} {s : List UInt8} (h : NewBytes w w' v s) : BytesAt w' v s := by
  obtain ⟨cap, fr, rfl, hc, hb, _⟩ := h
  refine .inr ⟨_, cap, rfl, Agg.heap_lt hb, fun j u hj => ?_⟩
  rw [add_plain, Nat.zero_add, cell_of_row _ _ _ _ _ _ hb]
  obtain ⟨k, a, i, h1, h2, rfl⟩ := Elem.flat_all EB s j u hj
  have hi : i = 0 := by have := (Array.getElem?_eq_some_iff.1 h2).1; have e : (EB.val a).cells.size = 1 := rfl; omega
  subst hi
  have hk := (List.getElem?_eq_some_iff.1 h1).1
  have hn : EB.n = 1 := rfl
  rw [hn, Nat.mul_one, Nat.add_zero, Array.getElem?_append_left (by simpa [Lib.byteCells] using hk)]
  have e2 : u = .int .u8 (a.toNat : Int) := by
    have : (EB.val a).cells[0]? = some (.int .u8 (a.toNat : Int)) := rfl
    rw [this] at h2
    exact (Option.some.inj h2).symm
  simp [Lib.byteCells, h1, e2]
theorem run_toBytes (w : World) (s : List UInt8) : ∃ v w', (convert 9 23 (.string ⟨s.toArray⟩)).run Try.prog w = .ok v w' ∧ NewBytes w w' v s ∧ Below w.heap.size w w' := by
  refine ⟨_, _, Lib.run_convert_string_bytes w 9 23 5 ⟨s.toArray⟩ Try.underlying9 (by kernel_rfl) Try.underlying5, ?_, bytes_below _ _ _⟩
  have hsz : (⟨s.toArray⟩ : ByteArray).size = s.length := Agg.bytes_size s
  have hge := grownCap_ge w s.length 0 5
  refine ⟨grownCap w s.length 0 5, (grownCap w s.length 0 5, grownCap w s.length 0 5 + 1), by rw [hsz], hge, ?_, rfl, rfl⟩
  rw [Lib.bytesWorld_at_new]
  have e : Lib.bytesCells w 5 ⟨s.toArray⟩ = (Lib.byteCells s).toArray ++ Array.replicate (grownCap w s.length 0 5 - s.length) (.int .u8 0) := by
    simp [Lib.bytesCells, hsz, Lib.byteCells]
  have e2 : ((Lib.byteCells s).toArray ++ Array.replicate (grownCap w s.length 0 5 - s.length) (Value.int .u8 0)).size = grownCap w s.length 0 5 := by
    simp [Lib.byteCells]; omega
  rw [e, e2]
theorem run_toStr {w : World} {v : Value} {s : List UInt8} (h : BytesAt w v s) : (convert 23 9 v).run Try.prog w = .ok (.string ⟨s.toArray⟩) w := by
  rcases h with ⟨p, c, rfl, rfl⟩ | ⟨p, cap, rfl, hp, h⟩
  · cases p with
    | none => exact run_convert_bytes_nil w 23 5 (by kernel_rfl) Try.underlying5 0 c 9 Try.underlying9
    | some p => exact run_convert_bytes_back w 23 9 5 p c [] (by kernel_rfl) Try.underlying5 Try.underlying9 (fun j hj => by simp at hj)
  · refine run_convert_bytes_back w 23 9 5 p cap s (by kernel_rfl) Try.underlying5 Try.underlying9 fun j hj => ?_
    have := h (j * 1 + 0) (.int .u8 (s[j].toNat : Int)) (EB.flat_get s j s[j] 0 _ (List.getElem?_eq_getElem hj) rfl)
    rwa [Nat.mul_one, Nat.add_zero] at this
section
variable {ops : Array Oper} {rest : List Oper} {o : Oper} {a : Act} {w : World} {Q : Exit → Act → World → Prop}
theorem wpList_toBytes (s : List UInt8) (x : Operand) (ho : o.op = .convert 9 23 x) (hw : Region.wanted o (yielded ops a.tmps) = true) (hx : a.eval x = .string ⟨s.toArray⟩)
    (h : ∀ v' w', NewBytes w w' v' s → Below w.heap.size w w' → wpList Try.prog ops Q rest (a.put o.dst v') w') : wpList Try.prog ops Q (o :: rest) a w := by
  obtain ⟨v', w', hr, h1, h2⟩ := run_toBytes w s
  refine wpList_valw hw ?_ (h v' w' h1 h2)
  simp [execOp, ho, hx, hr]
theorem wpList_toStr {v : Value} {s : List UInt8} (hs : BytesAt w v s) (x : Operand) (ho : o.op = .convert 23 9 x) (hw : Region.wanted o (yielded ops a.tmps) = true) (hx : a.eval x = v)
    (h : wpList Try.prog ops Q rest (a.put o.dst (.string ⟨s.toArray⟩)) w) : wpList Try.prog ops Q (o :: rest) a w := by
  subst hx
  refine wpList_valw hw ?_ h
  simp [execOp, ho, run_toStr hs]
end
end Go.Proofs.Ytnlilmiakddlaaa
/-! RoomsOf of slices that may be written: stores, appends into one of them, make; over any program. -/
namespace Go.Agg
open Go.RowKit
/-- slices as elements -/
abbrev SV : Type := { v : Value // ∃ p n c, v = .slice p n c }
instance : Inhabited SV := ⟨⟨.slice none 0 0, _, _, _, rfl⟩⟩
theorem sv_cells (v : SV) : v.1.cells = #[v.1] := by obtain ⟨_, p, n, c, rfl⟩ := v; rfl
theorem sv_one (v : SV) : v.1.oneCell' = true := by obtain ⟨_, p, n, c, rfl⟩ := v; rfl
def SS (vs : List SV) : Nat → Prop := fun b => ∃ (k : Nat) (v : SV), vs[k]? = some v ∧ v.1.ownBlock = some b
def Dist (vs : List SV) : Prop := ∀ (i j : Nat) (u v : SV), vs[i]? = some u → vs[j]? = some v → i ≠ j → ∀ b, u.1.ownBlock = some b → v.1.ownBlock ≠ some b
section
variable {P : Program} {α : Type} {E : Elem P α}
def RoomsOf (E : Elem P α) (w : World) (vs : List SV) (f : Nat → List α) : Prop := ∀ k v, vs[k]? = some v → RoomN E w v.1 (f k)
variable {w w' : World} {v : Value} {l : List α} {vs : List SV} {f : Nat → List α}
theorem RoomsOf.below (h : RoomsOf E w vs f) (hb : Below w.heap.size w w') : RoomsOf E w' vs f := fun k v hk => (h k v hk).below hb
theorem RoomsOf.lt (h : RoomsOf E w vs f) : ∀ b, SS vs b → b < w.heap.size := by
  rintro b ⟨k, v, hk, hb⟩
  exact (h k v hk).lt b hb
theorem RoomsOf.set (h : RoomsOf E w vs f) (hd : Dist vs) {k : Nat} {v : SV} (hv : vs[k]? = some v) {l : List α} (hl : RoomN E w' v.1 l) (ho : Only (fun b => v.1.ownBlock = some b) w w') :
    RoomsOf E w' vs (fun j => if j = k then l else f j) := by
  intro j u hu
  by_cases hj : j = k
  · subst hj
    obtain rfl := Option.some.inj (hu.symm.trans hv)
    simpa using hl
  · simp only [hj, if_false]
    exact (h j u hu).only ho (fun b hb hb' => hd j k u v hu hv hj b hb hb')
theorem RoomsOf.only {S : Nat → Prop} (h : RoomsOf E w vs f) (ho : Only S w w') (hS : ∀ b, SS vs b → ¬ S b) : RoomsOf E w' vs f := fun k v hk => (h k v hk).only ho (fun b hb => hS b ⟨k, v, hk, hb⟩)
theorem Only.ss {k : Nat} {v : SV} (hv : vs[k]? = some v) (ho : Only (fun b => v.1.ownBlock = some b) w w') : Only (SS vs) w w' := ho.mono fun _ _ hb => ⟨k, v, hv, hb⟩
theorem RoomN.store (h : RoomN E w v l) (k : Nat) (a : α) (hk : k < l.length) :
    ∃ p w', (∀ W, (Instr.indexAt E.st v (.int .i64 (k : Int))).run P W = .ok (.pointer (some p)) W) ∧ (Instr.storeAt E.ty (.pointer (some p)) (E.val a)).run P w = .ok () w' ∧ RoomN E w' v (l.set k a) ∧ Only (fun b => v.ownBlock = some b) w w' := by
  rcases h with ⟨rfl, rfl⟩ | h
  · simp at hk
  · obtain ⟨p, w', h1, h2, h3, h4⟩ := run_storeAt_room h k a hk
    exact ⟨p, w', h1, h2, .inr h3, h4⟩
theorem RoomsOf.store (h : RoomsOf E w vs f) (hd : Dist vs) {k : Nat} {v : SV} (hv : vs[k]? = some v) (i : Nat) (a : α) (hi : i < (f k).length) :
    ∃ p w', (∀ W, (Instr.indexAt E.st v.1 (.int .i64 (i : Int))).run P W = .ok (.pointer (some p)) W) ∧ (Instr.storeAt E.ty (.pointer (some p)) (E.val a)).run P w = .ok () w' ∧ RoomsOf E w' vs (fun j => if j = k then (f k).set i a else f j) ∧ Only (SS vs) w w' := by
  obtain ⟨p, w', h1, h2, h3, h4⟩ := (h k v hv).store i a hi
  exact ⟨p, w', h1, h2, h.set hd hv h3 h4, h4.ss hv⟩
theorem RoomN.place (h : RoomN E w v l) (k : Nat) (hk : k < l.length) :
    ∃ p, (∀ W, (Instr.indexAt E.st v (.int .i64 (k : Int))).run P W = .ok (.pointer (some p)) W) ∧ ∀ (w : World) (l : List α) (a : α), RoomN E w v l → k < l.length → ∃ w', (Instr.storeAt E.ty (.pointer (some p)) (E.val a)).run P w = .ok () w' ∧ RoomN E w' v (l.set k a) ∧ Only (fun b => v.ownBlock = some b) w w' := by
  have a0 := l[k]'hk
  obtain ⟨p, _, h1, _⟩ := h.store k a0 hk
  refine ⟨p, h1, fun w2 l2 a h2 hk2 => ?_⟩
  obtain ⟨p2, w', h3, h4, h5, h6⟩ := h2.store k a hk2
  have e := (h1 w2).symm.trans (h3 w2)
  injection e with e
  injection e with e
  injection e with e
  subst e
  exact ⟨w', h4, h5, h6⟩
theorem RoomsOf.place (h : RoomsOf E w vs f) (hd : Dist vs) {k : Nat} {v : SV} (hv : vs[k]? = some v) (i : Nat) (hi : i < (f k).length) :
    ∃ p, (∀ W, (Instr.indexAt E.st v.1 (.int .i64 (i : Int))).run P W = .ok (.pointer (some p)) W) ∧ ∀ (w : World) (f : Nat → List α) (a : α), RoomsOf E w vs f → i < (f k).length →
      ∃ w', (Instr.storeAt E.ty (.pointer (some p)) (E.val a)).run P w = .ok () w' ∧ RoomsOf E w' vs (fun j => if j = k then (f k).set i a else f j) ∧ Only (SS vs) w w' := by
  obtain ⟨p, h1, h2⟩ := (h k v hv).place i hi
  refine ⟨p, h1, fun w2 f2 a h3 hi2 => ?_⟩
  obtain ⟨w', h4, h5, h6⟩ := h2 w2 (f2 k) a (h3 k v hv) hi2
  exact ⟨w', h4, h3.set hd hv h5 h6, h6.ss hv⟩
theorem RoomN.form (h : RoomN E w v l) : ∃ p n c, v = .slice p n c := by
  obtain ⟨p, c, e⟩ := h.slice.form
  exact ⟨p, _, c, e⟩
theorem Got.lenk {gs : List SV} {k : Nat} (h : gs.length = vs.length) (hk : k < vs.length) : ∃ g, gs[k]? = some g := ⟨_, List.getElem?_eq_getElem (by omega)⟩
/-- g is v, or v and more behind it, or apart from it -/
def PreOf (v g : Value) : Prop := ∀ b, v.ownBlock = some b → g.ownBlock = some b → ∃ o n cap m, v = .slice (some ⟨b, o, none⟩) n cap ∧ g = .slice (some ⟨b, o, none⟩) (n + m) cap
structure Growing (E : Elem P α) (ws wr : World) (v : Value) (l0 : List α) (g : Value) (l : List α) : Prop where
  only : Only (fun b => v.ownBlock = some b) ws wr
  room : RoomN E wr g l
  old : RoomN E wr v l0
  pre : PreOf v g
  own : ∀ b, g.ownBlock = some b → v.ownBlock = some b ∨ ws.heap.size ≤ b
  starts : l0 <+: l
theorem Growing.start {ws : World} {l0 : List α} (h : RoomN E ws v l0) : Growing E ws ws v l0 v l0 where
  only := Only.refl _ _
  room := h
  old := h
  pre := fun b hb _ => by
    rcases h with ⟨rfl, _⟩ | ⟨c, o, cap, rfl, _⟩
    · simp [Value.ownBlock] at hb
    · obtain rfl : c = b := by simpa [Value.ownBlock] using hb
      exact ⟨o, _, cap, 0, rfl, rfl⟩
  own := fun b hb => .inl hb
  starts := List.prefix_rfl
theorem Growing.below {ws wr w' : World} {l0 l : List α} {g : Value} (h : Growing E ws wr v l0 g l) (hb : Below wr.heap.size wr w') : Growing E ws w' v l0 g l where
  only := h.only.trans (Only.of_below (S := fun _ => False) hb) (fun _ _ h => h.elim)
  room := h.room.below hb
  old := h.old.below hb
  pre := h.pre
  own := h.own
  starts := h.starts
theorem Growing.append {ws wr : World} {l0 l : List α} {g : Value} (h : Growing E ws wr v l0 g l) (x : Value) (m : List α) (hx : SliceOf E wr x m) (h63 : l.length + m.length ≤ 1099511627776 / 8) (hby : E.bytes ≤ 1000) (hv : ∀ b, v.ownBlock = some b → b < ws.heap.size) (ty : TypeId) :
    ∃ g' w', (Builtin.append_ #[E.st, E.st] ty #[g, x]).run P wr = .ok g' w' ∧ Growing E ws w' v l0 g' (l ++ m) := by
  obtain ⟨g', w', hr, h1, h2, h3, h4, h5⟩ := run_append_room h.room x m hx h63 hby ty
  have hown : ∀ b, g'.ownBlock = some b → v.ownBlock = some b ∨ ws.heap.size ≤ b := fun b hb => by
    rcases h4 b hb with h6 | h6
    · exact h.own b h6
    · exact .inr (Nat.le_trans h.only.size h6)
  have hpre : PreOf v g' := fun b hb hb' => by
    have hlt := hv b hb
    rcases h4 b hb' with h6 | h6
    · obtain ⟨o, n, cap, k, e1, e2⟩ := h.pre b hb h6
      exact ⟨o, n, cap, k + m.length, e1, by rw [h5 b o _ cap e2 hb', Nat.add_assoc]⟩
    · have := h.only.size; omega
  refine ⟨g', w', hr, ⟨h.only.trans h3 (fun i hi hg => (h.own i hg).resolve_right (by omega)), h1, ?_, hpre, hown, h.starts.trans (List.prefix_append _ _)⟩⟩
  by_cases hsame : ∃ b, v.ownBlock = some b ∧ g.ownBlock = some b
  · obtain ⟨b, hb, hg⟩ := hsame
    obtain ⟨o, n, cap, k, e1, e2⟩ := h.pre b hb hg
    rcases h.old with ⟨rfl, _⟩ | ⟨b1, o1, cap1, e3, hl1, _⟩
    · simp [Value.ownBlock] at hb
    rcases h2 with ⟨rfl, _⟩ | ⟨b2, o2, cap2, e4, hl2, hlt2, hs2, hf2, hc2⟩
    · simp [Value.ownBlock] at hg
    subst e1 e2
    injection e3 with e3 e5 e6
    injection e3 with e3
    injection e3 with e3 e7
    injection e4 with e4 e8 e9
    injection e4 with e4
    injection e4 with e4 e10
    subst e3 e4 e5 e6 e7 e9 e10
    refine .inr ⟨b, o, cap, rfl, hl1, hlt2, hs2, hf2, fun j u hj => hc2 j u ?_⟩
    obtain ⟨t, rfl⟩ := h.starts
    rw [E.flat_append, List.getElem?_append_left (List.getElem?_eq_some_iff.1 hj).1]
    exact hj
  · exact h.old.only h3 (fun b hb hg => hsame ⟨b, hb, hg⟩)
/-- rows got out of others -/
structure Got (E : Elem P α) (w : World) (B : Nat) (vs gs : List SV) (k : Nat) (f : Nat → List α) : Prop where
  len : gs.length = vs.length
  at_ : ∀ j g v, j < k → gs[j]? = some g → vs[j]? = some v → SliceOf E w g.1 (f j)
  own : ∀ j g v, j < k → gs[j]? = some g → vs[j]? = some v → ∀ b, g.1.ownBlock = some b → v.1.ownBlock = some b ∨ B ≤ b
theorem Got.zero {B : Nat} {gs : List SV} (h : gs.length = vs.length) : Got E w B vs gs 0 f := ⟨h, fun _ _ _ h => absurd h (Nat.not_lt_zero _), fun _ _ _ h => absurd h (Nat.not_lt_zero _)⟩
theorem Got.below {B : Nat} {gs : List SV} {k : Nat} (h : Got E w B vs gs k f) (hb : Below w.heap.size w w') : Got E w' B vs gs k f := ⟨h.len, fun j g v hj hg hv => (h.at_ j g v hj hg hv).below hb, h.own⟩
theorem SliceOf.onlyS {S : Nat → Prop} {v : Value} {l : List α} (h : SliceOf E w v l) (ho : Only S w w') (hS : ∀ b, v.ownBlock = some b → ¬ S b) : SliceOf E w' v l := by
  rcases h with h | ⟨p, cap, rfl, hp, h⟩
  · exact .inl h
  · exact .inr ⟨p, cap, rfl, Nat.lt_of_lt_of_le hp ho.size, fun j u hj => (ho.cell (p := p.add j) (by rw [add_block]; exact hp) (by rw [add_block]; exact hS _ rfl)).trans (h j u hj)⟩
/-- a stage in row k alone -/
theorem Got.stage {B : Nat} {gs : List SV} {k : Nat} {v : SV} (h : Got E w B vs gs k f) (hd : Dist vs) (hv : vs[k]? = some v) (hB : ∀ b, v.1.ownBlock = some b → b < B) (ho : Only (fun b => v.1.ownBlock = some b) w w') : Got E w' B vs gs k f := by
  refine ⟨h.len, fun j g u hj hg hu => (h.at_ j g u hj hg hu).onlyS ho fun b hb hb' => ?_, h.own⟩
  rcases h.own j g u hj hg hu b hb with h1 | h1
  · exact hd j k u v hu hv (by omega) b h1 hb'
  · have := hB b hb'; omega
theorem Got.other {S : Nat → Prop} {B : Nat} {gs : List SV} {k : Nat} (h : Got E w B vs gs k f) (hS : ∀ b, S b → b < B ∧ ¬ SS vs b) (ho : Only S w w') : Got E w' B vs gs k f := by
  refine ⟨h.len, fun j g u hj hg hu => (h.at_ j g u hj hg hu).onlyS ho fun b hb hb' => ?_, h.own⟩
  rcases h.own j g u hj hg hu b hb with h1 | h1
  · exact (hS b hb').2 ⟨j, u, hu, h1⟩
  · have := (hS b hb').1; omega
theorem Got.next {B : Nat} {gs : List SV} {k : Nat} {g v : SV} (h : Got E w B vs gs k f) (hv : vs[k]? = some v) (hg : SliceOf E w g.1 (f k)) (hown : ∀ b, g.1.ownBlock = some b → v.1.ownBlock = some b ∨ B ≤ b) : Got E w B vs (gs.set k g) (k + 1) f := by
  have hk : k < gs.length := by rw [h.len]; exact (List.getElem?_eq_some_iff.1 hv).1
  refine ⟨by simpa using h.len, fun j g' u hj hg' hu => ?_, fun j g' u hj hg' hu => ?_⟩
  · by_cases hjk : j = k
    · subst hjk
      rw [List.getElem?_set_self hk] at hg'
      obtain rfl := Option.some.inj hg'
      exact hg
    · rw [List.getElem?_set_ne (Ne.symm hjk)] at hg'
      exact h.at_ j g' u (by omega) hg' hu
  · by_cases hjk : j = k
    · subst hjk
      rw [List.getElem?_set_self hk] at hg'
      obtain rfl := Option.some.inj hg'
      obtain rfl := Option.some.inj (hu.symm.trans hv)
      exact hown
    · rw [List.getElem?_set_ne (Ne.symm hjk)] at hg'
      exact h.own j g' u (by omega) hg' hu
section
variable {ops : Array Oper} {rest : List Oper} {o o2 : Oper} {a : Act} {Q : Exit → Act → World → Prop}
/-- 'make([]T, n)' -/
theorem wpList_makeN (E : Elem P α) (e0 : α) (he0 : E.val e0 = E.zero) (hg : o.guard = none) (x y : Operand) (kl kc : IntKind) (n : Nat) (ho : o.op = .makeSlice E.st x y) (hx : a.eval x = .int kl (n : Int)) (hy : a.eval y = .int kc (n : Int)) (hn : n ≤ 1099511627776 / 8) (hby : E.bytes ≤ 1000)
    (h : ∀ w', RoomN E w' (.slice (some ⟨w.heap.size, 0, none⟩) n n) (List.replicate n e0) → Below w.heap.size w w' → w'.heap.size = w.heap.size + 1 → wpList P ops Q rest (a.put o.dst (.slice (some ⟨w.heap.size, 0, none⟩) n n)) w') : wpList P ops Q (o :: rest) a w := by
  obtain ⟨i, hi, hz, hs, hb⟩ := E.info
  have hmul : i.bytes * n ≤ 281474976710656 := by
    rw [hb]
    exact Nat.le_trans (Nat.mul_le_mul hby hn) (by omega)
  have hmi : (i.bytes : Int) * (n : Int) ≤ 281474976710656 := by
    have h5 : ((i.bytes * n : Nat) : Int) ≤ 281474976710656 := by omega
    rwa [Int.natCast_mul] at h5
  have hr := run_make (P := P) w E.st E.ty i E.zero E.slice hi hz kl kc (n : Int) (n : Int) (by omega) (by omega) hmi (by omega)
  simp only [Int.toNat_natCast] at hr
  have hblk : Blk (w.alloc (.cells (madeCells E.zero.cells (n * i.size)) E.ty)) w.heap.size E.ty (madeCells E.zero.cells (n * i.size)) := Blk.new w E.ty _
  refine wpList_val hg (v := .slice (some ⟨w.heap.size, 0, none⟩) n n) (w' := w.alloc (.cells (madeCells E.zero.cells (n * i.size)) E.ty)) ?_ (h _ ?_ ((Below.refl _ _).alloc (Nat.le_refl _) _) (Array.size_push _))
  · simp [execOp, ho, hx, hy, hr]
  · rw [hs] at hblk ⊢
    refine .inr ⟨w.heap.size, 0, n, by simp, by simp, hblk.lt, fun j hj => ?_, fun j _ => frozen_of_row _ _ _ _ _ hblk, fun j u hj => ?_⟩
    · rw [hblk.cell, Array.getElem?_eq_getElem (by rw [size_madeCells]; omega)]; rfl
    · obtain ⟨k, c, q, h3, h4, rfl⟩ := E.flat_all _ j u hj
      have hkn : k < n := by simpa using (List.getElem?_eq_some_iff.1 h3).1
      obtain rfl : e0 = c := by rw [List.getElem?_replicate, if_pos hkn] at h3; exact Option.some.inj h3
      have hq : q < E.n := by have := (Array.getElem?_eq_some_iff.1 h4).1; rw [E.size] at this; exact this
      have hlt : k * E.n + q < n * E.n := by
        have : k * E.n + E.n ≤ n * E.n := by rw [← Nat.succ_mul]; exact Nat.mul_le_mul_right _ hkn
        omega
      rw [hblk.cell, Nat.zero_add]
      unfold madeCells
      rw [he0] at h4
      rw [Array.getElem?_map, Array.getElem?_range, if_pos hlt]
      simp only [Option.map_some]
      rw [E.zsize, Nat.add_comm, Nat.add_mul_mod_self_right, Nat.mod_eq_of_lt hq, getElem!_def, h4]
/-- 'append(g, x)' -/
theorem wpList_grow {ws : World} {l0 l : List α} {v g : Value} (hg : o.guard = none) (hg2 : o2.guard = none) (d : Tmp) (hd : o.dst = some d) (y : Operand) (ho : o.op = .buildSlice E.st 1 #[(0, y)]) (s : Operand)
    (ho2 : o2.op = .call { callee := .builtin .append, args := #[s, .tmp d], argTypes := #[E.st, E.st] }) (x : α) (hy : a.eval y = E.val x) (hs : ∀ p, (a.put o.dst p).eval s = g) (hsz : d < a.tmps.size)
    (hgr : Growing E ws w v l0 g l) (h63 : l.length + 1 ≤ 1099511627776 / 8) (hby : E.bytes ≤ 1000) (hv : ∀ b, v.ownBlock = some b → b < ws.heap.size)
    (h : ∀ u g' w', Growing E ws w' v l0 g' (l ++ [x]) → wpList P ops Q rest ((a.put o.dst u).put o2.dst g') w') : wpList P ops Q (o :: o2 :: rest) a w := by
  refine wpList_val hg (v := .slice (some ⟨w.heap.size, 0, none⟩) 1 1) (w' := w.alloc (.cells (E.val x).cells E.ty)) (by simp [execOp, ho, hy, run_slice_one]) ?_
  have hb1 : Below w.heap.size w (w.alloc (.cells (E.val x).cells E.ty)) := (Below.refl _ _).alloc (Nat.le_refl _) _
  obtain ⟨g', w', hrun, h2⟩ := (hgr.below hb1).append _ [x] (slice_of_block (Blk.new w E.ty (E.val x).cells)) (by simpa using h63) hby hv o2.type
  refine wpList_val hg2 (v := g') (w' := w') ?_ (h _ g' w' h2)
  have e2 : (a.put o.dst (.slice (some ⟨w.heap.size, 0, none⟩) 1 1)).eval (.tmp d) = .slice (some ⟨w.heap.size, 0, none⟩) 1 1 := by rw [hd]; simp [Act.put, Act.eval, hsz]
  simp [execOp, ho2, resolve, invoke, builtin, hs, e2, hrun]
/-- 'append(g, x...)' -/
theorem wpList_growS {ws : World} {l0 l m : List α} {v g vx : Value} (hg : o.guard = none) (s x : Operand) (ho : o.op = .call { callee := .builtin .append, args := #[s, x], argTypes := #[E.st, E.st] }) (hs : a.eval s = g) (hx : a.eval x = vx)
    (hgr : Growing E ws w v l0 g l) (hm : SliceOf E w vx m) (h63 : l.length + m.length ≤ 1099511627776 / 8) (hby : E.bytes ≤ 1000) (hv : ∀ b, v.ownBlock = some b → b < ws.heap.size)
    (h : ∀ g' w', Growing E ws w' v l0 g' (l ++ m) → wpList P ops Q rest (a.put o.dst g') w') : wpList P ops Q (o :: rest) a w := by
  obtain ⟨g', w', hrun, h2⟩ := hgr.append vx m hm h63 hby hv o.type
  refine wpList_val hg (v := g') (w' := w') ?_ (h g' w' h2)
  simp [execOp, ho, resolve, invoke, builtin, hs, hx, hrun]
end
end
end Go.Agg
/-! (of general use) spencekit.mark, markByte; slices of slices of bytes -/
namespace Go.Agg
open Go.RowKit
variable {P : Program}
theorem wpStill_loadL {w : World} {ops : Array Oper} {rest : List Oper} {o : Oper} {a : Act} {Q : Act → Prop} {ty : TypeId} {p : Option Addr} {v : Value} (h : LoadsL P w ty p v) (hw : Region.wanted o (yielded ops a.tmps) = true) (x : Operand) (ho : o.op = .load ty x) (hx : a.eval x = .pointer p)
    (hk : wpStill P ops w Q rest (a.put o.dst v)) : wpStill P ops w Q (o :: rest) a := wpStill_load hw ty x ho _ hx v h.now hk
theorem wpList_store {w w' : World} {ops : Array Oper} {rest : List Oper} {o : Oper} {a : Act} {Q : Exit → Act → World → Prop} (hg : o.guard = none) (hd : o.dst = none) (ty : TypeId) (x y : Operand) (ho : o.op = .store ty x y) (p v : Value) (hx : a.eval x = p) (hy : a.eval y = v)
    (hrun : (Instr.storeAt ty p v).run P w = .ok () w') (h : wpList P ops Q rest a w') : wpList P ops Q (o :: rest) a w := by
  refine wpList_skp hg hd ?_ h
  simp [execOp, ho, hx, hy, hrun]
end Go.Agg
namespace Go.Proofs.Ytnlilmiakddlaaa
open Go.RowKit Pl Go.Agg
/-- the mark of a place -/
def mkB (k i : Nat) : UInt8 := UInt8.ofNat ((1000003 * (k + 7) + i) * 11400714819323198485 % 18446744073709551616 / 72057594037927936)
theorem mkB_int (k i : Nat) : IntKind.u64.wrap ((1000003 * ((k : Int) + 7) + (i : Int)) * 11400714819323198485) / 72057594037927936 % 256 = ((mkB k i).toNat : Int) := by
  have e : (1000003 * ((k : Int) + 7) + (i : Int)) * 11400714819323198485 = (((1000003 * (k + 7) + i) * 11400714819323198485 : Nat) : Int) := by simp
  rw [e]
  unfold mkB
  generalize (1000003 * (k + 7) + i) * 11400714819323198485 = n
  rw [show IntKind.u64.wrap (n : Int) = ((n % 18446744073709551616 : Nat) : Int) by simp [IntKind.wrap, IntKind.signed, IntKind.bits]]
  simp only [UInt8.toNat_ofNat']
  omega
theorem ret_u8 {a b : Int} (h : a = b) : Ending.returned (.int .u8 a) = .returned (.int .u8 b) := by rw [h]
def marks (k n : Nat) : List UInt8 := (List.range n).map (mkB k)
theorem marks_length (k n : Nat) : (marks k n).length = n := by simp [marks]
theorem marks_succ (k n : Nat) : marks k (n + 1) = marks k n ++ [mkB k n] := by simp [marks, List.range_succ]
theorem marks_get (k n i : Nat) (h : i < n) : (marks k n)[i]? = some (mkB k i) := by simp [marks, h]
theorem RoomN.blen {w : World} {v : Value} {l : List UInt8} (h : RoomN EB w v l) (W : World) : (Builtin.len_ #[23] 3 #[v]).run Try.prog W = .ok (.int .i64 (l.length : Int)) W := h.slice.len W
end Go.Proofs.Ytnlilmiakddlaaa
/-! Frames of bytes: the plain law. -/
namespace Go.Agg
/-- a number as bytes, seven bits each -/
def encN (n : Nat) : List UInt8 := if h : 128 ≤ n then UInt8.ofNat (n % 128 + 128) :: encN (n / 128) else [UInt8.ofNat n]
termination_by n
decreasing_by omega
theorem encN_lt {n : Nat} (h : n < 128) : encN n = [UInt8.ofNat n] := by rw [encN, dif_neg (by omega)]
theorem encN_ge {n : Nat} (h : 128 ≤ n) : encN n = UInt8.ofNat (n % 128 + 128) :: encN (n / 128) := by rw [encN, dif_pos h]
/-- how many bytes a frame's number has (0: some are missing, below 0: wrong), and what it is -/
def begGo : Nat → Nat → List UInt8 → Int × Nat
  | k, _, [] => if k = 3 then (-1, 0) else (0, 0)
  | k, n, c :: t => if k = 3 then (-1, 0) else
    if 65536 < n + c.toNat % 128 * 128 ^ k ∨ (c = 0 ∧ 0 < k) then (-1, 0) else
    if c.toNat < 128 then ((k : Int) + 1, n + c.toNat % 128 * 128 ^ k) else begGo (k + 1) (n + c.toNat % 128 * 128 ^ k) t
def beg (b : List UInt8) : Int × Nat := begGo 0 0 b
theorem begGo_append {x : List UInt8} : ∀ {k n : Nat} (y : List UInt8), (begGo k n x).1 ≠ 0 → begGo k n (x ++ y) = begGo k n x := by
  induction x with
  | nil =>
    intro k n y h
    by_cases hk : k = 3
    · cases y <;> simp [begGo, hk]
    · simp [begGo, hk] at h
  | cons c t ih =>
    intro k n y h
    simp only [List.cons_append, begGo] at h ⊢
    split
    · rfl
    · split
      · rfl
      · split
        · rfl
        · rename_i h1 h2 h3
          rw [if_neg h1, if_neg h2, if_neg h3] at h
          exact ih y h
theorem begGo_le {x : List UInt8} : ∀ {k n : Nat}, k ≤ 3 → (begGo k n x).1 ≤ k + x.length ∧ (0 ≤ (begGo k n x).1 → (begGo k n x).1 ≠ 0 → 1 ≤ (begGo k n x).1) ∧ (begGo k n x).1 ≤ 3 ∧ (begGo k n x).2 ≤ 65536 ∧ -1 ≤ (begGo k n x).1 := by
  induction x with
  | nil => intro k n hk; simp only [begGo]; split <;> simp <;> omega
  | cons c t ih =>
    intro k n hk
    simp only [begGo]
    split
    · simp; omega
    · split
      · simp; omega
      · split
        · simp; omega
        · have := ih (k := k + 1) (n := n + c.toNat % 128 * 128 ^ k) (by omega)
          simp only [List.length_cons]
          omega
theorem beg_le (x : List UInt8) : (beg x).1 ≤ x.length := by have := (begGo_le (x := x) (k := 0) (n := 0) (by omega)).1; simpa [beg] using this
theorem beg_most (x : List UInt8) : (beg x).2 ≤ 65536 := (begGo_le (x := x) (k := 0) (n := 0) (by omega)).2.2.2.1
theorem beg_three (x : List UInt8) : (beg x).1 ≤ 3 := (begGo_le (x := x) (k := 0) (n := 0) (by omega)).2.2.1
def frames (b : List UInt8) : Option (List (List UInt8) × List UInt8) :=
  if _h : (beg b).1 < 0 then none
  else if _h2 : (beg b).1 = 0 ∨ b.length < (beg b).1.toNat + (beg b).2 then some ([], b)
  else (frames (b.drop ((beg b).1.toNat + (beg b).2))).map fun x => ((b.drop (beg b).1.toNat).take (beg b).2 :: x.1, x.2)
termination_by b.length
decreasing_by simp only [List.length_drop]; omega
theorem frames_wrong {b : List UInt8} (h : (beg b).1 < 0) : frames b = none := by rw [frames, dif_pos h]
theorem frames_end {b : List UInt8} (h : ¬ (beg b).1 < 0) (h2 : (beg b).1 = 0 ∨ b.length < (beg b).1.toNat + (beg b).2) : frames b = some ([], b) := by rw [frames, dif_neg h, dif_pos h2]
theorem frames_step {b : List UInt8} (h : ¬ (beg b).1 < 0) (h2 : ¬ ((beg b).1 = 0 ∨ b.length < (beg b).1.toNat + (beg b).2)) :
    frames b = (frames (b.drop ((beg b).1.toNat + (beg b).2))).map fun x => ((b.drop (beg b).1.toNat).take (beg b).2 :: x.1, x.2) := by conv => lhs; rw [frames, dif_neg h, dif_neg h2]
/-- bytes that come in two parts -/
theorem frames_append : ∀ (n : Nat) (x y : List UInt8), x.length ≤ n → frames (x ++ y) = (frames x).bind fun p => (frames (p.2 ++ y)).map fun q => (p.1 ++ q.1, q.2) := by
  intro n
  induction n with
  | zero =>
    intro x y h
    obtain rfl : x = [] := List.length_eq_zero_iff.1 (by omega)
    have h0 : beg [] = (0, 0) := rfl
    rw [frames_end (b := []) (by rw [h0]; omega) (.inl (by rw [h0]))]
    simp
  | succ n ih =>
    intro x y h
    by_cases h1 : (beg x).1 < 0
    · have hb : beg (x ++ y) = beg x := begGo_append y (by unfold beg at h1; omega)
      rw [frames_wrong h1, frames_wrong (by rw [hb]; exact h1)]
      rfl
    · by_cases h2 : (beg x).1 = 0 ∨ x.length < (beg x).1.toNat + (beg x).2
      · rw [frames_end h1 h2]; simp
      · have hb : beg (x ++ y) = beg x := begGo_append y (by unfold beg at h1 h2; omega)
        have hl : (beg x).1.toNat + (beg x).2 ≤ x.length := by omega
        have hd : (x ++ y).drop ((beg x).1.toNat + (beg x).2) = x.drop ((beg x).1.toNat + (beg x).2) ++ y := List.drop_append_of_le_length hl
        have ht : ((x ++ y).drop (beg x).1.toNat).take (beg x).2 = (x.drop (beg x).1.toNat).take (beg x).2 := by
          rw [List.drop_append_of_le_length (by omega), List.take_append_of_le_length (by simp; omega)]
        rw [frames_step h1 h2, frames_step (by rw [hb]; exact h1) (by rw [hb]; simp only [List.length_append]; omega), hb, hd, ht, ih _ y (by simp only [List.length_drop]; omega)]
        cases frames (x.drop ((beg x).1.toNat + (beg x).2)) with
        | none => rfl
        | some p =>
          simp only [Option.map_some, Option.bind_some]
          cases frames (p.2 ++ y) <;> simp
theorem frames_two (b : List UInt8) (k : Nat) : frames b = (frames (b.take k)).bind fun p => (frames (p.2 ++ b.drop k)).map fun q => (p.1 ++ q.1, q.2) := by
  have := frames_append _ (b.take k) (b.drop k) (Nat.le_refl _)
  rwa [List.take_append_drop] at this
theorem toNat_of (n : Nat) (h : n < 256) : (UInt8.ofNat n).toNat = n := by simp; omega
theorem beg_enc {n : Nat} (h : n ≤ 65536) (y : List UInt8) : beg (encN n ++ y) = (((encN n).length : Int), n) := by
  have one : ∀ (k m v : Nat), k < 3 → v < 128 → (v = 0 → k = 0) → m + v * 128 ^ k ≤ 65536 → ∀ t, begGo k m (UInt8.ofNat v :: t) = ((k : Int) + 1, m + v * 128 ^ k) := by
    intro k m v hk hv h0 hm t
    have e := toNat_of v (by omega)
    have hz : UInt8.ofNat v = 0 → v = 0 := fun h => by have := congrArg UInt8.toNat h; rw [e] at this; simpa using this
    have h1 : ¬ (65536 < m + v * 128 ^ k ∨ (UInt8.ofNat v = 0 ∧ 0 < k)) := by
      rintro (h | ⟨h, h'⟩)
      · omega
      · have := h0 (hz h); omega
    simp only [begGo, e, Nat.mod_eq_of_lt hv]
    rw [if_neg (by omega), if_neg h1, if_pos hv]
  have more : ∀ (k m v : Nat), k < 3 → v < 128 → m + v * 128 ^ k ≤ 65536 → ∀ t, begGo k m (UInt8.ofNat (v + 128) :: t) = begGo (k + 1) (m + v * 128 ^ k) t := by
    intro k m v hk hv hm t
    have e := toNat_of (v + 128) (by omega)
    have hm2 : (v + 128) % 128 = v := by omega
    have hz : ¬ UInt8.ofNat (v + 128) = 0 := fun h => by have := congrArg UInt8.toNat h; rw [e] at this; simp at this
    have h1 : ¬ (65536 < m + v * 128 ^ k ∨ (UInt8.ofNat (v + 128) = 0 ∧ 0 < k)) := by
      rintro (h | ⟨h, h'⟩)
      · omega
      · exact hz h
    simp only [begGo, e, hm2]
    rw [if_neg (by omega), if_neg h1, if_neg (by omega)]
  unfold beg
  by_cases h1 : n < 128
  · rw [encN_lt h1, List.singleton_append, one 0 0 n (by omega) h1 (by omega) (by omega)]
    simp
  · rw [encN_ge (by omega), List.cons_append, more 0 0 (n % 128) (by omega) (by omega) (by omega)]
    by_cases h2 : n / 128 < 128
    · rw [encN_lt h2, List.singleton_append, one 1 _ (n / 128) (by omega) h2 (by omega) (by omega)]
      simp; omega
    · rw [encN_ge (by omega), List.cons_append, more 1 _ (n / 128 % 128) (by omega) (by omega) (by omega)]
      have h3 : n / 128 / 128 < 128 := by omega
      rw [encN_lt h3, List.singleton_append, one 2 _ (n / 128 / 128) (by omega) h3 (by omega) (by omega)]
      simp; omega
/-- frames that are told -/
def framed (l : List (List UInt8)) : List UInt8 := l.flatMap fun b => encN b.length ++ b
theorem frames_framed (l : List (List UInt8)) (h : ∀ b ∈ l, b.length ≤ 65536) : frames (framed l) = some (l, []) := by
  induction l with
  | nil =>
    have h0 : beg [] = (0, 0) := rfl
    exact frames_end (b := []) (by rw [h0]; omega) (.inl (by rw [h0]))
  | cons b l ih =>
    have hb : beg (framed (b :: l)) = (((encN b.length).length : Int), b.length) := by
      simp only [framed, List.flatMap_cons, List.append_assoc]
      exact beg_enc (h b (by simp)) _
    have hpos : 0 < (encN b.length).length := by
      rw [encN]; split <;> simp
    have hl : (framed (b :: l)).length = (encN b.length).length + b.length + (framed l).length := by simp [framed, Nat.add_assoc]
    rw [frames_step (by rw [hb]; omega) (by rw [hb, hl]; simp only [Int.toNat_natCast]; omega), hb]
    have e1 : (framed (b :: l)).drop ((encN b.length).length + b.length) = framed l := by
      simp only [framed, List.flatMap_cons]
      rw [← List.length_append, List.drop_left]
    have e2 : ((framed (b :: l)).drop (encN b.length).length).take b.length = b := by
      simp only [framed, List.flatMap_cons, List.append_assoc]
      rw [List.drop_left, List.take_left]
    simp only [Int.toNat_natCast, e1, e2, ih (fun c hc => h c (by simp [hc]))]
    rfl
end Go.Agg
