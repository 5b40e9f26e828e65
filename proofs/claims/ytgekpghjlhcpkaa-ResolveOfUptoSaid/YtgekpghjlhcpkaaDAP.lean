/- A cut behind a region: what it leaves, said once for all orders. (Several texts in one.) -/
import Derived.Test.YtgekpghjlhcpkaaDAL
import Derived.Deep.MidRow
import Derived.Test.YtgekpghjlhcpkaaDAD
import Derived.Laws.CopyOwn
import Derived.Deep.RegionHeld3
import Derived.Test.YtgekpghjlhcpkaaDAM
/-! A row of cells stored into the middle of a block. -/
namespace Go.Agg
open Go.RowKit
variable {P : Program}
def setAll (cs : Array Value) : Nat → List Value → Array Value
  | _, [] => cs
  | i, v :: vs => setAll (cs.setIfInBounds i v) (i + 1) vs
theorem Blk.setAll {g : Nat} {t : TypeId} : ∀ (vs : List Value) (i : Nat) (w : World) (cs : Array Value), Blk w g t cs → Blk (w.setCells g i vs) g t (Agg.setAll cs i vs)
  | [], _, _, _, h => h
  | v :: vs, i, _, _, h => Blk.setAll vs (i + 1) _ _ (h.set i v)
theorem setAll_mid : ∀ (vs a b c : List Value), b.length = vs.length → setAll (a ++ (b ++ c)).toArray a.length vs = (a ++ (vs ++ c)).toArray
  | [], a, b, c, h => by
    obtain rfl := List.length_eq_zero_iff.1 h
    rfl
  | v :: vs, a, [], c, h => by simp at h
  | v :: vs, a, y :: b, c, h => by
    have e : (a ++ (y :: b ++ c)).toArray.setIfInBounds a.length v = ((a ++ [v]) ++ (b ++ c)).toArray := by simp
    have h1 := setAll_mid vs (a ++ [v]) b c (by simpa using h)
    rw [setAll, e, show a.length + 1 = (a ++ [v]).length by simp, h1]
    simp
/-- a row stored: what lies there then -/
theorem Blk.run_row {w : World} {g : Nat} {t ty : TypeId} (a b c ds : Array Value) (h : Blk w g t (a ++ (b ++ c))) (hb : b.size = ds.size) (hs : (P.info? ty).map (·.size) = some ds.size) (h1 : ds.all (·.oneCell') = true) {i : Nat} (hi : i = a.size) :
    ∃ w', (Instr.storeAt ty (.pointer (some ⟨g, i, none⟩)) (.agg ds)).run P w = .ok () w' ∧ Blk w' g t (a ++ (ds ++ c)) ∧ Only (· = g) w w' := by
  subst hi
  refine ⟨_, run_storeAt_mid w g a.size ty ds (fun j hj => ⟨?_, frozen_of_row _ _ _ _ _ h⟩) hs h1, ?_, only_setCells _ _ _ _⟩
  · rw [h.cell]
    simp
    omega
  · have h2 := h.setAll ds.toList a.size
    have e := setAll_mid ds.toList a.toList b.toList c.toList (by simpa using hb)
    have e1 : (a.toList ++ (b.toList ++ c.toList)).toArray = a ++ (b ++ c) := by apply Array.ext'; simp
    have e2 : (a.toList ++ (ds.toList ++ c.toList)).toArray = a ++ (ds ++ c) := by apply Array.ext'; simp
    rw [e1, e2, Array.length_toList] at e
    rw [← e]
    exact h2
/-- one cell stored -/
theorem Blk.run_one {w : World} {g : Nat} {t ty : TypeId} {cs : Array Value} (h : Blk w g t cs) (i : Nat) (hi : i < cs.size) (v : Value) (hv : v.cells = #[v]) (h1 : v.oneCell' = true) (hs : (P.info? ty).map (·.size) = some 1) (ds : Array Value) (he : cs.setIfInBounds i v = ds) :
    ∃ w', (Instr.storeAt ty (.pointer (some ⟨g, i, none⟩)) v).run P w = .ok () w' ∧ Blk w' g t ds ∧ Only (· = g) w w' := by
  subst he
  exact ⟨_, h.run_put i hi v hv h1 hs, h.set i v, rfl, rfl, rfl, by simp [World.setCell], fun k _ hk => Below.heap_setCell _ _ _ _ hk⟩
end Go.Agg
/-! Operations of a region that draws: a store, a copy of bytes, literals. -/
namespace Go.Agg
open Go.RowKit
variable {P : Program}
section
variable {ops : Array Oper} {o : Oper} {a : Act} {w : World} {Q : Exit → Act → World → Prop} {K : Act → World → Prop} {F : Prop}
theorem step_store {w' : World} (hg : o.guard = none) (hd : o.dst = none) (ty : TypeId) (x y : Operand) (ho : o.op = .store ty x y) (p v : Value) (hx : a.eval x = p) (hy : a.eval y = v)
    (hrun : (Instr.storeAt ty p v).run P w = .ok () w') (h : K a w') : if Region.wanted o (yielded ops a.tmps) = true then o.wp P a w K Q else F := by
  rw [if_pos (by simp [Region.wanted, hg])]
  unfold Oper.wp
  have : (execOp a.eval o).run P w = .ok .skip w' := by simp [execOp, ho, hx, hy, hrun]
  rw [this, Oper.upon_skip, hd]
  exact h
theorem step_val {v : Value} {w' : World} (hg : o.guard = none) (hrun : (execOp a.eval o).run P w = .ok (.value v) w') (h : K (a.put o.dst v) w') : if Region.wanted o (yielded ops a.tmps) = true then o.wp P a w K Q else F := by
  rw [if_pos (by simp [Region.wanted, hg])]
  unfold Oper.wp
  rw [hrun]
  exact h
theorem step_slice1 {α : Type} {E : Elem P α} (hg : o.guard = none) (y : Operand) (ho : o.op = .buildSlice E.st 1 #[(0, y)]) (x : α) (hy : a.eval y = E.val x)
    (h : ∀ v' w', Own E w.heap.size w' v' [x] → Below w.heap.size w w' → K (a.put o.dst v') w') : if Region.wanted o (yielded ops a.tmps) = true then o.wp P a w K Q else F := by
  refine step_val hg (v := .slice (some ⟨w.heap.size, 0, none⟩) 1 1) (w' := w.alloc (.cells (E.val x).cells E.ty)) (by simp [execOp, ho, hy, run_slice_one]) (h _ _ ?_ ((Below.refl _ _).alloc (Nat.le_refl _) _))
  have hs := E.size x
  refine ⟨by rw [E.flat_one, E.cs_length]; simp, .inr ⟨_, 1, _, rfl, Nat.le_refl _, heap_alloc_new w _, Nat.le_refl _, by simp [maxLen], by rw [hs]; simp, ?_⟩⟩
  rw [E.flat_one, Elem.cs, List.take_of_length_le (by rw [Array.length_toList, hs]; simp)]
/-- '&T{..}' -/
theorem step_box (hg : o.guard = none) (ty : TypeId) (x : Operand) (ho : o.op = .box ty x) (cs : Array Value) (hx : a.eval x = .agg cs)
    (h : ∀ g w', Blk w' g ty cs → Below w.heap.size w w' → w.heap.size ≤ g → K (a.put o.dst (.pointer (some ⟨g, 0, none⟩))) w') : if Region.wanted o (yielded ops a.tmps) = true then o.wp P a w K Q else F :=
  step_val hg (v := .pointer (some ⟨w.heap.size, 0, none⟩)) (w' := w.alloc (.cells cs ty)) (by simp [execOp, ho, hx, Instr.box, newVar, newRow, Value.cells]) (h _ _ (Blk.new w ty cs) ((Below.refl _ _).alloc (Nat.le_refl _) _) (Nat.le_refl _))
end
end Go.Agg
namespace Go.Proofs.Ytgekpghjlhcpkaa
open Go.RowKit Pl Go.Agg
theorem flat_bytes (l : List UInt8) : EB.flat l = Lib.byteCells l := by
  simp only [Elem.flat, Lib.byteCells]
  induction l with
  | nil => rfl
  | cons c t ih =>
    rw [List.flatMap_cons, ih]
    rfl
theorem run_copyB {w : World} {g n : Nat} {t : TypeId} {cur : List Value} {u : Value} {l : List UInt8} (ty : TypeId) (hu : SliceOf EB w u l) (hb : Blk w g t cur.toArray) (hn : cur.length = n) (hl : l.length ≤ n) :
    ∃ w', (Builtin.copy_ #[23, 23] ty #[.slice (some ⟨g, 0, none⟩) n n, u]).run Try.prog w = .ok (goInt l.length) w' ∧ Blk w' g t (Lib.byteCells l ++ cur.drop l.length).toArray ∧ Only (· = g) w w' := by
  have hund : Try.prog.underlying 23 = some (.slice 5) := by kernel_rfl
  have hsz : (Try.prog.info? 5).map (·.size) = some 1 := by kernel_rfl
  have hc : (Lib.byteCells l).length = l.length := by simp [Lib.byteCells]
  by_cases h0 : l.length = 0
  · obtain rfl : l = [] := List.length_eq_zero_iff.1 h0
    obtain ⟨p, c, hf⟩ := hu.form
    subst hf
    exact ⟨w, run_copy_none w _ _ _ 5 _ _ _ _ _ _ hund hsz (by simp), by simpa [Lib.byteCells] using hb, Only.refl _ _⟩
  · rcases hu with ⟨_, _, _, h1⟩ | ⟨q, c, rfl, hq, hcell⟩
    · exact absurd (by simp [h1]) h0
    · rw [flat_bytes] at hcell
      have hrun := run_copy_row (P := Try.prog) w 23 23 ty 5 g 0 n n q l.length c cur.toArray t (Lib.byteCells l) hund hsz hb (by rw [hc]; exact (Nat.min_eq_left hl).symm) hcell (by simp [hc]; omega)
        (fun v hv => by
          simp only [Lib.byteCells, List.mem_map] at hv
          obtain ⟨b, _, rfl⟩ := hv
          rfl)
      rw [hc] at hrun
      refine ⟨_, hrun, ?_, rfl, rfl, rfl, by simp [World.setRow], fun k _ hk => setRow_other w g k _ hk⟩
      have h1 := setRow_heap w g cur.toArray (List.take 0 cur.toArray.toList ++ Lib.byteCells l ++ List.drop (0 + l.length) cur.toArray.toList).toArray t _ hb
      refine Eq.trans h1 ?_
      simp
theorem step_copyB {ops : Array Oper} {o : Oper} {a : Act} {w : World} {Q : Exit → Act → World → Prop} {K : Act → World → Prop} {F : Prop} {g n : Nat} {t : TypeId} {cur : List Value} {u : Value} {l : List UInt8} (hg : o.guard = none) (d s : Operand)
    (ho : o.op = .call { callee := .builtin .copy, args := #[d, s], argTypes := #[23, 23] }) (hd : a.eval d = .slice (some ⟨g, 0, none⟩) n n) (hs : a.eval s = u) (hu : SliceOf EB w u l) (hb : Blk w g t cur.toArray) (hn : cur.length = n) (hl : l.length ≤ n)
    (h : ∀ w', Blk w' g t (Lib.byteCells l ++ cur.drop l.length).toArray → Only (· = g) w w' → K (a.put o.dst (goInt l.length)) w') : if Region.wanted o (yielded ops a.tmps) = true then o.wp Try.prog a w K Q else F := by
  obtain ⟨w', hrun, h1, h2⟩ := run_copyB o.type hu hb hn hl
  exact step_val hg (by simp [execOp, ho, resolve, invoke, builtin, hd, hs, hrun]) (h w' h1 h2)
end Go.Proofs.Ytgekpghjlhcpkaa
/-! A region that draws its order, step by step: each operation that may come up, by its own law. -/
namespace Go.Agg
open Go.RowKit
variable {P : Program}
section
variable {l : List Oper} {md : Region.Mode} {Q : Exit → Act → World → Prop} {S : World → Prop} {fuel : Nat} {listed : Array Bool} {a : Act} {w : World}
def takeB (md : Region.Mode) (l : List Oper) (listed : Array Bool) (i : Nat) : Bool :=
  Region.noSelect l.toArray && Region.free md l.toArray listed i && (Region.ready md l.toArray listed).contains i
theorem any_take {o : Oper} (i : Nat) (v : Value) (ho : l[i]? = some o) (hB : takeB md l listed i = true) (hQ : ∀ c a w, Q (.panic c) (a.put o.dst v) w → Q (.panic c) a w) (hw : Region.wanted o (yielded l.toArray a.tmps) = true)
    (hy : ∀ w, (execOp a.eval o).run P w = .ok (.value v) w) (h : wpAny P md l.toArray Q fuel (listed.setIfInBounds i true) (a.put o.dst v) w) : wpAny P md l.toArray Q (fuel + 1) listed a w := by
  simp only [takeB, Bool.and_eq_true] at hB
  exact wpAny_take (by simpa using ho) hB.1.1 hB.1.2 hB.2 hQ (.inl ⟨hw, hy⟩) h
theorem any_ready (rs : List Nat) (hr : Region.ready md l.toArray listed = rs) (hne : rs ≠ []) (h : AllReady P md l.toArray Q fuel listed a w rs) : wpAny P md l.toArray Q (fuel + 1) listed a w := wpAny_ready hr hne h
theorem any_cons {o : Oper} {i : Nat} {rs : List Nat} (ho : l[i]? = some o)
    (h : if Region.wanted o (yielded l.toArray a.tmps) = true then Oper.wp P o a w (wpAny P md l.toArray Q fuel (listed.setIfInBounds i true)) Q else wpAny P md l.toArray Q fuel (listed.setIfInBounds i true) (a.put o.dst undef) w)
    (hs : AllReady P md l.toArray Q fuel listed a w rs) : AllReady P md l.toArray Q fuel listed a w (i :: rs) :=
  AllReady.cons (by simpa using ho) (fun K' hK => by
    split at h
    · rename_i hw; rw [if_pos hw]; exact Oper.wp_mono hK h
    · rename_i hw; rw [if_neg hw]; exact hK _ _ h) hs
theorem any_end (hr : Region.ready md l.toArray listed = []) (h : Q .normal a w) : wpAny P md l.toArray Q fuel listed a w := by
  cases fuel with
  | zero => exact ⟨hr, h⟩
  | succ n => exact ⟨fun _ => h, by rw [hr]; intro i hi; cases hi⟩
/-! .. while S holds -/
theorem held_take {o : Oper} (i : Nat) (v : Value) (ho : l[i]? = some o) (hB : takeB md l listed i = true) (hQ : ∀ c a w, Q (.panic c) (a.put o.dst v) w → Q (.panic c) a w) (hw : Region.wanted o (yielded l.toArray a.tmps) = true)
    (hy : ∀ w, S w → (execOp a.eval o).run P w = .ok (.value v) w) (hS : S w) (h : wpAnyH P md l.toArray Q S fuel (listed.setIfInBounds i true) (a.put o.dst v) w) : wpAnyH P md l.toArray Q S (fuel + 1) listed a w := by
  simp only [takeB, Bool.and_eq_true] at hB
  exact wpAnyH_take (by simpa using ho) hB.1.1 hB.1.2 hB.2 hQ (.inl ⟨hw, hy⟩) hS h
theorem held_ready (rs : List Nat) (hr : Region.ready md l.toArray listed = rs) (hne : rs ≠ []) (h : AllReadyH P md l.toArray Q S fuel listed a w rs) : wpAnyH P md l.toArray Q S (fuel + 1) listed a w := wpAnyH_ready hr hne h
theorem held_cons {o : Oper} {i : Nat} {rs : List Nat} (ho : l[i]? = some o)
    (h : if Region.wanted o (yielded l.toArray a.tmps) = true then Oper.wp P o a w (fun a' w' => S w' ∧ wpAnyH P md l.toArray Q S fuel (listed.setIfInBounds i true) a' w') Q else S w ∧ wpAnyH P md l.toArray Q S fuel (listed.setIfInBounds i true) (a.put o.dst undef) w)
    (hs : AllReadyH P md l.toArray Q S fuel listed a w rs) : AllReadyH P md l.toArray Q S fuel listed a w (i :: rs) :=
  AllReadyH.cons (by simpa using ho) (fun K' hK => by
    split at h
    · rename_i hw; rw [if_pos hw]; exact Oper.wp_mono (fun a w h => hK.out a w h.1 fun _ => h.2) h
    · rename_i hw; rw [if_neg hw]; exact hK.out _ _ h.1 fun _ => h.2) hs
theorem held_end (hr : Region.ready md l.toArray listed = []) (h : Q .normal a w) : wpAnyH P md l.toArray Q S fuel listed a w := by
  cases fuel with
  | zero => exact ⟨hr, h⟩
  | succ n => exact ⟨fun _ => h, by rw [hr]; intro i hi; cases hi⟩
end
section
variable {ops : Array Oper} {o : Oper} {a : Act} {w : World} {Q : Exit → Act → World → Prop} {K : Act → World → Prop} {F : Prop}
/-- a call of a Go function, by its contract -/
theorem step_call (hg : o.guard = none) (f : FuncId) (xs : Array Operand) (ts : Array TypeId) (ho : o.op = .call { callee := .value (.func f), args := xs, argTypes := ts }) (vs : Array Value) (hv : xs.map a.eval = vs)
    (he : ∀ w, (callFunc f vs).run P w = .ok (.enter f vs) w) (h : Calls P f vs w fun e w' => ∃ v, e = .returned v ∧ K (a.put o.dst v) w') : if Region.wanted o (yielded ops a.tmps) = true then o.wp P a w K Q else F := by
  rw [if_pos (by simp [Region.wanted, hg])]
  unfold Oper.wp
  have : (execOp a.eval o).run P w = .ok (.enter f vs) w := by
    subst hv
    have hf : a.eval (Operand.func f) = .func (.func f) #[] #[] := rfl
    simp [execOp, ho, resolve, invoke, hf, Deferred.ofValue, he]
  rw [this, Oper.upon_enter]
  refine h.mono ?_
  rintro e w' ⟨v, rfl, hk⟩
  exact hk
/-- a load whose answer is known -/
theorem step_load (hg : o.guard = none) (ty : TypeId) (x : Operand) (ho : o.op = .load ty x) (p v : Value) (hx : a.eval x = p) (hrun : (Instr.loadAt ty p).run P w = .ok v w) (h : K (a.put o.dst v) w) : if Region.wanted o (yielded ops a.tmps) = true then o.wp P a w K Q else F :=
  step_val hg (by simp [execOp, ho, hx, hrun]) h
end
end Go.Agg
/-! Regions that draw their order, in which a maker takes texts. -/
namespace Go.Agg
open Go.RowKit
theorem exec_loadC {P : Program} {o : Oper} {a : Act} {w : World} {ty : TypeId} {x : Operand} {p v : Value} (ho : o.op = .load ty x) (hx : a.eval x = p) (hrun : (Instr.loadAt ty p).run P w = .ok v w) : (execOp a.eval o).run P w = .ok (.value v) w := by simp [execOp, ho, hx, hrun]
theorem exec_lenC {P : Program} {o : Oper} {a : Act} {w : World} {st : TypeId} {x : Operand} {v r : Value} (ho : o.op = .call { callee := .builtin .len, args := #[x], argTypes := #[st] }) (hx : a.eval x = v) (hrun : (Builtin.len_ #[st] o.type #[v]).run P w = .ok r w) : (execOp a.eval o).run P w = .ok (.value r) w := by
  simp [execOp, ho, resolve, invoke, builtin, hx, hrun]
theorem exec_build0C {P : Program} {o : Oper} {a : Act} {w : World} {ty : TypeId} {v : Value} (ho : o.op = .build ty #[]) (hrun : (Instr.build ty #[]).run P w = .ok v w) : (execOp a.eval o).run P w = .ok (.value v) w := by simp [execOp, ho, hrun]
theorem Blk.onlyC {w w' : World} {S : Nat → Prop} {g : Nat} {t : TypeId} {cs : Array Value} (h : Blk w g t cs) (ho : Only S w w') (hS : ¬ S g) : Blk w' g t cs := (ho.block g h.lt hS).trans h
end Go.Agg
namespace Go.Proofs.Ytgekpghjlhcpkaa
open Go.RowKit Pl Go.Agg
theorem mk_keeps {g b2 : Nat} {w w' : World} {v v' : Value} {cs : Array Value} {l : List UInt8} {t : TypeId} (hm : MkV g w v l) (hb : Blk w b2 t cs) (ht : t ≠ 5) (hs : MkStep g w w' v v') (hne : b2 ≠ g) : Blk w' b2 t cs :=
  hb.onlyC hs.only fun h => h.elim hne fun e => by
    obtain ⟨_, cur, hc⟩ := hm.own.block _ e
    unfold Blk at hb
    rw [hb] at hc
    injection hc with hc
    injection hc with _ h2
    exact ht h2
theorem newBytes_ownB {w w' : World} {v : Value} {s : List UInt8} (h : NewBytes w w' v s) : ∀ k, v.ownBlock = some k → w.heap.size ≤ k := by
  obtain ⟨cap, fr, rfl, _, _, _⟩ := h
  intro k hk
  obtain rfl : w.heap.size = k := by simpa [Value.ownBlock] using hk
  exact Nat.le_refl _
theorem bytes_svB {w : World} {v : Value} {l : List UInt8} (h : BytesAt w v l) : ∃ s : SV, v = s.1 := by
  obtain ⟨p, c, hf⟩ := h.form
  exact ⟨⟨v, p, _, c, hf⟩, rfl⟩
theorem step_toBytes {ops : Array Oper} {o : Oper} {a : Act} {w : World} {Q : Exit → Act → World → Prop} {K : Act → World → Prop} {F : Prop} (hg : o.guard = none) (x : Operand) (ho : o.op = .convert 9 23 x) (s : List UInt8) (hx : a.eval x = .string ⟨s.toArray⟩)
    (h : ∀ v' w', NewBytes w w' v' s → Below w.heap.size w w' → K (a.put o.dst v') w') : if Region.wanted o (yielded ops a.tmps) = true then o.wp Try.prog a w K Q else F := by
  obtain ⟨v', w', hr, h1, h2⟩ := run_toBytes w s
  exact step_val hg (v := v') (w' := w') (by simp [execOp, ho, hx, hr]) (h v' w' h1 h2)
theorem maker_build (w : World) : (Instr.build 95 #[]).run Try.prog w = .ok (.agg (mkC (.slice none 0 0))) w := by kernel_rfl
/-- the hash in a block, as bytes -/
theorem hash_slice {w : World} {b i : Nat} {t : TypeId} {cs : Array Value} {h : List UInt8} (hb : Blk w b t cs) (hl : h.length = 20) (hc : ∀ j v, (hC h)[j]? = some v → cs[i + j]? = some v) : SliceOf EB w (.slice (some ⟨b, i, none⟩) 20 20) h := by
  refine .inr ⟨_, 20, by rw [hl], hb.lt, fun j v hj => ?_⟩
  rw [add_plain, hb.cell]
  refine hc j v ?_
  rw [flat_bytes] at hj
  simpa [hC] using hj
end Go.Proofs.Ytgekpghjlhcpkaa
/-! A cut behind a region: what it leaves, said once for all orders. -/
namespace Go.Agg
open Go.RowKit
variable {P : Program}
/-- some slots hold whatever -/
def ExPut : List Nat → Act → Act → Prop
  | [], a, a' => a' = a
  | k :: ks, a, a' => ∃ x, ExPut ks (a.put (some k) x) a'
theorem wp_cutR {c : Code} {Q : Exit → Act → World → Prop} {a : Act} {w : World} (R : Act → Act → World → Prop) (h1 : c.wp P (fun e a' w' => match e with | .normal => R a a' w' | _ => False) a w)
    (h2 : ∀ a' w', R a a' w' → Q .normal a' w') : c.wp P Q a w :=
  Code.wp_mono (fun e a' w' h => by
    cases e
    case normal => exact h2 a' w' h
    all_goals exact False.elim h) h1
section
variable {l : List Oper} {md : Region.Mode} {Q : Exit → Act → World → Prop} {S : World → Prop} {fuel : Nat} {listed : Array Bool} {a : Act} {w : World}
/-- an operation whose guard does not want it -/
theorem held_skip {o : Oper} (i : Nat) (ho : l[i]? = some o) (hB : takeB md l listed i = true) (hQ : ∀ c a w, Q (.panic c) (a.put o.dst undef) w → Q (.panic c) a w) (hw : Region.wanted o (yielded l.toArray a.tmps) = false)
    (hS : S w) (h : wpAnyH P md l.toArray Q S fuel (listed.setIfInBounds i true) (a.put o.dst undef) w) : wpAnyH P md l.toArray Q S (fuel + 1) listed a w := by
  simp only [takeB, Bool.and_eq_true] at hB
  exact wpAnyH_take (by simpa using ho) hB.1.1 hB.1.2 hB.2 hQ (.inr ⟨hw, rfl⟩) hS h
end
end Go.Agg
