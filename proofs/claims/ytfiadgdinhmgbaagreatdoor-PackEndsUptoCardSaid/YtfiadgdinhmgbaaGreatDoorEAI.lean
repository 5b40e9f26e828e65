/- (of general use) spenceref03.Less (Several texts in one.) -/
import Derived.Test.YtfiadgdinhmgbaaGreatDoorEAH
import Derived.Test.YtfiadgdinhmgbaaGreatDoorEAE
import Derived.Deep.MidRow
import Derived.Laws.CopyOwn
import Derived.Deep.RegionHeld3
import Derived.Test.YtfiadgdinhmgbaaGreatDoorEAA
import GoSem.Instr.MapUpdate
import Derived.Stop.BytesEq
import Derived.Lib.Bytealg
import Derived.Lib.BytesEntry
/-! A file tree in memory of its own: in blocks of its own, no two the same; it stays where others are written. -/
namespace Go.Proofs.YtfiadgdinhmgbaaGreatDoor
open Go.RowKit Pl Go.Agg Go.Tr
def ownB (v : Value) : List Nat := v.ownBlock.toList
mutual
def OwnT (base : Nat) (w : World) : NdV → T → List Nat → Prop
 | x, .mk k b l, bs => x.1 = k ∧ Agg.Own EB base w x.2.1.1 b ∧ ∃ (ks : List KdV) (cs : List Nat), Agg.Own EK base w x.2.2.1 ks ∧ OwnL base w ks l cs ∧ bs = ownB x.2.1.1 ++ (ownB x.2.2.1 ++ cs)
def OwnL (base : Nat) (w : World) : List KdV → List (List UInt8 × T) → List Nat → Prop
 | [], [], bs => bs = []
 | y :: ks, (n, t) :: l, bs => y.1 = n ∧ ∃ cs ds, OwnT base w y.2 t cs ∧ OwnL base w ks l ds ∧ bs = cs ++ ds
 | _, _, _ => False
end
theorem own_stays {α : Type} {E : Elem Tryz.prog α} {base : Nat} {w w' : World} {v : Value} {l : List α} {S : Nat → Prop} (h : Agg.Own E base w v l) (ho : Only S w w') (hS : ∀ k ∈ ownB v, ¬ S k) : Agg.Own E base w' v l := by
 obtain ⟨h1, h2⟩ := h
 refine ⟨h1, ?_⟩
 rcases h2 with h2 | ⟨g, cap, cur, e1, e2, e3, e4⟩
 ·exact .inl h2
 ·exact .inr ⟨g, cap, cur, e1, e2, (ho.block g (heap_lt e3) (hS g (by rw [e1]; simp [ownB, Value.ownBlock]))).trans e3, e4⟩
mutual
theorem OwnT.only {base : Nat} {w w' : World} {S : Nat → Prop} (ho : Only S w w') : ∀ (t : T) (x : NdV) (bs : List Nat), OwnT base w x t bs → (∀ k ∈ bs, ¬ S k) → OwnT base w' x t bs
 | .mk _ _ l, _, _, h, hS => by
  obtain ⟨h1, h2, ks, cs, h3, h4, rfl⟩ := h
  exact ⟨h1, own_stays h2 ho (fun k hk => hS k (by simp [hk])), ks, cs, own_stays h3 ho (fun k hk => hS k (by simp [hk])), OwnL.only ho l ks cs h4 (fun k hk => hS k (by simp [hk])), rfl⟩
theorem OwnL.only {base : Nat} {w w' : World} {S : Nat → Prop} (ho : Only S w w') : ∀ (l : List (List UInt8 × T)) (ks : List KdV) (bs : List Nat), OwnL base w ks l bs → (∀ k ∈ bs, ¬ S k) → OwnL base w' ks l bs
 | [], [], _, h, _ => h
 | (_, t) :: l, y :: ks, _, h, hS => by
  obtain ⟨h1, cs, ds, h2, h3, rfl⟩ := h
  exact ⟨h1, cs, ds, OwnT.only ho t y.2 cs h2 (fun k hk => hS k (by simp [hk])), OwnL.only ho l ks ds h3 (fun k hk => hS k (by simp [hk])), rfl⟩
 | [], _ :: _, _, h, _ => h.elim
 | _ :: _, [], _, h, _ => h.elim
end
theorem OwnT.below {base : Nat} {w w' : World} (hb : Below w.heap.size w w') {t : T} {x : NdV} {bs : List Nat} (h : OwnT base w x t bs) : OwnT base w' x t bs :=
 OwnT.only (S := fun _ => False) (Only.of_below hb) t x bs h (fun _ _ h => h)
theorem OwnL.below {base : Nat} {w w' : World} (hb : Below w.heap.size w w') {l : List (List UInt8 × T)} {ks : List KdV} {bs : List Nat} (h : OwnL base w ks l bs) : OwnL base w' ks l bs :=
 OwnL.only (S := fun _ => False) (Only.of_below hb) l ks bs h (fun _ _ h => h)
theorem own_range {α : Type} {E : Elem Tryz.prog α} {base : Nat} {w : World} {v : Value} {l : List α} (h : Agg.Own E base w v l) : ∀ k ∈ ownB v, base ≤ k ∧ k < w.heap.size := fun k hk => by
 have hk : v.ownBlock = some k := by simpa [ownB] using hk
 obtain ⟨h1, cur, hc⟩ := h.block k hk
 exact ⟨h1, heap_lt hc⟩
mutual
theorem OwnT.range {base : Nat} {w : World} : ∀ (t : T) (x : NdV) (bs : List Nat), OwnT base w x t bs → ∀ k ∈ bs, base ≤ k ∧ k < w.heap.size
 | .mk _ _ l, _, _, h, k, hk => by
  obtain ⟨_, h2, ks, cs, h3, h4, rfl⟩ := h
  simp only [List.mem_append] at hk
  rcases hk with hk | hk | hk
  ·exact own_range h2 k hk
  ·exact own_range h3 k hk
  ·exact OwnL.range l ks cs h4 k hk
theorem OwnL.range {base : Nat} {w : World} : ∀ (l : List (List UInt8 × T)) (ks : List KdV) (bs : List Nat), OwnL base w ks l bs → ∀ k ∈ bs, base ≤ k ∧ k < w.heap.size
 | [], [], _, h, k, hk => by
  have h : _ = [] := h
  rw [h] at hk; cases hk
 | (_, t) :: l, y :: ks, _, h, k, hk => by
  obtain ⟨_, cs, ds, h2, h3, rfl⟩ := h
  simp only [List.mem_append] at hk
  rcases hk with hk | hk
  ·exact OwnT.range t y.2 cs h2 k hk
  ·exact OwnL.range l ks ds h3 k hk
 | [], _ :: _, _, h, _, _ => h.elim
 | _ :: _, [], _, h, _, _ => h.elim
end
mutual
theorem OwnT.reads {base : Nat} {w : World} : ∀ (t : T) (x : NdV) (bs : List Nat), OwnT base w x t bs → NodeV w x t
 | .mk _ _ l, _, _, h => by
  obtain ⟨h1, h2, ks, cs, h3, h4, _⟩ := h
  exact ⟨h1, h2.slice, ks, h3.slice, OwnL.reads l ks cs h4⟩
theorem OwnL.reads {base : Nat} {w : World} : ∀ (l : List (List UInt8 × T)) (ks : List KdV) (bs : List Nat), OwnL base w ks l bs → KidsV w ks l
 | [], [], _, _ => trivial
 | (_, t) :: l, y :: ks, _, h => by
  obtain ⟨h1, cs, ds, h2, h3, _⟩ := h
  exact ⟨h1, OwnT.reads t y.2 cs h2, OwnL.reads l ks ds h3⟩
 | [], _ :: _, _, h => h.elim
 | _ :: _, [], _, h => h.elim
end
theorem OwnL.snoc {base : Nat} {w : World} : ∀ {l : List (List UInt8 × T)} {ks : List KdV} {bs : List Nat} {y : KdV} {t : T} {cs : List Nat}, OwnL base w ks l bs → OwnT base w y.2 t cs → OwnL base w (ks ++ [y]) (l ++ [(y.1, t)]) (bs ++ cs)
 | [], [], _, _, _, cs, h, h2 => by
  have h : _ = [] := h
  subst h
  exact ⟨rfl, cs, [], h2, rfl, by simp⟩
 | (_, _) :: _, _ :: _, _, _, _, _, h, h2 => by
  obtain ⟨h1, cs, ds, h3, h4, rfl⟩ := h
  exact ⟨h1, cs, _, h3, OwnL.snoc h4 h2, by simp⟩
 | [], _ :: _, _, _, _, _, h, _ => h.elim
 | _ :: _, [], _, _, _, _, h, _ => h.elim
end Go.Proofs.YtfiadgdinhmgbaaGreatDoor
/-! A row of cells stored into the middle of a block. -/
namespace Go.Agg
open Go.RowKit
variable {P : Program}
def setAll (cs : Array Value) : Nat → List Value → Array Value
 | _, [] => cs
 | i, v :: vs => setAll (cs.setIfInBounds i v) (i + 1) vs
theorem Blk.setAll {g : Nat} {t : TypeId} : ∀ (vs : List Value) (i : Nat) (w : World) (cs : Array Value), Blk w g t cs → Blk (w.setCells g i vs) g t (Agg.setAll cs i vs)
 | [], _, _, _, h => h
 | v :: vs, i, _, _, h => Blk.setAll vs (i + 1) _ _ (h.set i v)
theorem setAll_mid : ∀ (vs a b c : List Value), b.length = vs.length → setAll (a ++ (b ++ c)).toArray a.length vs = (a ++ (vs ++ c)).toArray
 | [], a, b, c, h => by
  obtain rfl := List.length_eq_zero_iff.1 h
  rfl
 | v :: vs, a, [], c, h => by simp at h
 | v :: vs, a, y :: b, c, h => by
  have e : (a ++ (y :: b ++ c)).toArray.setIfInBounds a.length v = ((a ++ [v]) ++ (b ++ c)).toArray := by simp
  have h1 := setAll_mid vs (a ++ [v]) b c (by simpa using h)
  rw [setAll, e, show a.length + 1 = (a ++ [v]).length by simp, h1]
  simp
theorem Blk.run_row {w : World} {g : Nat} {t ty : TypeId} (a b c ds : Array Value) (h : Blk w g t (a ++ (b ++ c))) (hb : b.size = ds.size) (hs : (P.info? ty).map (·.size) = some ds.size) (h1 : ds.all (·.oneCell') = true) {i : Nat} (hi : i = a.size) :
  ∃ w', (Instr.storeAt ty (.pointer (some ⟨g, i, none⟩)) (.agg ds)).run P w = .ok () w' ∧ Blk w' g t (a ++ (ds ++ c)) ∧ Only (· = g) w w' := by
 subst hi
 refine ⟨_, run_storeAt_mid w g a.size ty ds (fun j hj => ⟨?_, frozen_of_row _ _ _ _ _ h⟩) hs h1, ?_, only_setCells _ _ _ _⟩
 ·rw [h.cell]
  simp
  omega
 ·have h2 := h.setAll ds.toList a.size
  have e := setAll_mid ds.toList a.toList b.toList c.toList (by simpa using hb)
  have e1 : (a.toList ++ (b.toList ++ c.toList)).toArray = a ++ (b ++ c) := by apply Array.ext'; simp
  have e2 : (a.toList ++ (ds.toList ++ c.toList)).toArray = a ++ (ds ++ c) := by apply Array.ext'; simp
  rw [e1, e2, Array.length_toList] at e
  rw [← e]
  exact h2
theorem Blk.run_one {w : World} {g : Nat} {t ty : TypeId} {cs : Array Value} (h : Blk w g t cs) (i : Nat) (hi : i < cs.size) (v : Value) (hv : v.cells = #[v]) (h1 : v.oneCell' = true) (hs : (P.info? ty).map (·.size) = some 1) (ds : Array Value) (he : cs.setIfInBounds i v = ds) :
  ∃ w', (Instr.storeAt ty (.pointer (some ⟨g, i, none⟩)) v).run P w = .ok () w' ∧ Blk w' g t ds ∧ Only (· = g) w w' := by
 subst he
 exact ⟨_, h.run_put i hi v hv h1 hs, h.set i v, rfl, rfl, rfl, by simp [World.setCell], fun k _ hk => Below.heap_setCell _ _ _ _ hk⟩
end Go.Agg
/-! Operations of a region that draws: a store, a copy of bytes, literals. -/
namespace Go.Agg
open Go.RowKit
variable {P : Program}
section
variable {ops : Array Oper} {o : Oper} {a : Act} {w : World} {Q : Exit → Act → World → Prop} {K : Act → World → Prop} {F : Prop}
theorem step_store {w' : World} (hg : o.guard = none) (hd : o.dst = none) (ty : TypeId) (x y : Operand) (ho : o.op = .store ty x y) (p v : Value) (hx : a.eval x = p) (hy : a.eval y = v)
  (hrun : (Instr.storeAt ty p v).run P w = .ok () w') (h : K a w') : if Region.wanted o (yielded ops a.tmps) = true then o.wp P a w K Q else F := by
 rw [if_pos (by simp [Region.wanted, hg])]
 unfold Oper.wp
 have : (execOp a.eval o).run P w = .ok .skip w' := by simp [execOp, ho, hx, hy, hrun]
 rw [this, Oper.upon_skip, hd]
 exact h
theorem step_val {v : Value} {w' : World} (hg : o.guard = none) (hrun : (execOp a.eval o).run P w = .ok (.value v) w') (h : K (a.put o.dst v) w') : if Region.wanted o (yielded ops a.tmps) = true then o.wp P a w K Q else F := by
 rw [if_pos (by simp [Region.wanted, hg])]
 unfold Oper.wp
 rw [hrun]
 exact h
theorem step_slice1 {α : Type} {E : Elem P α} (hg : o.guard = none) (y : Operand) (ho : o.op = .buildSlice E.st 1 #[(0, y)]) (x : α) (hy : a.eval y = E.val x)
  (h : ∀ v' w', Own E w.heap.size w' v' [x] → Below w.heap.size w w' → K (a.put o.dst v') w') : if Region.wanted o (yielded ops a.tmps) = true then o.wp P a w K Q else F := by
 refine step_val hg (v := .slice (some ⟨w.heap.size, 0, none⟩) 1 1) (w' := w.alloc (.cells (E.val x).cells E.ty)) (by simp [execOp, ho, hy, run_slice_one]) (h _ _ ?_ ((Below.refl _ _).alloc (Nat.le_refl _) _))
 have hs := E.size x
 refine ⟨by rw [E.flat_one, E.cs_length]; simp, .inr ⟨_, 1, _, rfl, Nat.le_refl _, heap_alloc_new w _, Nat.le_refl _, by simp [maxLen], by rw [hs]; simp, ?_⟩⟩
 rw [E.flat_one, Elem.cs, List.take_of_length_le (by rw [Array.length_toList, hs]; simp)]
theorem step_box (hg : o.guard = none) (ty : TypeId) (x : Operand) (ho : o.op = .box ty x) (cs : Array Value) (hx : a.eval x = .agg cs)
  (h : ∀ g w', Blk w' g ty cs → Below w.heap.size w w' → w.heap.size ≤ g → K (a.put o.dst (.pointer (some ⟨g, 0, none⟩))) w') : if Region.wanted o (yielded ops a.tmps) = true then o.wp P a w K Q else F :=
 step_val hg (v := .pointer (some ⟨w.heap.size, 0, none⟩)) (w' := w.alloc (.cells cs ty)) (by simp [execOp, ho, hx, Instr.box, newVar, newRow, Value.cells]) (h _ _ (Blk.new w ty cs) ((Below.refl _ _).alloc (Nat.le_refl _) _) (Nat.le_refl _))
end
end Go.Agg
namespace Go.Proofs.YtfiadgdinhmgbaaGreatDoor
open Go.RowKit Pl Go.Agg
theorem flat_bytes (l : List UInt8) : EB.flat l = Lib.byteCells l := by
 simp only [Elem.flat, Lib.byteCells]
 induction l with
 | nil => rfl
 | cons c t ih =>
  rw [List.flatMap_cons, ih]
  rfl
theorem run_copyB {w : World} {g n : Nat} {t : TypeId} {cur : List Value} {u : Value} {l : List UInt8} (ty : TypeId) (hu : SliceOf EB w u l) (hb : Blk w g t cur.toArray) (hn : cur.length = n) (hl : l.length ≤ n) :
  ∃ w', (Builtin.copy_ #[23, 23] ty #[.slice (some ⟨g, 0, none⟩) n n, u]).run Tryz.prog w = .ok (goInt l.length) w' ∧ Blk w' g t (Lib.byteCells l ++ cur.drop l.length).toArray ∧ Only (· = g) w w' := by
 have hund : Tryz.prog.underlying 23 = some (.slice 5) := by kernel_rfl
 have hsz : (Tryz.prog.info? 5).map (·.size) = some 1 := by kernel_rfl
 have hc : (Lib.byteCells l).length = l.length := by simp [Lib.byteCells]
 by_cases h0 : l.length = 0
 ·obtain rfl : l = [] := List.length_eq_zero_iff.1 h0
  obtain ⟨p, c, hf⟩ := hu.form
  subst hf
  exact ⟨w, run_copy_none w _ _ _ 5 _ _ _ _ _ _ hund hsz (by simp), by simpa [Lib.byteCells] using hb, Only.refl _ _⟩
 ·rcases hu with ⟨_, _, _, h1⟩ | ⟨q, c, rfl, hq, hcell⟩
  ·exact absurd (by simp [h1]) h0
  ·rw [flat_bytes] at hcell
   have hrun := run_copy_row (P := Tryz.prog) w 23 23 ty 5 g 0 n n q l.length c cur.toArray t (Lib.byteCells l) hund hsz hb (by rw [hc]; exact (Nat.min_eq_left hl).symm) hcell (by simp [hc]; omega)
    (fun v hv => by
     simp only [Lib.byteCells, List.mem_map] at hv
     obtain ⟨b, _, rfl⟩ := hv
     rfl)
   rw [hc] at hrun
   refine ⟨_, hrun, ?_, rfl, rfl, rfl, by simp [World.setRow], fun k _ hk => setRow_other w g k _ hk⟩
   have h1 := setRow_heap w g cur.toArray (List.take 0 cur.toArray.toList ++ Lib.byteCells l ++ List.drop (0 + l.length) cur.toArray.toList).toArray t _ hb
   refine Eq.trans h1 ?_
   simp
theorem step_copyB {ops : Array Oper} {o : Oper} {a : Act} {w : World} {Q : Exit → Act → World → Prop} {K : Act → World → Prop} {F : Prop} {g n : Nat} {t : TypeId} {cur : List Value} {u : Value} {l : List UInt8} (hg : o.guard = none) (d s : Operand)
  (ho : o.op = .call { callee := .builtin .copy, args := #[d, s], argTypes := #[23, 23] }) (hd : a.eval d = .slice (some ⟨g, 0, none⟩) n n) (hs : a.eval s = u) (hu : SliceOf EB w u l) (hb : Blk w g t cur.toArray) (hn : cur.length = n) (hl : l.length ≤ n)
  (h : ∀ w', Blk w' g t (Lib.byteCells l ++ cur.drop l.length).toArray → Only (· = g) w w' → K (a.put o.dst (goInt l.length)) w') : if Region.wanted o (yielded ops a.tmps) = true then o.wp Tryz.prog a w K Q else F := by
 obtain ⟨w', hrun, h1, h2⟩ := run_copyB o.type hu hb hn hl
 exact step_val hg (by simp [execOp, ho, resolve, invoke, builtin, hd, hs, hrun]) (h w' h1 h2)
end Go.Proofs.YtfiadgdinhmgbaaGreatDoor
/-! A region that draws its order, step by step: each operation that may come up, by its own law. -/
namespace Go.Agg
open Go.RowKit
variable {P : Program}
section
variable {l : List Oper} {md : Region.Mode} {Q : Exit → Act → World → Prop} {S : World → Prop} {fuel : Nat} {listed : Array Bool} {a : Act} {w : World}
def takeB (md : Region.Mode) (l : List Oper) (listed : Array Bool) (i : Nat) : Bool :=
 Region.noSelect l.toArray && Region.free md l.toArray listed i && (Region.ready md l.toArray listed).contains i
theorem any_take {o : Oper} (i : Nat) (v : Value) (ho : l[i]? = some o) (hB : takeB md l listed i = true) (hQ : ∀ c a w, Q (.panic c) (a.put o.dst v) w → Q (.panic c) a w) (hw : Region.wanted o (yielded l.toArray a.tmps) = true)
  (hy : ∀ w, (execOp a.eval o).run P w = .ok (.value v) w) (h : wpAny P md l.toArray Q fuel (listed.setIfInBounds i true) (a.put o.dst v) w) : wpAny P md l.toArray Q (fuel + 1) listed a w := by
 simp only [takeB, Bool.and_eq_true] at hB
 exact wpAny_take (by simpa using ho) hB.1.1 hB.1.2 hB.2 hQ (.inl ⟨hw, hy⟩) h
theorem any_ready (rs : List Nat) (hr : Region.ready md l.toArray listed = rs) (hne : rs ≠ []) (h : AllReady P md l.toArray Q fuel listed a w rs) : wpAny P md l.toArray Q (fuel + 1) listed a w := wpAny_ready hr hne h
theorem any_cons {o : Oper} {i : Nat} {rs : List Nat} (ho : l[i]? = some o)
  (h : if Region.wanted o (yielded l.toArray a.tmps) = true then Oper.wp P o a w (wpAny P md l.toArray Q fuel (listed.setIfInBounds i true)) Q else wpAny P md l.toArray Q fuel (listed.setIfInBounds i true) (a.put o.dst undef) w)
  (hs : AllReady P md l.toArray Q fuel listed a w rs) : AllReady P md l.toArray Q fuel listed a w (i :: rs) :=
 AllReady.cons (by simpa using ho) (fun K' hK => by
  split at h
  ·rename_i hw; rw [if_pos hw]; exact Oper.wp_mono hK h
  ·rename_i hw; rw [if_neg hw]; exact hK _ _ h) hs
theorem any_end (hr : Region.ready md l.toArray listed = []) (h : Q .normal a w) : wpAny P md l.toArray Q fuel listed a w := by
 cases fuel with
 | zero => exact ⟨hr, h⟩
 | succ n => exact ⟨fun _ => h, by rw [hr]; intro i hi; cases hi⟩
/-! .. while S holds -/
theorem held_take {o : Oper} (i : Nat) (v : Value) (ho : l[i]? = some o) (hB : takeB md l listed i = true) (hQ : ∀ c a w, Q (.panic c) (a.put o.dst v) w → Q (.panic c) a w) (hw : Region.wanted o (yielded l.toArray a.tmps) = true)
  (hy : ∀ w, S w → (execOp a.eval o).run P w = .ok (.value v) w) (hS : S w) (h : wpAnyH P md l.toArray Q S fuel (listed.setIfInBounds i true) (a.put o.dst v) w) : wpAnyH P md l.toArray Q S (fuel + 1) listed a w := by
 simp only [takeB, Bool.and_eq_true] at hB
 exact wpAnyH_take (by simpa using ho) hB.1.1 hB.1.2 hB.2 hQ (.inl ⟨hw, hy⟩) hS h
theorem held_ready (rs : List Nat) (hr : Region.ready md l.toArray listed = rs) (hne : rs ≠ []) (h : AllReadyH P md l.toArray Q S fuel listed a w rs) : wpAnyH P md l.toArray Q S (fuel + 1) listed a w := wpAnyH_ready hr hne h
theorem held_cons {o : Oper} {i : Nat} {rs : List Nat} (ho : l[i]? = some o)
  (h : if Region.wanted o (yielded l.toArray a.tmps) = true then Oper.wp P o a w (fun a' w' => S w' ∧ wpAnyH P md l.toArray Q S fuel (listed.setIfInBounds i true) a' w') Q else S w ∧ wpAnyH P md l.toArray Q S fuel (listed.setIfInBounds i true) (a.put o.dst undef) w)
  (hs : AllReadyH P md l.toArray Q S fuel listed a w rs) : AllReadyH P md l.toArray Q S fuel listed a w (i :: rs) :=
 AllReadyH.cons (by simpa using ho) (fun K' hK => by
  split at h
  ·rename_i hw; rw [if_pos hw]; exact Oper.wp_mono (fun a w h => hK.out a w h.1 fun _ => h.2) h
  ·rename_i hw; rw [if_neg hw]; exact hK.out _ _ h.1 fun _ => h.2) hs
theorem held_end (hr : Region.ready md l.toArray listed = []) (h : Q .normal a w) : wpAnyH P md l.toArray Q S fuel listed a w := by
 cases fuel with
 | zero => exact ⟨hr, h⟩
 | succ n => exact ⟨fun _ => h, by rw [hr]; intro i hi; cases hi⟩
theorem any_one {o : Oper} (i : Nat) (ho : l[i]? = some o) (hr : Region.ready md l.toArray listed = [i])
  (h : if Region.wanted o (yielded l.toArray a.tmps) = true then Oper.wp P o a w (wpAny P md l.toArray Q fuel (listed.setIfInBounds i true)) Q else wpAny P md l.toArray Q fuel (listed.setIfInBounds i true) (a.put o.dst undef) w) : wpAny P md l.toArray Q (fuel + 1) listed a w :=
 any_ready [i] hr (by simp) (any_cons ho h AllReady.nil)
theorem held_one {o : Oper} (i : Nat) (ho : l[i]? = some o) (hr : Region.ready md l.toArray listed = [i])
  (h : if Region.wanted o (yielded l.toArray a.tmps) = true then Oper.wp P o a w (fun a' w' => S w' ∧ wpAnyH P md l.toArray Q S fuel (listed.setIfInBounds i true) a' w') Q else S w ∧ wpAnyH P md l.toArray Q S fuel (listed.setIfInBounds i true) (a.put o.dst undef) w) : wpAnyH P md l.toArray Q S (fuel + 1) listed a w :=
 held_ready [i] hr (by simp) (held_cons ho h AllReadyH.nil)
end
section
variable {ops : Array Oper} {o : Oper} {a : Act} {w : World} {Q : Exit → Act → World → Prop} {K : Act → World → Prop} {F : Prop}
theorem step_call (hg : o.guard = none) (f : FuncId) (xs : Array Operand) (ts : Array TypeId) (ho : o.op = .call { callee := .value (.func f), args := xs, argTypes := ts }) (vs : Array Value) (hv : xs.map a.eval = vs)
  (he : ∀ w, (callFunc f vs).run P w = .ok (.enter f vs) w) (h : Calls P f vs w fun e w' => ∃ v, e = .returned v ∧ K (a.put o.dst v) w') : if Region.wanted o (yielded ops a.tmps) = true then o.wp P a w K Q else F := by
 rw [if_pos (by simp [Region.wanted, hg])]
 unfold Oper.wp
 have : (execOp a.eval o).run P w = .ok (.enter f vs) w := by
  subst hv
  have hf : a.eval (Operand.func f) = .func (.func f) #[] #[] := rfl
  simp [execOp, ho, resolve, invoke, hf, Deferred.ofValue, he]
 rw [this, Oper.upon_enter]
 refine h.mono ?_
 rintro e w' ⟨v, rfl, hk⟩
 exact hk
theorem step_load (hg : o.guard = none) (ty : TypeId) (x : Operand) (ho : o.op = .load ty x) (p v : Value) (hx : a.eval x = p) (hrun : (Instr.loadAt ty p).run P w = .ok v w) (h : K (a.put o.dst v) w) : if Region.wanted o (yielded ops a.tmps) = true then o.wp P a w K Q else F :=
 step_val hg (by simp [execOp, ho, hx, hrun]) h
end
end Go.Agg
/-! Maps that a call makes, over any program and any key: what a map's block holds, its look-up and its store. -/
namespace Go.Mp
open Go.RowKit Go.Instr
section
variable {P : Program} {α β : Type} [DecidableEq α]
def MapIs (w : World) (b : Nat) (κ : α → Value) (ν : β → Value) (m : List (α × β)) : Prop :=
 ∃ es clock, w.heap[b]? = some (.map es clock) ∧ es.toList.map (fun e => (e.key, e.val)) = m.map (fun p => (κ p.1, ν p.2))
structure KeyEq (P : Program) (K : TypeId) (κ : α → Value) : Prop where
 check : ∀ empty a w, (checkKey empty 10000 K (κ a)).run P w = .ok () w
 desc : ∃ d, P.underlying K = some d ∧ ((∀ a b, sameNow d (κ a) (κ b) = some (decide (a = b))) ∨ ((∀ a b, sameNow d (κ a) (κ b) = none) ∧ ∀ a b w, (Op.equal K (κ a) (κ b)).run P w = .ok (decide (a = b)) w))
 bits : ∀ a, sameBits 10000 (κ a) (κ a) = true
def mget (m : List (α × β)) (a : α) : Option β := (m.find? (fun p => decide (a = p.1))).map (·.2)
def mput (m : List (α × β)) (a : α) (v : β) : List (α × β) := match m with
 | [] => [(a, v)]
 | p :: r => if a = p.1 then (a, v) :: r else p :: mput r a v
theorem mget_mput (m : List (α × β)) (a c : α) (v : β) : mget (mput m a v) c = if c = a then some v else mget m c := by
 induction m with
 | nil => by_cases h : c = a <;> simp [mput, mget, h]
 | cons p r ih =>
  unfold mput
  by_cases h : a = p.1
  ·rw [if_pos h]
   by_cases h2 : c = a
   ·simp [mget, h2]
   ·have : ¬ c = p.1 := fun e => h2 (e.trans h.symm)
    simp [mget, h2, this]
  ·rw [if_neg h]
   by_cases h2 : c = p.1
   ·have h3 : ¬ c = a := fun e => h (e.symm.trans h2)
    have h4 : ¬ p.1 = a := fun e => h e.symm
    simp [mget, h2, h4]
   ·simp only [mget, List.find?_cons, h2, decide_false] at ih ⊢
    exact ih
def pairs (es : List MapEntry) : List (Value × Value) := es.map (fun e => (e.key, e.val))
def place (m : List (α × β)) (a : α) (i : Nat) : Option (Nat × β) := match m with
 | [] => none
 | p :: r => if a = p.1 then some (i, p.2) else place r a (i + 1)
theorem findNow_eq {d : TypeDesc} {κ : α → Value} {ν : β → Value} (h : ∀ a b, sameNow d (κ a) (κ b) = some (decide (a = b))) (a : α) :
  ∀ (m : List (α × β)) (es : List MapEntry) (i : Nat), es.map (fun e => (e.key, e.val)) = m.map (fun p => (κ p.1, ν p.2)) →
   findNow d (κ a) es i = some ((place m a i).map fun x => (x.1, ν x.2))
 | [], [], i, _ => rfl
 | [], e :: es, i, he => by simp at he
 | p :: m, [], i, he => by simp at he
 | p :: m, e :: es, i, he => by
  simp only [List.map_cons, List.cons.injEq, Prod.mk.injEq] at he
  obtain ⟨⟨hk, hv⟩, hr⟩ := he
  unfold findNow place
  rw [hk, h a p.1]
  by_cases e' : a = p.1
  ·simp [e', hv]
  ·simp only [e', decide_false, if_false]
   exact findNow_eq h a m es (i + 1) hr
theorem findAsking_eq {K : TypeId} {κ : α → Value} {ν : β → Value} (h : ∀ a b w, (Op.equal K (κ a) (κ b)).run P w = .ok (decide (a = b)) w) (a : α) :
  ∀ (m : List (α × β)) (es : List MapEntry) (i : Nat) (w : World), es.map (fun e => (e.key, e.val)) = m.map (fun p => (κ p.1, ν p.2)) →
   (findAsking K (κ a) es i).run P w = .ok ((place m a i).map fun x => (x.1, ν x.2)) w
 | [], [], i, w, _ => rfl
 | [], e :: es, i, w, he => by simp at he
 | p :: m, [], i, w, he => by simp at he
 | p :: m, e :: es, i, w, he => by
  simp only [List.map_cons, List.cons.injEq, Prod.mk.injEq] at he
  obtain ⟨⟨hk, hv⟩, hr⟩ := he
  unfold findAsking place
  rw [Sem.run_bind, hk, h a p.1 w]
  by_cases e' : a = p.1
  ·simp [e', hv, Result.andThen, Sem.run_pure]
  ·simp only [e', decide_false, if_false, Result.andThen, Bool.false_eq_true]
   exact findAsking_eq h a m es (i + 1) w hr
theorem findKey_eq {K : TypeId} {κ : α → Value} {ν : β → Value} (hK : KeyEq P K κ) (a : α) (m : List (α × β)) (es : List MapEntry) (w : World) (he : es.map (fun e => (e.key, e.val)) = m.map (fun p => (κ p.1, ν p.2))) :
  (findKey K (κ a) es).run P w = .ok ((place m a 0).map fun x => (x.1, ν x.2)) w := by
 obtain ⟨d, hd, h⟩ := hK.desc
 unfold findKey
 rw [Sem.run_bind, run_underlying hd w]
 simp only [Result.andThen]
 rcases h with h | ⟨h1, h2⟩
 ·rw [findNow_eq h a m es 0 he]
  rfl
 ·cases hn : findNow d (κ a) es 0 with
  | none => exact findAsking_eq h2 a m es 0 w he
  | some r =>
   -- only where there is no entry
   cases es with
   | nil => cases m with
    | nil => simp [findNow] at hn; subst hn; rfl
    | cons p m => simp at he
   | cons e es => cases m with
    | nil => simp at he
    | cons p m =>
     simp only [List.map_cons, List.cons.injEq, Prod.mk.injEq] at he
     simp [findNow, he.1.1, h1 a p.1] at hn
theorem place_get (m : List (α × β)) (a : α) (i : Nat) : (place m a i).map (·.2) = mget m a := by
 induction m generalizing i with
 | nil => rfl
 | cons p r ih =>
  unfold place
  by_cases e : a = p.1
  ·simp [mget, e]
  ·rw [if_neg e, ih]; simp [mget, e]
def setMap (w : World) (b : Nat) (es : Array MapEntry) (c : Nat) : World := { w with heap := w.heap.setIfInBounds b (.map es c) }
theorem setMap_same {w : World} {b : Nat} {es : Array MapEntry} {c : Nat} (h : b < w.heap.size) : (setMap w b es c).heap[b]? = some (.map es c) := by simp [setMap, h]
theorem setMap_other {w : World} {b k : Nat} {es : Array MapEntry} {c : Nat} (h : k ≠ b) : (setMap w b es c).heap[k]? = w.heap[k]? := by simp [setMap, Ne.symm h]
theorem setMap_size {w : World} {b : Nat} {es : Array MapEntry} {c : Nat} : (setMap w b es c).heap.size = w.heap.size := by simp [setMap]
theorem below_setMap {B b : Nat} {a w : World} {es : Array MapEntry} {c : Nat} (h : Below B a w) (hb : B ≤ b) : Below B a (setMap w b es c) :=
 h.trans ⟨rfl, rfl, rfl, by rw [setMap_size]; exact Nat.le_refl _, fun k hk => setMap_other (by omega)⟩
def ButMap (b : Nat) (w w' : World) : Prop := ∃ es c, w' = setMap w b es c
theorem ButMap.other {b k : Nat} {w w' : World} (h : ButMap b w w') (hk : k ≠ b) : w'.heap[k]? = w.heap[k]? := by obtain ⟨es, c, rfl⟩ := h; exact setMap_other hk
theorem ButMap.size {b : Nat} {w w' : World} (h : ButMap b w w') : w'.heap.size = w.heap.size := by obtain ⟨es, c, rfl⟩ := h; exact setMap_size
theorem ButMap.below {B b : Nat} {a w w' : World} (h : ButMap b w w') (hw : Below B a w) (hb : B ≤ b) : Below B a w' := by obtain ⟨es, c, rfl⟩ := h; exact below_setMap hw hb
omit [DecidableEq α] in
theorem MapIs.empty (w : World) (κ : α → Value) (ν : β → Value) : MapIs (w.alloc (.map #[] 0)) w.heap.size κ ν [] := ⟨#[], 0, heap_alloc_new _ _, rfl⟩
omit [DecidableEq α] in
theorem MapIs.keep {w w' : World} {b : Nat} {κ : α → Value} {ν : β → Value} {m : List (α × β)} (h : MapIs w b κ ν m) (hk : w'.heap[b]? = w.heap[b]?) : MapIs w' b κ ν m := by
 obtain ⟨es, c, hb, he⟩ := h
 exact ⟨es, c, hk.trans hb, he⟩
omit [DecidableEq α] in
theorem MapIs.lt {w : World} {b : Nat} {κ : α → Value} {ν : β → Value} {m : List (α × β)} (h : MapIs w b κ ν m) : b < w.heap.size := by
 obtain ⟨es, c, hb, _⟩ := h; exact Agg.heap_lt hb
theorem run_lookup_ok {t K E : TypeId} {w : World} {b : Nat} {κ : α → Value} {ν : β → Value} {m : List (α × β)} {z : Value} (ht : P.underlying t = some (.map K E)) (hK : KeyEq P K κ) (hz : ∀ w, (zeroValue E).run P w = .ok z w)
  (h : MapIs w b κ ν m) (a : α) :
  (lookup t (.map (some b)) (κ a) true).run P w = .ok (.tuple #[(match mget m a with | some v => ν v | none => z), .bool (mget m a).isSome]) w := by
 obtain ⟨es, c, hb, he⟩ := h
 unfold lookup
 rw [Sem.run_bind, run_underlying ht w]
 simp only [Result.andThen, Sem.run_bind, getObj, Sem.run, hb, Sem.run_pure, hK.check, findKey_eq hK a m es.toList w he]
 have hg := place_get m a 0
 cases hp : place m a 0 with
 | none =>
  rw [hp] at hg
  simp [← hg, hz, Result.andThen]
 | some x =>
  rw [hp] at hg
  simp [← hg]
theorem place_mput (m : List (α × β)) (a : α) (v : β) (κ : α → Value) (ν : β → Value) : ∀ (es : List MapEntry) (i : Nat), es.map (fun e => (e.key, e.val)) = m.map (fun p => (κ p.1, ν p.2)) →
  (∀ j x, place m a i = some (j, x) → i ≤ j ∧ ∃ e, es[j - i]? = some e ∧ e.key = κ a ∧ (es.modify (j - i) (fun e => { e with key := κ a, val := ν v })).map (fun e => (e.key, e.val)) = (mput m a v).map (fun p => (κ p.1, ν p.2))) ∧
  (place m a i = none → (mput m a v) = m ++ [(a, v)]) := by
 induction m with
 | nil => intro es i he; exact ⟨fun j x h => by simp [place] at h, fun _ => rfl⟩
 | cons p r ih =>
  intro es i he
  cases es with
  | nil => simp at he
  | cons e es =>
   simp only [List.map_cons, List.cons.injEq, Prod.mk.injEq] at he
   obtain ⟨⟨hk, hv⟩, hr⟩ := he
   obtain ⟨h1, h2⟩ := ih es (i + 1) hr
   unfold place mput
   by_cases e' : a = p.1
   ·simp only [e', if_true]
    refine ⟨fun j x h => ?_, fun h => by simp at h⟩
    simp only [Option.some.injEq, Prod.mk.injEq] at h
    obtain ⟨rfl, rfl⟩ := h
    exact ⟨Nat.le_refl _, e, by simp, by rw [hk], by simp [hr]⟩
   ·simp only [e', if_false]
    refine ⟨fun j x h => ?_, fun h => by rw [h2 h]; rfl⟩
    obtain ⟨hle, e2, h3, h4, h5⟩ := h1 j x h
    refine ⟨by omega, e2, ?_, h4, ?_⟩
    ·rw [show j - i = (j - (i + 1)) + 1 by omega]; exact h3
    ·rw [show j - i = (j - (i + 1)) + 1 by omega]; simp [hk, hv, h5]
theorem run_mapUpdate {t K E : TypeId} {w : World} {b : Nat} {κ : α → Value} {ν : β → Value} {m : List (α × β)} (ht : P.underlying t = some (.map K E)) (hK : KeyEq P K κ)
  (h : MapIs w b κ ν m) (a : α) (v : β) :
  ∃ w', (mapUpdate t (.map (some b)) (κ a) (ν v)).run P w = .ok () w' ∧ MapIs w' b κ ν (mput m a v) ∧ ButMap b w w' := by
 obtain ⟨es, c, hb, he⟩ := h
 have hlt := Agg.heap_lt hb
 obtain ⟨h1, h2⟩ := place_mput m a v κ ν es.toList 0 he
 cases hp : place m a 0 with
 | none =>
  refine ⟨setMap w b (es.push { key := κ a, val := ν v, born := c }) (c + 1), ?_, ⟨_, _, setMap_same hlt, ?_⟩, _, _, rfl⟩
  ·unfold mapUpdate
   rw [Sem.run_bind, run_underlying ht w]
   simp only [Result.andThen, Sem.run_bind, getObj, Sem.run, hb, hK.check, findKey_eq hK a m es.toList w he, hp]
   simp [setObj, Sem.run, hb, setMap]
  ·rw [h2 hp]; simp [he]
 | some x =>
  obtain ⟨_, e, h3, h4, h5⟩ := h1 x.1 x.2 hp
  simp only [Nat.sub_zero] at h3 h5
  refine ⟨setMap w b (es.modify x.1 fun e => { e with key := κ a, val := ν v }) c, ?_, ⟨_, _, setMap_same hlt, ?_⟩, _, _, rfl⟩
  ·unfold mapUpdate
   rw [Sem.run_bind, run_underlying ht w]
   simp only [Result.andThen, Sem.run_bind, getObj, Sem.run, hb, hK.check, findKey_eq hK a m es.toList w he, hp]
   have h3' : es[x.1]? = some e := by simpa using h3
   simp [setObj, Sem.run, hb, setMap, h3', h4, keyThatStays, hK.bits]
  ·rw [Array.toList_modify]; exact h5
/-! At a list of operations. -/
variable {ops : Array Oper} {rest : List Oper} {o : Oper} {a : Act} {w : World} {Q : Exit → Act → World → Prop}
theorem wpList_lookup_ok (hg : o.guard = none) (mo xo : Operand) (t K E : TypeId) (hop : o.op = Op.lookup t mo xo true) (ht : P.underlying t = some (.map K E)) {κ : α → Value} {ν : β → Value} {z : Value}
  (hK : KeyEq P K κ) (hz : ∀ w, (zeroValue E).run P w = .ok z w) {b : Nat} {m : List (α × β)} (hm : a.eval mo = .map (some b)) (h : MapIs w b κ ν m) (x : α) (hx : a.eval xo = κ x)
  (hk : wpList P ops Q rest (a.put o.dst (.tuple #[(match mget m x with | some v => ν v | none => z), .bool (mget m x).isSome])) w) : wpList P ops Q (o :: rest) a w := by
 refine wpList_plain hg fun K' hK' => ?_
 unfold Oper.wp
 simp [execOp, hop, hm, hx, run_lookup_ok ht hK hz h x, Result.andThen]
 exact hK' _ _ hk
theorem wpList_lookup_hit (hg : o.guard = none) (mo xo : Operand) (t K E : TypeId) (hop : o.op = Op.lookup t mo xo true) (ht : P.underlying t = some (.map K E)) {κ : α → Value} {ν : β → Value} {z : Value}
  (hK : KeyEq P K κ) (hz : ∀ w, (zeroValue E).run P w = .ok z w) {b : Nat} {m : List (α × β)} (hm : a.eval mo = .map (some b)) (h : MapIs w b κ ν m) (x : α) (hx : a.eval xo = κ x) (v : β) (hv : mget m x = some v)
  (hk : wpList P ops Q rest (a.put o.dst (.tuple #[ν v, .bool true])) w) : wpList P ops Q (o :: rest) a w :=
 wpList_lookup_ok hg mo xo t K E hop ht hK hz hm h x hx (by rw [hv]; exact hk)
theorem wpList_lookup_miss (hg : o.guard = none) (mo xo : Operand) (t K E : TypeId) (hop : o.op = Op.lookup t mo xo true) (ht : P.underlying t = some (.map K E)) {κ : α → Value} {ν : β → Value} {z : Value}
  (hK : KeyEq P K κ) (hz : ∀ w, (zeroValue E).run P w = .ok z w) {b : Nat} {m : List (α × β)} (hm : a.eval mo = .map (some b)) (h : MapIs w b κ ν m) (x : α) (hx : a.eval xo = κ x) (hv : mget m x = none)
  (hk : wpList P ops Q rest (a.put o.dst (.tuple #[z, .bool false])) w) : wpList P ops Q (o :: rest) a w :=
 wpList_lookup_ok hg mo xo t K E hop ht hK hz hm h x hx (by rw [hv]; exact hk)
theorem wpList_mapUpdate (hg : o.guard = none) (hd : o.dst = none) (mo xo vo : Operand) (t K E : TypeId) (hop : o.op = Op.mapUpdate t mo xo vo) (ht : P.underlying t = some (.map K E)) {κ : α → Value} {ν : β → Value}
  (hK : KeyEq P K κ) {b : Nat} {m : List (α × β)} (hm : a.eval mo = .map (some b)) (h : MapIs w b κ ν m) (x : α) (hx : a.eval xo = κ x) (v : β) (hv : a.eval vo = ν v)
  (hk : ∀ w', MapIs w' b κ ν (mput m x v) → ButMap b w w' → wpList P ops Q rest a w') : wpList P ops Q (o :: rest) a w := by
 refine wpList_plain hg fun K' hK' => ?_
 obtain ⟨w', hr, h1, h2⟩ := run_mapUpdate ht hK h x v
 unfold Oper.wp
 simp [execOp, hop, hm, hx, hv, hr, Result.andThen]
 rw [Oper.upon_skip, hd]
 exact hK' _ _ (hk w' h1 h2)
theorem int_key {K : TypeId} {k : IntKind} (h : P.underlying K = some (.int k)) : KeyEq P K (fun n : Int => .int k n) where
 check := fun empty a w => by
  unfold checkKey
  rw [Sem.run_bind, run_underlying h w]
  simp [Result.andThen]
 desc := ⟨_, h, .inl fun a b => by simp [sameNow]; rw [Bool.eq_iff_iff]; simp⟩
 bits := fun a => by simp [sameBits]
end
end Go.Mp
/-! (of general use) base.values and base.Hash: the hash of letters. -/
namespace Go.Proofs.YtfiadgdinhmgbaaGreatDoor
open Go.RowKit Pl Go.Mp
theorem nextAt_low (w : World) (b : Nat) (s : List UInt8) (k : Nat) (ty : TypeId) (hb : w.heap[b]? = some (.stringIter ⟨s.toArray⟩ k)) (hk : k < s.length) (ha : s[k].toNat < 128) :
  (Instr.next (.pointer (some ⟨b, 0, none⟩)) true ty).run Tryz.prog w = .ok (.tuple #[.bool true, .int .i64 (k : Int), .int .i32 (s[k].toNat : Int)]) (w.iterAt b ⟨s.toArray⟩ (k + 1)) := by
 have hs : k < (⟨s.toArray⟩ : ByteArray).size := by rw [Agg.bytes_size]; exact hk
 have he : (⟨s.toArray⟩ : ByteArray)[k]'hs = s[k] := by simp [ByteArray.getElem_eq_getElem_data]
 have := Lib.run_next_ascii_at (P := Tryz.prog) w b ⟨s.toArray⟩ k ty hb hs (by rw [he]; exact ha)
 rw [he] at this
 exact this
theorem nextAt_high (w : World) (b : Nat) (s : List UInt8) (k : Nat) (ty : TypeId) (hb : w.heap[b]? = some (.stringIter ⟨s.toArray⟩ k)) (hk : k < s.length) (ha : 128 ≤ s[k].toNat) :
  ∃ (r : Int) (k' : Nat), 128 ≤ r ∧ r ≤ 2147483647 ∧ k < k' ∧ (Instr.next (.pointer (some ⟨b, 0, none⟩)) true ty).run Tryz.prog w = .ok (.tuple #[.bool true, .int .i64 (k : Int), .int .i32 r]) (w.iterAt b ⟨s.toArray⟩ k') := by
 have hs : k < (⟨s.toArray⟩ : ByteArray).size := by rw [Agg.bytes_size]; exact hk
 have he : (⟨s.toArray⟩ : ByteArray)[k]'hs = s[k] := by simp [ByteArray.getElem_eq_getElem_data]
 obtain ⟨h1, h2⟩ := decode_high ⟨s.toArray⟩ k hs (by rw [he]; exact ha)
 have h3 := decode_le ⟨s.toArray⟩ k
 exact ⟨_, _, by omega, by omega, by omega, Lib.run_next_any_at (P := Tryz.prog) w b ⟨s.toArray⟩ k ty hb hs⟩
theorem nextAt_end (w : World) (b : Nat) (s : List UInt8) (ty : TypeId) (hb : w.heap[b]? = some (.stringIter ⟨s.toArray⟩ s.length)) :
  (Instr.next (.pointer (some ⟨b, 0, none⟩)) true ty).run Tryz.prog w = .ok (.tuple #[.bool false]) w :=
 Lib.run_next_end_at (P := Tryz.prog) w b ⟨s.toArray⟩ s.length ty hb (by rw [Agg.bytes_size]; omega)
def rK (n : Int) : Value := .int .i32 n
def nV (n : Nat) : Value := .int .u32 (n : Int)
def vals (k : Nat) : List (Int × Nat) := (List.range k).map fun i => (((letter i).toNat : Int), i)
theorem vals_step : ∀ k, k < 32 → mput (vals k) ((letter k).toNat : Int) k = vals (k + 1) := by decide +kernel
theorem vals_get : ∀ n : Nat, n < 256 → mget (vals 32) (n : Int) = val (UInt8.ofNat n) := by decide +kernel
theorem vals_high (r : Int) (h : 128 ≤ r) : mget (vals 32) r = none := by
 have hk : ∀ p ∈ vals 32, p.1 < 128 := by decide +kernel
 simp only [mget, Option.map_eq_none_iff, List.find?_eq_none, decide_eq_true_eq]
 intro p hp e
 have := hk p hp
 omega
theorem keyR : KeyEq Tryz.prog 21 rK := int_key Tryz.underlying21
def z20 : List UInt8 := List.replicate 20 0
theorem z20_zero : (Tryz.prog.info? 163).map (·.zero) = some (some (.agg (hC z20))) := by kernel_rfl
theorem z20_length : z20.length = 20 := rfl
theorem hC_info (h : List UInt8) (hl : h.length = 20) : (Tryz.prog.info? 163).map (·.size) = some (hC h).size := by rw [hC_size, hl]; kernel_rfl
theorem hC_one (h : List UInt8) : (hC h).all (·.oneCell') = true := by simp [hC, Lib.byteCells, Value.oneCell']
def hashH (s : List UInt8) : List UInt8 := (Pl.hash s).getD z20
def hashE (s : List UInt8) : Int := if (Pl.hash s).isSome then 0 else 4
theorem val_low {c : UInt8} {n : Nat} (h : val c = some n) : c.toNat < 128 := by
 have h1 : ∀ n, n < 32 → (letter n).toNat < 128 := by decide
 have := h1 n (val_lt h)
 rwa [letter_val h] at this
theorem mapM_take {s : List UInt8} (k : Nat) (hk : k < s.length) {l : List Nat} {n : Nat} (hl : (s.take k).mapM val = some l) (hn : val s[k] = some n) : (s.take (k + 1)).mapM val = some (l ++ [n]) := by
 rw [List.take_succ_eq_append_getElem hk, List.mapM_append, hl]
 simp [hn]
theorem mapM_none {s : List UInt8} (k : Nat) (hk : k < s.length) (hn : val s[k] = none) : s.mapM val = none := by
 have : s = s.take k ++ s[k] :: s.drop (k + 1) := by simp
 rw [this, List.mapM_append, List.mapM_cons]
 simp [hn]
theorem zero99 (w : World) : (zeroValue 156).run Tryz.prog w = .ok (.int .u32 0) w := by kernel_rfl
theorem hC_get (h : List UInt8) (i : Nat) (hi : i < h.length) : (hC h)[i]? = some (.int .u8 (h[i].toNat : Int)) := by simp [hC, Lib.byteCells, hi]
theorem hC_set (h : List UInt8) (i : Nat) (c : UInt8) : (hC h).setIfInBounds i (.int .u8 (c.toNat : Int)) = hC (h.set i c) := by
 apply Array.ext'
 simp [hC, Lib.byteCells, List.map_set]
theorem build_zero (w : World) : (Instr.build 163 #[]).run Tryz.prog w = .ok (.agg (hC z20)) w := by kernel_rfl
theorem or_disjoint8 (a x m : Nat) (ha : a < 2 ^ m) (hx : x < 32) (hm : m < 8) : bits .or .u32 (a : Int) ((x : Int) * 2 ^ m % 4294967296) = ((a + 2 ^ m * x : Nat) : Int) := by
 have h5 : 2 ^ m ≤ 2 ^ 7 := Nat.pow_le_pow_right (by omega) (by omega)
 have hp : 2 ^ m * x ≤ 2 ^ 7 * 31 := Nat.mul_le_mul h5 (by omega)
 have e : ((x : Int) * 2 ^ m % 4294967296) = ((2 ^ m * x : Nat) : Int) := by
  have : (x : Int) * 2 ^ m = ((2 ^ m * x : Nat) : Int) := by push_cast; exact Int.mul_comm _ _
  rw [this, Int.emod_eq_of_lt (by omega) (by omega)]
 rw [e, u32_or_nat _ _ (by omega) (by omega), Nat.or_comm, ← Nat.two_pow_add_eq_or_of_lt ha, Nat.add_comm]
def HashIs (B M I : Nat) (s : List UInt8) (k : Nat) (l : List Nat) (w0 wr : World) : Prop :=
 k ≤ 32 ∧ (s.take k).mapM val = some l ∧ wr.heap[I]? = some (.stringIter ⟨s.toArray⟩ k) ∧ MapIs wr M rK nV (vals 32) ∧ wr.heap[B]? = some (.cells (hC (hashTo (lnum l) k)) 163 (0, 0)) ∧ Below B w0 wr
end Go.Proofs.YtfiadgdinhmgbaaGreatDoor
/-! (of general use) Path: a path's text (base and spenceref03). -/
namespace Go.Proofs.YtfiadgdinhmgbaaGreatDoor
open Go.RowKit Pl Go.Mp Go.Agg
def pC (h n : List UInt8) : Array Value := hC h ++ #[.string ⟨n.toArray⟩]
theorem pC_size (h n : List UInt8) : (pC h n).size = h.length + 1 := by simp [pC, hC_size]
theorem pC_name (h n : List UInt8) (hl : h.length = 20) : (pC h n)[20]? = some (.string ⟨n.toArray⟩) := by
 rw [pC, Array.getElem?_append, if_neg (by rw [hC_size]; omega), hC_size, hl]; rfl
theorem pC_hash (h n : List UInt8) (j : Nat) (v : Value) (hv : (hC h)[j]? = some v) : (pC h n)[0 + j]? = some v := by
 have hlt : j < (hC h).size := (Array.getElem?_eq_some_iff.1 hv).1
 rw [Nat.zero_add, pC, Array.getElem?_append, if_pos hlt]; exact hv
theorem isName_le {n : List UInt8} (h : isName n = true) : n.length ≤ 24 := by
 simp only [isName, Bool.and_eq_true, decide_eq_true_eq] at h
 exact h.1.2
def pathS (h n : List UInt8) : List UInt8 := if isName n then letters h ++ 45 :: n else []
def pathE (n : List UInt8) : Int := if isName n then 0 else 2
theorem ret_pair {a b : ByteArray} {k : IntKind} {x y : Int} (h : a = b) (h2 : x = y) : Ending.returned (.tuple #[.string a, .int k x]) = .returned (.tuple #[.string b, .int k y]) := by rw [h, h2]
theorem text_eq (h n : List UInt8) (hn : isName n = true) : ({ data := (letters h).toArray } : ByteArray) ++ { data := #[45] } ++ { data := n.toArray } = ⟨(pathS h n).toArray⟩ := by
 have : ({ data := #[45] } : ByteArray) = ⟨[45].toArray⟩ := rfl
 rw [this, Agg.bytes_append, Agg.bytes_append, pathS, if_pos hn]
 simp
end Go.Proofs.YtfiadgdinhmgbaaGreatDoor
/-! (of general use) Parse: a text's path (base and spenceref03). -/
namespace Go.Agg
open Go.RowKit
section
variable {P : Program} {ops : Array Oper} {rest : List Oper} {o : Oper} {a : Act} {w : World} {Q : Exit → Act → World → Prop}
theorem wpList_set_sub (hg : o.guard = none) (hd : o.dst = none) (ty : TypeId) (x y : Operand) (ho : o.op = .store ty x y) (g off : Nat) (cells new : Array Value) (hx : a.eval x = .pointer (some ⟨g, off, none⟩)) (hy : a.eval y = .agg cells)
  (t : TypeId) (old : Array Value) (hb : w.heap[g]? = some (.cells old t (0, 0))) (hi : (P.info? ty).map (·.size) = some cells.size) (hle : off + cells.size ≤ old.size) (h1 : cells.all (·.oneCell') = true)
  (hnew : (old.toList.take off ++ cells.toList ++ old.toList.drop (off + cells.size)).toArray = new)
  (h : wpList P ops Q rest a (w.setRow g new)) : wpList P ops Q (o :: rest) a w := by
 refine wpList_skp hg hd ?_ h
 have hr := run_storeCells_at (P := P) g off t cells.toList 0 old w hb (by simp; omega) (fun v hv => (Array.all_eq_true_iff_forall_mem.1 h1) v (by simpa using hv))
 simp only [Nat.add_zero, Array.length_toList] at hr
 rw [hnew] at hr
 cases hq : P.info? ty with
 | none => simp [hq] at hi
 | some i =>
  have hs : cells.size = i.size := by simp [hq] at hi; omega
  simp [execOp, ho, hx, hy, Instr.storeAt, Instr.sureAddr, storeVar, sizeOf, typeInfo, hq, Value.cells, hs, hr]
end
end Go.Agg
namespace Go.Proofs.YtfiadgdinhmgbaaGreatDoor
open Go.RowKit Pl Go.Mp Go.Agg
def parseH (s : List UInt8) : List UInt8 := ((parse s).map (·.1)).getD z20
def parseN (s : List UInt8) : List UInt8 := ((parse s).map (·.2)).getD []
def parseE (s : List UInt8) : Int := if (parse s).isSome then 0 else 4
theorem pC_zero : (Tryz.prog.info? 165).map (·.zero) = some (some (.agg (pC z20 []))) := by kernel_rfl
theorem pC_info (h n : List UInt8) (hl : h.length = 20) : (Tryz.prog.info? 165).map (·.size) = some (pC h n).size := by rw [pC_size, hl]; kernel_rfl
theorem pC_one (h n : List UInt8) : (pC h n).all (·.oneCell') = true := by simp [pC, hC, Lib.byteCells, Value.oneCell']
theorem pC_under : Tryz.prog.underlying 165 = some (.struct (Tryz.prog.fieldsOf 165)) := by kernel_rfl
theorem sixteen (s : List UInt8) (hs : s.length < 4294967281) : (⟨s.toArray⟩ : ByteArray).size < 4294967281 := by rw [Agg.bytes_size]; exact hs
theorem pC_setHash (h h' n : List UInt8) (hl : h.length = 20) (hl' : h'.length = 20) : ((pC h n).toList.take 0 ++ (hC h').toList ++ (pC h n).toList.drop (0 + (hC h').size)).toArray = pC h' n := by
 apply Array.ext'
 simp [pC, hC, Lib.byteCells, hl, hl']
theorem pC_setName (h n n' : List UInt8) (hl : h.length = 20) : (pC h n).setIfInBounds 20 (.string ⟨n'.toArray⟩) = pC h n' := by
 apply Array.ext'
 simp [pC, hC, Lib.byteCells, hl]
theorem hashH_length (s : List UInt8) : (hashH s).length = 20 := by
 unfold hashH
 cases h : Pl.hash s with
 | none => rfl
 | some x => exact hash_length h
theorem cut_le (c : UInt8) (s : List UInt8) : (cut1 c s).2.1.length ≤ s.length := by
 induction s with
 | nil => simp [cut1]
 | cons b l ih => unfold cut1; split <;> simp <;> omega
end Go.Proofs.YtfiadgdinhmgbaaGreatDoor
/-! '==' of hashes and of paths. -/
namespace Go.Proofs.YtfiadgdinhmgbaaGreatDoor
open Go.RowKit Pl Go.Agg
set_option maxRecDepth 100000 in
theorem eqlIn_hash (d : Nat) (h h' : List UInt8) (hl : h.length = 20) (hl' : h'.length = 20) (w : World) : (Op.equalIn (d + 2) 163 (.agg (hC h)) (.agg (hC h'))).run Tryz.prog w = .ok (h == h') w :=
 run_equalIn_bytes w d 163 5 20 Tryz.underlying163 rfl (fun w => by kernel_rfl) h h' hl hl'
theorem eql_hash (h h' : List UInt8) (hl : h.length = 20) (hl' : h'.length = 20) (w : World) : (binOp .eql 163 (.agg (hC h)) (.agg (hC h'))).run Tryz.prog w = .ok (.bool (h == h')) w := by
 rw [run_eql_struct, eqlIn_hash 9998 h h' hl hl' w]; rfl
theorem path_fields : (Tryz.prog.fieldsOf 165).toList.map (fun f => (f.name, f.type, f.offset)) = [("Hash", 163, 0), ("Name", 9, 20)] := by kernel_rfl
theorem isAgg_hash (w : World) : (isAgg 163).run Tryz.prog w = .ok true w := by kernel_rfl
theorem isAgg_name (w : World) : (isAgg 9).run Tryz.prog w = .ok false w := by kernel_rfl
theorem size_hash (w : World) : (sizeOf 163).run Tryz.prog w = .ok 20 w := by kernel_rfl
theorem part_hash (h n : List UInt8) (hl : h.length = 20) (w : World) : (Go.part 163 (pC h n) 0).run Tryz.prog w = .ok (.agg (hC h)) w := by
 unfold Go.part
 simp only [Sem.run_bind, isAgg_hash, Result.andThen_ok, if_true, size_hash, Sem.run_pure]
 congr 2
 simp [pC, hC_size, hl]
theorem part_name (h n : List UInt8) (hl : h.length = 20) (w : World) : (Go.part 9 (pC h n) 20).run Tryz.prog w = .ok (.string ⟨n.toArray⟩) w := by
 unfold Go.part
 simp only [Sem.run_bind, isAgg_name, Result.andThen_ok, Bool.false_eq_true, if_false, pC_name h n hl, Sem.run_pure]
theorem eql_path (h n h' n' : List UInt8) (hl : h.length = 20) (hl' : h'.length = 20) (w : World) : (binOp .eql 165 (.agg (pC h n)) (.agg (pC h' n'))).run Tryz.prog w = .ok (.bool (h == h' && n == n')) w := by
 rw [run_eql_struct, run_equalIn_struct w 9999 165 _ _ pC_under (by kernel_rfl)]
 have hf := path_fields
 generalize (Tryz.prog.fieldsOf 165).toList = fs at hf ⊢
 cases fs with
 | nil => exact absurd hf (by simp)
 | cons f1 fs =>
 cases fs with
 | nil => exact absurd hf (by simp)
 | cons f2 fs =>
 cases fs with
 | cons f3 fs => exact absurd hf (by simp)
 | nil =>
  simp only [List.map_cons, List.map_nil, List.cons.injEq, Prod.mk.injEq, and_true] at hf
  obtain ⟨⟨a1, a2, a3⟩, b1, b2, b3⟩ := hf
  simp only [Op.eqFields, a1, a2, a3, b1, b2, b3, Sem.run_bind, Sem.run_ite, part_hash _ _ hl, part_hash _ _ hl', part_name _ _ hl, part_name _ _ hl', Result.andThen_ok, eqlIn_hash 9997 _ _ hl hl', run_equalIn_string w 9998 9 _ _ Tryz.underlying9, Agg.bytes_toList]
  cases h == h' <;> cases n == n' <;> simp
end Go.Proofs.YtfiadgdinhmgbaaGreatDoor
/-! Slices of paths: what they hold. -/
namespace Go.Proofs.YtfiadgdinhmgbaaGreatDoor
open Go.RowKit Pl Go.Agg
abbrev P20 : Type := { p : List UInt8 × List UInt8 // p.1.length = 20 }
instance : Inhabited P20 := ⟨⟨(z20, []), rfl⟩⟩
def pV (p : P20) : Value := .agg (pC p.1.1 p.1.2)
def cells20 (p : P20) : List Value := (pC p.1.1 p.1.2).toList
theorem cells20_length (p : P20) : (cells20 p).length = 21 := by simp [cells20, pC_size, p.2]
def flat (l : List P20) : List Value := l.flatMap cells20
theorem flat_length (l : List P20) : (flat l).length = l.length * 21 := by
 induction l with
 | nil => rfl
 | cons p l ih => simp only [flat, List.flatMap_cons, List.length_append, cells20_length, List.length_cons] at ih ⊢; omega
theorem flat_append (a b : List P20) : flat (a ++ b) = flat a ++ flat b := by simp [flat]
theorem flat_get : ∀ (l : List P20) (j : Nat) (p : P20) (i : Nat) (v : Value), l[j]? = some p → (pC p.1.1 p.1.2)[i]? = some v → (flat l)[j * 21 + i]? = some v
 | [], j, p, i, v, h, _ => by simp at h
 | q :: l, 0, p, i, v, h, hv => by
  obtain rfl : q = p := by simpa using h
  have hlt : i < (cells20 q).length := by rw [cells20_length]; have := (Array.getElem?_eq_some_iff.1 hv).1; rw [pC_size, q.2] at this; omega
  rw [flat, List.flatMap_cons, Nat.zero_mul, Nat.zero_add, List.getElem?_append_left hlt]
  simpa [cells20] using hv
 | q :: l, j + 1, p, i, v, h, hv => by
  have ih := flat_get l j p i v (by simpa using h) hv
  rw [flat, List.flatMap_cons, List.getElem?_append_right (by rw [cells20_length]; omega), cells20_length, show (j + 1) * 21 + i - 21 = j * 21 + i by omega]
  exact ih
theorem info_path : ∃ i, Tryz.prog.info? 165 = some i ∧ i.zero = some (.agg (pC z20 [])) ∧ i.size = 21 ∧ i.bytes = 40 := by
 have hz := pC_zero
 have hs : (Tryz.prog.info? 165).map (·.size) = some 21 := by kernel_rfl
 have hb : (Tryz.prog.info? 165).map (·.bytes) = some 40 := by kernel_rfl
 cases hi : Tryz.prog.info? 165 with
 | none => rw [hi] at hz; cases hz
 | some i =>
  rw [hi] at hz hs hb
  exact ⟨i, rfl, Option.some.inj hz, Option.some.inj hs, Option.some.inj hb⟩
theorem cells20_one (p : P20) (v : Value) (hv : v ∈ cells20 p) : v.oneCell' = true := by
 have h := pC_one p.1.1 p.1.2
 rw [Array.all_eq_true_iff_forall_mem] at h
 exact h v (by simpa [cells20] using hv)
def E20 : Elem Tryz.prog P20 where
 ty := 165
 st := 161
 n := 21
 bytes := 40
 val := pV
 zero := .agg (pC z20 [])
 pos := by omega
 small := by omega
 size := fun p => by simp [pV, Value.cells, pC_size, p.2]
 one := fun p v hv => cells20_one p v hv
 zsize := by simp [Value.cells, pC_size, z20_length]
 slice := by kernel_rfl
 info := info_path
 load := fun w a p hp h => LoadsL.of_cells hp h pC_under rfl (pC_info _ _ p.2)
abbrev ElemsAt (w : World) (v : Value) (l : List P20) : Prop := SliceOf E20 w v l
theorem flat20 (l : List P20) : E20.flat l = flat l := rfl
theorem elems_len {w : World} {v : Value} {l : List P20} (h : ElemsAt w v l) (W : World) : (Builtin.len_ #[161] 3 #[v]).run Tryz.prog W = .ok (.int .i64 (l.length : Int)) W := h.len W
theorem elem_at {w : World} {v : Value} {l : List P20} (h : ElemsAt w v l) (k : Nat) (x : P20) (hx : l[k]? = some x) :
  ∃ p : Addr, (∀ W, (Instr.indexAt 161 v (.int .i64 (k : Int))).run Tryz.prog W = .ok (.pointer (some p)) W) ∧ LoadsL Tryz.prog w 165 (some p) (.agg (pC x.1.1 x.1.2)) ∧ LoadsL Tryz.prog w 9 (some (p.add 20)) (.string ⟨x.1.2.toArray⟩) := by
 obtain ⟨p, h1, h2, h3, h4⟩ := h.at_ k x hx
 exact ⟨p, h1, h4, LoadsL.of_cell (h3 20 _ (pC_name _ _ x.2)) Tryz.underlying9 rfl⟩
end Go.Proofs.YtfiadgdinhmgbaaGreatDoor
/-! Hashes of twenty bytes. -/
namespace Go.Proofs.YtfiadgdinhmgbaaGreatDoor
open Go.RowKit Pl Go.Agg
abbrev H20 : Type := { h : List UInt8 // h.length = 20 }
instance : Inhabited H20 := ⟨⟨z20, rfl⟩⟩
instance : DecidableEq P20 := inferInstance
instance : DecidableEq H20 := inferInstance
end Go.Proofs.YtfiadgdinhmgbaaGreatDoor
/-! (of general use) base.order, base.Less, spenceref03.Less: how two paths stand. -/
namespace Go.Proofs.YtfiadgdinhmgbaaGreatDoor
open Go.RowKit Pl Go.Agg
open Go.Lib (compareBytes)
def cmpP (h n h' n' : List UInt8) : Int := if h == h' then compareBytes n n' else compareBytes h h'
theorem run_compareBytes (w : World) (a b : List UInt8) (g off g' off' c c' : Nat) (ha : ∀ j x, a[j]? = some x → w.cell? ⟨g, off + j, none⟩ = some (.int .u8 (x.toNat : Int))) (hb : ∀ j x, b[j]? = some x → w.cell? ⟨g', off' + j, none⟩ = some (.int .u8 (x.toNat : Int))) :
  (Extern.BytealgCompare.compare #[.slice (some ⟨g, off, none⟩) a.length c, .slice (some ⟨g', off', none⟩) b.length c']).run Tryz.prog w = .ok (.int .i64 (compareBytes a b)) w := by
 change Sem.run Tryz.prog (do pure (goInt (Extern.BytealgCompare.cmp (← Extern.Bytes.bytesOf (.slice (some ⟨g, off, none⟩) a.length c)) (← Extern.Bytes.bytesOf (.slice (some ⟨g', off', none⟩) b.length c'))))) w = _
 have key : ∀ (l : List UInt8) (g off : Nat), (∀ j x, l[j]? = some x → w.cell? ⟨g, off + j, none⟩ = some (.int .u8 (x.toNat : Int))) → (Extern.Bytes.loadBytes ⟨g, off, none⟩ l.length .empty).run Tryz.prog w = .ok ⟨l.toArray⟩ w := fun l g off h => by
  have := Lib.run_loadBytesX (P := Tryz.prog) (w := w) (l.map fun c => (c.toNat : Int)) ⟨g, off, none⟩ .empty (fun j x hj => by
   rw [List.getElem?_map] at hj
   cases hl : l[j]? with
   | none => rw [hl] at hj; simp at hj
   | some c =>
    rw [hl] at hj
    obtain rfl := Option.some.inj hj
    have := h j c hl
    rw [Addr.add]
    split
    ·rename_i h0; simpa [h0] using this
    ·exact this)
  simp only [List.length_map] at this
  rw [this]
  have : Lib.bytesOf (l.map fun c => (c.toNat : Int)) = l := by
   simp [Lib.bytesOf, Function.comp_def]
  rw [this]; simp
 have h1 := key a g off ha
 have h2 := key b g' off' hb
 simp only [Extern.Bytes.bytesOf, Sem.run_bind, Sem.run_pure, Result.andThen, h1, h2]
 rw [Lib.cmp_eq]
 simp [goInt]
theorem compare_cases : ∀ (a b : List UInt8), compareBytes a b = if Op.bytesLess a b then -1 else if Op.bytesLess b a then 1 else 0
 | [], [] => rfl
 | [], _ :: _ => by simp [compareBytes, Op.bytesLess]
 | _ :: _, [] => by simp [compareBytes, Op.bytesLess]
 | x :: a, y :: b => by
  have ih := compare_cases a b
  unfold compareBytes Op.bytesLess
  by_cases h1 : x < y
  ·simp [h1]
  ·by_cases h2 : y < x
   ·have : ¬ x = y := fun e => by subst e; exact h1 h2
    simp [h1, h2, this]
   ·have : x = y := UInt8.le_antisymm (UInt8.not_lt.1 h2) (UInt8.not_lt.1 h1)
    subst this
    simp [h1, ih]
theorem bytesLess_asymm : ∀ (a b : List UInt8), Op.bytesLess a b = true → Op.bytesLess b a = false
 | [], [], h => by simp [Op.bytesLess] at h
 | [], _ :: _, _ => by simp [Op.bytesLess]
 | _ :: _, [], h => by simp [Op.bytesLess] at h
 | x :: a, y :: b, h => by
  simp only [Op.bytesLess, Bool.or_eq_true, Bool.and_eq_true, decide_eq_true_eq, beq_iff_eq] at h
  simp only [Op.bytesLess, Bool.or_eq_false_iff, decide_eq_false_iff_not, Bool.and_eq_false_iff, beq_eq_false_iff_ne]
  rcases h with h | ⟨rfl, h⟩
  ·exact ⟨fun h' => absurd (UInt8.lt_trans h h') (UInt8.lt_irrefl _), .inl (fun e => by subst e; exact UInt8.lt_irrefl _ h)⟩
  ·exact ⟨UInt8.lt_irrefl _, .inr (bytesLess_asymm a b h)⟩
theorem bytesLess_irrefl (a : List UInt8) : Op.bytesLess a a = false := by
 cases h : Op.bytesLess a a with
 | false => rfl
 | true => exact absurd (bytesLess_asymm a a h) (by rw [h]; simp)
theorem bytesLess_total : ∀ (a b : List UInt8), a ≠ b → Op.bytesLess a b = false → Op.bytesLess b a = true
 | [], [], h, _ => absurd rfl h
 | [], _ :: _, _, h => by simp [Op.bytesLess] at h
 | _ :: _, [], _, _ => by simp [Op.bytesLess]
 | x :: a, y :: b, hne, h => by
  simp only [Op.bytesLess, Bool.or_eq_false_iff, decide_eq_false_iff_not, Bool.and_eq_false_iff, beq_eq_false_iff_ne] at h
  simp only [Op.bytesLess, Bool.or_eq_true, Bool.and_eq_true, decide_eq_true_eq, beq_iff_eq]
  by_cases e : x = y
  ·subst e
   refine .inr ⟨rfl, bytesLess_total a b (fun e => hne (by rw [e])) ?_⟩
   exact h.2.resolve_left (fun h' => h' rfl)
  ·exact .inl (UInt8.lt_of_le_of_ne (UInt8.not_lt.1 h.1) (Ne.symm e))
theorem pC_byte (h n : List UInt8) (j : Nat) (x : UInt8) (hj : h[j]? = some x) : (pC h n)[j]? = some (.int .u8 (x.toNat : Int)) := by
 have hlt := (List.getElem?_eq_some_iff.1 hj).1
 have := pC_hash h n j (.int .u8 (x.toNat : Int)) (by rw [hC_get h j hlt]; rw [List.getElem?_eq_getElem hlt] at hj; rw [Option.some.inj hj])
 simpa using this
theorem slice_hash (g : Nat) (w : World) : (Instr.sliceAt 163 (.pointer (some ⟨g, 0, none⟩)) none none none).run Tryz.prog w = .ok (.slice (some ⟨g, 0, none⟩) 20 20) w := by kernel_rfl
end Go.Proofs.YtfiadgdinhmgbaaGreatDoor
/-! (of general use) spenceref03.Less -/
namespace Go.Proofs.YtfiadgdinhmgbaaGreatDoor
open Go.RowKit Pl Go.Agg
open Go.Lib (compareBytes)
theorem compare_diff : ∀ (k : Nat) (a b : List UInt8) (x y : UInt8), a[k]? = some x → b[k]? = some y → a.take k = b.take k → x ≠ y → decide (compareBytes a b < 0) = decide (x < y)
 | 0, x :: a, y :: b, _, _, hx, hy, _, hne => by
  simp only [List.getElem?_cons_zero, Option.some.injEq] at hx hy
  subst hx hy
  unfold compareBytes
  by_cases h1 : x < y
  ·simp [h1]
  ·have h2 : y < x := UInt8.lt_of_le_of_ne (UInt8.not_lt.1 h1) (Ne.symm hne)
   simp [h1, h2]
 | k + 1, x :: a, y :: b, _, _, hx, hy, ht, hne => by
  simp only [List.getElem?_cons_succ] at hx hy
  simp only [List.take_succ_cons, List.cons.injEq] at ht
  obtain ⟨rfl, ht⟩ := ht
  have := compare_diff k a b _ _ hx hy ht hne
  unfold compareBytes
  simpa [UInt8.lt_irrefl] using this
 | 0, [], _, _, _, hx, _, _, _ => by simp at hx
 | 0, _ :: _, [], _, _, _, hy, _, _ => by simp at hy
 | _ + 1, [], _, _, _, hx, _, _, _ => by simp at hx
 | _ + 1, _ :: _, [], _, _, _, hy, _, _ => by simp at hy
theorem compare_less (a b : List UInt8) : decide (compareBytes a b < 0) = Op.bytesLess a b := by
 rw [compare_cases]
 cases Op.bytesLess a b <;> cases Op.bytesLess b a <;> simp
end Go.Proofs.YtfiadgdinhmgbaaGreatDoor
