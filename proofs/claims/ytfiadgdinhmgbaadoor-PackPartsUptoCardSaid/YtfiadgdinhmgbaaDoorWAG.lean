/- code.Maker's block; what a step of a maker leaves alone. (Several texts in one.) -/
import Derived.Test.YtfiadgdinhmgbaaDoorWAF
import Derived.ArgAppend
import Derived.Laws.IdiomCopy
import Derived.StillTailTactics
import Derived.Test.YtfiadgdinhmgbaaDoorWAA
/-! Slices that may be written, their spare room too, over any program: store, append; what a step leaves alone. -/
namespace Go.Agg
open Go.RowKit
/-- w' is w but for the blocks S and what is new -/
structure Only (S : Nat → Prop) (w w' : World) : Prop where
  os : w'.os = w.os
  tape : w'.tape = w.tape
  output : w'.output = w.output
  size : w.heap.size ≤ w'.heap.size
  block : ∀ k, k < w.heap.size → ¬ S k → w'.heap[k]? = w.heap[k]?
theorem Only.refl (S : Nat → Prop) (w : World) : Only S w w := ⟨rfl, rfl, rfl, Nat.le_refl _, fun _ _ _ => rfl⟩
theorem Only.trans {S T : Nat → Prop} {a b c : World} (h : Only S a b) (k : Only T b c) (hT : ∀ i, i < a.heap.size → T i → S i) : Only S a c :=
  ⟨k.os.trans h.os, k.tape.trans h.tape, k.output.trans h.output, Nat.le_trans h.size k.size, fun i hi hS => (k.block i (Nat.lt_of_lt_of_le hi h.size) (fun hT' => hS (hT i hi hT'))).trans (h.block i hi hS)⟩
theorem Only.mono {S T : Nat → Prop} {a b : World} (h : Only S a b) (hT : ∀ i, i < a.heap.size → S i → T i) : Only T a b := ⟨h.os, h.tape, h.output, h.size, fun i hi hS => h.block i hi (fun hs => hS (hT i hi hs))⟩
theorem Only.of_below {S : Nat → Prop} {a b : World} (h : Below a.heap.size a b) : Only S a b := ⟨h.os, h.tape, h.output, h.size, fun i hi _ => h.block i hi⟩
theorem Only.below {S : Nat → Prop} {a b : World} {B : Nat} (h : Only S a b) (hB : B ≤ a.heap.size) (hS : ∀ i, S i → B ≤ i) : Below B a b :=
  ⟨h.os, h.tape, h.output, h.size, fun i hi => h.block i (by omega) (fun hs => by have := hS i hs; omega)⟩
theorem Only.cell {S : Nat → Prop} {a b : World} (h : Only S a b) {p : Addr} (hp : p.block < a.heap.size) (hS : ¬ S p.block) : b.cell? p = a.cell? p := World.cell?_of_block (h.block _ hp hS)
theorem Only.frozen {S : Nat → Prop} {a b : World} (h : Only S a b) {p : Addr} (hp : p.block < a.heap.size) (hS : ¬ S p.block) : b.frozen? p = a.frozen? p := World.frozen?_of_block (h.block _ hp hS)
theorem only_setCells (b o : Nat) (vs : List Value) (w : World) : Only (· = b) w (w.setCells b o vs) := by
  induction vs generalizing o w with
  | nil => exact Only.refl _ _
  | cons v r ih =>
    have h1 : Only (· = b) w (w.setCell ⟨b, o, none⟩ v) := ⟨rfl, rfl, rfl, by simp [World.setCell], fun k _ hk => Below.heap_setCell _ _ _ _ hk⟩
    exact h1.trans (ih (o + 1) _) (fun _ _ h => h)
section
variable {P : Program} {α : Type} {E : Elem P α}
/-- a slice whose cells, spare room too, may be written -/
def Room (E : Elem P α) (w : World) (v : Value) (l : List α) : Prop :=
  ∃ b o cap, v = .slice (some ⟨b, o, none⟩) l.length cap ∧ l.length ≤ cap ∧ b < w.heap.size ∧ (∀ j, j < cap * E.n → (w.cell? ⟨b, o + j, none⟩).isSome = true) ∧ (∀ j, j < cap * E.n → w.frozen? ⟨b, o + j, none⟩ = false) ∧
    ∀ j u, (E.flat l)[j]? = some u → w.cell? ⟨b, o + j, none⟩ = some u
/-- .. or nil -/
def RoomN (E : Elem P α) (w : World) (v : Value) (l : List α) : Prop := (v = .slice none 0 0 ∧ l = []) ∨ Room E w v l
variable {w w' : World} {v : Value} {l : List α}
theorem Room.slice (h : Room E w v l) : SliceOf E w v l := by
  obtain ⟨b, o, cap, rfl, _, hb, _, _, hc⟩ := h
  exact .inr ⟨_, cap, rfl, hb, fun j u hj => by rw [add_plain]; exact hc j u hj⟩
theorem RoomN.slice (h : RoomN E w v l) : SliceOf E w v l := by
  rcases h with ⟨rfl, rfl⟩ | h
  · exact SliceOf.nil _ _ _
  · exact h.slice
theorem Room.keep (h : Room E w v l) (hk : ∀ b, v.ownBlock = some b → b < w.heap.size → w'.heap[b]? = w.heap[b]?) (hs : w.heap.size ≤ w'.heap.size) : Room E w' v l := by
  obtain ⟨b, o, cap, rfl, hl, hb, h1, h2, hc⟩ := h
  have hbb := hk b rfl hb
  have e1 : ∀ j, w'.cell? ⟨b, o + j, none⟩ = w.cell? ⟨b, o + j, none⟩ := fun j => World.cell?_of_block hbb
  have e2 : ∀ j, w'.frozen? ⟨b, o + j, none⟩ = w.frozen? ⟨b, o + j, none⟩ := fun j => World.frozen?_of_block hbb
  exact ⟨b, o, cap, rfl, hl, by omega, fun j hj => by rw [e1]; exact h1 j hj, fun j hj => by rw [e2]; exact h2 j hj, fun j u hj => (e1 j).trans (hc j u hj)⟩
theorem RoomN.keep (h : RoomN E w v l) (hk : ∀ b, v.ownBlock = some b → b < w.heap.size → w'.heap[b]? = w.heap[b]?) (hs : w.heap.size ≤ w'.heap.size) : RoomN E w' v l := by
  rcases h with h | h
  · exact .inl h
  · exact .inr (h.keep hk hs)
theorem RoomN.only {S : Nat → Prop} (h : RoomN E w v l) (ho : Only S w w') (hS : ∀ b, v.ownBlock = some b → ¬ S b) : RoomN E w' v l := h.keep (fun b hb hlt => ho.block b hlt (hS b hb)) ho.size
theorem RoomN.below (h : RoomN E w v l) (hb : Below w.heap.size w w') : RoomN E w' v l := h.keep (fun b _ hlt => hb.block b hlt) hb.size
theorem RoomN.lt (h : RoomN E w v l) : ∀ b, v.ownBlock = some b → b < w.heap.size := by
  rcases h with ⟨rfl, _⟩ | ⟨b, o, cap, rfl, _, hb, _⟩
  · intro b hb; simp [Value.ownBlock] at hb
  · intro c hc
    obtain rfl : b = c := by simpa [Value.ownBlock] using hc
    exact hb
theorem RoomN.len (h : RoomN E w v l) (W : World) : (Builtin.len_ #[E.st] 3 #[v]).run P W = .ok (.int .i64 (l.length : Int)) W := h.slice.len W
theorem RoomN.of_own {base : Nat} (h : Own E base w v l) : RoomN E w v l := by
  obtain ⟨hfl, ⟨rfl, h0⟩ | ⟨g, cap, cur, rfl, hgb, hcur, hle, _, hsz, htk⟩⟩ := h
  · exact .inl ⟨rfl, List.length_eq_zero_iff.1 h0⟩
  · refine .inr ⟨g, 0, cap, rfl, hle, heap_lt hcur, fun j hj => ?_, fun j _ => frozen_of_row _ _ _ _ _ hcur, fun j u hj => ?_⟩
    · rw [cell_of_row _ _ _ _ _ _ hcur, Array.getElem?_eq_getElem (by omega)]; rfl
    · rw [Nat.zero_add, cell_of_row _ _ _ _ _ _ hcur]
      rw [← htk, List.getElem?_take] at hj
      split at hj
      · simpa using hj
      · cases hj
/-- append, where it came in -/
theorem run_append_room (h : RoomN E w v l) (x : Value) (m : List α) (hx : SliceOf E w x m) (h63 : l.length + m.length ≤ 1099511627776 / 8) (hby : E.bytes ≤ 1000) (ty : TypeId) :
    ∃ v' w', (Builtin.append_ #[E.st, E.st] ty #[v, x]).run P w = .ok v' w' ∧ RoomN E w' v' (l ++ m) ∧ RoomN E w' v l ∧ Only (fun b => v.ownBlock = some b) w w' ∧ (∀ b, v'.ownBlock = some b → v.ownBlock = some b ∨ w.heap.size ≤ b) ∧ ∀ b o n cap, v = .slice (some ⟨b, o, none⟩) n cap → v'.ownBlock = some b → v' = .slice (some ⟨b, o, none⟩) (n + m.length) cap := by
  obtain ⟨i, hi, hz, hs, hb⟩ := E.info
  have hmul : (l.length + m.length) * E.bytes ≤ 140737488355328 := Nat.le_trans (Nat.mul_le_mul h63 hby) (by omega)
  have hmax : l.length + m.length ≤ maxLen := by simp only [maxLen]; omega
  have hn := E.pos
  rcases h with ⟨rfl, rfl⟩ | h
  · obtain ⟨v', w', hr, h2, h3, _, _⟩ := run_append (base := w.heap.size) (ty := ty) (Own.nil E w.heap.size w) x m hx (by simpa using h63) hby (Nat.le_refl _)
    refine ⟨v', w', hr, RoomN.of_own h2, .inl ⟨rfl, rfl⟩, ⟨h3.os, h3.tape, h3.output, h3.size, fun k hk _ => h3.block k hk (by simp [Value.ownBlock])⟩, fun b hb => .inr (h2.block b hb).1, fun b o n cap e => by injection e with e; cases e⟩
  · have hsl := h.slice
    obtain ⟨b, o, cap, rfl, hlc, hbw, h1, h2, hc⟩ := h
    have hself : RoomN E w (.slice (some ⟨b, o, none⟩) l.length cap) l := .inr ⟨b, o, cap, rfl, hlc, hbw, h1, h2, hc⟩
    obtain ⟨p, c, rfl⟩ := hx.form
    cases p with
    | none =>
      have hm : m = [] := by
        rcases hx with ⟨_, _, _, h⟩ | ⟨p, cap, e, _⟩
        · exact h
        · injection e with e; cases e
      subst hm
      refine ⟨_, w, ?_, by simpa using hself, hself, Only.refl _ _, fun b hb => .inl hb, fun b o n cap e _ => by simpa using e⟩
      simp [Builtin.append_, run_underlying E.slice, sizeOf, typeInfo, hi, Builtin.lenOf, Builtin.firstCells, hlc, storeCells]
    | some p =>
      have hcells : ∀ j u, (E.flat m)[j]? = some u → w.cell? (p.add j) = some u := by
        rcases hx with ⟨_, _, _, rfl⟩ | ⟨q, cap, e, _, h⟩
        · intro j u hj; simp [Elem.flat] at hj
        · injection e with e
          injection e with e
          subst e
          exact h
      by_cases hfit : l.length + m.length ≤ cap
      · have hlen := E.flat_length m
        have hll := E.flat_length l
        have hbd : l.length * E.n + m.length * E.n ≤ cap * E.n := by rw [← Nat.add_mul]; exact Nat.mul_le_mul_right _ hfit
        have hr := run_append_room_cells (P := P) w E.st ty E.ty i E.slice hi b o l.length cap p m.length c (E.flat m) (by rw [hs]; exact hlen) hcells (E.flat_one' m) hfit
          (fun j hj => by rw [hs, Nat.add_assoc]; exact h1 _ (by rw [hlen] at hj; omega)) (fun j hj => by rw [hs, Nat.add_assoc]; exact h2 _ (by rw [hlen] at hj; omega))
        rw [hs] at hr
        have hfr : ∀ x, (w.setCells b (o + l.length * E.n) (E.flat m)).frozen? x = w.frozen? x := fun x => World.frozen?_setCells b _ _ w x
        have hin : ∀ j u, (E.flat m)[j]? = some u → (w.setCells b (o + l.length * E.n) (E.flat m)).cell? ⟨b, o + l.length * E.n + j, none⟩ = some u := fun j u hj => by
          obtain ⟨hj', rfl⟩ := List.getElem?_eq_some_iff.1 hj
          exact World.cell?_setCells_in b (E.flat m) (o + l.length * E.n) w (fun k hk => by rw [Nat.add_assoc]; exact h1 _ (by rw [hlen] at hk; omega)) j hj'
        have hout : ∀ j, j < l.length * E.n → (w.setCells b (o + l.length * E.n) (E.flat m)).cell? ⟨b, o + j, none⟩ = w.cell? ⟨b, o + j, none⟩ := fun j hj =>
          World.cell?_setCells_out b _ _ w _ (fun _ _ => .inl (by show o + j < o + l.length * E.n; omega))
        have hsome : ∀ j, j < cap * E.n → ((w.setCells b (o + l.length * E.n) (E.flat m)).cell? ⟨b, o + j, none⟩).isSome = true := fun j hj => by
          by_cases hj1 : j < l.length * E.n
          · rw [hout j hj1]; exact h1 j hj
          · by_cases hj2 : j < l.length * E.n + m.length * E.n
            · have hjl : j - l.length * E.n < (E.flat m).length := by rw [hlen]; omega
              have := hin (j - l.length * E.n) _ (List.getElem?_eq_getElem hjl)
              rw [show o + l.length * E.n + (j - l.length * E.n) = o + j by omega] at this
              rw [this]; rfl
            · rw [World.cell?_setCells_out b _ _ w _ (fun _ _ => .inr (by show o + l.length * E.n + (E.flat m).length ≤ o + j; rw [hlen]; omega))]
              exact h1 j hj
        have honly := only_setCells b (o + l.length * E.n) (E.flat m) w
        refine ⟨_, _, hr, .inr ⟨b, o, cap, by rw [List.length_append], by rw [List.length_append]; exact hfit, Nat.lt_of_lt_of_le hbw honly.size, hsome, fun j hj => by rw [hfr]; exact h2 j hj, fun j u hj => ?_⟩,
          .inr ⟨b, o, cap, rfl, hlc, Nat.lt_of_lt_of_le hbw honly.size, hsome, fun j hj => by rw [hfr]; exact h2 j hj, fun j u hj => ?_⟩, honly.mono (fun k _ e => by simp [Value.ownBlock, e]), fun k hk => .inl hk, fun b' o' n' cap' e _ => by injection e with e1 e2 e3; injection e1 with e1; injection e1 with e4 e5; subst e2 e3 e4 e5; rfl⟩
        · rw [E.flat_append] at hj
          by_cases hj1 : j < (E.flat l).length
          · rw [List.getElem?_append_left hj1] at hj
            rw [hout j (by rw [← hll]; exact hj1)]
            exact hc j u hj
          · rw [List.getElem?_append_right (by omega)] at hj
            have := hin _ u hj
            rw [hll] at this hj1
            rwa [show o + l.length * E.n + (j - l.length * E.n) = o + j by omega] at this
        · have hj1 : j < (E.flat l).length := (List.getElem?_eq_some_iff.1 hj).1
          rw [hout j (by rw [← hll]; exact hj1)]
          exact hc j u hj
      · obtain ⟨v', w', hr, h4, h5⟩ := run_append_arg_grows (P := P) w E.st ty E.ty i E.zero E.n E.bytes E.slice hi hz hs hb E.zsize E.pos ⟨b, o, none⟩ l.length cap (E.flat l) (E.flat_length l) (fun j u hj => by rw [add_plain]; exact hc j u hj)
          p m.length c (E.flat m) (E.flat_length m) hcells (by omega) hmax hmul
        have hown : Own E w.heap.size w' v' (l ++ m) := by
          unfold Own
          rw [List.length_append, E.flat_append]
          exact h4
        have honly : Only (fun _ => False) w w' := ⟨h5.os, h5.tape, h5.output, h5.size, fun k hk _ => h5.block k hk (by simp)⟩
        exact ⟨v', w', hr, RoomN.of_own hown, hself.only honly (fun _ _ h => h), honly.mono (fun _ _ h => h.elim), fun b hb => .inr (hown.block b hb).1, fun b' o' n' cap' e hb' => by
          injection e with e1; injection e1 with e1; injection e1 with e4
          have := (hown.block _ hb').1
          omega⟩
/-- a whole element stored -/
theorem run_storeAt_room (h : Room E w v l) (k : Nat) (a : α) (hk : k < l.length) :
    ∃ p w', (∀ W, (Instr.indexAt E.st v (.int .i64 (k : Int))).run P W = .ok (.pointer (some p)) W) ∧ (Instr.storeAt E.ty (.pointer (some p)) (E.val a)).run P w = .ok () w' ∧ Room E w' v (l.set k a) ∧ Only (fun b => v.ownBlock = some b) w w' := by
  obtain ⟨b, o, cap, rfl, hlc, hbw, h1, h2, hc⟩ := h
  have hn := E.pos
  have hkc : k * E.n + E.n ≤ cap * E.n := by rw [← Nat.succ_mul]; exact Nat.mul_le_mul_right _ (by omega)
  have hlen : (E.val a).cells.toList.length = E.n := by rw [Array.length_toList]; exact E.size a
  have hst := run_storeCells_cells (P := P) b (o + k * E.n) (E.val a).cells.toList 0 w (fun j hj => by rw [Nat.add_zero, Nat.add_assoc]; exact h1 _ (by omega)) (fun j hj => by rw [Nat.add_zero, Nat.add_assoc]; exact h2 _ (by omega)) (E.one a)
  rw [Nat.add_zero] at hst
  have hin : ∀ j u, (E.val a).cells[j]? = some u → (w.setCells b (o + k * E.n) (E.val a).cells.toList).cell? ⟨b, o + k * E.n + j, none⟩ = some u := fun j u hj => by
    have hj0 : (E.val a).cells.toList[j]? = some u := by rw [Array.getElem?_toList]; exact hj
    obtain ⟨hj', rfl⟩ := List.getElem?_eq_some_iff.1 hj0
    exact World.cell?_setCells_in b _ (o + k * E.n) w (fun i hi => by rw [Nat.add_assoc]; exact h1 _ (by omega)) j hj'
  have hout : ∀ j, j < k * E.n ∨ k * E.n + E.n ≤ j → (w.setCells b (o + k * E.n) (E.val a).cells.toList).cell? ⟨b, o + j, none⟩ = w.cell? ⟨b, o + j, none⟩ := fun j hj =>
    World.cell?_setCells_out b _ _ w _ (fun _ _ => by
      show o + j < o + k * E.n ∨ o + k * E.n + (E.val a).cells.toList.length ≤ o + j
      rw [hlen]; omega)
  have honly := only_setCells b (o + k * E.n) (E.val a).cells.toList w
  have hel : P.elem E.st = E.ty := by simp [Program.elem, E.slice]
  refine ⟨⟨b, o + k * E.n, none⟩, _, fun W => ?_, ?_, ⟨b, o, cap, by simp, by simpa using hlc, Nat.lt_of_lt_of_le hbw honly.size, fun j hj => ?_, fun j hj => by rw [World.frozen?_setCells]; exact h2 j hj, fun j u hj => ?_⟩, honly.mono (fun k _ e => by simp [Value.ownBlock, e])⟩
  · rw [run_indexAt_slice W E.st ⟨b, o, none⟩ l.length cap .i64 (k : Int) (by rw [hel]; exact E.slice), if_pos (by omega), hel, run_sizeOf_elem]
    simp [Result.andThen, add_plain]
  · have hsz : ∀ W, (sizeOf E.ty).run P W = .ok E.n W := fun W => run_sizeOf_elem W
    have he := E.size a
    simp [Instr.storeAt, Instr.sureAddr, storeVar, hsz, he, hst]
  · by_cases hj1 : j < k * E.n ∨ k * E.n + E.n ≤ j
    · rw [hout j hj1]; exact h1 j hj
    · have hjl : j - k * E.n < (E.val a).cells.size := by rw [E.size]; omega
      have := hin (j - k * E.n) _ (Array.getElem?_eq_getElem hjl)
      rw [show o + k * E.n + (j - k * E.n) = o + j by omega] at this
      rw [this]; rfl
  · obtain ⟨q, c, i, h3, h4, rfl⟩ := Elem.flat_all E _ j u hj
    have hi : i < E.n := by have := (Array.getElem?_eq_some_iff.1 h4).1; rw [E.size] at this; exact this
    by_cases hq : q = k
    · subst hq
      rw [List.getElem?_set_self hk] at h3
      obtain rfl := Option.some.inj h3
      have := hin i u h4
      rwa [Nat.add_assoc] at this
    · rw [List.getElem?_set_ne (Ne.symm hq)] at h3
      have hdis : q * E.n + i < k * E.n ∨ k * E.n + E.n ≤ q * E.n + i := by
        rcases Nat.lt_or_gt_of_ne hq with h | h
        · have : q * E.n + E.n ≤ k * E.n := by rw [← Nat.succ_mul]; exact Nat.mul_le_mul_right _ h
          omega
        · have : k * E.n + E.n ≤ q * E.n := by rw [← Nat.succ_mul]; exact Nat.mul_le_mul_right _ h
          omega
      rw [hout _ hdis]
      exact hc _ u (E.flat_get l q c i u h3 h4)
end
end Go.Agg
/-! RoomsOf of slices that may be written: stores, appends into one of them, make; over any program. -/
namespace Go.Agg
open Go.RowKit
/-- slices as elements -/
abbrev SV : Type := { v : Value // ∃ p n c, v = .slice p n c }
instance : Inhabited SV := ⟨⟨.slice none 0 0, _, _, _, rfl⟩⟩
theorem sv_cells (v : SV) : v.1.cells = #[v.1] := by obtain ⟨_, p, n, c, rfl⟩ := v; rfl
theorem sv_one (v : SV) : v.1.oneCell' = true := by obtain ⟨_, p, n, c, rfl⟩ := v; rfl
def SS (vs : List SV) : Nat → Prop := fun b => ∃ (k : Nat) (v : SV), vs[k]? = some v ∧ v.1.ownBlock = some b
def Dist (vs : List SV) : Prop := ∀ (i j : Nat) (u v : SV), vs[i]? = some u → vs[j]? = some v → i ≠ j → ∀ b, u.1.ownBlock = some b → v.1.ownBlock ≠ some b
section
variable {P : Program} {α : Type} {E : Elem P α}
def RoomsOf (E : Elem P α) (w : World) (vs : List SV) (f : Nat → List α) : Prop := ∀ k v, vs[k]? = some v → RoomN E w v.1 (f k)
variable {w w' : World} {v : Value} {l : List α} {vs : List SV} {f : Nat → List α}
theorem RoomsOf.below (h : RoomsOf E w vs f) (hb : Below w.heap.size w w') : RoomsOf E w' vs f := fun k v hk => (h k v hk).below hb
theorem RoomsOf.lt (h : RoomsOf E w vs f) : ∀ b, SS vs b → b < w.heap.size := by
  rintro b ⟨k, v, hk, hb⟩
  exact (h k v hk).lt b hb
theorem RoomsOf.set (h : RoomsOf E w vs f) (hd : Dist vs) {k : Nat} {v : SV} (hv : vs[k]? = some v) {l : List α} (hl : RoomN E w' v.1 l) (ho : Only (fun b => v.1.ownBlock = some b) w w') :
    RoomsOf E w' vs (fun j => if j = k then l else f j) := by
  intro j u hu
  by_cases hj : j = k
  · subst hj
    obtain rfl := Option.some.inj (hu.symm.trans hv)
    simpa using hl
  · simp only [hj, if_false]
    exact (h j u hu).only ho (fun b hb hb' => hd j k u v hu hv hj b hb hb')
theorem RoomsOf.only {S : Nat → Prop} (h : RoomsOf E w vs f) (ho : Only S w w') (hS : ∀ b, SS vs b → ¬ S b) : RoomsOf E w' vs f := fun k v hk => (h k v hk).only ho (fun b hb => hS b ⟨k, v, hk, hb⟩)
theorem Only.ss {k : Nat} {v : SV} (hv : vs[k]? = some v) (ho : Only (fun b => v.1.ownBlock = some b) w w') : Only (SS vs) w w' := ho.mono fun _ _ hb => ⟨k, v, hv, hb⟩
theorem RoomN.store (h : RoomN E w v l) (k : Nat) (a : α) (hk : k < l.length) :
    ∃ p w', (∀ W, (Instr.indexAt E.st v (.int .i64 (k : Int))).run P W = .ok (.pointer (some p)) W) ∧ (Instr.storeAt E.ty (.pointer (some p)) (E.val a)).run P w = .ok () w' ∧ RoomN E w' v (l.set k a) ∧ Only (fun b => v.ownBlock = some b) w w' := by
  rcases h with ⟨rfl, rfl⟩ | h
  · simp at hk
  · obtain ⟨p, w', h1, h2, h3, h4⟩ := run_storeAt_room h k a hk
    exact ⟨p, w', h1, h2, .inr h3, h4⟩
theorem RoomsOf.store (h : RoomsOf E w vs f) (hd : Dist vs) {k : Nat} {v : SV} (hv : vs[k]? = some v) (i : Nat) (a : α) (hi : i < (f k).length) :
    ∃ p w', (∀ W, (Instr.indexAt E.st v.1 (.int .i64 (i : Int))).run P W = .ok (.pointer (some p)) W) ∧ (Instr.storeAt E.ty (.pointer (some p)) (E.val a)).run P w = .ok () w' ∧ RoomsOf E w' vs (fun j => if j = k then (f k).set i a else f j) ∧ Only (SS vs) w w' := by
  obtain ⟨p, w', h1, h2, h3, h4⟩ := (h k v hv).store i a hi
  exact ⟨p, w', h1, h2, h.set hd hv h3 h4, h4.ss hv⟩
theorem RoomN.place (h : RoomN E w v l) (k : Nat) (hk : k < l.length) :
    ∃ p, (∀ W, (Instr.indexAt E.st v (.int .i64 (k : Int))).run P W = .ok (.pointer (some p)) W) ∧ ∀ (w : World) (l : List α) (a : α), RoomN E w v l → k < l.length → ∃ w', (Instr.storeAt E.ty (.pointer (some p)) (E.val a)).run P w = .ok () w' ∧ RoomN E w' v (l.set k a) ∧ Only (fun b => v.ownBlock = some b) w w' := by
  have a0 := l[k]'hk
  obtain ⟨p, _, h1, _⟩ := h.store k a0 hk
  refine ⟨p, h1, fun w2 l2 a h2 hk2 => ?_⟩
  obtain ⟨p2, w', h3, h4, h5, h6⟩ := h2.store k a hk2
  have e := (h1 w2).symm.trans (h3 w2)
  injection e with e
  injection e with e
  injection e with e
  subst e
  exact ⟨w', h4, h5, h6⟩
theorem RoomsOf.place (h : RoomsOf E w vs f) (hd : Dist vs) {k : Nat} {v : SV} (hv : vs[k]? = some v) (i : Nat) (hi : i < (f k).length) :
    ∃ p, (∀ W, (Instr.indexAt E.st v.1 (.int .i64 (i : Int))).run P W = .ok (.pointer (some p)) W) ∧ ∀ (w : World) (f : Nat → List α) (a : α), RoomsOf E w vs f → i < (f k).length →
      ∃ w', (Instr.storeAt E.ty (.pointer (some p)) (E.val a)).run P w = .ok () w' ∧ RoomsOf E w' vs (fun j => if j = k then (f k).set i a else f j) ∧ Only (SS vs) w w' := by
  obtain ⟨p, h1, h2⟩ := (h k v hv).place i hi
  refine ⟨p, h1, fun w2 f2 a h3 hi2 => ?_⟩
  obtain ⟨w', h4, h5, h6⟩ := h2 w2 (f2 k) a (h3 k v hv) hi2
  exact ⟨w', h4, h3.set hd hv h5 h6, h6.ss hv⟩
theorem RoomN.form (h : RoomN E w v l) : ∃ p n c, v = .slice p n c := by
  obtain ⟨p, c, e⟩ := h.slice.form
  exact ⟨p, _, c, e⟩
theorem Got.lenk {gs : List SV} {k : Nat} (h : gs.length = vs.length) (hk : k < vs.length) : ∃ g, gs[k]? = some g := ⟨_, List.getElem?_eq_getElem (by omega)⟩
/-- g is v, or v and more behind it, or apart from it -/
def PreOf (v g : Value) : Prop := ∀ b, v.ownBlock = some b → g.ownBlock = some b → ∃ o n cap m, v = .slice (some ⟨b, o, none⟩) n cap ∧ g = .slice (some ⟨b, o, none⟩) (n + m) cap
structure Growing (E : Elem P α) (ws wr : World) (v : Value) (l0 : List α) (g : Value) (l : List α) : Prop where
  only : Only (fun b => v.ownBlock = some b) ws wr
  room : RoomN E wr g l
  old : RoomN E wr v l0
  pre : PreOf v g
  own : ∀ b, g.ownBlock = some b → v.ownBlock = some b ∨ ws.heap.size ≤ b
  starts : l0 <+: l
theorem Growing.start {ws : World} {l0 : List α} (h : RoomN E ws v l0) : Growing E ws ws v l0 v l0 where
  only := Only.refl _ _
  room := h
  old := h
  pre := fun b hb _ => by
    rcases h with ⟨rfl, _⟩ | ⟨c, o, cap, rfl, _⟩
    · simp [Value.ownBlock] at hb
    · obtain rfl : c = b := by simpa [Value.ownBlock] using hb
      exact ⟨o, _, cap, 0, rfl, rfl⟩
  own := fun b hb => .inl hb
  starts := List.prefix_rfl
theorem Growing.below {ws wr w' : World} {l0 l : List α} {g : Value} (h : Growing E ws wr v l0 g l) (hb : Below wr.heap.size wr w') : Growing E ws w' v l0 g l where
  only := h.only.trans (Only.of_below (S := fun _ => False) hb) (fun _ _ h => h.elim)
  room := h.room.below hb
  old := h.old.below hb
  pre := h.pre
  own := h.own
  starts := h.starts
theorem Growing.append {ws wr : World} {l0 l : List α} {g : Value} (h : Growing E ws wr v l0 g l) (x : Value) (m : List α) (hx : SliceOf E wr x m) (h63 : l.length + m.length ≤ 1099511627776 / 8) (hby : E.bytes ≤ 1000) (hv : ∀ b, v.ownBlock = some b → b < ws.heap.size) (ty : TypeId) :
    ∃ g' w', (Builtin.append_ #[E.st, E.st] ty #[g, x]).run P wr = .ok g' w' ∧ Growing E ws w' v l0 g' (l ++ m) := by
  obtain ⟨g', w', hr, h1, h2, h3, h4, h5⟩ := run_append_room h.room x m hx h63 hby ty
  have hown : ∀ b, g'.ownBlock = some b → v.ownBlock = some b ∨ ws.heap.size ≤ b := fun b hb => by
    rcases h4 b hb with h6 | h6
    · exact h.own b h6
    · exact .inr (Nat.le_trans h.only.size h6)
  have hpre : PreOf v g' := fun b hb hb' => by
    have hlt := hv b hb
    rcases h4 b hb' with h6 | h6
    · obtain ⟨o, n, cap, k, e1, e2⟩ := h.pre b hb h6
      exact ⟨o, n, cap, k + m.length, e1, by rw [h5 b o _ cap e2 hb', Nat.add_assoc]⟩
    · have := h.only.size; omega
  refine ⟨g', w', hr, ⟨h.only.trans h3 (fun i hi hg => (h.own i hg).resolve_right (by omega)), h1, ?_, hpre, hown, h.starts.trans (List.prefix_append _ _)⟩⟩
  by_cases hsame : ∃ b, v.ownBlock = some b ∧ g.ownBlock = some b
  · obtain ⟨b, hb, hg⟩ := hsame
    obtain ⟨o, n, cap, k, e1, e2⟩ := h.pre b hb hg
    rcases h.old with ⟨rfl, _⟩ | ⟨b1, o1, cap1, e3, hl1, _⟩
    · simp [Value.ownBlock] at hb
    rcases h2 with ⟨rfl, _⟩ | ⟨b2, o2, cap2, e4, hl2, hlt2, hs2, hf2, hc2⟩
    · simp [Value.ownBlock] at hg
    subst e1 e2
    injection e3 with e3 e5 e6
    injection e3 with e3
    injection e3 with e3 e7
    injection e4 with e4 e8 e9
    injection e4 with e4
    injection e4 with e4 e10
    subst e3 e4 e5 e6 e7 e9 e10
    refine .inr ⟨b, o, cap, rfl, hl1, hlt2, hs2, hf2, fun j u hj => hc2 j u ?_⟩
    obtain ⟨t, rfl⟩ := h.starts
    rw [E.flat_append, List.getElem?_append_left (List.getElem?_eq_some_iff.1 hj).1]
    exact hj
  · exact h.old.only h3 (fun b hb hg => hsame ⟨b, hb, hg⟩)
/-- rows got out of others -/
structure Got (E : Elem P α) (w : World) (B : Nat) (vs gs : List SV) (k : Nat) (f : Nat → List α) : Prop where
  len : gs.length = vs.length
  at_ : ∀ j g v, j < k → gs[j]? = some g → vs[j]? = some v → SliceOf E w g.1 (f j)
  own : ∀ j g v, j < k → gs[j]? = some g → vs[j]? = some v → ∀ b, g.1.ownBlock = some b → v.1.ownBlock = some b ∨ B ≤ b
theorem Got.zero {B : Nat} {gs : List SV} (h : gs.length = vs.length) : Got E w B vs gs 0 f := ⟨h, fun _ _ _ h => absurd h (Nat.not_lt_zero _), fun _ _ _ h => absurd h (Nat.not_lt_zero _)⟩
theorem Got.below {B : Nat} {gs : List SV} {k : Nat} (h : Got E w B vs gs k f) (hb : Below w.heap.size w w') : Got E w' B vs gs k f := ⟨h.len, fun j g v hj hg hv => (h.at_ j g v hj hg hv).below hb, h.own⟩
theorem SliceOf.onlyS {S : Nat → Prop} {v : Value} {l : List α} (h : SliceOf E w v l) (ho : Only S w w') (hS : ∀ b, v.ownBlock = some b → ¬ S b) : SliceOf E w' v l := by
  rcases h with h | ⟨p, cap, rfl, hp, h⟩
  · exact .inl h
  · exact .inr ⟨p, cap, rfl, Nat.lt_of_lt_of_le hp ho.size, fun j u hj => (ho.cell (p := p.add j) (by rw [add_block]; exact hp) (by rw [add_block]; exact hS _ rfl)).trans (h j u hj)⟩
/-- a stage in row k alone -/
theorem Got.stage {B : Nat} {gs : List SV} {k : Nat} {v : SV} (h : Got E w B vs gs k f) (hd : Dist vs) (hv : vs[k]? = some v) (hB : ∀ b, v.1.ownBlock = some b → b < B) (ho : Only (fun b => v.1.ownBlock = some b) w w') : Got E w' B vs gs k f := by
  refine ⟨h.len, fun j g u hj hg hu => (h.at_ j g u hj hg hu).onlyS ho fun b hb hb' => ?_, h.own⟩
  rcases h.own j g u hj hg hu b hb with h1 | h1
  · exact hd j k u v hu hv (by omega) b h1 hb'
  · have := hB b hb'; omega
theorem Got.other {S : Nat → Prop} {B : Nat} {gs : List SV} {k : Nat} (h : Got E w B vs gs k f) (hS : ∀ b, S b → b < B ∧ ¬ SS vs b) (ho : Only S w w') : Got E w' B vs gs k f := by
  refine ⟨h.len, fun j g u hj hg hu => (h.at_ j g u hj hg hu).onlyS ho fun b hb hb' => ?_, h.own⟩
  rcases h.own j g u hj hg hu b hb with h1 | h1
  · exact (hS b hb').2 ⟨j, u, hu, h1⟩
  · have := (hS b hb').1; omega
theorem Got.next {B : Nat} {gs : List SV} {k : Nat} {g v : SV} (h : Got E w B vs gs k f) (hv : vs[k]? = some v) (hg : SliceOf E w g.1 (f k)) (hown : ∀ b, g.1.ownBlock = some b → v.1.ownBlock = some b ∨ B ≤ b) : Got E w B vs (gs.set k g) (k + 1) f := by
  have hk : k < gs.length := by rw [h.len]; exact (List.getElem?_eq_some_iff.1 hv).1
  refine ⟨by simpa using h.len, fun j g' u hj hg' hu => ?_, fun j g' u hj hg' hu => ?_⟩
  · by_cases hjk : j = k
    · subst hjk
      rw [List.getElem?_set_self hk] at hg'
      obtain rfl := Option.some.inj hg'
      exact hg
    · rw [List.getElem?_set_ne (Ne.symm hjk)] at hg'
      exact h.at_ j g' u (by omega) hg' hu
  · by_cases hjk : j = k
    · subst hjk
      rw [List.getElem?_set_self hk] at hg'
      obtain rfl := Option.some.inj hg'
      obtain rfl := Option.some.inj (hu.symm.trans hv)
      exact hown
    · rw [List.getElem?_set_ne (Ne.symm hjk)] at hg'
      exact h.own j g' u (by omega) hg' hu
section
variable {ops : Array Oper} {rest : List Oper} {o o2 : Oper} {a : Act} {Q : Exit → Act → World → Prop}
/-- 'make([]T, n)' -/
theorem wpList_makeN (E : Elem P α) (e0 : α) (he0 : E.val e0 = E.zero) (hg : o.guard = none) (x y : Operand) (kl kc : IntKind) (n : Nat) (ho : o.op = .makeSlice E.st x y) (hx : a.eval x = .int kl (n : Int)) (hy : a.eval y = .int kc (n : Int)) (hn : n ≤ 1099511627776 / 8) (hby : E.bytes ≤ 1000)
    (h : ∀ w', RoomN E w' (.slice (some ⟨w.heap.size, 0, none⟩) n n) (List.replicate n e0) → Below w.heap.size w w' → w'.heap.size = w.heap.size + 1 → wpList P ops Q rest (a.put o.dst (.slice (some ⟨w.heap.size, 0, none⟩) n n)) w') : wpList P ops Q (o :: rest) a w := by
  obtain ⟨i, hi, hz, hs, hb⟩ := E.info
  have hmul : i.bytes * n ≤ 281474976710656 := by
    rw [hb]
    exact Nat.le_trans (Nat.mul_le_mul hby hn) (by omega)
  have hmi : (i.bytes : Int) * (n : Int) ≤ 281474976710656 := by
    have h5 : ((i.bytes * n : Nat) : Int) ≤ 281474976710656 := by omega
    rwa [Int.natCast_mul] at h5
  have hr := run_make (P := P) w E.st E.ty i E.zero E.slice hi hz kl kc (n : Int) (n : Int) (by omega) (by omega) hmi (by omega)
  simp only [Int.toNat_natCast] at hr
  have hblk : Blk (w.alloc (.cells (madeCells E.zero.cells (n * i.size)) E.ty)) w.heap.size E.ty (madeCells E.zero.cells (n * i.size)) := Blk.new w E.ty _
  refine wpList_val hg (v := .slice (some ⟨w.heap.size, 0, none⟩) n n) (w' := w.alloc (.cells (madeCells E.zero.cells (n * i.size)) E.ty)) ?_ (h _ ?_ ((Below.refl _ _).alloc (Nat.le_refl _) _) (Array.size_push _))
  · simp [execOp, ho, hx, hy, hr]
  · rw [hs] at hblk ⊢
    refine .inr ⟨w.heap.size, 0, n, by simp, by simp, hblk.lt, fun j hj => ?_, fun j _ => frozen_of_row _ _ _ _ _ hblk, fun j u hj => ?_⟩
    · rw [hblk.cell, Array.getElem?_eq_getElem (by rw [size_madeCells]; omega)]; rfl
    · obtain ⟨k, c, q, h3, h4, rfl⟩ := E.flat_all _ j u hj
      have hkn : k < n := by simpa using (List.getElem?_eq_some_iff.1 h3).1
      obtain rfl : e0 = c := by rw [List.getElem?_replicate, if_pos hkn] at h3; exact Option.some.inj h3
      have hq : q < E.n := by have := (Array.getElem?_eq_some_iff.1 h4).1; rw [E.size] at this; exact this
      have hlt : k * E.n + q < n * E.n := by
        have : k * E.n + E.n ≤ n * E.n := by rw [← Nat.succ_mul]; exact Nat.mul_le_mul_right _ hkn
        omega
      rw [hblk.cell, Nat.zero_add]
      unfold madeCells
      rw [he0] at h4
      rw [Array.getElem?_map, Array.getElem?_range, if_pos hlt]
      simp only [Option.map_some]
      rw [E.zsize, Nat.add_comm, Nat.add_mul_mod_self_right, Nat.mod_eq_of_lt hq, getElem!_def, h4]
/-- 'append(g, x)' -/
theorem wpList_grow {ws : World} {l0 l : List α} {v g : Value} (hg : o.guard = none) (hg2 : o2.guard = none) (d : Tmp) (hd : o.dst = some d) (y : Operand) (ho : o.op = .buildSlice E.st 1 #[(0, y)]) (s : Operand)
    (ho2 : o2.op = .call { callee := .builtin .append, args := #[s, .tmp d], argTypes := #[E.st, E.st] }) (x : α) (hy : a.eval y = E.val x) (hs : ∀ p, (a.put o.dst p).eval s = g) (hsz : d < a.tmps.size)
    (hgr : Growing E ws w v l0 g l) (h63 : l.length + 1 ≤ 1099511627776 / 8) (hby : E.bytes ≤ 1000) (hv : ∀ b, v.ownBlock = some b → b < ws.heap.size)
    (h : ∀ u g' w', Growing E ws w' v l0 g' (l ++ [x]) → wpList P ops Q rest ((a.put o.dst u).put o2.dst g') w') : wpList P ops Q (o :: o2 :: rest) a w := by
  refine wpList_val hg (v := .slice (some ⟨w.heap.size, 0, none⟩) 1 1) (w' := w.alloc (.cells (E.val x).cells E.ty)) (by simp [execOp, ho, hy, run_slice_one]) ?_
  have hb1 : Below w.heap.size w (w.alloc (.cells (E.val x).cells E.ty)) := (Below.refl _ _).alloc (Nat.le_refl _) _
  obtain ⟨g', w', hrun, h2⟩ := (hgr.below hb1).append _ [x] (slice_of_block (Blk.new w E.ty (E.val x).cells)) (by simpa using h63) hby hv o2.type
  refine wpList_val hg2 (v := g') (w' := w') ?_ (h _ g' w' h2)
  have e2 : (a.put o.dst (.slice (some ⟨w.heap.size, 0, none⟩) 1 1)).eval (.tmp d) = .slice (some ⟨w.heap.size, 0, none⟩) 1 1 := by rw [hd]; simp [Act.put, Act.eval, hsz]
  simp [execOp, ho2, resolve, invoke, builtin, hs, e2, hrun]
/-- 'append(g, x...)' -/
theorem wpList_growS {ws : World} {l0 l m : List α} {v g vx : Value} (hg : o.guard = none) (s x : Operand) (ho : o.op = .call { callee := .builtin .append, args := #[s, x], argTypes := #[E.st, E.st] }) (hs : a.eval s = g) (hx : a.eval x = vx)
    (hgr : Growing E ws w v l0 g l) (hm : SliceOf E w vx m) (h63 : l.length + m.length ≤ 1099511627776 / 8) (hby : E.bytes ≤ 1000) (hv : ∀ b, v.ownBlock = some b → b < ws.heap.size)
    (h : ∀ g' w', Growing E ws w' v l0 g' (l ++ m) → wpList P ops Q rest (a.put o.dst g') w') : wpList P ops Q (o :: rest) a w := by
  obtain ⟨g', w', hrun, h2⟩ := hgr.append vx m hm h63 hby hv o.type
  refine wpList_val hg (v := g') (w' := w') ?_ (h g' w' h2)
  simp [execOp, ho, resolve, invoke, builtin, hs, hx, hrun]
end
end
end Go.Agg
/-! (of general use) spencekit.mark, markByte; slices of slices of bytes -/
namespace Go.Agg
open Go.RowKit
variable {P : Program}
theorem wpStill_loadL {w : World} {ops : Array Oper} {rest : List Oper} {o : Oper} {a : Act} {Q : Act → Prop} {ty : TypeId} {p : Option Addr} {v : Value} (h : LoadsL P w ty p v) (hw : Region.wanted o (yielded ops a.tmps) = true) (x : Operand) (ho : o.op = .load ty x) (hx : a.eval x = .pointer p)
    (hk : wpStill P ops w Q rest (a.put o.dst v)) : wpStill P ops w Q (o :: rest) a := wpStill_load hw ty x ho _ hx v h.now hk
theorem wpList_store {w w' : World} {ops : Array Oper} {rest : List Oper} {o : Oper} {a : Act} {Q : Exit → Act → World → Prop} (hg : o.guard = none) (hd : o.dst = none) (ty : TypeId) (x y : Operand) (ho : o.op = .store ty x y) (p v : Value) (hx : a.eval x = p) (hy : a.eval y = v)
    (hrun : (Instr.storeAt ty p v).run P w = .ok () w') (h : wpList P ops Q rest a w') : wpList P ops Q (o :: rest) a w := by
  refine wpList_skp hg hd ?_ h
  simp [execOp, ho, hx, hy, hrun]
end Go.Agg
namespace Go.Proofs.YtfiadgdinhmgbaaDoor
open Go.RowKit Pl Go.Agg
/-- the mark of a place -/
def mkB (k i : Nat) : UInt8 := UInt8.ofNat ((1000003 * (k + 7) + i) * 11400714819323198485 % 18446744073709551616 / 72057594037927936)
theorem mkB_int (k i : Nat) : IntKind.u64.wrap ((1000003 * ((k : Int) + 7) + (i : Int)) * 11400714819323198485) / 72057594037927936 % 256 = ((mkB k i).toNat : Int) := by
  have e : (1000003 * ((k : Int) + 7) + (i : Int)) * 11400714819323198485 = (((1000003 * (k + 7) + i) * 11400714819323198485 : Nat) : Int) := by simp
  rw [e]
  unfold mkB
  generalize (1000003 * (k + 7) + i) * 11400714819323198485 = n
  rw [show IntKind.u64.wrap (n : Int) = ((n % 18446744073709551616 : Nat) : Int) by simp [IntKind.wrap, IntKind.signed, IntKind.bits]]
  simp only [UInt8.toNat_ofNat']
  omega
theorem ret_u8 {a b : Int} (h : a = b) : Ending.returned (.int .u8 a) = .returned (.int .u8 b) := by rw [h]
def marks (k n : Nat) : List UInt8 := (List.range n).map (mkB k)
theorem marks_length (k n : Nat) : (marks k n).length = n := by simp [marks]
theorem marks_succ (k n : Nat) : marks k (n + 1) = marks k n ++ [mkB k n] := by simp [marks, List.range_succ]
theorem marks_get (k n i : Nat) (h : i < n) : (marks k n)[i]? = some (mkB k i) := by simp [marks, h]
def EBB : Elem Tryd.prog SV where
  ty := 23
  st := 135
  n := 1
  bytes := 24
  val := fun v => v.1
  zero := .slice none 0 0
  pos := by omega
  small := by omega
  size := fun v => by rw [sv_cells]; rfl
  one := fun v u hu => by
    rw [sv_cells] at hu
    obtain rfl : u = v.1 := by simpa using hu
    exact sv_one v
  zsize := rfl
  slice := by kernel_rfl
  info := info_of (by kernel_rfl) (by kernel_rfl) (by kernel_rfl)
  load := fun w a v hp h => LoadsL.of_cell (by have := h 0 v.1 (by rw [sv_cells]; rfl); rwa [show a.add 0 = a from rfl] at this) (by kernel_rfl : Tryd.prog.underlying 23 = some (.slice 5)) rfl
abbrev BBAt (w : World) (v : Value) (l : List SV) : Prop := SliceOf EBB w v l
theorem bb_len {w : World} {v : Value} {l : List SV} (h : BBAt w v l) (W : World) : (Builtin.len_ #[135] 3 #[v]).run Tryd.prog W = .ok (.int .i64 (l.length : Int)) W := h.len W
theorem bb_at {w : World} {v : Value} {l : List SV} (h : BBAt w v l) (k : Nat) (x : SV) (hx : l[k]? = some x) :
    ∃ p : Addr, (∀ W, (Instr.indexAt 135 v (.int .i64 (k : Int))).run Tryd.prog W = .ok (.pointer (some p)) W) ∧ LoadsL Tryd.prog w 23 (some p) x.1 := by
  obtain ⟨p, h1, _, _, h4⟩ := h.at_ k x hx
  exact ⟨p, h1, h4⟩
theorem RoomN.blen {w : World} {v : Value} {l : List UInt8} (h : RoomN EB w v l) (W : World) : (Builtin.len_ #[23] 3 #[v]).run Tryd.prog W = .ok (.int .i64 (l.length : Int)) W := h.slice.len W
end Go.Proofs.YtfiadgdinhmgbaaDoor
/-! Frames of bytes: the plain law. -/
namespace Go.Agg
/-- a number as bytes, seven bits each -/
def encN (n : Nat) : List UInt8 := if h : 128 ≤ n then UInt8.ofNat (n % 128 + 128) :: encN (n / 128) else [UInt8.ofNat n]
termination_by n
decreasing_by omega
theorem encN_lt {n : Nat} (h : n < 128) : encN n = [UInt8.ofNat n] := by rw [encN, dif_neg (by omega)]
theorem encN_ge {n : Nat} (h : 128 ≤ n) : encN n = UInt8.ofNat (n % 128 + 128) :: encN (n / 128) := by rw [encN, dif_pos h]
/-- how many bytes a frame's number has (0: some are missing, below 0: wrong), and what it is -/
def begGo : Nat → Nat → List UInt8 → Int × Nat
  | k, _, [] => if k = 3 then (-1, 0) else (0, 0)
  | k, n, c :: t => if k = 3 then (-1, 0) else
    if 65536 < n + c.toNat % 128 * 128 ^ k ∨ (c = 0 ∧ 0 < k) then (-1, 0) else
    if c.toNat < 128 then ((k : Int) + 1, n + c.toNat % 128 * 128 ^ k) else begGo (k + 1) (n + c.toNat % 128 * 128 ^ k) t
def beg (b : List UInt8) : Int × Nat := begGo 0 0 b
theorem begGo_append {x : List UInt8} : ∀ {k n : Nat} (y : List UInt8), (begGo k n x).1 ≠ 0 → begGo k n (x ++ y) = begGo k n x := by
  induction x with
  | nil =>
    intro k n y h
    by_cases hk : k = 3
    · cases y <;> simp [begGo, hk]
    · simp [begGo, hk] at h
  | cons c t ih =>
    intro k n y h
    simp only [List.cons_append, begGo] at h ⊢
    split
    · rfl
    · split
      · rfl
      · split
        · rfl
        · rename_i h1 h2 h3
          rw [if_neg h1, if_neg h2, if_neg h3] at h
          exact ih y h
theorem begGo_le {x : List UInt8} : ∀ {k n : Nat}, k ≤ 3 → (begGo k n x).1 ≤ k + x.length ∧ (0 ≤ (begGo k n x).1 → (begGo k n x).1 ≠ 0 → 1 ≤ (begGo k n x).1) ∧ (begGo k n x).1 ≤ 3 ∧ (begGo k n x).2 ≤ 65536 ∧ -1 ≤ (begGo k n x).1 := by
  induction x with
  | nil => intro k n hk; simp only [begGo]; split <;> simp <;> omega
  | cons c t ih =>
    intro k n hk
    simp only [begGo]
    split
    · simp; omega
    · split
      · simp; omega
      · split
        · simp; omega
        · have := ih (k := k + 1) (n := n + c.toNat % 128 * 128 ^ k) (by omega)
          simp only [List.length_cons]
          omega
theorem beg_le (x : List UInt8) : (beg x).1 ≤ x.length := by have := (begGo_le (x := x) (k := 0) (n := 0) (by omega)).1; simpa [beg] using this
theorem beg_most (x : List UInt8) : (beg x).2 ≤ 65536 := (begGo_le (x := x) (k := 0) (n := 0) (by omega)).2.2.2.1
theorem beg_three (x : List UInt8) : (beg x).1 ≤ 3 := (begGo_le (x := x) (k := 0) (n := 0) (by omega)).2.2.1
def frames (b : List UInt8) : Option (List (List UInt8) × List UInt8) :=
  if _h : (beg b).1 < 0 then none
  else if _h2 : (beg b).1 = 0 ∨ b.length < (beg b).1.toNat + (beg b).2 then some ([], b)
  else (frames (b.drop ((beg b).1.toNat + (beg b).2))).map fun x => ((b.drop (beg b).1.toNat).take (beg b).2 :: x.1, x.2)
termination_by b.length
decreasing_by simp only [List.length_drop]; omega
theorem frames_wrong {b : List UInt8} (h : (beg b).1 < 0) : frames b = none := by rw [frames, dif_pos h]
theorem frames_end {b : List UInt8} (h : ¬ (beg b).1 < 0) (h2 : (beg b).1 = 0 ∨ b.length < (beg b).1.toNat + (beg b).2) : frames b = some ([], b) := by rw [frames, dif_neg h, dif_pos h2]
theorem frames_step {b : List UInt8} (h : ¬ (beg b).1 < 0) (h2 : ¬ ((beg b).1 = 0 ∨ b.length < (beg b).1.toNat + (beg b).2)) :
    frames b = (frames (b.drop ((beg b).1.toNat + (beg b).2))).map fun x => ((b.drop (beg b).1.toNat).take (beg b).2 :: x.1, x.2) := by conv => lhs; rw [frames, dif_neg h, dif_neg h2]
/-- bytes that come in two parts -/
theorem frames_append : ∀ (n : Nat) (x y : List UInt8), x.length ≤ n → frames (x ++ y) = (frames x).bind fun p => (frames (p.2 ++ y)).map fun q => (p.1 ++ q.1, q.2) := by
  intro n
  induction n with
  | zero =>
    intro x y h
    obtain rfl : x = [] := List.length_eq_zero_iff.1 (by omega)
    have h0 : beg [] = (0, 0) := rfl
    rw [frames_end (b := []) (by rw [h0]; omega) (.inl (by rw [h0]))]
    simp
  | succ n ih =>
    intro x y h
    by_cases h1 : (beg x).1 < 0
    · have hb : beg (x ++ y) = beg x := begGo_append y (by unfold beg at h1; omega)
      rw [frames_wrong h1, frames_wrong (by rw [hb]; exact h1)]
      rfl
    · by_cases h2 : (beg x).1 = 0 ∨ x.length < (beg x).1.toNat + (beg x).2
      · rw [frames_end h1 h2]; simp
      · have hb : beg (x ++ y) = beg x := begGo_append y (by unfold beg at h1 h2; omega)
        have hl : (beg x).1.toNat + (beg x).2 ≤ x.length := by omega
        have hd : (x ++ y).drop ((beg x).1.toNat + (beg x).2) = x.drop ((beg x).1.toNat + (beg x).2) ++ y := List.drop_append_of_le_length hl
        have ht : ((x ++ y).drop (beg x).1.toNat).take (beg x).2 = (x.drop (beg x).1.toNat).take (beg x).2 := by
          rw [List.drop_append_of_le_length (by omega), List.take_append_of_le_length (by simp; omega)]
        rw [frames_step h1 h2, frames_step (by rw [hb]; exact h1) (by rw [hb]; simp only [List.length_append]; omega), hb, hd, ht, ih _ y (by simp only [List.length_drop]; omega)]
        cases frames (x.drop ((beg x).1.toNat + (beg x).2)) with
        | none => rfl
        | some p =>
          simp only [Option.map_some, Option.bind_some]
          cases frames (p.2 ++ y) <;> simp
theorem frames_two (b : List UInt8) (k : Nat) : frames b = (frames (b.take k)).bind fun p => (frames (p.2 ++ b.drop k)).map fun q => (p.1 ++ q.1, q.2) := by
  have := frames_append _ (b.take k) (b.drop k) (Nat.le_refl _)
  rwa [List.take_append_drop] at this
theorem toNat_of (n : Nat) (h : n < 256) : (UInt8.ofNat n).toNat = n := by simp; omega
theorem beg_enc {n : Nat} (h : n ≤ 65536) (y : List UInt8) : beg (encN n ++ y) = (((encN n).length : Int), n) := by
  have one : ∀ (k m v : Nat), k < 3 → v < 128 → (v = 0 → k = 0) → m + v * 128 ^ k ≤ 65536 → ∀ t, begGo k m (UInt8.ofNat v :: t) = ((k : Int) + 1, m + v * 128 ^ k) := by
    intro k m v hk hv h0 hm t
    have e := toNat_of v (by omega)
    have hz : UInt8.ofNat v = 0 → v = 0 := fun h => by have := congrArg UInt8.toNat h; rw [e] at this; simpa using this
    have h1 : ¬ (65536 < m + v * 128 ^ k ∨ (UInt8.ofNat v = 0 ∧ 0 < k)) := by
      rintro (h | ⟨h, h'⟩)
      · omega
      · have := h0 (hz h); omega
    simp only [begGo, e, Nat.mod_eq_of_lt hv]
    rw [if_neg (by omega), if_neg h1, if_pos hv]
  have more : ∀ (k m v : Nat), k < 3 → v < 128 → m + v * 128 ^ k ≤ 65536 → ∀ t, begGo k m (UInt8.ofNat (v + 128) :: t) = begGo (k + 1) (m + v * 128 ^ k) t := by
    intro k m v hk hv hm t
    have e := toNat_of (v + 128) (by omega)
    have hm2 : (v + 128) % 128 = v := by omega
    have hz : ¬ UInt8.ofNat (v + 128) = 0 := fun h => by have := congrArg UInt8.toNat h; rw [e] at this; simp at this
    have h1 : ¬ (65536 < m + v * 128 ^ k ∨ (UInt8.ofNat (v + 128) = 0 ∧ 0 < k)) := by
      rintro (h | ⟨h, h'⟩)
      · omega
      · exact hz h
    simp only [begGo, e, hm2]
    rw [if_neg (by omega), if_neg h1, if_neg (by omega)]
  unfold beg
  by_cases h1 : n < 128
  · rw [encN_lt h1, List.singleton_append, one 0 0 n (by omega) h1 (by omega) (by omega)]
    simp
  · rw [encN_ge (by omega), List.cons_append, more 0 0 (n % 128) (by omega) (by omega) (by omega)]
    by_cases h2 : n / 128 < 128
    · rw [encN_lt h2, List.singleton_append, one 1 _ (n / 128) (by omega) h2 (by omega) (by omega)]
      simp; omega
    · rw [encN_ge (by omega), List.cons_append, more 1 _ (n / 128 % 128) (by omega) (by omega) (by omega)]
      have h3 : n / 128 / 128 < 128 := by omega
      rw [encN_lt h3, List.singleton_append, one 2 _ (n / 128 / 128) (by omega) h3 (by omega) (by omega)]
      simp; omega
/-- frames that are told -/
def framed (l : List (List UInt8)) : List UInt8 := l.flatMap fun b => encN b.length ++ b
theorem frames_framed (l : List (List UInt8)) (h : ∀ b ∈ l, b.length ≤ 65536) : frames (framed l) = some (l, []) := by
  induction l with
  | nil =>
    have h0 : beg [] = (0, 0) := rfl
    exact frames_end (b := []) (by rw [h0]; omega) (.inl (by rw [h0]))
  | cons b l ih =>
    have hb : beg (framed (b :: l)) = (((encN b.length).length : Int), b.length) := by
      simp only [framed, List.flatMap_cons, List.append_assoc]
      exact beg_enc (h b (by simp)) _
    have hpos : 0 < (encN b.length).length := by
      rw [encN]; split <;> simp
    have hl : (framed (b :: l)).length = (encN b.length).length + b.length + (framed l).length := by simp [framed, Nat.add_assoc]
    rw [frames_step (by rw [hb]; omega) (by rw [hb, hl]; simp only [Int.toNat_natCast]; omega), hb]
    have e1 : (framed (b :: l)).drop ((encN b.length).length + b.length) = framed l := by
      simp only [framed, List.flatMap_cons]
      rw [← List.length_append, List.drop_left]
    have e2 : ((framed (b :: l)).drop (encN b.length).length).take b.length = b := by
      simp only [framed, List.flatMap_cons, List.append_assoc]
      rw [List.drop_left, List.take_left]
    simp only [Int.toNat_natCast, e1, e2, ih (fun c hc => h c (by simp [hc]))]
    rfl
end Go.Agg
/-! One cell of a block written. -/
namespace Go.Agg
open Go.RowKit
variable {P : Program}
theorem Blk.set {w : World} {g : Nat} {t : TypeId} {cs : Array Value} (h : Blk w g t cs) (i : Nat) (v : Value) : Blk (w.setCell ⟨g, i, none⟩ v) g t (cs.setIfInBounds i v) := by
  unfold Blk at *
  simp [World.setCell, Array.getElem?_modify, h]
theorem Blk.run_put {w : World} {g : Nat} {t ty : TypeId} {cs : Array Value} (h : Blk w g t cs) (i : Nat) (hi : i < cs.size) (v : Value) (hv : v.cells = #[v]) (h1 : v.oneCell' = true) (hs : (P.info? ty).map (·.size) = some 1) :
    (Instr.storeAt ty (.pointer (some ⟨g, i, none⟩)) v).run P w = .ok () (w.setCell ⟨g, i, none⟩ v) := by
  have hst := run_storeCells_cells (P := P) g i v.cells.toList 0 w (fun j hj => by
    rw [hv] at hj
    obtain rfl : j = 0 := by simpa using hj
    rw [h.cell]
    simp [hi]) (fun j _ => frozen_of_row _ _ _ _ _ h) (by rw [hv]; simpa using h1)
  have hsz : (Go.sizeOf ty).run P w = .ok 1 w := by
    cases hq : P.info? ty with
    | none => simp [hq] at hs
    | some d =>
      have : d.size = 1 := by simpa [hq] using hs
      simp [Go.sizeOf, typeInfo, hq, this]
  rw [hv] at hst
  simp only [Nat.add_zero, World.setCells] at hst
  simp [Instr.storeAt, Instr.sureAddr, storeVar, hsz, hv, hst]
end Go.Agg
/-! code.Maker's block; what a step of a maker leaves alone. -/
namespace Go.Agg
open Go.RowKit
theorem encN_len' : ∀ (m n : Nat), 0 < m → n < 128 ^ m → (encN n).length ≤ m := by
  intro m
  induction m with
  | zero => intro n h; omega
  | succ m ih =>
    intro n _ hn
    by_cases h : n < 128
    · rw [encN_lt h]; simp
    · rw [encN_ge (by omega), List.length_cons]
      have hm : 0 < m := by
        rcases Nat.eq_zero_or_pos m with h0 | h0
        · subst h0; simp at hn; omega
        · exact h0
      have := ih (n / 128) hm (by rw [Nat.pow_succ] at hn; exact Nat.div_lt_of_lt_mul (by rw [Nat.mul_comm]; exact hn))
      omega
theorem encN_len {n : Nat} (h : n ≤ 1099511627776) : (encN n).length ≤ 6 := encN_len' 6 n (by omega) (by omega)
section
variable {P : Program} {α : Type} {E : Elem P α} {ops : Array Oper} {rest : List Oper} {o o2 : Oper} {a : Act} {w : World} {Q : Exit → Act → World → Prop} {base : Nat} {v : Value} {l : List α}
/-- where a grown slice lies -/
def Grew (w : World) (v v' : Value) : Prop := ∀ k, v'.ownBlock = some k → v.ownBlock = some k ∨ w.heap.size ≤ k
theorem Grew.refl (w : World) (v : Value) : Grew w v v := fun _ h => .inl h
theorem grew_of {w0 w : World} {v v' : Value} (hs : w0.heap.size ≤ w.heap.size) (h : v'.ownBlock = v.ownBlock ∨ v'.ownBlock = some w.heap.size) : Grew w0 v v' := fun k hk => by
  rcases h with h | h
  · rw [h] at hk; exact .inl hk
  · rw [h] at hk; obtain rfl := Option.some.inj hk; exact .inr hs
theorem wpList_pushO (hg : o.guard = none) (hg2 : o2.guard = none) (d : Tmp) (hd : o.dst = some d) (y : Operand) (ho : o.op = .buildSlice E.st 1 #[(0, y)]) (s : Operand)
    (ho2 : o2.op = .call { callee := .builtin .append, args := #[s, .tmp d], argTypes := #[E.st, E.st] }) (x : α) (hy : a.eval y = E.val x) (hs : ∀ p, (a.put o.dst p).eval s = v) (hsz : d < a.tmps.size)
    (hown : Own E base w v l) (h63 : l.length + 1 ≤ 1099511627776 / 8) (hby : E.bytes ≤ 1000) (hbase : base ≤ w.heap.size)
    (h : ∀ u v' w', Own E base w' v' (l ++ [x]) → Pushed E base w w' v → Grew w v v' → wpList P ops Q rest ((a.put o.dst u).put o2.dst v') w') : wpList P ops Q (o :: o2 :: rest) a w := by
  refine wpList_val hg (v := .slice (some ⟨w.heap.size, 0, none⟩) 1 1) (w' := w.alloc (.cells (E.val x).cells E.ty)) (by simp [execOp, ho, hy, run_slice_one]) ?_
  have hb1 : Below w.heap.size w (w.alloc (.cells (E.val x).cells E.ty)) := (Below.refl _ _).alloc (Nat.le_refl _) _
  have hown1 := hown.below hb1
  obtain ⟨v', w', hrun, h2, h3, h4, _⟩ := run_append (ty := o2.type) hown1 _ [x] (slice_of_block (Blk.new w E.ty (E.val x).cells)) (by simpa using h63) hby (Nat.le_trans hbase hb1.size)
  have hp := pushed_of hown1 h3
  have hpu : Pushed E base w w' v := {
    below := fun B hB hs => (hb1.mono hs).trans (hp.below B hB (Nat.le_trans hs hb1.size))
    other := fun g hlt hne => (hp.other g (Nat.lt_of_lt_of_le hlt hb1.size) hne).trans (hb1.block g hlt)
    blk := fun g t cs fr hne hb => hp.blk g t cs fr hne (keep' hb1 hb)
    map := fun g es c hb => hp.map g es c (keep' hb1 hb)
    size := Nat.le_trans hb1.size hp.size }
  refine wpList_val hg2 (v := v') (w' := w') ?_ (h _ v' w' h2 hpu (grew_of hb1.size h4))
  have e2 : (a.put o.dst (.slice (some ⟨w.heap.size, 0, none⟩) 1 1)).eval (.tmp d) = .slice (some ⟨w.heap.size, 0, none⟩) 1 1 := by rw [hd]; simp [Act.put, Act.eval, hsz]
  simp [execOp, ho2, resolve, invoke, builtin, hs, e2, hrun]
theorem wpList_appendO (hg : o.guard = none) (s x : Operand) (ho : o.op = .call { callee := .builtin .append, args := #[s, x], argTypes := #[E.st, E.st] }) (vx : Value) (hs : a.eval s = v) (hx : a.eval x = vx) (m : List α)
    (hown : Own E base w v l) (hm : SliceOf E w vx m) (h63 : l.length + m.length ≤ 1099511627776 / 8) (hby : E.bytes ≤ 1000) (hbase : base ≤ w.heap.size)
    (h : ∀ v' w', Own E base w' v' (l ++ m) → Pushed E base w w' v → Grew w v v' → wpList P ops Q rest (a.put o.dst v') w') : wpList P ops Q (o :: rest) a w := by
  obtain ⟨v', w', hrun, h2, h3, h4, _⟩ := run_append (ty := o.type) hown _ m hm h63 hby hbase
  refine wpList_val hg (v := v') (w' := w') ?_ (h v' w' h2 (pushed_of hown h3) (grew_of (Nat.le_refl _) h4))
  simp [execOp, ho, resolve, invoke, builtin, hs, hx, hrun]
theorem Pushed.only {w' : World} (h : Pushed E base w w' v) : Only (fun k => v.ownBlock = some k) w w' where
  os := (h.below 0 (Nat.zero_le _) (Nat.zero_le _)).os
  tape := (h.below 0 (Nat.zero_le _) (Nat.zero_le _)).tape
  output := (h.below 0 (Nat.zero_le _) (Nat.zero_le _)).output
  size := h.size
  block := fun k hk hne => h.other k hk (fun e => hne e.symm)
/-- a step of what lies at g, of which the slice v grows -/
structure MkStep (g : Nat) (w w' : World) (v v' : Value) : Prop where
  only : Only (fun k => k = g ∨ v.ownBlock = some k) w w'
  grew : Grew w v v'
variable {g : Nat} {w1 w2 : World} {v1 v2 : Value}
theorem MkStep.refl (g : Nat) (w : World) (v : Value) : MkStep g w w v v := ⟨Only.refl _ _, Grew.refl _ _⟩
theorem MkStep.trans (h : MkStep g w w1 v v1) (k : MkStep g w1 w2 v1 v2) : MkStep g w w2 v v2 where
  only := h.only.trans k.only fun i hi hT => by
    rcases hT with rfl | hT
    · exact .inl rfl
    · rcases h.grew i hT with h | h
      · exact .inr h
      · omega
  grew := fun i hi => by
    rcases k.grew i hi with h1 | h1
    · exact h.grew i h1
    · exact .inr (Nat.le_trans h.only.size h1)
theorem MkStep.later (h : MkStep g w w1 v v1) (hb : Below w1.heap.size w1 w2) : MkStep g w w2 v v1 := ⟨h.only.trans (Only.of_below (S := fun _ => False) hb) (fun _ _ h => h.elim), h.grew⟩
theorem MkStep.of_below (hb : Below w.heap.size w w1) : MkStep g w w1 v v := ⟨(Only.of_below (S := fun _ => False) hb).mono (fun _ _ h => h.elim), Grew.refl _ _⟩
theorem MkStep.below (h : MkStep g w w1 v v1) (hg : g ≤ w.heap.size) (hv : ∀ k, v.ownBlock = some k → g ≤ k) : Below g w w1 := h.only.below hg fun i hi => by
  rcases hi with rfl | hi
  · exact Nat.le_refl _
  · exact hv i hi
/-- a slice that a maker does not touch -/
def Off {β : Type} (F : Elem P β) (g : Nat) (w : World) (mv x : Value) (l : List β) : Prop := SliceOf F w x l ∧ (l = [] ∨ ∀ k, x.ownBlock = some k → k < w.heap.size ∧ k ≠ g ∧ mv.ownBlock ≠ some k)
theorem SliceOf.nil_any {β : Type} {F : Elem P β} {x : Value} (h : SliceOf F w x []) (w' : World) : SliceOf F w' x [] := by
  rcases h with ⟨p, c, rfl, _⟩ | ⟨p, cap, rfl, _⟩
  · exact SliceOf.nil _ _ _
  · exact SliceOf.nil _ _ _
theorem Off.step {β : Type} {F : Elem P β} {x : Value} {l : List β} (h : Off F g w v x l) (k : MkStep g w w1 v v1) : Off F g w1 v1 x l := by
  obtain ⟨h1, rfl | h2⟩ := h
  · exact ⟨h1.nil_any _, .inl rfl⟩
  · refine ⟨h1.onlyS k.only fun b hb hS => ?_, .inr fun b hb => ?_⟩
    · obtain ⟨_, h3, h4⟩ := h2 b hb
      rcases hS with rfl | hS
      · exact h3 rfl
      · exact h4 hS
    · obtain ⟨h5, h3, h4⟩ := h2 b hb
      refine ⟨Nat.lt_of_lt_of_le h5 k.only.size, h3, fun e => ?_⟩
      rcases k.grew b e with h | h
      · exact h4 h
      · omega
theorem Off.slice {β : Type} {F : Elem P β} {x : Value} {l : List β} (h : Off F g w v x l) : SliceOf F w x l := h.1
/-- what was there before the maker -/
theorem Off.before {β : Type} {F : Elem P β} {w0 : World} {x : Value} {l : List β} (h : SliceOf F w0 x l) (hb : Below w0.heap.size w0 w) (hg : w0.heap.size ≤ g) (hv : ∀ k, v.ownBlock = some k → w0.heap.size ≤ k) : Off F g w v x l := by
  refine ⟨h.below hb, ?_⟩
  rcases h with ⟨_, _, _, rfl⟩ | ⟨p, cap, rfl, hp, _⟩
  · exact .inl rfl
  · refine .inr fun k hk => ?_
    obtain rfl : p.block = k := by simpa [Value.ownBlock] using hk
    have := hb.size
    exact ⟨by omega, by omega, fun e => by have := hv _ e; omega⟩
/-- what came behind the maker's last step -/
theorem Off.behind {β : Type} {F : Elem P β} {w0 : World} {x : Value} {l : List β} (h : SliceOf F w x l) (hx : ∀ k, x.ownBlock = some k → w0.heap.size ≤ k) (hg : g < w0.heap.size) (hv : ∀ k, v.ownBlock = some k → k < w0.heap.size) : Off F g w v x l := by
  refine ⟨h, ?_⟩
  rcases h with ⟨_, _, _, rfl⟩ | ⟨p, cap, rfl, hp, _⟩
  · exact .inl rfl
  · refine .inr fun k hk => ?_
    have hk' := hk
    obtain rfl : p.block = k := by simpa [Value.ownBlock] using hk
    have := hx _ hk'
    exact ⟨hp, by omega, fun e => by have := hv _ e; omega⟩
end
end Go.Agg
namespace Go.Proofs.YtfiadgdinhmgbaaDoor
open Go.RowKit Pl Go.Agg
def mkC (v : Value) : Array Value := #[v, .bool false]
/-- a maker: its bytes so far -/
structure MkV (g : Nat) (w : World) (v : Value) (b : List UInt8) : Prop where
  blk : Blk w g 113 (mkC v)
  own : Own EB (g + 1) w v b
section
variable {g : Nat} {w w' : World} {v : Value} {b : List UInt8}
theorem MkV.load (h : MkV g w v b) : LoadsL Tryd.prog w 23 (some ⟨g, 0, none⟩) v :=
  h.blk.one (P := Tryd.prog) 0 rfl (by kernel_rfl : Tryd.prog.underlying 23 = some (.slice 5)) rfl
theorem MkV.bad (h : MkV g w v b) : LoadsL Tryd.prog w 4 (some ⟨g, 1, none⟩) (.bool false) :=
  h.blk.one (P := Tryd.prog) 1 rfl Tryd.underlying4 rfl
theorem MkV.below (h : MkV g w v b) (hb : Below w.heap.size w w') : MkV g w' v b := ⟨h.blk.below hb, h.own.below hb⟩
theorem MkV.ge (h : MkV g w v b) : ∀ k, v.ownBlock = some k → g ≤ k := fun k hk => by have := (h.own.block k hk).1; omega
theorem MkV.lt (h : MkV g w v b) : ∀ k, v.ownBlock = some k → k < w.heap.size := fun k hk => by
  obtain ⟨_, cur, hc⟩ := h.own.block k hk
  exact Agg.heap_lt hc
theorem MkV.put {w1 : World} {v1 : Value} {l : List UInt8} (h : MkV g w v b) (ho : Own EB (g + 1) w1 v1 l) (hp : Pushed EB (g + 1) w w1 v) (hgr : Grew w v v1) :
    ∃ w2, (Instr.storeAt 23 (.pointer (some ⟨g, 0, none⟩)) v1).run Tryd.prog w1 = .ok () w2 ∧ MkV g w2 v1 l ∧ MkStep g w w2 v v1 := by
  have h1 : Blk w1 g 113 (mkC v) := hp.blk g _ _ _ (by decide) h.blk
  obtain ⟨p, c, rfl⟩ := ho.slice.form
  refine ⟨_, h1.run_put 0 (by simp [mkC]) _ rfl rfl (by kernel_rfl), ⟨h1.set 0 _, ho.keep fun k cur t fr hk hb => ?_⟩, ⟨?_, hgr⟩⟩
  · rw [Below.heap_setCell _ _ _ _ (by show k ≠ g; omega)]; exact hb
  · refine (hp.only.mono fun _ _ h => .inr h).trans (T := fun k => k = g) ⟨rfl, rfl, rfl, by simp [World.setCell], fun k _ hk => Below.heap_setCell _ _ _ _ hk⟩ fun _ _ h => .inl h
theorem MkV.stepBelow {v1 : Value} (h : MkV g w v b) (hs : MkStep g w w' v v1) : Below g w w' := hs.below (Nat.le_of_lt h.blk.lt) h.ge
end
/-- numbers -/
def EI : Elem Tryd.prog Nat where
  ty := 3
  st := 136
  n := 1
  bytes := 8
  val := fun c => .int .i64 (c : Int)
  zero := .int .i64 0
  pos := by omega
  small := by omega
  size := fun x => rfl
  one := fun x v hv => by
    obtain rfl : v = .int .i64 (x : Int) := by simpa [Value.cells] using hv
    rfl
  zsize := rfl
  slice := by kernel_rfl
  info := info_of (by kernel_rfl) (by kernel_rfl) (by kernel_rfl)
  load := fun w a x hp h => LoadsL.of_cell (by have := h 0 _ rfl; rwa [show a.add 0 = a from rfl] at this) Tryd.underlying3 rfl
theorem ints_len {w : World} {v : Value} {l : List Nat} (h : SliceOf EI w v l) (W : World) : (Builtin.len_ #[136] 3 #[v]).run Tryd.prog W = .ok (.int .i64 (l.length : Int)) W := h.len W
theorem int_at {w : World} {v : Value} {l : List Nat} (h : SliceOf EI w v l) (k : Nat) (x : Nat) (hx : l[k]? = some x) :
    ∃ p : Addr, (∀ W, (Instr.indexAt 136 v (.int .i64 (k : Int))).run Tryd.prog W = .ok (.pointer (some p)) W) ∧ LoadsL Tryd.prog w 3 (some p) (.int .i64 (x : Int)) := by
  obtain ⟨p, h1, _, _, h4⟩ := h.at_ k x hx
  exact ⟨p, h1, h4⟩
end Go.Proofs.YtfiadgdinhmgbaaDoor
