/- Maps that a call makes: a look-up that does not ask whether it is there; what a new key leaves. (Several texts in one.) -/
import Derived.Test.YtfiadgdinhmgbaaDoorHAB
import Derived.ArgAppend
import Derived.Laws.IdiomCopy
import Derived.Test.YtfiadgdinhmgbaaDoorHAA
import GoSem.Instr.MapUpdate
/-! Slices that may be written, their spare room too, over any program: store, append; what a step leaves alone. -/
namespace Go.Agg
open Go.RowKit
structure Only (S : Nat → Prop) (w w' : World) : Prop where
 os : w'.os = w.os
 tape : w'.tape = w.tape
 output : w'.output = w.output
 size : w.heap.size ≤ w'.heap.size
 block : ∀ k, k < w.heap.size → ¬ S k → w'.heap[k]? = w.heap[k]?
theorem Only.refl (S : Nat → Prop) (w : World) : Only S w w := ⟨rfl, rfl, rfl, Nat.le_refl _, fun _ _ _ => rfl⟩
theorem Only.trans {S T : Nat → Prop} {a b c : World} (h : Only S a b) (k : Only T b c) (hT : ∀ i, i < a.heap.size → T i → S i) : Only S a c :=
 ⟨k.os.trans h.os, k.tape.trans h.tape, k.output.trans h.output, Nat.le_trans h.size k.size, fun i hi hS => (k.block i (Nat.lt_of_lt_of_le hi h.size) (fun hT' => hS (hT i hi hT'))).trans (h.block i hi hS)⟩
theorem Only.mono {S T : Nat → Prop} {a b : World} (h : Only S a b) (hT : ∀ i, i < a.heap.size → S i → T i) : Only T a b := ⟨h.os, h.tape, h.output, h.size, fun i hi hS => h.block i hi (fun hs => hS (hT i hi hs))⟩
theorem Only.of_below {S : Nat → Prop} {a b : World} (h : Below a.heap.size a b) : Only S a b := ⟨h.os, h.tape, h.output, h.size, fun i hi _ => h.block i hi⟩
theorem Only.below {S : Nat → Prop} {a b : World} {B : Nat} (h : Only S a b) (hB : B ≤ a.heap.size) (hS : ∀ i, S i → B ≤ i) : Below B a b :=
 ⟨h.os, h.tape, h.output, h.size, fun i hi => h.block i (by omega) (fun hs => by have := hS i hs; omega)⟩
theorem Only.cell {S : Nat → Prop} {a b : World} (h : Only S a b) {p : Addr} (hp : p.block < a.heap.size) (hS : ¬ S p.block) : b.cell? p = a.cell? p := World.cell?_of_block (h.block _ hp hS)
theorem Only.frozen {S : Nat → Prop} {a b : World} (h : Only S a b) {p : Addr} (hp : p.block < a.heap.size) (hS : ¬ S p.block) : b.frozen? p = a.frozen? p := World.frozen?_of_block (h.block _ hp hS)
theorem only_setCells (b o : Nat) (vs : List Value) (w : World) : Only (· = b) w (w.setCells b o vs) := by
 induction vs generalizing o w with
 | nil => exact Only.refl _ _
 | cons v r ih =>
  have h1 : Only (· = b) w (w.setCell ⟨b, o, none⟩ v) := ⟨rfl, rfl, rfl, by simp [World.setCell], fun k _ hk => Below.heap_setCell _ _ _ _ hk⟩
  exact h1.trans (ih (o + 1) _) (fun _ _ h => h)
section
variable {P : Program} {α : Type} {E : Elem P α}
def Room (E : Elem P α) (w : World) (v : Value) (l : List α) : Prop :=
 ∃ b o cap, v = .slice (some ⟨b, o, none⟩) l.length cap ∧ l.length ≤ cap ∧ b < w.heap.size ∧ (∀ j, j < cap * E.n → (w.cell? ⟨b, o + j, none⟩).isSome = true) ∧ (∀ j, j < cap * E.n → w.frozen? ⟨b, o + j, none⟩ = false) ∧
  ∀ j u, (E.flat l)[j]? = some u → w.cell? ⟨b, o + j, none⟩ = some u
def RoomN (E : Elem P α) (w : World) (v : Value) (l : List α) : Prop := (v = .slice none 0 0 ∧ l = []) ∨ Room E w v l
variable {w w' : World} {v : Value} {l : List α}
theorem Room.slice (h : Room E w v l) : SliceOf E w v l := by
 obtain ⟨b, o, cap, rfl, _, hb, _, _, hc⟩ := h
 exact .inr ⟨_, cap, rfl, hb, fun j u hj => by rw [add_plain]; exact hc j u hj⟩
theorem RoomN.slice (h : RoomN E w v l) : SliceOf E w v l := by
 rcases h with ⟨rfl, rfl⟩ | h
 ·exact SliceOf.nil _ _ _
 ·exact h.slice
theorem Room.keep (h : Room E w v l) (hk : ∀ b, v.ownBlock = some b → b < w.heap.size → w'.heap[b]? = w.heap[b]?) (hs : w.heap.size ≤ w'.heap.size) : Room E w' v l := by
 obtain ⟨b, o, cap, rfl, hl, hb, h1, h2, hc⟩ := h
 have hbb := hk b rfl hb
 have e1 : ∀ j, w'.cell? ⟨b, o + j, none⟩ = w.cell? ⟨b, o + j, none⟩ := fun j => World.cell?_of_block hbb
 have e2 : ∀ j, w'.frozen? ⟨b, o + j, none⟩ = w.frozen? ⟨b, o + j, none⟩ := fun j => World.frozen?_of_block hbb
 exact ⟨b, o, cap, rfl, hl, by omega, fun j hj => by rw [e1]; exact h1 j hj, fun j hj => by rw [e2]; exact h2 j hj, fun j u hj => (e1 j).trans (hc j u hj)⟩
theorem RoomN.keep (h : RoomN E w v l) (hk : ∀ b, v.ownBlock = some b → b < w.heap.size → w'.heap[b]? = w.heap[b]?) (hs : w.heap.size ≤ w'.heap.size) : RoomN E w' v l := by
 rcases h with h | h
 ·exact .inl h
 ·exact .inr (h.keep hk hs)
theorem RoomN.only {S : Nat → Prop} (h : RoomN E w v l) (ho : Only S w w') (hS : ∀ b, v.ownBlock = some b → ¬ S b) : RoomN E w' v l := h.keep (fun b hb hlt => ho.block b hlt (hS b hb)) ho.size
theorem RoomN.below (h : RoomN E w v l) (hb : Below w.heap.size w w') : RoomN E w' v l := h.keep (fun b _ hlt => hb.block b hlt) hb.size
theorem RoomN.lt (h : RoomN E w v l) : ∀ b, v.ownBlock = some b → b < w.heap.size := by
 rcases h with ⟨rfl, _⟩ | ⟨b, o, cap, rfl, _, hb, _⟩
 ·intro b hb; simp [Value.ownBlock] at hb
 ·intro c hc
  obtain rfl : b = c := by simpa [Value.ownBlock] using hc
  exact hb
theorem RoomN.len (h : RoomN E w v l) (W : World) : (Builtin.len_ #[E.st] 3 #[v]).run P W = .ok (.int .i64 (l.length : Int)) W := h.slice.len W
theorem RoomN.of_own {base : Nat} (h : Own E base w v l) : RoomN E w v l := by
 obtain ⟨hfl, ⟨rfl, h0⟩ | ⟨g, cap, cur, rfl, hgb, hcur, hle, _, hsz, htk⟩⟩ := h
 ·exact .inl ⟨rfl, List.length_eq_zero_iff.1 h0⟩
 ·refine .inr ⟨g, 0, cap, rfl, hle, heap_lt hcur, fun j hj => ?_, fun j _ => frozen_of_row _ _ _ _ _ hcur, fun j u hj => ?_⟩
  ·rw [cell_of_row _ _ _ _ _ _ hcur, Array.getElem?_eq_getElem (by omega)]; rfl
  ·rw [Nat.zero_add, cell_of_row _ _ _ _ _ _ hcur]
   rw [← htk, List.getElem?_take] at hj
   split at hj
   ·simpa using hj
   ·cases hj
theorem run_append_room (h : RoomN E w v l) (x : Value) (m : List α) (hx : SliceOf E w x m) (h63 : l.length + m.length ≤ 1099511627776 / 8) (hby : E.bytes ≤ 1000) (ty : TypeId) :
  ∃ v' w', (Builtin.append_ #[E.st, E.st] ty #[v, x]).run P w = .ok v' w' ∧ RoomN E w' v' (l ++ m) ∧ RoomN E w' v l ∧ Only (fun b => v.ownBlock = some b) w w' ∧ (∀ b, v'.ownBlock = some b → v.ownBlock = some b ∨ w.heap.size ≤ b) ∧ ∀ b o n cap, v = .slice (some ⟨b, o, none⟩) n cap → v'.ownBlock = some b → v' = .slice (some ⟨b, o, none⟩) (n + m.length) cap := by
 obtain ⟨i, hi, hz, hs, hb⟩ := E.info
 have hmul : (l.length + m.length) * E.bytes ≤ 140737488355328 := Nat.le_trans (Nat.mul_le_mul h63 hby) (by omega)
 have hmax : l.length + m.length ≤ maxLen := by simp only [maxLen]; omega
 have hn := E.pos
 rcases h with ⟨rfl, rfl⟩ | h
 ·obtain ⟨v', w', hr, h2, h3, _, _⟩ := run_append (base := w.heap.size) (ty := ty) (Own.nil E w.heap.size w) x m hx (by simpa using h63) hby (Nat.le_refl _)
  refine ⟨v', w', hr, RoomN.of_own h2, .inl ⟨rfl, rfl⟩, ⟨h3.os, h3.tape, h3.output, h3.size, fun k hk _ => h3.block k hk (by simp [Value.ownBlock])⟩, fun b hb => .inr (h2.block b hb).1, fun b o n cap e => by injection e with e; cases e⟩
 ·have hsl := h.slice
  obtain ⟨b, o, cap, rfl, hlc, hbw, h1, h2, hc⟩ := h
  have hself : RoomN E w (.slice (some ⟨b, o, none⟩) l.length cap) l := .inr ⟨b, o, cap, rfl, hlc, hbw, h1, h2, hc⟩
  obtain ⟨p, c, rfl⟩ := hx.form
  cases p with
  | none =>
   have hm : m = [] := by
    rcases hx with ⟨_, _, _, h⟩ | ⟨p, cap, e, _⟩
    ·exact h
    ·injection e with e; cases e
   subst hm
   refine ⟨_, w, ?_, by simpa using hself, hself, Only.refl _ _, fun b hb => .inl hb, fun b o n cap e _ => by simpa using e⟩
   simp [Builtin.append_, run_underlying E.slice, sizeOf, typeInfo, hi, Builtin.lenOf, Builtin.firstCells, hlc, storeCells]
  | some p =>
   have hcells : ∀ j u, (E.flat m)[j]? = some u → w.cell? (p.add j) = some u := by
    rcases hx with ⟨_, _, _, rfl⟩ | ⟨q, cap, e, _, h⟩
    ·intro j u hj; simp [Elem.flat] at hj
    ·injection e with e
     injection e with e
     subst e
     exact h
   by_cases hfit : l.length + m.length ≤ cap
   ·have hlen := E.flat_length m
    have hll := E.flat_length l
    have hbd : l.length * E.n + m.length * E.n ≤ cap * E.n := by rw [← Nat.add_mul]; exact Nat.mul_le_mul_right _ hfit
    have hr := run_append_room_cells (P := P) w E.st ty E.ty i E.slice hi b o l.length cap p m.length c (E.flat m) (by rw [hs]; exact hlen) hcells (E.flat_one' m) hfit
     (fun j hj => by rw [hs, Nat.add_assoc]; exact h1 _ (by rw [hlen] at hj; omega)) (fun j hj => by rw [hs, Nat.add_assoc]; exact h2 _ (by rw [hlen] at hj; omega))
    rw [hs] at hr
    have hfr : ∀ x, (w.setCells b (o + l.length * E.n) (E.flat m)).frozen? x = w.frozen? x := fun x => World.frozen?_setCells b _ _ w x
    have hin : ∀ j u, (E.flat m)[j]? = some u → (w.setCells b (o + l.length * E.n) (E.flat m)).cell? ⟨b, o + l.length * E.n + j, none⟩ = some u := fun j u hj => by
     obtain ⟨hj', rfl⟩ := List.getElem?_eq_some_iff.1 hj
     exact World.cell?_setCells_in b (E.flat m) (o + l.length * E.n) w (fun k hk => by rw [Nat.add_assoc]; exact h1 _ (by rw [hlen] at hk; omega)) j hj'
    have hout : ∀ j, j < l.length * E.n → (w.setCells b (o + l.length * E.n) (E.flat m)).cell? ⟨b, o + j, none⟩ = w.cell? ⟨b, o + j, none⟩ := fun j hj =>
     World.cell?_setCells_out b _ _ w _ (fun _ _ => .inl (by show o + j < o + l.length * E.n; omega))
    have hsome : ∀ j, j < cap * E.n → ((w.setCells b (o + l.length * E.n) (E.flat m)).cell? ⟨b, o + j, none⟩).isSome = true := fun j hj => by
     by_cases hj1 : j < l.length * E.n
     ·rw [hout j hj1]; exact h1 j hj
     ·by_cases hj2 : j < l.length * E.n + m.length * E.n
      ·have hjl : j - l.length * E.n < (E.flat m).length := by rw [hlen]; omega
       have := hin (j - l.length * E.n) _ (List.getElem?_eq_getElem hjl)
       rw [show o + l.length * E.n + (j - l.length * E.n) = o + j by omega] at this
       rw [this]; rfl
      ·rw [World.cell?_setCells_out b _ _ w _ (fun _ _ => .inr (by show o + l.length * E.n + (E.flat m).length ≤ o + j; rw [hlen]; omega))]
       exact h1 j hj
    have honly := only_setCells b (o + l.length * E.n) (E.flat m) w
    refine ⟨_, _, hr, .inr ⟨b, o, cap, by rw [List.length_append], by rw [List.length_append]; exact hfit, Nat.lt_of_lt_of_le hbw honly.size, hsome, fun j hj => by rw [hfr]; exact h2 j hj, fun j u hj => ?_⟩,
     .inr ⟨b, o, cap, rfl, hlc, Nat.lt_of_lt_of_le hbw honly.size, hsome, fun j hj => by rw [hfr]; exact h2 j hj, fun j u hj => ?_⟩, honly.mono (fun k _ e => by simp [Value.ownBlock, e]), fun k hk => .inl hk, fun b' o' n' cap' e _ => by injection e with e1 e2 e3; injection e1 with e1; injection e1 with e4 e5; subst e2 e3 e4 e5; rfl⟩
    ·rw [E.flat_append] at hj
     by_cases hj1 : j < (E.flat l).length
     ·rw [List.getElem?_append_left hj1] at hj
      rw [hout j (by rw [← hll]; exact hj1)]
      exact hc j u hj
     ·rw [List.getElem?_append_right (by omega)] at hj
      have := hin _ u hj
      rw [hll] at this hj1
      rwa [show o + l.length * E.n + (j - l.length * E.n) = o + j by omega] at this
    ·have hj1 : j < (E.flat l).length := (List.getElem?_eq_some_iff.1 hj).1
     rw [hout j (by rw [← hll]; exact hj1)]
     exact hc j u hj
   ·obtain ⟨v', w', hr, h4, h5⟩ := run_append_arg_grows (P := P) w E.st ty E.ty i E.zero E.n E.bytes E.slice hi hz hs hb E.zsize E.pos ⟨b, o, none⟩ l.length cap (E.flat l) (E.flat_length l) (fun j u hj => by rw [add_plain]; exact hc j u hj)
     p m.length c (E.flat m) (E.flat_length m) hcells (by omega) hmax hmul
    have hown : Own E w.heap.size w' v' (l ++ m) := by
     unfold Own
     rw [List.length_append, E.flat_append]
     exact h4
    have honly : Only (fun _ => False) w w' := ⟨h5.os, h5.tape, h5.output, h5.size, fun k hk _ => h5.block k hk (by simp)⟩
    exact ⟨v', w', hr, RoomN.of_own hown, hself.only honly (fun _ _ h => h), honly.mono (fun _ _ h => h.elim), fun b hb => .inr (hown.block b hb).1, fun b' o' n' cap' e hb' => by
     injection e with e1; injection e1 with e1; injection e1 with e4
     have := (hown.block _ hb').1
     omega⟩
theorem run_storeAt_room (h : Room E w v l) (k : Nat) (a : α) (hk : k < l.length) :
  ∃ p w', (∀ W, (Instr.indexAt E.st v (.int .i64 (k : Int))).run P W = .ok (.pointer (some p)) W) ∧ (Instr.storeAt E.ty (.pointer (some p)) (E.val a)).run P w = .ok () w' ∧ Room E w' v (l.set k a) ∧ Only (fun b => v.ownBlock = some b) w w' := by
 obtain ⟨b, o, cap, rfl, hlc, hbw, h1, h2, hc⟩ := h
 have hn := E.pos
 have hkc : k * E.n + E.n ≤ cap * E.n := by rw [← Nat.succ_mul]; exact Nat.mul_le_mul_right _ (by omega)
 have hlen : (E.val a).cells.toList.length = E.n := by rw [Array.length_toList]; exact E.size a
 have hst := run_storeCells_cells (P := P) b (o + k * E.n) (E.val a).cells.toList 0 w (fun j hj => by rw [Nat.add_zero, Nat.add_assoc]; exact h1 _ (by omega)) (fun j hj => by rw [Nat.add_zero, Nat.add_assoc]; exact h2 _ (by omega)) (E.one a)
 rw [Nat.add_zero] at hst
 have hin : ∀ j u, (E.val a).cells[j]? = some u → (w.setCells b (o + k * E.n) (E.val a).cells.toList).cell? ⟨b, o + k * E.n + j, none⟩ = some u := fun j u hj => by
  have hj0 : (E.val a).cells.toList[j]? = some u := by rw [Array.getElem?_toList]; exact hj
  obtain ⟨hj', rfl⟩ := List.getElem?_eq_some_iff.1 hj0
  exact World.cell?_setCells_in b _ (o + k * E.n) w (fun i hi => by rw [Nat.add_assoc]; exact h1 _ (by omega)) j hj'
 have hout : ∀ j, j < k * E.n ∨ k * E.n + E.n ≤ j → (w.setCells b (o + k * E.n) (E.val a).cells.toList).cell? ⟨b, o + j, none⟩ = w.cell? ⟨b, o + j, none⟩ := fun j hj =>
  World.cell?_setCells_out b _ _ w _ (fun _ _ => by
   show o + j < o + k * E.n ∨ o + k * E.n + (E.val a).cells.toList.length ≤ o + j
   rw [hlen]; omega)
 have honly := only_setCells b (o + k * E.n) (E.val a).cells.toList w
 have hel : P.elem E.st = E.ty := by simp [Program.elem, E.slice]
 refine ⟨⟨b, o + k * E.n, none⟩, _, fun W => ?_, ?_, ⟨b, o, cap, by simp, by simpa using hlc, Nat.lt_of_lt_of_le hbw honly.size, fun j hj => ?_, fun j hj => by rw [World.frozen?_setCells]; exact h2 j hj, fun j u hj => ?_⟩, honly.mono (fun k _ e => by simp [Value.ownBlock, e])⟩
 ·rw [run_indexAt_slice W E.st ⟨b, o, none⟩ l.length cap .i64 (k : Int) (by rw [hel]; exact E.slice), if_pos (by omega), hel, run_sizeOf_elem]
  simp [Result.andThen, add_plain]
 ·have hsz : ∀ W, (sizeOf E.ty).run P W = .ok E.n W := fun W => run_sizeOf_elem W
  have he := E.size a
  simp [Instr.storeAt, Instr.sureAddr, storeVar, hsz, he, hst]
 ·by_cases hj1 : j < k * E.n ∨ k * E.n + E.n ≤ j
  ·rw [hout j hj1]; exact h1 j hj
  ·have hjl : j - k * E.n < (E.val a).cells.size := by rw [E.size]; omega
   have := hin (j - k * E.n) _ (Array.getElem?_eq_getElem hjl)
   rw [show o + k * E.n + (j - k * E.n) = o + j by omega] at this
   rw [this]; rfl
 ·obtain ⟨q, c, i, h3, h4, rfl⟩ := Elem.flat_all E _ j u hj
  have hi : i < E.n := by have := (Array.getElem?_eq_some_iff.1 h4).1; rw [E.size] at this; exact this
  by_cases hq : q = k
  ·subst hq
   rw [List.getElem?_set_self hk] at h3
   obtain rfl := Option.some.inj h3
   have := hin i u h4
   rwa [Nat.add_assoc] at this
  ·rw [List.getElem?_set_ne (Ne.symm hq)] at h3
   have hdis : q * E.n + i < k * E.n ∨ k * E.n + E.n ≤ q * E.n + i := by
    rcases Nat.lt_or_gt_of_ne hq with h | h
    ·have : q * E.n + E.n ≤ k * E.n := by rw [← Nat.succ_mul]; exact Nat.mul_le_mul_right _ h
     omega
    ·have : k * E.n + E.n ≤ q * E.n := by rw [← Nat.succ_mul]; exact Nat.mul_le_mul_right _ h
     omega
   rw [hout _ hdis]
   exact hc _ u (E.flat_get l q c i u h3 h4)
end
end Go.Agg
/-! RoomsOf of slices that may be written: stores, appends into one of them, make; over any program. -/
namespace Go.Agg
open Go.RowKit
abbrev SV : Type := { v : Value // ∃ p n c, v = .slice p n c }
instance : Inhabited SV := ⟨⟨.slice none 0 0, _, _, _, rfl⟩⟩
theorem sv_cells (v : SV) : v.1.cells = #[v.1] := by obtain ⟨_, p, n, c, rfl⟩ := v; rfl
theorem sv_one (v : SV) : v.1.oneCell' = true := by obtain ⟨_, p, n, c, rfl⟩ := v; rfl
def SS (vs : List SV) : Nat → Prop := fun b => ∃ (k : Nat) (v : SV), vs[k]? = some v ∧ v.1.ownBlock = some b
def Dist (vs : List SV) : Prop := ∀ (i j : Nat) (u v : SV), vs[i]? = some u → vs[j]? = some v → i ≠ j → ∀ b, u.1.ownBlock = some b → v.1.ownBlock ≠ some b
section
variable {P : Program} {α : Type} {E : Elem P α}
def RoomsOf (E : Elem P α) (w : World) (vs : List SV) (f : Nat → List α) : Prop := ∀ k v, vs[k]? = some v → RoomN E w v.1 (f k)
variable {w w' : World} {v : Value} {l : List α} {vs : List SV} {f : Nat → List α}
theorem RoomsOf.below (h : RoomsOf E w vs f) (hb : Below w.heap.size w w') : RoomsOf E w' vs f := fun k v hk => (h k v hk).below hb
theorem RoomsOf.lt (h : RoomsOf E w vs f) : ∀ b, SS vs b → b < w.heap.size := by
 rintro b ⟨k, v, hk, hb⟩
 exact (h k v hk).lt b hb
theorem RoomsOf.set (h : RoomsOf E w vs f) (hd : Dist vs) {k : Nat} {v : SV} (hv : vs[k]? = some v) {l : List α} (hl : RoomN E w' v.1 l) (ho : Only (fun b => v.1.ownBlock = some b) w w') :
  RoomsOf E w' vs (fun j => if j = k then l else f j) := by
 intro j u hu
 by_cases hj : j = k
 ·subst hj
  obtain rfl := Option.some.inj (hu.symm.trans hv)
  simpa using hl
 ·simp only [hj, if_false]
  exact (h j u hu).only ho (fun b hb hb' => hd j k u v hu hv hj b hb hb')
theorem RoomsOf.only {S : Nat → Prop} (h : RoomsOf E w vs f) (ho : Only S w w') (hS : ∀ b, SS vs b → ¬ S b) : RoomsOf E w' vs f := fun k v hk => (h k v hk).only ho (fun b hb => hS b ⟨k, v, hk, hb⟩)
theorem Only.ss {k : Nat} {v : SV} (hv : vs[k]? = some v) (ho : Only (fun b => v.1.ownBlock = some b) w w') : Only (SS vs) w w' := ho.mono fun _ _ hb => ⟨k, v, hv, hb⟩
theorem RoomN.store (h : RoomN E w v l) (k : Nat) (a : α) (hk : k < l.length) :
  ∃ p w', (∀ W, (Instr.indexAt E.st v (.int .i64 (k : Int))).run P W = .ok (.pointer (some p)) W) ∧ (Instr.storeAt E.ty (.pointer (some p)) (E.val a)).run P w = .ok () w' ∧ RoomN E w' v (l.set k a) ∧ Only (fun b => v.ownBlock = some b) w w' := by
 rcases h with ⟨rfl, rfl⟩ | h
 ·simp at hk
 ·obtain ⟨p, w', h1, h2, h3, h4⟩ := run_storeAt_room h k a hk
  exact ⟨p, w', h1, h2, .inr h3, h4⟩
theorem RoomsOf.store (h : RoomsOf E w vs f) (hd : Dist vs) {k : Nat} {v : SV} (hv : vs[k]? = some v) (i : Nat) (a : α) (hi : i < (f k).length) :
  ∃ p w', (∀ W, (Instr.indexAt E.st v.1 (.int .i64 (i : Int))).run P W = .ok (.pointer (some p)) W) ∧ (Instr.storeAt E.ty (.pointer (some p)) (E.val a)).run P w = .ok () w' ∧ RoomsOf E w' vs (fun j => if j = k then (f k).set i a else f j) ∧ Only (SS vs) w w' := by
 obtain ⟨p, w', h1, h2, h3, h4⟩ := (h k v hv).store i a hi
 exact ⟨p, w', h1, h2, h.set hd hv h3 h4, h4.ss hv⟩
theorem RoomN.place (h : RoomN E w v l) (k : Nat) (hk : k < l.length) :
  ∃ p, (∀ W, (Instr.indexAt E.st v (.int .i64 (k : Int))).run P W = .ok (.pointer (some p)) W) ∧ ∀ (w : World) (l : List α) (a : α), RoomN E w v l → k < l.length → ∃ w', (Instr.storeAt E.ty (.pointer (some p)) (E.val a)).run P w = .ok () w' ∧ RoomN E w' v (l.set k a) ∧ Only (fun b => v.ownBlock = some b) w w' := by
 have a0 := l[k]'hk
 obtain ⟨p, _, h1, _⟩ := h.store k a0 hk
 refine ⟨p, h1, fun w2 l2 a h2 hk2 => ?_⟩
 obtain ⟨p2, w', h3, h4, h5, h6⟩ := h2.store k a hk2
 have e := (h1 w2).symm.trans (h3 w2)
 injection e with e
 injection e with e
 injection e with e
 subst e
 exact ⟨w', h4, h5, h6⟩
theorem RoomsOf.place (h : RoomsOf E w vs f) (hd : Dist vs) {k : Nat} {v : SV} (hv : vs[k]? = some v) (i : Nat) (hi : i < (f k).length) :
  ∃ p, (∀ W, (Instr.indexAt E.st v.1 (.int .i64 (i : Int))).run P W = .ok (.pointer (some p)) W) ∧ ∀ (w : World) (f : Nat → List α) (a : α), RoomsOf E w vs f → i < (f k).length →
   ∃ w', (Instr.storeAt E.ty (.pointer (some p)) (E.val a)).run P w = .ok () w' ∧ RoomsOf E w' vs (fun j => if j = k then (f k).set i a else f j) ∧ Only (SS vs) w w' := by
 obtain ⟨p, h1, h2⟩ := (h k v hv).place i hi
 refine ⟨p, h1, fun w2 f2 a h3 hi2 => ?_⟩
 obtain ⟨w', h4, h5, h6⟩ := h2 w2 (f2 k) a (h3 k v hv) hi2
 exact ⟨w', h4, h3.set hd hv h5 h6, h6.ss hv⟩
theorem RoomN.form (h : RoomN E w v l) : ∃ p n c, v = .slice p n c := by
 obtain ⟨p, c, e⟩ := h.slice.form
 exact ⟨p, _, c, e⟩
theorem Got.lenk {gs : List SV} {k : Nat} (h : gs.length = vs.length) (hk : k < vs.length) : ∃ g, gs[k]? = some g := ⟨_, List.getElem?_eq_getElem (by omega)⟩
def PreOf (v g : Value) : Prop := ∀ b, v.ownBlock = some b → g.ownBlock = some b → ∃ o n cap m, v = .slice (some ⟨b, o, none⟩) n cap ∧ g = .slice (some ⟨b, o, none⟩) (n + m) cap
structure Growing (E : Elem P α) (ws wr : World) (v : Value) (l0 : List α) (g : Value) (l : List α) : Prop where
 only : Only (fun b => v.ownBlock = some b) ws wr
 room : RoomN E wr g l
 old : RoomN E wr v l0
 pre : PreOf v g
 own : ∀ b, g.ownBlock = some b → v.ownBlock = some b ∨ ws.heap.size ≤ b
 starts : l0 <+: l
theorem Growing.start {ws : World} {l0 : List α} (h : RoomN E ws v l0) : Growing E ws ws v l0 v l0 where
 only := Only.refl _ _
 room := h
 old := h
 pre := fun b hb _ => by
  rcases h with ⟨rfl, _⟩ | ⟨c, o, cap, rfl, _⟩
  ·simp [Value.ownBlock] at hb
  ·obtain rfl : c = b := by simpa [Value.ownBlock] using hb
   exact ⟨o, _, cap, 0, rfl, rfl⟩
 own := fun b hb => .inl hb
 starts := List.prefix_rfl
theorem Growing.below {ws wr w' : World} {l0 l : List α} {g : Value} (h : Growing E ws wr v l0 g l) (hb : Below wr.heap.size wr w') : Growing E ws w' v l0 g l where
 only := h.only.trans (Only.of_below (S := fun _ => False) hb) (fun _ _ h => h.elim)
 room := h.room.below hb
 old := h.old.below hb
 pre := h.pre
 own := h.own
 starts := h.starts
theorem Growing.append {ws wr : World} {l0 l : List α} {g : Value} (h : Growing E ws wr v l0 g l) (x : Value) (m : List α) (hx : SliceOf E wr x m) (h63 : l.length + m.length ≤ 1099511627776 / 8) (hby : E.bytes ≤ 1000) (hv : ∀ b, v.ownBlock = some b → b < ws.heap.size) (ty : TypeId) :
  ∃ g' w', (Builtin.append_ #[E.st, E.st] ty #[g, x]).run P wr = .ok g' w' ∧ Growing E ws w' v l0 g' (l ++ m) := by
 obtain ⟨g', w', hr, h1, h2, h3, h4, h5⟩ := run_append_room h.room x m hx h63 hby ty
 have hown : ∀ b, g'.ownBlock = some b → v.ownBlock = some b ∨ ws.heap.size ≤ b := fun b hb => by
  rcases h4 b hb with h6 | h6
  ·exact h.own b h6
  ·exact .inr (Nat.le_trans h.only.size h6)
 have hpre : PreOf v g' := fun b hb hb' => by
  have hlt := hv b hb
  rcases h4 b hb' with h6 | h6
  ·obtain ⟨o, n, cap, k, e1, e2⟩ := h.pre b hb h6
   exact ⟨o, n, cap, k + m.length, e1, by rw [h5 b o _ cap e2 hb', Nat.add_assoc]⟩
  ·have := h.only.size; omega
 refine ⟨g', w', hr, ⟨h.only.trans h3 (fun i hi hg => (h.own i hg).resolve_right (by omega)), h1, ?_, hpre, hown, h.starts.trans (List.prefix_append _ _)⟩⟩
 by_cases hsame : ∃ b, v.ownBlock = some b ∧ g.ownBlock = some b
 ·obtain ⟨b, hb, hg⟩ := hsame
  obtain ⟨o, n, cap, k, e1, e2⟩ := h.pre b hb hg
  rcases h.old with ⟨rfl, _⟩ | ⟨b1, o1, cap1, e3, hl1, _⟩
  ·simp [Value.ownBlock] at hb
  rcases h2 with ⟨rfl, _⟩ | ⟨b2, o2, cap2, e4, hl2, hlt2, hs2, hf2, hc2⟩
  ·simp [Value.ownBlock] at hg
  subst e1 e2
  injection e3 with e3 e5 e6
  injection e3 with e3
  injection e3 with e3 e7
  injection e4 with e4 e8 e9
  injection e4 with e4
  injection e4 with e4 e10
  subst e3 e4 e5 e6 e7 e9 e10
  refine .inr ⟨b, o, cap, rfl, hl1, hlt2, hs2, hf2, fun j u hj => hc2 j u ?_⟩
  obtain ⟨t, rfl⟩ := h.starts
  rw [E.flat_append, List.getElem?_append_left (List.getElem?_eq_some_iff.1 hj).1]
  exact hj
 ·exact h.old.only h3 (fun b hb hg => hsame ⟨b, hb, hg⟩)
structure Got (E : Elem P α) (w : World) (B : Nat) (vs gs : List SV) (k : Nat) (f : Nat → List α) : Prop where
 len : gs.length = vs.length
 at_ : ∀ j g v, j < k → gs[j]? = some g → vs[j]? = some v → SliceOf E w g.1 (f j)
 own : ∀ j g v, j < k → gs[j]? = some g → vs[j]? = some v → ∀ b, g.1.ownBlock = some b → v.1.ownBlock = some b ∨ B ≤ b
theorem Got.zero {B : Nat} {gs : List SV} (h : gs.length = vs.length) : Got E w B vs gs 0 f := ⟨h, fun _ _ _ h => absurd h (Nat.not_lt_zero _), fun _ _ _ h => absurd h (Nat.not_lt_zero _)⟩
theorem Got.below {B : Nat} {gs : List SV} {k : Nat} (h : Got E w B vs gs k f) (hb : Below w.heap.size w w') : Got E w' B vs gs k f := ⟨h.len, fun j g v hj hg hv => (h.at_ j g v hj hg hv).below hb, h.own⟩
theorem SliceOf.onlyS {S : Nat → Prop} {v : Value} {l : List α} (h : SliceOf E w v l) (ho : Only S w w') (hS : ∀ b, v.ownBlock = some b → ¬ S b) : SliceOf E w' v l := by
 rcases h with h | ⟨p, cap, rfl, hp, h⟩
 ·exact .inl h
 ·exact .inr ⟨p, cap, rfl, Nat.lt_of_lt_of_le hp ho.size, fun j u hj => (ho.cell (p := p.add j) (by rw [add_block]; exact hp) (by rw [add_block]; exact hS _ rfl)).trans (h j u hj)⟩
theorem Got.stage {B : Nat} {gs : List SV} {k : Nat} {v : SV} (h : Got E w B vs gs k f) (hd : Dist vs) (hv : vs[k]? = some v) (hB : ∀ b, v.1.ownBlock = some b → b < B) (ho : Only (fun b => v.1.ownBlock = some b) w w') : Got E w' B vs gs k f := by
 refine ⟨h.len, fun j g u hj hg hu => (h.at_ j g u hj hg hu).onlyS ho fun b hb hb' => ?_, h.own⟩
 rcases h.own j g u hj hg hu b hb with h1 | h1
 ·exact hd j k u v hu hv (by omega) b h1 hb'
 ·have := hB b hb'; omega
theorem Got.other {S : Nat → Prop} {B : Nat} {gs : List SV} {k : Nat} (h : Got E w B vs gs k f) (hS : ∀ b, S b → b < B ∧ ¬ SS vs b) (ho : Only S w w') : Got E w' B vs gs k f := by
 refine ⟨h.len, fun j g u hj hg hu => (h.at_ j g u hj hg hu).onlyS ho fun b hb hb' => ?_, h.own⟩
 rcases h.own j g u hj hg hu b hb with h1 | h1
 ·exact (hS b hb').2 ⟨j, u, hu, h1⟩
 ·have := (hS b hb').1; omega
theorem Got.next {B : Nat} {gs : List SV} {k : Nat} {g v : SV} (h : Got E w B vs gs k f) (hv : vs[k]? = some v) (hg : SliceOf E w g.1 (f k)) (hown : ∀ b, g.1.ownBlock = some b → v.1.ownBlock = some b ∨ B ≤ b) : Got E w B vs (gs.set k g) (k + 1) f := by
 have hk : k < gs.length := by rw [h.len]; exact (List.getElem?_eq_some_iff.1 hv).1
 refine ⟨by simpa using h.len, fun j g' u hj hg' hu => ?_, fun j g' u hj hg' hu => ?_⟩
 ·by_cases hjk : j = k
  ·subst hjk
   rw [List.getElem?_set_self hk] at hg'
   obtain rfl := Option.some.inj hg'
   exact hg
  ·rw [List.getElem?_set_ne (Ne.symm hjk)] at hg'
   exact h.at_ j g' u (by omega) hg' hu
 ·by_cases hjk : j = k
  ·subst hjk
   rw [List.getElem?_set_self hk] at hg'
   obtain rfl := Option.some.inj hg'
   obtain rfl := Option.some.inj (hu.symm.trans hv)
   exact hown
  ·rw [List.getElem?_set_ne (Ne.symm hjk)] at hg'
   exact h.own j g' u (by omega) hg' hu
section
variable {ops : Array Oper} {rest : List Oper} {o o2 : Oper} {a : Act} {Q : Exit → Act → World → Prop}
theorem wpList_makeN (E : Elem P α) (e0 : α) (he0 : E.val e0 = E.zero) (hg : o.guard = none) (x y : Operand) (kl kc : IntKind) (n : Nat) (ho : o.op = .makeSlice E.st x y) (hx : a.eval x = .int kl (n : Int)) (hy : a.eval y = .int kc (n : Int)) (hn : n ≤ 1099511627776 / 8) (hby : E.bytes ≤ 1000)
  (h : ∀ w', RoomN E w' (.slice (some ⟨w.heap.size, 0, none⟩) n n) (List.replicate n e0) → Below w.heap.size w w' → w'.heap.size = w.heap.size + 1 → wpList P ops Q rest (a.put o.dst (.slice (some ⟨w.heap.size, 0, none⟩) n n)) w') : wpList P ops Q (o :: rest) a w := by
 obtain ⟨i, hi, hz, hs, hb⟩ := E.info
 have hmul : i.bytes * n ≤ 281474976710656 := by
  rw [hb]
  exact Nat.le_trans (Nat.mul_le_mul hby hn) (by omega)
 have hmi : (i.bytes : Int) * (n : Int) ≤ 281474976710656 := by
  have h5 : ((i.bytes * n : Nat) : Int) ≤ 281474976710656 := by omega
  rwa [Int.natCast_mul] at h5
 have hr := run_make (P := P) w E.st E.ty i E.zero E.slice hi hz kl kc (n : Int) (n : Int) (by omega) (by omega) hmi (by omega)
 simp only [Int.toNat_natCast] at hr
 have hblk : Blk (w.alloc (.cells (madeCells E.zero.cells (n * i.size)) E.ty)) w.heap.size E.ty (madeCells E.zero.cells (n * i.size)) := Blk.new w E.ty _
 refine wpList_val hg (v := .slice (some ⟨w.heap.size, 0, none⟩) n n) (w' := w.alloc (.cells (madeCells E.zero.cells (n * i.size)) E.ty)) ?_ (h _ ?_ ((Below.refl _ _).alloc (Nat.le_refl _) _) (Array.size_push _))
 ·simp [execOp, ho, hx, hy, hr]
 ·rw [hs] at hblk ⊢
  refine .inr ⟨w.heap.size, 0, n, by simp, by simp, hblk.lt, fun j hj => ?_, fun j _ => frozen_of_row _ _ _ _ _ hblk, fun j u hj => ?_⟩
  ·rw [hblk.cell, Array.getElem?_eq_getElem (by rw [size_madeCells]; omega)]; rfl
  ·obtain ⟨k, c, q, h3, h4, rfl⟩ := E.flat_all _ j u hj
   have hkn : k < n := by simpa using (List.getElem?_eq_some_iff.1 h3).1
   obtain rfl : e0 = c := by rw [List.getElem?_replicate, if_pos hkn] at h3; exact Option.some.inj h3
   have hq : q < E.n := by have := (Array.getElem?_eq_some_iff.1 h4).1; rw [E.size] at this; exact this
   have hlt : k * E.n + q < n * E.n := by
    have : k * E.n + E.n ≤ n * E.n := by rw [← Nat.succ_mul]; exact Nat.mul_le_mul_right _ hkn
    omega
   rw [hblk.cell, Nat.zero_add]
   unfold madeCells
   rw [he0] at h4
   rw [Array.getElem?_map, Array.getElem?_range, if_pos hlt]
   simp only [Option.map_some]
   rw [E.zsize, Nat.add_comm, Nat.add_mul_mod_self_right, Nat.mod_eq_of_lt hq, getElem!_def, h4]
theorem wpList_grow {ws : World} {l0 l : List α} {v g : Value} (hg : o.guard = none) (hg2 : o2.guard = none) (d : Tmp) (hd : o.dst = some d) (y : Operand) (ho : o.op = .buildSlice E.st 1 #[(0, y)]) (s : Operand)
  (ho2 : o2.op = .call { callee := .builtin .append, args := #[s, .tmp d], argTypes := #[E.st, E.st] }) (x : α) (hy : a.eval y = E.val x) (hs : ∀ p, (a.put o.dst p).eval s = g) (hsz : d < a.tmps.size)
  (hgr : Growing E ws w v l0 g l) (h63 : l.length + 1 ≤ 1099511627776 / 8) (hby : E.bytes ≤ 1000) (hv : ∀ b, v.ownBlock = some b → b < ws.heap.size)
  (h : ∀ u g' w', Growing E ws w' v l0 g' (l ++ [x]) → wpList P ops Q rest ((a.put o.dst u).put o2.dst g') w') : wpList P ops Q (o :: o2 :: rest) a w := by
 refine wpList_val hg (v := .slice (some ⟨w.heap.size, 0, none⟩) 1 1) (w' := w.alloc (.cells (E.val x).cells E.ty)) (by simp [execOp, ho, hy, run_slice_one]) ?_
 have hb1 : Below w.heap.size w (w.alloc (.cells (E.val x).cells E.ty)) := (Below.refl _ _).alloc (Nat.le_refl _) _
 obtain ⟨g', w', hrun, h2⟩ := (hgr.below hb1).append _ [x] (slice_of_block (Blk.new w E.ty (E.val x).cells)) (by simpa using h63) hby hv o2.type
 refine wpList_val hg2 (v := g') (w' := w') ?_ (h _ g' w' h2)
 have e2 : (a.put o.dst (.slice (some ⟨w.heap.size, 0, none⟩) 1 1)).eval (.tmp d) = .slice (some ⟨w.heap.size, 0, none⟩) 1 1 := by rw [hd]; simp [Act.put, Act.eval, hsz]
 simp [execOp, ho2, resolve, invoke, builtin, hs, e2, hrun]
theorem wpList_growS {ws : World} {l0 l m : List α} {v g vx : Value} (hg : o.guard = none) (s x : Operand) (ho : o.op = .call { callee := .builtin .append, args := #[s, x], argTypes := #[E.st, E.st] }) (hs : a.eval s = g) (hx : a.eval x = vx)
  (hgr : Growing E ws w v l0 g l) (hm : SliceOf E w vx m) (h63 : l.length + m.length ≤ 1099511627776 / 8) (hby : E.bytes ≤ 1000) (hv : ∀ b, v.ownBlock = some b → b < ws.heap.size)
  (h : ∀ g' w', Growing E ws w' v l0 g' (l ++ m) → wpList P ops Q rest (a.put o.dst g') w') : wpList P ops Q (o :: rest) a w := by
 obtain ⟨g', w', hrun, h2⟩ := hgr.append vx m hm h63 hby hv o.type
 refine wpList_val hg (v := g') (w' := w') ?_ (h g' w' h2)
 simp [execOp, ho, resolve, invoke, builtin, hs, hx, hrun]
end
end
end Go.Agg
/-! A file tree in memory: nodes as values, kids as elements, what lies at a kid; a tree stays where only new blocks come. -/
namespace Go.Proofs.YtfiadgdinhmgbaaDoor
open Go.RowKit Pl Go.Agg Go.Tr
abbrev NdV : Type := Int × SV × SV
abbrev KdV : Type := List UInt8 × NdV
def svN : SV := ⟨.slice none 0 0, none, 0, 0, rfl⟩
def ndC (x : NdV) : Array Value := #[.int .i64 x.1, x.2.1.1, x.2.2.1]
def kdC (y : KdV) : Array Value := #[.string ⟨y.1.toArray⟩, .int .i64 y.2.1, y.2.2.1.1, y.2.2.2.1]
def ndZ : NdV := (0, svN, svN)
def kdZ : KdV := ([], ndZ)
theorem sv_oneT (s : SV) : s.1.oneCell' = true := by obtain ⟨_, p, n, c, rfl⟩ := s; rfl
theorem ndC_size (x : NdV) : (ndC x).size = 3 := rfl
theorem kdC_size (y : KdV) : (kdC y).size = 4 := rfl
theorem ndC_one (x : NdV) : (ndC x).all (·.oneCell') = true := by
 simp [ndC, sv_oneT]; rfl
theorem kdC_one (y : KdV) : (kdC y).all (·.oneCell') = true := by
 simp [kdC, sv_oneT]; exact ⟨rfl, rfl⟩
theorem nd_zero : (Tryd.prog.info? 26).map (·.zero) = some (some (.agg (ndC ndZ))) := by kernel_rfl
theorem nd_info (x : NdV) : (Tryd.prog.info? 26).map (·.size) = some (ndC x).size := by rw [ndC_size]; kernel_rfl
theorem nd_under : Tryd.prog.underlying 26 = some (.struct (Tryd.prog.fieldsOf 26)) := by kernel_rfl
theorem kd_zero : (Tryd.prog.info? 51).map (·.zero) = some (some (.agg (kdC kdZ))) := by kernel_rfl
theorem kd_info (y : KdV) : (Tryd.prog.info? 51).map (·.size) = some (kdC y).size := by rw [kdC_size]; kernel_rfl
theorem kd_under : Tryd.prog.underlying 51 = some (.struct (Tryd.prog.fieldsOf 51)) := by kernel_rfl
theorem kds_under : Tryd.prog.underlying 24 = some (.slice 51) := by kernel_rfl
theorem bs_under : Tryd.prog.underlying 23 = some (.slice 5) := by kernel_rfl
def EK : Elem Tryd.prog KdV where
 ty := 51
 st := 24
 n := 4
 bytes := 72
 val := fun x => .agg (kdC x)
 zero := .agg (kdC kdZ)
 pos := by omega
 small := by omega
 size := fun x => by simp [Value.cells, kdC_size]
 one := fun x v hv => one_of (kdC_one x) v hv
 zsize := by simp [Value.cells, kdC_size]
 slice := by kernel_rfl
 info := info_of kd_zero (by kernel_rfl) (by kernel_rfl)
 load := fun w a x hp h => LoadsL.of_cells hp h kd_under rfl (kd_info x)
theorem kds_len {w : World} {v : Value} {l : List KdV} (h : SliceOf EK w v l) (W : World) : (Builtin.len_ #[24] 3 #[v]).run Tryd.prog W = .ok (.int .i64 (l.length : Int)) W := h.len W
mutual
def NodeV (w : World) : NdV → T → Prop
 | x, .mk k b l => x.1 = k ∧ BytesAt w x.2.1.1 b ∧ ∃ ks : List KdV, SliceOf EK w x.2.2.1 ks ∧ KidsV w ks l
def KidsV (w : World) : List KdV → List (List UInt8 × T) → Prop
 | [], [] => True
 | y :: ks, (n, t) :: l => y.1 = n ∧ NodeV w y.2 t ∧ KidsV w ks l
 | _, _ => False
end
mutual
theorem NodeV.below {w w' : World} (hb : Below w.heap.size w w') : ∀ (t : T) (x : NdV), NodeV w x t → NodeV w' x t
 | .mk k b l, x, h => by
  obtain ⟨h1, h2, ks, h3, h4⟩ := h
  exact ⟨h1, SliceOf.below h2 hb, ks, SliceOf.below h3 hb, KidsV.below hb l ks h4⟩
theorem KidsV.below {w w' : World} (hb : Below w.heap.size w w') : ∀ (l : List (List UInt8 × T)) (ks : List KdV), KidsV w ks l → KidsV w' ks l
 | [], [], _ => trivial
 | (_, t) :: l, y :: ks, h => ⟨h.1, NodeV.below hb t y.2 h.2.1, KidsV.below hb l ks h.2.2⟩
 | [], _ :: _, h => h
 | (_, _) :: _, [], h => h
end
theorem KidsV.len {w : World} : ∀ {ks : List KdV} {l : List (List UInt8 × T)}, KidsV w ks l → ks.length = l.length
 | [], [], _ => rfl
 | y :: ks, (n, t) :: l, h => by simp [KidsV.len h.2.2]
 | [], (_, _) :: _, h => h.elim
 | _ :: _, [], h => h.elim
theorem KidsV.at_ {w : World} : ∀ {ks : List KdV} {l : List (List UInt8 × T)} (k : Nat) (x : List UInt8 × T), KidsV w ks l → l[k]? = some x → ∃ y, ks[k]? = some y ∧ y.1 = x.1 ∧ NodeV w y.2 x.2
 | [], [], k, x, _, h => by simp at h
 | y :: ks, (n, t) :: l, 0, x, h, hx => by
  simp only [List.getElem?_cons_zero, Option.some.injEq] at hx
  subst hx
  exact ⟨y, rfl, h.1, h.2.1⟩
 | y :: ks, (n, t) :: l, k + 1, x, h, hx => by
  simp only [List.getElem?_cons_succ] at hx ⊢
  exact KidsV.at_ k x h.2.2 hx
 | [], (_, _) :: _, _, _, h, _ => h.elim
 | _ :: _, [], _, _, h, _ => h.elim
theorem KidsV.append {w : World} : ∀ {ks ms : List KdV} {l m : List (List UInt8 × T)}, KidsV w ks l → KidsV w ms m → KidsV w (ks ++ ms) (l ++ m)
 | [], _, [], _, _, h => h
 | _ :: _, _, (_, _) :: _, _, h, h2 => ⟨h.1, h.2.1, KidsV.append h.2.2 h2⟩
 | [], _, (_, _) :: _, _, h, _ => h.elim
 | _ :: _, _, [], _, h, _ => h.elim
def NodeAt (w : World) (v : Value) (t : T) : Prop := ∃ x : NdV, v = .agg (ndC x) ∧ NodeV w x t
theorem NodeAt.below {w w' : World} {v : Value} {t : T} (h : NodeAt w v t) (hb : Below w.heap.size w w') : NodeAt w' v t := by
 obtain ⟨x, e, h⟩ := h
 exact ⟨x, e, h.below hb⟩
structure NdL (w : World) (p : Addr) (x : NdV) : Prop where
 all : LoadsL Tryd.prog w 26 (some p) (.agg (ndC x))
 kind : LoadsL Tryd.prog w 22 (some p) (.int .i64 x.1)
 bytes : LoadsL Tryd.prog w 23 (some (p.add 1)) x.2.1.1
 kids : LoadsL Tryd.prog w 24 (some (p.add 2)) x.2.2.1
theorem NdL.below {w w' : World} {p : Addr} {x : NdV} (h : NdL w p x) (hb : Below w.heap.size w w') : NdL w' p x := ⟨h.all.below hb, h.kind.below hb, h.bytes.below hb, h.kids.below hb⟩
theorem NdL.of_cells {w : World} {p : Addr} {x : NdV} (hp : p.block < w.heap.size) (h : ∀ j u, (ndC x)[j]? = some u → w.cell? (p.add j) = some u) : NdL w p x where
 all := LoadsL.of_cells hp h nd_under rfl (nd_info x)
 kind := LoadsL.of_cell (by have := h 0 _ rfl; rwa [show p.add 0 = p from by cases p; rfl] at this) Tryd.underlying22 rfl
 bytes := LoadsL.of_cell (h 1 _ rfl) bs_under rfl
 kids := LoadsL.of_cell (h 2 _ rfl) kds_under rfl
theorem NdL.of_blk {w : World} {g : Nat} {x : NdV} (h : Blk w g 26 (ndC x)) : NdL w ⟨g, 0, none⟩ x :=
 NdL.of_cells h.lt (fun j u hj => by rw [add_plain, Nat.zero_add, h.cell]; exact hj)
structure KdL (w : World) (p : Addr) (y : KdV) : Prop where
 all : LoadsL Tryd.prog w 51 (some p) (.agg (kdC y))
 name : LoadsL Tryd.prog w 9 (some p) (.string ⟨y.1.toArray⟩)
 node : NdL w (p.add 1) y.2
theorem KdL.below {w w' : World} {p : Addr} {y : KdV} (h : KdL w p y) (hb : Below w.heap.size w w') : KdL w' p y := ⟨h.all.below hb, h.name.below hb, h.node.below hb⟩
theorem KdL.of_cells {w : World} {p : Addr} {y : KdV} (hp : p.block < w.heap.size) (h : ∀ j u, (kdC y)[j]? = some u → w.cell? (p.add j) = some u) : KdL w p y where
 all := LoadsL.of_cells hp h kd_under rfl (kd_info y)
 name := LoadsL.of_cell (by have := h 0 _ rfl; rwa [show p.add 0 = p from by cases p; rfl] at this) Tryd.underlying9 rfl
 node := NdL.of_cells (by rw [add_block]; exact hp) (fun j u hj => by
  rw [add_add]
  refine h _ _ ?_
  match j, hj with
  | 0, hj => exact hj
  | 1, hj => exact hj
  | 2, hj => exact hj
  | j + 3, hj => simp [ndC] at hj)
theorem kid_at {w : World} {v : Value} {l : List KdV} (h : SliceOf EK w v l) (k : Nat) (y : KdV) (hy : l[k]? = some y) :
  ∃ p : Addr, (∀ W, (Instr.indexAt 24 v (.int .i64 (k : Int))).run Tryd.prog W = .ok (.pointer (some p)) W) ∧ KdL w p y := by
 obtain ⟨p, h1, h2, h3, h4⟩ := h.at_ k y hy
 exact ⟨p, h1, KdL.of_cells h2 h3⟩
end Go.Proofs.YtfiadgdinhmgbaaDoor
/-! Maps that a call makes, over any program and any key: what a map's block holds, its look-up and its store. -/
namespace Go.Mp
open Go.RowKit Go.Instr
section
variable {P : Program} {α β : Type} [DecidableEq α]
def MapIs (w : World) (b : Nat) (κ : α → Value) (ν : β → Value) (m : List (α × β)) : Prop :=
 ∃ es clock, w.heap[b]? = some (.map es clock) ∧ es.toList.map (fun e => (e.key, e.val)) = m.map (fun p => (κ p.1, ν p.2))
structure KeyEq (P : Program) (K : TypeId) (κ : α → Value) : Prop where
 check : ∀ empty a w, (checkKey empty 10000 K (κ a)).run P w = .ok () w
 desc : ∃ d, P.underlying K = some d ∧ ((∀ a b, sameNow d (κ a) (κ b) = some (decide (a = b))) ∨ ((∀ a b, sameNow d (κ a) (κ b) = none) ∧ ∀ a b w, (Op.equal K (κ a) (κ b)).run P w = .ok (decide (a = b)) w))
 bits : ∀ a, sameBits 10000 (κ a) (κ a) = true
def mget (m : List (α × β)) (a : α) : Option β := (m.find? (fun p => decide (a = p.1))).map (·.2)
def mput (m : List (α × β)) (a : α) (v : β) : List (α × β) := match m with
 | [] => [(a, v)]
 | p :: r => if a = p.1 then (a, v) :: r else p :: mput r a v
theorem mget_mput (m : List (α × β)) (a c : α) (v : β) : mget (mput m a v) c = if c = a then some v else mget m c := by
 induction m with
 | nil => by_cases h : c = a <;> simp [mput, mget, h]
 | cons p r ih =>
  unfold mput
  by_cases h : a = p.1
  ·rw [if_pos h]
   by_cases h2 : c = a
   ·simp [mget, h2]
   ·have : ¬ c = p.1 := fun e => h2 (e.trans h.symm)
    simp [mget, h2, this]
  ·rw [if_neg h]
   by_cases h2 : c = p.1
   ·have h3 : ¬ c = a := fun e => h (e.symm.trans h2)
    have h4 : ¬ p.1 = a := fun e => h e.symm
    simp [mget, h2, h4]
   ·simp only [mget, List.find?_cons, h2, decide_false] at ih ⊢
    exact ih
def pairs (es : List MapEntry) : List (Value × Value) := es.map (fun e => (e.key, e.val))
def place (m : List (α × β)) (a : α) (i : Nat) : Option (Nat × β) := match m with
 | [] => none
 | p :: r => if a = p.1 then some (i, p.2) else place r a (i + 1)
theorem findNow_eq {d : TypeDesc} {κ : α → Value} {ν : β → Value} (h : ∀ a b, sameNow d (κ a) (κ b) = some (decide (a = b))) (a : α) :
  ∀ (m : List (α × β)) (es : List MapEntry) (i : Nat), es.map (fun e => (e.key, e.val)) = m.map (fun p => (κ p.1, ν p.2)) →
   findNow d (κ a) es i = some ((place m a i).map fun x => (x.1, ν x.2))
 | [], [], i, _ => rfl
 | [], e :: es, i, he => by simp at he
 | p :: m, [], i, he => by simp at he
 | p :: m, e :: es, i, he => by
  simp only [List.map_cons, List.cons.injEq, Prod.mk.injEq] at he
  obtain ⟨⟨hk, hv⟩, hr⟩ := he
  unfold findNow place
  rw [hk, h a p.1]
  by_cases e' : a = p.1
  ·simp [e', hv]
  ·simp only [e', decide_false, if_false]
   exact findNow_eq h a m es (i + 1) hr
theorem findAsking_eq {K : TypeId} {κ : α → Value} {ν : β → Value} (h : ∀ a b w, (Op.equal K (κ a) (κ b)).run P w = .ok (decide (a = b)) w) (a : α) :
  ∀ (m : List (α × β)) (es : List MapEntry) (i : Nat) (w : World), es.map (fun e => (e.key, e.val)) = m.map (fun p => (κ p.1, ν p.2)) →
   (findAsking K (κ a) es i).run P w = .ok ((place m a i).map fun x => (x.1, ν x.2)) w
 | [], [], i, w, _ => rfl
 | [], e :: es, i, w, he => by simp at he
 | p :: m, [], i, w, he => by simp at he
 | p :: m, e :: es, i, w, he => by
  simp only [List.map_cons, List.cons.injEq, Prod.mk.injEq] at he
  obtain ⟨⟨hk, hv⟩, hr⟩ := he
  unfold findAsking place
  rw [Sem.run_bind, hk, h a p.1 w]
  by_cases e' : a = p.1
  ·simp [e', hv, Result.andThen, Sem.run_pure]
  ·simp only [e', decide_false, if_false, Result.andThen, Bool.false_eq_true]
   exact findAsking_eq h a m es (i + 1) w hr
theorem findKey_eq {K : TypeId} {κ : α → Value} {ν : β → Value} (hK : KeyEq P K κ) (a : α) (m : List (α × β)) (es : List MapEntry) (w : World) (he : es.map (fun e => (e.key, e.val)) = m.map (fun p => (κ p.1, ν p.2))) :
  (findKey K (κ a) es).run P w = .ok ((place m a 0).map fun x => (x.1, ν x.2)) w := by
 obtain ⟨d, hd, h⟩ := hK.desc
 unfold findKey
 rw [Sem.run_bind, run_underlying hd w]
 simp only [Result.andThen]
 rcases h with h | ⟨h1, h2⟩
 ·rw [findNow_eq h a m es 0 he]
  rfl
 ·cases hn : findNow d (κ a) es 0 with
  | none => exact findAsking_eq h2 a m es 0 w he
  | some r =>
   -- only where there is no entry
   cases es with
   | nil => cases m with
    | nil => simp [findNow] at hn; subst hn; rfl
    | cons p m => simp at he
   | cons e es => cases m with
    | nil => simp at he
    | cons p m =>
     simp only [List.map_cons, List.cons.injEq, Prod.mk.injEq] at he
     simp [findNow, he.1.1, h1 a p.1] at hn
theorem place_get (m : List (α × β)) (a : α) (i : Nat) : (place m a i).map (·.2) = mget m a := by
 induction m generalizing i with
 | nil => rfl
 | cons p r ih =>
  unfold place
  by_cases e : a = p.1
  ·simp [mget, e]
  ·rw [if_neg e, ih]; simp [mget, e]
def setMap (w : World) (b : Nat) (es : Array MapEntry) (c : Nat) : World := { w with heap := w.heap.setIfInBounds b (.map es c) }
theorem setMap_same {w : World} {b : Nat} {es : Array MapEntry} {c : Nat} (h : b < w.heap.size) : (setMap w b es c).heap[b]? = some (.map es c) := by simp [setMap, h]
theorem setMap_other {w : World} {b k : Nat} {es : Array MapEntry} {c : Nat} (h : k ≠ b) : (setMap w b es c).heap[k]? = w.heap[k]? := by simp [setMap, Ne.symm h]
theorem setMap_size {w : World} {b : Nat} {es : Array MapEntry} {c : Nat} : (setMap w b es c).heap.size = w.heap.size := by simp [setMap]
theorem below_setMap {B b : Nat} {a w : World} {es : Array MapEntry} {c : Nat} (h : Below B a w) (hb : B ≤ b) : Below B a (setMap w b es c) :=
 h.trans ⟨rfl, rfl, rfl, by rw [setMap_size]; exact Nat.le_refl _, fun k hk => setMap_other (by omega)⟩
def ButMap (b : Nat) (w w' : World) : Prop := ∃ es c, w' = setMap w b es c
theorem ButMap.other {b k : Nat} {w w' : World} (h : ButMap b w w') (hk : k ≠ b) : w'.heap[k]? = w.heap[k]? := by obtain ⟨es, c, rfl⟩ := h; exact setMap_other hk
theorem ButMap.size {b : Nat} {w w' : World} (h : ButMap b w w') : w'.heap.size = w.heap.size := by obtain ⟨es, c, rfl⟩ := h; exact setMap_size
theorem ButMap.below {B b : Nat} {a w w' : World} (h : ButMap b w w') (hw : Below B a w) (hb : B ≤ b) : Below B a w' := by obtain ⟨es, c, rfl⟩ := h; exact below_setMap hw hb
omit [DecidableEq α] in
theorem MapIs.empty (w : World) (κ : α → Value) (ν : β → Value) : MapIs (w.alloc (.map #[] 0)) w.heap.size κ ν [] := ⟨#[], 0, heap_alloc_new _ _, rfl⟩
omit [DecidableEq α] in
theorem MapIs.keep {w w' : World} {b : Nat} {κ : α → Value} {ν : β → Value} {m : List (α × β)} (h : MapIs w b κ ν m) (hk : w'.heap[b]? = w.heap[b]?) : MapIs w' b κ ν m := by
 obtain ⟨es, c, hb, he⟩ := h
 exact ⟨es, c, hk.trans hb, he⟩
omit [DecidableEq α] in
theorem MapIs.lt {w : World} {b : Nat} {κ : α → Value} {ν : β → Value} {m : List (α × β)} (h : MapIs w b κ ν m) : b < w.heap.size := by
 obtain ⟨es, c, hb, _⟩ := h; exact Agg.heap_lt hb
theorem run_lookup_ok {t K E : TypeId} {w : World} {b : Nat} {κ : α → Value} {ν : β → Value} {m : List (α × β)} {z : Value} (ht : P.underlying t = some (.map K E)) (hK : KeyEq P K κ) (hz : ∀ w, (zeroValue E).run P w = .ok z w)
  (h : MapIs w b κ ν m) (a : α) :
  (lookup t (.map (some b)) (κ a) true).run P w = .ok (.tuple #[(match mget m a with | some v => ν v | none => z), .bool (mget m a).isSome]) w := by
 obtain ⟨es, c, hb, he⟩ := h
 unfold lookup
 rw [Sem.run_bind, run_underlying ht w]
 simp only [Result.andThen, Sem.run_bind, getObj, Sem.run, hb, Sem.run_pure, hK.check, findKey_eq hK a m es.toList w he]
 have hg := place_get m a 0
 cases hp : place m a 0 with
 | none =>
  rw [hp] at hg
  simp [← hg, hz, Result.andThen]
 | some x =>
  rw [hp] at hg
  simp [← hg]
theorem place_mput (m : List (α × β)) (a : α) (v : β) (κ : α → Value) (ν : β → Value) : ∀ (es : List MapEntry) (i : Nat), es.map (fun e => (e.key, e.val)) = m.map (fun p => (κ p.1, ν p.2)) →
  (∀ j x, place m a i = some (j, x) → i ≤ j ∧ ∃ e, es[j - i]? = some e ∧ e.key = κ a ∧ (es.modify (j - i) (fun e => { e with key := κ a, val := ν v })).map (fun e => (e.key, e.val)) = (mput m a v).map (fun p => (κ p.1, ν p.2))) ∧
  (place m a i = none → (mput m a v) = m ++ [(a, v)]) := by
 induction m with
 | nil => intro es i he; exact ⟨fun j x h => by simp [place] at h, fun _ => rfl⟩
 | cons p r ih =>
  intro es i he
  cases es with
  | nil => simp at he
  | cons e es =>
   simp only [List.map_cons, List.cons.injEq, Prod.mk.injEq] at he
   obtain ⟨⟨hk, hv⟩, hr⟩ := he
   obtain ⟨h1, h2⟩ := ih es (i + 1) hr
   unfold place mput
   by_cases e' : a = p.1
   ·simp only [e', if_true]
    refine ⟨fun j x h => ?_, fun h => by simp at h⟩
    simp only [Option.some.injEq, Prod.mk.injEq] at h
    obtain ⟨rfl, rfl⟩ := h
    exact ⟨Nat.le_refl _, e, by simp, by rw [hk], by simp [hr]⟩
   ·simp only [e', if_false]
    refine ⟨fun j x h => ?_, fun h => by rw [h2 h]; rfl⟩
    obtain ⟨hle, e2, h3, h4, h5⟩ := h1 j x h
    refine ⟨by omega, e2, ?_, h4, ?_⟩
    ·rw [show j - i = (j - (i + 1)) + 1 by omega]; exact h3
    ·rw [show j - i = (j - (i + 1)) + 1 by omega]; simp [hk, hv, h5]
theorem run_mapUpdate {t K E : TypeId} {w : World} {b : Nat} {κ : α → Value} {ν : β → Value} {m : List (α × β)} (ht : P.underlying t = some (.map K E)) (hK : KeyEq P K κ)
  (h : MapIs w b κ ν m) (a : α) (v : β) :
  ∃ w', (mapUpdate t (.map (some b)) (κ a) (ν v)).run P w = .ok () w' ∧ MapIs w' b κ ν (mput m a v) ∧ ButMap b w w' := by
 obtain ⟨es, c, hb, he⟩ := h
 have hlt := Agg.heap_lt hb
 obtain ⟨h1, h2⟩ := place_mput m a v κ ν es.toList 0 he
 cases hp : place m a 0 with
 | none =>
  refine ⟨setMap w b (es.push { key := κ a, val := ν v, born := c }) (c + 1), ?_, ⟨_, _, setMap_same hlt, ?_⟩, _, _, rfl⟩
  ·unfold mapUpdate
   rw [Sem.run_bind, run_underlying ht w]
   simp only [Result.andThen, Sem.run_bind, getObj, Sem.run, hb, hK.check, findKey_eq hK a m es.toList w he, hp]
   simp [setObj, Sem.run, hb, setMap]
  ·rw [h2 hp]; simp [he]
 | some x =>
  obtain ⟨_, e, h3, h4, h5⟩ := h1 x.1 x.2 hp
  simp only [Nat.sub_zero] at h3 h5
  refine ⟨setMap w b (es.modify x.1 fun e => { e with key := κ a, val := ν v }) c, ?_, ⟨_, _, setMap_same hlt, ?_⟩, _, _, rfl⟩
  ·unfold mapUpdate
   rw [Sem.run_bind, run_underlying ht w]
   simp only [Result.andThen, Sem.run_bind, getObj, Sem.run, hb, hK.check, findKey_eq hK a m es.toList w he, hp]
   have h3' : es[x.1]? = some e := by simpa using h3
   simp [setObj, Sem.run, hb, setMap, h3', h4, keyThatStays, hK.bits]
  ·rw [Array.toList_modify]; exact h5
/-! At a list of operations. -/
variable {ops : Array Oper} {rest : List Oper} {o : Oper} {a : Act} {w : World} {Q : Exit → Act → World → Prop}
theorem wpList_lookup_ok (hg : o.guard = none) (mo xo : Operand) (t K E : TypeId) (hop : o.op = Op.lookup t mo xo true) (ht : P.underlying t = some (.map K E)) {κ : α → Value} {ν : β → Value} {z : Value}
  (hK : KeyEq P K κ) (hz : ∀ w, (zeroValue E).run P w = .ok z w) {b : Nat} {m : List (α × β)} (hm : a.eval mo = .map (some b)) (h : MapIs w b κ ν m) (x : α) (hx : a.eval xo = κ x)
  (hk : wpList P ops Q rest (a.put o.dst (.tuple #[(match mget m x with | some v => ν v | none => z), .bool (mget m x).isSome])) w) : wpList P ops Q (o :: rest) a w := by
 refine wpList_plain hg fun K' hK' => ?_
 unfold Oper.wp
 simp [execOp, hop, hm, hx, run_lookup_ok ht hK hz h x, Result.andThen]
 exact hK' _ _ hk
theorem wpList_lookup_hit (hg : o.guard = none) (mo xo : Operand) (t K E : TypeId) (hop : o.op = Op.lookup t mo xo true) (ht : P.underlying t = some (.map K E)) {κ : α → Value} {ν : β → Value} {z : Value}
  (hK : KeyEq P K κ) (hz : ∀ w, (zeroValue E).run P w = .ok z w) {b : Nat} {m : List (α × β)} (hm : a.eval mo = .map (some b)) (h : MapIs w b κ ν m) (x : α) (hx : a.eval xo = κ x) (v : β) (hv : mget m x = some v)
  (hk : wpList P ops Q rest (a.put o.dst (.tuple #[ν v, .bool true])) w) : wpList P ops Q (o :: rest) a w :=
 wpList_lookup_ok hg mo xo t K E hop ht hK hz hm h x hx (by rw [hv]; exact hk)
theorem wpList_lookup_miss (hg : o.guard = none) (mo xo : Operand) (t K E : TypeId) (hop : o.op = Op.lookup t mo xo true) (ht : P.underlying t = some (.map K E)) {κ : α → Value} {ν : β → Value} {z : Value}
  (hK : KeyEq P K κ) (hz : ∀ w, (zeroValue E).run P w = .ok z w) {b : Nat} {m : List (α × β)} (hm : a.eval mo = .map (some b)) (h : MapIs w b κ ν m) (x : α) (hx : a.eval xo = κ x) (hv : mget m x = none)
  (hk : wpList P ops Q rest (a.put o.dst (.tuple #[z, .bool false])) w) : wpList P ops Q (o :: rest) a w :=
 wpList_lookup_ok hg mo xo t K E hop ht hK hz hm h x hx (by rw [hv]; exact hk)
theorem wpList_mapUpdate (hg : o.guard = none) (hd : o.dst = none) (mo xo vo : Operand) (t K E : TypeId) (hop : o.op = Op.mapUpdate t mo xo vo) (ht : P.underlying t = some (.map K E)) {κ : α → Value} {ν : β → Value}
  (hK : KeyEq P K κ) {b : Nat} {m : List (α × β)} (hm : a.eval mo = .map (some b)) (h : MapIs w b κ ν m) (x : α) (hx : a.eval xo = κ x) (v : β) (hv : a.eval vo = ν v)
  (hk : ∀ w', MapIs w' b κ ν (mput m x v) → ButMap b w w' → wpList P ops Q rest a w') : wpList P ops Q (o :: rest) a w := by
 refine wpList_plain hg fun K' hK' => ?_
 obtain ⟨w', hr, h1, h2⟩ := run_mapUpdate ht hK h x v
 unfold Oper.wp
 simp [execOp, hop, hm, hx, hv, hr, Result.andThen]
 rw [Oper.upon_skip, hd]
 exact hK' _ _ (hk w' h1 h2)
theorem int_key {K : TypeId} {k : IntKind} (h : P.underlying K = some (.int k)) : KeyEq P K (fun n : Int => .int k n) where
 check := fun empty a w => by
  unfold checkKey
  rw [Sem.run_bind, run_underlying h w]
  simp [Result.andThen]
 desc := ⟨_, h, .inl fun a b => by simp [sameNow]; rw [Bool.eq_iff_iff]; simp⟩
 bits := fun a => by simp [sameBits]
end
end Go.Mp
/-! Maps that a call makes: a look-up that does not ask whether it is there; what a new key leaves. -/
namespace Go.Mp
open Go.RowKit Go.Instr
section
variable {P : Program} {α β : Type} [DecidableEq α]
def mval {β : Type} (ν : β → Value) (z : Value) : Option β → Value | some v => ν v | none => z
theorem run_lookup0 {t K E : TypeId} {w : World} {b : Nat} {κ : α → Value} {ν : β → Value} {m : List (α × β)} {z : Value} (ht : P.underlying t = some (.map K E)) (hK : KeyEq P K κ) (hz : ∀ w, (zeroValue E).run P w = .ok z w)
  (h : MapIs w b κ ν m) (a : α) :
  (lookup t (.map (some b)) (κ a) false).run P w = .ok (mval ν z (mget m a)) w := by
 obtain ⟨es, c, hb, he⟩ := h
 unfold lookup
 rw [Sem.run_bind, run_underlying ht w]
 simp only [Result.andThen, Sem.run_bind, getObj, Sem.run, hb, Sem.run_pure, hK.check, findKey_eq hK a m es.toList w he]
 have hg := place_get m a 0
 cases hp : place m a 0 with
 | none =>
  rw [hp] at hg
  simp [← hg, hz, mval]
 | some x =>
  rw [hp] at hg
  simp [← hg, mval]
theorem mput_new' (m : List (α × β)) (x : α) (v : β) (h : mget m x = none) : mput m x v = m ++ [(x, v)] := by
 induction m with
 | nil => rfl
 | cons p r ih =>
  by_cases e : x = p.1
  ·simp [mget, e] at h
  ·have h' : mget r x = none := by simpa [mget, e] using h
   simp [mput, e, ih h']
theorem mget_none (m : List (α × β)) (x : α) (h : ¬ x ∈ m.map (·.1)) : mget m x = none := by
 unfold mget
 rw [List.find?_eq_none.2]
 ·rfl
 ·intro y hy
  simp only [decide_eq_true_eq]
  rintro rfl
  exact h (List.mem_map.2 ⟨y, hy, rfl⟩)
theorem mget_some (m : List (α × β)) (x : α) (v : β) (h : x ∈ m.map (·.1)) (hv : ∀ p ∈ m, p.2 = v) : mget m x = some v := by
 unfold mget
 cases hf : m.find? (fun p => decide (x = p.1)) with
 | some y => simp only [Option.map_some]; rw [hv y (List.mem_of_find?_eq_some hf)]
 | none =>
  rw [List.find?_eq_none] at hf
  obtain ⟨y, hy, rfl⟩ := List.mem_map.1 h
  exact absurd (hf y hy) (by simp)
variable {ops : Array Oper} {rest : List Oper} {o : Oper} {a : Act} {w : World} {Q : Exit → Act → World → Prop}
theorem wpList_lookup0 (hg : o.guard = none) (mo xo : Operand) (t K E : TypeId) (hop : o.op = Op.lookup t mo xo false) (ht : P.underlying t = some (.map K E)) {κ : α → Value} {ν : β → Value} {z : Value}
  (hK : KeyEq P K κ) (hz : ∀ w, (zeroValue E).run P w = .ok z w) {b : Nat} {m : List (α × β)} (hm : a.eval mo = .map (some b)) (h : MapIs w b κ ν m) (x : α) (hx : a.eval xo = κ x) (r : Value) (hr : mval ν z (mget m x) = r)
  (hk : wpList P ops Q rest (a.put o.dst r) w) : wpList P ops Q (o :: rest) a w := by
 refine wpList_plain hg fun K' hK' => ?_
 unfold Oper.wp
 simp [execOp, hop, hm, hx, run_lookup0 ht hK hz h x, Result.andThen, hr]
 exact hK' _ _ hk
omit [DecidableEq α] in
theorem wpList_makeMap (κ : α → Value) (ν : β → Value) (hg : o.guard = none) (t : TypeId) (hop : o.op = Op.makeMap t none)
  (h : ∀ g w', MapIs w' g κ ν [] → Below w.heap.size w w' → w.heap.size ≤ g → wpList P ops Q rest (a.put o.dst (.map (some g))) w') : wpList P ops Q (o :: rest) a w := by
 refine wpList_plain hg fun K' hK' => ?_
 unfold Oper.wp
 simp [execOp, hop, run_makeMap, Result.andThen]
 exact hK' _ _ (h _ _ (MapIs.empty w κ ν) ((Below.refl _ _).alloc (Nat.le_refl _) _) (Nat.le_refl _))
end
end Go.Mp
