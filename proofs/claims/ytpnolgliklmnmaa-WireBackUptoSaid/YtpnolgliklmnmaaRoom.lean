/- Slices that may be written, their spare room too, over any program: store, append; what a step leaves alone. -/
import Derived.Test.YtpnolgliklmnmaaElem
import Derived.ArgAppend
import Derived.Laws.IdiomCopy
namespace Go.Agg
open Go.RowKit
/-- w' is w but for the blocks S and what is new -/
structure Only (S : Nat → Prop) (w w' : World) : Prop where
  os : w'.os = w.os
  tape : w'.tape = w.tape
  output : w'.output = w.output
  size : w.heap.size ≤ w'.heap.size
  block : ∀ k, k < w.heap.size → ¬ S k → w'.heap[k]? = w.heap[k]?
theorem Only.refl (S : Nat → Prop) (w : World) : Only S w w := ⟨rfl, rfl, rfl, Nat.le_refl _, fun _ _ _ => rfl⟩
theorem Only.trans {S T : Nat → Prop} {a b c : World} (h : Only S a b) (k : Only T b c) (hT : ∀ i, i < a.heap.size → T i → S i) : Only S a c :=
  ⟨k.os.trans h.os, k.tape.trans h.tape, k.output.trans h.output, Nat.le_trans h.size k.size, fun i hi hS => (k.block i (Nat.lt_of_lt_of_le hi h.size) (fun hT' => hS (hT i hi hT'))).trans (h.block i hi hS)⟩
theorem Only.mono {S T : Nat → Prop} {a b : World} (h : Only S a b) (hT : ∀ i, i < a.heap.size → S i → T i) : Only T a b := ⟨h.os, h.tape, h.output, h.size, fun i hi hS => h.block i hi (fun hs => hS (hT i hi hs))⟩
theorem Only.of_below {S : Nat → Prop} {a b : World} (h : Below a.heap.size a b) : Only S a b := ⟨h.os, h.tape, h.output, h.size, fun i hi _ => h.block i hi⟩
theorem Only.below {S : Nat → Prop} {a b : World} {B : Nat} (h : Only S a b) (hB : B ≤ a.heap.size) (hS : ∀ i, S i → B ≤ i) : Below B a b :=
  ⟨h.os, h.tape, h.output, h.size, fun i hi => h.block i (by omega) (fun hs => by have := hS i hs; omega)⟩
theorem Only.cell {S : Nat → Prop} {a b : World} (h : Only S a b) {p : Addr} (hp : p.block < a.heap.size) (hS : ¬ S p.block) : b.cell? p = a.cell? p := World.cell?_of_block (h.block _ hp hS)
theorem Only.frozen {S : Nat → Prop} {a b : World} (h : Only S a b) {p : Addr} (hp : p.block < a.heap.size) (hS : ¬ S p.block) : b.frozen? p = a.frozen? p := World.frozen?_of_block (h.block _ hp hS)
theorem only_setCells (b o : Nat) (vs : List Value) (w : World) : Only (· = b) w (w.setCells b o vs) := by
  induction vs generalizing o w with
  | nil => exact Only.refl _ _
  | cons v r ih =>
    have h1 : Only (· = b) w (w.setCell ⟨b, o, none⟩ v) := ⟨rfl, rfl, rfl, by simp [World.setCell], fun k _ hk => Below.heap_setCell _ _ _ _ hk⟩
    exact h1.trans (ih (o + 1) _) (fun _ _ h => h)
section
variable {P : Program} {α : Type} {E : Elem P α}
/-- a slice whose cells, spare room too, may be written -/
def Room (E : Elem P α) (w : World) (v : Value) (l : List α) : Prop :=
  ∃ b o cap, v = .slice (some ⟨b, o, none⟩) l.length cap ∧ l.length ≤ cap ∧ b < w.heap.size ∧ (∀ j, j < cap * E.n → (w.cell? ⟨b, o + j, none⟩).isSome = true) ∧ (∀ j, j < cap * E.n → w.frozen? ⟨b, o + j, none⟩ = false) ∧
    ∀ j u, (E.flat l)[j]? = some u → w.cell? ⟨b, o + j, none⟩ = some u
/-- .. or nil -/
def RoomN (E : Elem P α) (w : World) (v : Value) (l : List α) : Prop := (v = .slice none 0 0 ∧ l = []) ∨ Room E w v l
variable {w w' : World} {v : Value} {l : List α}
theorem Room.slice (h : Room E w v l) : SliceOf E w v l := by
  obtain ⟨b, o, cap, rfl, _, hb, _, _, hc⟩ := h
  exact .inr ⟨_, cap, rfl, hb, fun j u hj => by rw [add_plain]; exact hc j u hj⟩
theorem RoomN.slice (h : RoomN E w v l) : SliceOf E w v l := by
  rcases h with ⟨rfl, rfl⟩ | h
  · exact SliceOf.nil _ _ _
  · exact h.slice
theorem Room.keep (h : Room E w v l) (hk : ∀ b, v.ownBlock = some b → b < w.heap.size → w'.heap[b]? = w.heap[b]?) (hs : w.heap.size ≤ w'.heap.size) : Room E w' v l := by
  obtain ⟨b, o, cap, rfl, hl, hb, h1, h2, hc⟩ := h
  have hbb := hk b rfl hb
  have e1 : ∀ j, w'.cell? ⟨b, o + j, none⟩ = w.cell? ⟨b, o + j, none⟩ := fun j => World.cell?_of_block hbb
  have e2 : ∀ j, w'.frozen? ⟨b, o + j, none⟩ = w.frozen? ⟨b, o + j, none⟩ := fun j => World.frozen?_of_block hbb
  exact ⟨b, o, cap, rfl, hl, by omega, fun j hj => by rw [e1]; exact h1 j hj, fun j hj => by rw [e2]; exact h2 j hj, fun j u hj => (e1 j).trans (hc j u hj)⟩
theorem RoomN.keep (h : RoomN E w v l) (hk : ∀ b, v.ownBlock = some b → b < w.heap.size → w'.heap[b]? = w.heap[b]?) (hs : w.heap.size ≤ w'.heap.size) : RoomN E w' v l := by
  rcases h with h | h
  · exact .inl h
  · exact .inr (h.keep hk hs)
theorem RoomN.only {S : Nat → Prop} (h : RoomN E w v l) (ho : Only S w w') (hS : ∀ b, v.ownBlock = some b → ¬ S b) : RoomN E w' v l := h.keep (fun b hb hlt => ho.block b hlt (hS b hb)) ho.size
theorem RoomN.below (h : RoomN E w v l) (hb : Below w.heap.size w w') : RoomN E w' v l := h.keep (fun b _ hlt => hb.block b hlt) hb.size
theorem RoomN.lt (h : RoomN E w v l) : ∀ b, v.ownBlock = some b → b < w.heap.size := by
  rcases h with ⟨rfl, _⟩ | ⟨b, o, cap, rfl, _, hb, _⟩
  · intro b hb; simp [Value.ownBlock] at hb
  · intro c hc
    obtain rfl : b = c := by simpa [Value.ownBlock] using hc
    exact hb
theorem RoomN.len (h : RoomN E w v l) (W : World) : (Builtin.len_ #[E.st] 3 #[v]).run P W = .ok (.int .i64 (l.length : Int)) W := h.slice.len W
theorem RoomN.of_own {base : Nat} (h : Own E base w v l) : RoomN E w v l := by
  obtain ⟨hfl, ⟨rfl, h0⟩ | ⟨g, cap, cur, rfl, hgb, hcur, hle, _, hsz, htk⟩⟩ := h
  · exact .inl ⟨rfl, List.length_eq_zero_iff.1 h0⟩
  · refine .inr ⟨g, 0, cap, rfl, hle, heap_lt hcur, fun j hj => ?_, fun j _ => frozen_of_row _ _ _ _ _ hcur, fun j u hj => ?_⟩
    · rw [cell_of_row _ _ _ _ _ _ hcur, Array.getElem?_eq_getElem (by omega)]; rfl
    · rw [Nat.zero_add, cell_of_row _ _ _ _ _ _ hcur]
      rw [← htk, List.getElem?_take] at hj
      split at hj
      · simpa using hj
      · cases hj
/-- append, where it came in -/
theorem run_append_room (h : RoomN E w v l) (x : Value) (m : List α) (hx : SliceOf E w x m) (h63 : l.length + m.length ≤ 1099511627776 / 8) (hby : E.bytes ≤ 1000) (ty : TypeId) :
    ∃ v' w', (Builtin.append_ #[E.st, E.st] ty #[v, x]).run P w = .ok v' w' ∧ RoomN E w' v' (l ++ m) ∧ RoomN E w' v l ∧ Only (fun b => v.ownBlock = some b) w w' ∧ (∀ b, v'.ownBlock = some b → v.ownBlock = some b ∨ w.heap.size ≤ b) ∧ ∀ b o n cap, v = .slice (some ⟨b, o, none⟩) n cap → v'.ownBlock = some b → v' = .slice (some ⟨b, o, none⟩) (n + m.length) cap := by
  obtain ⟨i, hi, hz, hs, hb⟩ := E.info
  have hmul : (l.length + m.length) * E.bytes ≤ 140737488355328 := Nat.le_trans (Nat.mul_le_mul h63 hby) (by omega)
  have hmax : l.length + m.length ≤ maxLen := by simp only [maxLen]; omega
  have hn := E.pos
  rcases h with ⟨rfl, rfl⟩ | h
  · obtain ⟨v', w', hr, h2, h3, _, _⟩ := run_append (base := w.heap.size) (ty := ty) (Own.nil E w.heap.size w) x m hx (by simpa using h63) hby (Nat.le_refl _)
    refine ⟨v', w', hr, RoomN.of_own h2, .inl ⟨rfl, rfl⟩, ⟨h3.os, h3.tape, h3.output, h3.size, fun k hk _ => h3.block k hk (by simp [Value.ownBlock])⟩, fun b hb => .inr (h2.block b hb).1, fun b o n cap e => by injection e with e; cases e⟩
  · have hsl := h.slice
    obtain ⟨b, o, cap, rfl, hlc, hbw, h1, h2, hc⟩ := h
    have hself : RoomN E w (.slice (some ⟨b, o, none⟩) l.length cap) l := .inr ⟨b, o, cap, rfl, hlc, hbw, h1, h2, hc⟩
    obtain ⟨p, c, rfl⟩ := hx.form
    cases p with
    | none =>
      have hm : m = [] := by
        rcases hx with ⟨_, _, _, h⟩ | ⟨p, cap, e, _⟩
        · exact h
        · injection e with e; cases e
      subst hm
      refine ⟨_, w, ?_, by simpa using hself, hself, Only.refl _ _, fun b hb => .inl hb, fun b o n cap e _ => by simpa using e⟩
      simp [Builtin.append_, run_underlying E.slice, sizeOf, typeInfo, hi, Builtin.lenOf, Builtin.firstCells, hlc, storeCells]
    | some p =>
      have hcells : ∀ j u, (E.flat m)[j]? = some u → w.cell? (p.add j) = some u := by
        rcases hx with ⟨_, _, _, rfl⟩ | ⟨q, cap, e, _, h⟩
        · intro j u hj; simp [Elem.flat] at hj
        · injection e with e
          injection e with e
          subst e
          exact h
      by_cases hfit : l.length + m.length ≤ cap
      · have hlen := E.flat_length m
        have hll := E.flat_length l
        have hbd : l.length * E.n + m.length * E.n ≤ cap * E.n := by rw [← Nat.add_mul]; exact Nat.mul_le_mul_right _ hfit
        have hr := run_append_room_cells (P := P) w E.st ty E.ty i E.slice hi b o l.length cap p m.length c (E.flat m) (by rw [hs]; exact hlen) hcells (E.flat_one' m) hfit
          (fun j hj => by rw [hs, Nat.add_assoc]; exact h1 _ (by rw [hlen] at hj; omega)) (fun j hj => by rw [hs, Nat.add_assoc]; exact h2 _ (by rw [hlen] at hj; omega))
        rw [hs] at hr
        have hfr : ∀ x, (w.setCells b (o + l.length * E.n) (E.flat m)).frozen? x = w.frozen? x := fun x => World.frozen?_setCells b _ _ w x
        have hin : ∀ j u, (E.flat m)[j]? = some u → (w.setCells b (o + l.length * E.n) (E.flat m)).cell? ⟨b, o + l.length * E.n + j, none⟩ = some u := fun j u hj => by
          obtain ⟨hj', rfl⟩ := List.getElem?_eq_some_iff.1 hj
          exact World.cell?_setCells_in b (E.flat m) (o + l.length * E.n) w (fun k hk => by rw [Nat.add_assoc]; exact h1 _ (by rw [hlen] at hk; omega)) j hj'
        have hout : ∀ j, j < l.length * E.n → (w.setCells b (o + l.length * E.n) (E.flat m)).cell? ⟨b, o + j, none⟩ = w.cell? ⟨b, o + j, none⟩ := fun j hj =>
          World.cell?_setCells_out b _ _ w _ (fun _ _ => .inl (by show o + j < o + l.length * E.n; omega))
        have hsome : ∀ j, j < cap * E.n → ((w.setCells b (o + l.length * E.n) (E.flat m)).cell? ⟨b, o + j, none⟩).isSome = true := fun j hj => by
          by_cases hj1 : j < l.length * E.n
          · rw [hout j hj1]; exact h1 j hj
          · by_cases hj2 : j < l.length * E.n + m.length * E.n
            · have hjl : j - l.length * E.n < (E.flat m).length := by rw [hlen]; omega
              have := hin (j - l.length * E.n) _ (List.getElem?_eq_getElem hjl)
              rw [show o + l.length * E.n + (j - l.length * E.n) = o + j by omega] at this
              rw [this]; rfl
            · rw [World.cell?_setCells_out b _ _ w _ (fun _ _ => .inr (by show o + l.length * E.n + (E.flat m).length ≤ o + j; rw [hlen]; omega))]
              exact h1 j hj
        have honly := only_setCells b (o + l.length * E.n) (E.flat m) w
        refine ⟨_, _, hr, .inr ⟨b, o, cap, by rw [List.length_append], by rw [List.length_append]; exact hfit, Nat.lt_of_lt_of_le hbw honly.size, hsome, fun j hj => by rw [hfr]; exact h2 j hj, fun j u hj => ?_⟩,
          .inr ⟨b, o, cap, rfl, hlc, Nat.lt_of_lt_of_le hbw honly.size, hsome, fun j hj => by rw [hfr]; exact h2 j hj, fun j u hj => ?_⟩, honly.mono (fun k _ e => by simp [Value.ownBlock, e]), fun k hk => .inl hk, fun b' o' n' cap' e _ => by injection e with e1 e2 e3; injection e1 with e1; injection e1 with e4 e5; subst e2 e3 e4 e5; rfl⟩
        · rw [E.flat_append] at hj
          by_cases hj1 : j < (E.flat l).length
          · rw [List.getElem?_append_left hj1] at hj
            rw [hout j (by rw [← hll]; exact hj1)]
            exact hc j u hj
          · rw [List.getElem?_append_right (by omega)] at hj
            have := hin _ u hj
            rw [hll] at this hj1
            rwa [show o + l.length * E.n + (j - l.length * E.n) = o + j by omega] at this
        · have hj1 : j < (E.flat l).length := (List.getElem?_eq_some_iff.1 hj).1
          rw [hout j (by rw [← hll]; exact hj1)]
          exact hc j u hj
      · obtain ⟨v', w', hr, h4, h5⟩ := run_append_arg_grows (P := P) w E.st ty E.ty i E.zero E.n E.bytes E.slice hi hz hs hb E.zsize E.pos ⟨b, o, none⟩ l.length cap (E.flat l) (E.flat_length l) (fun j u hj => by rw [add_plain]; exact hc j u hj)
          p m.length c (E.flat m) (E.flat_length m) hcells (by omega) hmax hmul
        have hown : Own E w.heap.size w' v' (l ++ m) := by
          unfold Own
          rw [List.length_append, E.flat_append]
          exact h4
        have honly : Only (fun _ => False) w w' := ⟨h5.os, h5.tape, h5.output, h5.size, fun k hk _ => h5.block k hk (by simp)⟩
        exact ⟨v', w', hr, RoomN.of_own hown, hself.only honly (fun _ _ h => h), honly.mono (fun _ _ h => h.elim), fun b hb => .inr (hown.block b hb).1, fun b' o' n' cap' e hb' => by
          injection e with e1; injection e1 with e1; injection e1 with e4
          have := (hown.block _ hb').1
          omega⟩
/-- a whole element stored -/
theorem run_storeAt_room (h : Room E w v l) (k : Nat) (a : α) (hk : k < l.length) :
    ∃ p w', (∀ W, (Instr.indexAt E.st v (.int .i64 (k : Int))).run P W = .ok (.pointer (some p)) W) ∧ (Instr.storeAt E.ty (.pointer (some p)) (E.val a)).run P w = .ok () w' ∧ Room E w' v (l.set k a) ∧ Only (fun b => v.ownBlock = some b) w w' := by
  obtain ⟨b, o, cap, rfl, hlc, hbw, h1, h2, hc⟩ := h
  have hn := E.pos
  have hkc : k * E.n + E.n ≤ cap * E.n := by rw [← Nat.succ_mul]; exact Nat.mul_le_mul_right _ (by omega)
  have hlen : (E.val a).cells.toList.length = E.n := by rw [Array.length_toList]; exact E.size a
  have hst := run_storeCells_cells (P := P) b (o + k * E.n) (E.val a).cells.toList 0 w (fun j hj => by rw [Nat.add_zero, Nat.add_assoc]; exact h1 _ (by omega)) (fun j hj => by rw [Nat.add_zero, Nat.add_assoc]; exact h2 _ (by omega)) (E.one a)
  rw [Nat.add_zero] at hst
  have hin : ∀ j u, (E.val a).cells[j]? = some u → (w.setCells b (o + k * E.n) (E.val a).cells.toList).cell? ⟨b, o + k * E.n + j, none⟩ = some u := fun j u hj => by
    have hj0 : (E.val a).cells.toList[j]? = some u := by rw [Array.getElem?_toList]; exact hj
    obtain ⟨hj', rfl⟩ := List.getElem?_eq_some_iff.1 hj0
    exact World.cell?_setCells_in b _ (o + k * E.n) w (fun i hi => by rw [Nat.add_assoc]; exact h1 _ (by omega)) j hj'
  have hout : ∀ j, j < k * E.n ∨ k * E.n + E.n ≤ j → (w.setCells b (o + k * E.n) (E.val a).cells.toList).cell? ⟨b, o + j, none⟩ = w.cell? ⟨b, o + j, none⟩ := fun j hj =>
    World.cell?_setCells_out b _ _ w _ (fun _ _ => by
      show o + j < o + k * E.n ∨ o + k * E.n + (E.val a).cells.toList.length ≤ o + j
      rw [hlen]; omega)
  have honly := only_setCells b (o + k * E.n) (E.val a).cells.toList w
  have hel : P.elem E.st = E.ty := by simp [Program.elem, E.slice]
  refine ⟨⟨b, o + k * E.n, none⟩, _, fun W => ?_, ?_, ⟨b, o, cap, by simp, by simpa using hlc, Nat.lt_of_lt_of_le hbw honly.size, fun j hj => ?_, fun j hj => by rw [World.frozen?_setCells]; exact h2 j hj, fun j u hj => ?_⟩, honly.mono (fun k _ e => by simp [Value.ownBlock, e])⟩
  · rw [run_indexAt_slice W E.st ⟨b, o, none⟩ l.length cap .i64 (k : Int) (by rw [hel]; exact E.slice), if_pos (by omega), hel, run_sizeOf_elem]
    simp [Result.andThen, add_plain]
  · have hsz : ∀ W, (sizeOf E.ty).run P W = .ok E.n W := fun W => run_sizeOf_elem W
    have he := E.size a
    simp [Instr.storeAt, Instr.sureAddr, storeVar, hsz, he, hst]
  · by_cases hj1 : j < k * E.n ∨ k * E.n + E.n ≤ j
    · rw [hout j hj1]; exact h1 j hj
    · have hjl : j - k * E.n < (E.val a).cells.size := by rw [E.size]; omega
      have := hin (j - k * E.n) _ (Array.getElem?_eq_getElem hjl)
      rw [show o + k * E.n + (j - k * E.n) = o + j by omega] at this
      rw [this]; rfl
  · obtain ⟨q, c, i, h3, h4, rfl⟩ := Elem.flat_all E _ j u hj
    have hi : i < E.n := by have := (Array.getElem?_eq_some_iff.1 h4).1; rw [E.size] at this; exact this
    by_cases hq : q = k
    · subst hq
      rw [List.getElem?_set_self hk] at h3
      obtain rfl := Option.some.inj h3
      have := hin i u h4
      rwa [Nat.add_assoc] at this
    · rw [List.getElem?_set_ne (Ne.symm hq)] at h3
      have hdis : q * E.n + i < k * E.n ∨ k * E.n + E.n ≤ q * E.n + i := by
        rcases Nat.lt_or_gt_of_ne hq with h | h
        · have : q * E.n + E.n ≤ k * E.n := by rw [← Nat.succ_mul]; exact Nat.mul_le_mul_right _ h
          omega
        · have : k * E.n + E.n ≤ q * E.n := by rw [← Nat.succ_mul]; exact Nat.mul_le_mul_right _ h
          omega
      rw [hout _ hdis]
      exact hc _ u (E.flat_get l q c i u h3 h4)
end
end Go.Agg
