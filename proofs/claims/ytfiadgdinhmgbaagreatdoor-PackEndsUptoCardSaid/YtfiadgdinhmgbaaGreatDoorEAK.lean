/- A tree of one's own that grows by a kid. (Several texts in one.) -/
import Derived.Test.YtfiadgdinhmgbaaGreatDoorEAJ
import Derived.Test.YtfiadgdinhmgbaaGreatDoorEAI
import Derived.Test.YtfiadgdinhmgbaaGreatDoorEAE
/-! (of general use) wire.Frames. -/
namespace Go.Agg
open Go.RowKit
variable {P : Program} {α : Type} {E : Elem P α} {base : Nat} {w w' : World} {v : Value} {l : List α}
theorem Own.keepT (h : Own E base w v l) (hk : ∀ (g : Nat) (cur : Array Value) (fr : Nat × Nat), w.heap[g]? = some (Obj.cells cur E.ty fr) → w'.heap[g]? = some (Obj.cells cur E.ty fr)) : Own E base w' v l := by
 obtain ⟨hfl, h | ⟨g, cap, cur, hv, hb, hc, hr⟩⟩ := h
 ·exact ⟨hfl, .inl h⟩
 ·exact ⟨hfl, .inr ⟨g, cap, cur, hv, hb, hk g cur _ hc, hr⟩⟩
theorem Own.cap (h : Own E base w v l) : ∀ p n c, v = .slice p n c → n ≤ c := by
 obtain ⟨_, ⟨rfl, _⟩ | ⟨g, cap, cur, rfl, _, _, hle, _⟩⟩ := h
 ·intro p n c e; injection e with _ h1 h2; omega
 ·intro p n c e; injection e with _ h1 h2; omega
end Go.Agg
namespace Go.Proofs.YtfiadgdinhmgbaaGreatDoor
open Go.RowKit Pl Go.Agg
structure RowsOwn (base : Nat) (w : World) (vs : List SV) (ls : List (List UInt8)) : Prop where
 len : vs.length = ls.length
 row : ∀ (k : Nat) (s : SV) (l : List UInt8), vs[k]? = some s → ls[k]? = some l → Own EB base w s.1 l
section
variable {base : Nat} {w w' : World} {vs : List SV} {ls : List (List UInt8)} {v : Value} {r : List UInt8}
theorem RowsOwn.below (h : RowsOwn base w vs ls) (hb : Below w.heap.size w w') : RowsOwn base w' vs ls := ⟨h.len, fun k s l h1 h2 => (h.row k s l h1 h2).below hb⟩
theorem RowsOwn.pushed {u : Value} (h : RowsOwn base w vs ls) (hp : Pushed EBB base w w' u) : RowsOwn base w' vs ls := ⟨h.len, fun k s l h1 h2 => (h.row k s l h1 h2).keepT fun g cur fr hg => hp.blk g _ _ _ (by decide) hg⟩
theorem RowsOwn.rows (h : RowsOwn base w vs ls) : RowsIn w vs ls := ⟨h.len, fun k s l h1 h2 => (h.row k s l h1 h2).slice⟩
theorem RowsOwn.push {s : SV} {l : List UInt8} (h : RowsOwn base w vs ls) (hs : Own EB base w s.1 l) : RowsOwn base w (vs ++ [s]) (ls ++ [l]) := by
 refine ⟨by simp [h.len], fun k t m h1 h2 => ?_⟩
 have hl := h.len
 by_cases hk : k < vs.length
 ·rw [List.getElem?_append_left hk] at h1
  rw [List.getElem?_append_left (by omega)] at h2
  exact h.row k t m h1 h2
 ·rw [List.getElem?_append_right (by omega)] at h1 h2
  by_cases hk0 : k - vs.length = 0
  ·rw [hk0] at h1
   rw [show k - ls.length = 0 by omega] at h2
   obtain rfl : s = t := by simpa using h1
   obtain rfl : l = m := by simpa using h2
   exact hs
  ·rw [List.getElem?_eq_none (by simp; omega)] at h1; cases h1
def Rest (base : Nat) (w : World) (v : Value) (r : List UInt8) : Prop :=
 (v = .slice none 0 0 ∧ r = []) ∨ ∃ g off cap cs, v = .slice (some ⟨g, off, none⟩) r.length cap ∧ r.length ≤ cap ∧ base ≤ g ∧ Blk w g 5 cs ∧ off + cap ≤ cs.size ∧ ∀ j u, (EB.flat r)[j]? = some u → cs[off + j]? = some u
theorem Rest.of_own (h : Own EB base w v r) : Rest base w v r := by
 obtain ⟨hfl, ⟨rfl, h0⟩ | ⟨g, cap, cur, rfl, hgb, hcur, hle, _, hsz, htk⟩⟩ := h
 ·exact .inl ⟨rfl, List.length_eq_zero_iff.1 h0⟩
 ·refine .inr ⟨g, 0, cap, cur, rfl, hle, hgb, hcur, by rw [hsz, show EB.n = 1 from rfl]; omega, fun j u hj => ?_⟩
  rw [← htk, List.getElem?_take] at hj
  split at hj
  ·simpa using hj
  ·cases hj
theorem Rest.slice (h : Rest base w v r) : BytesAt w v r := by
 rcases h with ⟨rfl, rfl⟩ | ⟨g, off, cap, cs, rfl, _, _, hb, _, hc⟩
 ·exact SliceOf.nil _ _ _
 ·exact .inr ⟨_, cap, rfl, hb.lt, fun j u hj => by rw [add_plain, hb.cell]; exact hc j u hj⟩
theorem Rest.room (h : Rest base w v r) : RoomN EB w v r := by
 rcases h with ⟨rfl, rfl⟩ | ⟨g, off, cap, cs, rfl, hle, _, hb, hsz, hc⟩
 ·exact .inl ⟨rfl, rfl⟩
 ·refine .inr ⟨g, off, cap, rfl, hle, hb.lt, fun j hj => ?_, fun j _ => frozen_of_row _ _ _ _ _ hb, fun j u hj => by rw [hb.cell]; exact hc j u hj⟩
  rw [show EB.n = 1 from rfl, Nat.mul_one] at hj
  rw [hb.cell, Array.getElem?_eq_getElem (by omega)]; rfl
theorem Rest.block (h : Rest base w v r) : ∀ k, v.ownBlock = some k → base ≤ k ∧ k < w.heap.size := by
 rcases h with ⟨rfl, rfl⟩ | ⟨g, off, cap, cs, rfl, _, hg, hb, _⟩
 ·intro k hk; simp [Value.ownBlock] at hk
 ·intro k hk
  obtain rfl : g = k := by simpa [Value.ownBlock] using hk
  exact ⟨hg, hb.lt⟩
theorem Rest.cap (h : Rest base w v r) : ∀ p n c, v = .slice p n c → n ≤ c := by
 rcases h with ⟨rfl, rfl⟩ | ⟨g, off, cap, cs, rfl, hle, _⟩
 ·intro p n c e; injection e with _ h1 h2; omega
 ·intro p n c e; injection e with _ h1 h2; omega
theorem Rest.below (h : Rest base w v r) (hb : Below w.heap.size w w') : Rest base w' v r := by
 rcases h with h | ⟨g, off, cap, cs, rfl, hle, hg, hk, hc⟩
 ·exact .inl h
 ·exact .inr ⟨g, off, cap, cs, rfl, hle, hg, hk.below hb, hc⟩
theorem Rest.pushed {u : Value} {B : Nat} (h : Rest base w v r) (hp : Pushed EBB B w w' u) : Rest base w' v r := by
 rcases h with h | ⟨g, off, cap, cs, rfl, hle, hg, hk, hc⟩
 ·exact .inl h
 ·exact .inr ⟨g, off, cap, cs, rfl, hle, hg, hp.blk g _ _ _ (by decide) hk, hc⟩
theorem Rest.drop {g off cap : Nat} (h : Rest base w (.slice (some ⟨g, off, none⟩) r.length cap) r) (k : Nat) (hk : k ≤ r.length) : Rest base w (.slice (some ⟨g, off + k, none⟩) (r.length - k) (cap - k)) (r.drop k) := by
 rcases h with ⟨h, _⟩ | ⟨g', off', cap', cs, h, hle, hg, hb, hsz, hc⟩
 ·cases h
 ·simp only [Value.slice.injEq, Option.some.injEq, Addr.mk.injEq] at h
  obtain ⟨⟨rfl, rfl, _⟩, _, rfl⟩ := h
  refine .inr ⟨g, off + k, cap - k, cs, by rw [List.length_drop], by simp; omega, hg, hb, by omega, fun j u hj => ?_⟩
  have e : EB.flat r = EB.flat (r.take k) ++ EB.flat (r.drop k) := by rw [← Elem.flat_append, List.take_append_drop]
  have hlen : (EB.flat (r.take k)).length = k := by rw [Elem.flat_length, show EB.n = 1 from rfl, List.length_take]; omega
  have := hc (k + j) u (by rw [e, List.getElem?_append_right (by omega), hlen, show k + j - k = j by omega]; exact hj)
  rwa [← Nat.add_assoc] at this
theorem Rest.zero {g off cap : Nat} (h : Rest base w (.slice (some ⟨g, off, none⟩) r.length cap) r) : Rest base w (.slice (some ⟨g, off, none⟩) 0 0) [] := by
 rcases h with ⟨h, _⟩ | ⟨g', off', cap', cs, h, hle, hg, hb, hsz, hc⟩
 ·cases h
 ·simp only [Value.slice.injEq, Option.some.injEq, Addr.mk.injEq] at h
  obtain ⟨⟨rfl, rfl, _⟩, _, rfl⟩ := h
  exact .inr ⟨g, off, 0, cs, rfl, Nat.le_refl _, hg, hb, by omega, fun j u hj => by simp [Elem.flat] at hj⟩
theorem Rest.empty {g off cap : Nat} (h : Rest base w (.slice (some ⟨g, off, none⟩) r.length cap) r) {m : List UInt8} (hm : m = []) : Rest base w (.slice (some ⟨g, off, none⟩) 0 0) m := by
 rw [hm]; exact h.zero
end
def FramesOut (base : Nat) (w : World) (e : Ending) (b : List UInt8) : Prop :=
 (frames b = none ∧ e = .returned (.tuple #[.slice none 0 0, .slice none 0 0, .int .i64 4])) ∨
 ∃ lv rv vs ls r, frames b = some (ls, r) ∧ e = .returned (.tuple #[lv, rv, .int .i64 0]) ∧ Own EBB base w lv vs ∧ RowsOwn base w vs ls ∧ Rest base w rv r
def FramesOutS (base : Nat) (w : World) (e : Ending) (b : List UInt8) : Prop :=
 (frames b = none ∧ e = .returned (.tuple #[.slice none 0 0, .slice none 0 0, .int .i64 4])) ∨
 ∃ lv rv vs ls r, frames b = some (ls, r) ∧ e = .returned (.tuple #[lv, rv, .int .i64 0]) ∧ Own EBB base w lv vs ∧ RowsOwn base w vs ls ∧ Rest base w rv r ∧ Dist vs ∧ ∃ m, (∀ k, rv.ownBlock = some k → k < m) ∧ ∀ b, SS vs b → m ≤ b
theorem FramesOutS.out {base : Nat} {w : World} {e : Ending} {b : List UInt8} (h : FramesOutS base w e b) : FramesOut base w e b := by
 rcases h with h | ⟨lv, rv, vs, ls, r, h1, h2, h3, h4, h5, _⟩
 ·exact .inl h
 ·exact .inr ⟨lv, rv, vs, ls, r, h1, h2, h3, h4, h5⟩
theorem dist_push {vs : List SV} {s : SV} {B : Nat} (h : Dist vs) (hv : ∀ b, SS vs b → b < B) (hs : ∀ b, s.1.ownBlock = some b → B ≤ b) : Dist (vs ++ [s]) := by
 intro i j u v hi hj hij b hu hv'
 have one : ∀ (i : Nat) (u : SV), (vs ++ [s])[i]? = some u → (i < vs.length ∧ vs[i]? = some u) ∨ (i = vs.length ∧ u = s) := fun i u h => by
  by_cases hi : i < vs.length
  ·rw [List.getElem?_append_left hi] at h; exact .inl ⟨hi, h⟩
  ·rw [List.getElem?_append_right (by omega)] at h
   by_cases h0 : i - vs.length = 0
   ·rw [h0] at h
    obtain rfl : s = u := by simpa using h
    exact .inr ⟨by omega, rfl⟩
   ·rw [List.getElem?_eq_none (by simp; omega)] at h; cases h
 rcases one i u hi with ⟨h1, h2⟩ | ⟨h1, rfl⟩ <;> rcases one j v hj with ⟨h3, h4⟩ | ⟨h3, rfl⟩
 ·exact h i j u v h2 h4 hij b hu hv'
 ·have := hv b ⟨i, u, h2, hu⟩; have := hs b hv'; omega
 ·have := hv b ⟨j, v, h4, hv'⟩; have := hs b hu; omega
 ·omega
theorem ss_push {vs : List SV} {s : SV} {b : Nat} (h : SS (vs ++ [s]) b) : SS vs b ∨ s.1.ownBlock = some b := by
 obtain ⟨i, u, hi, hb⟩ := h
 by_cases hl : i < vs.length
 ·rw [List.getElem?_append_left hl] at hi; exact .inl ⟨i, u, hi, hb⟩
 ·rw [List.getElem?_append_right (by omega)] at hi
  by_cases h0 : i - vs.length = 0
  ·rw [h0] at hi
   obtain rfl : s = u := by simpa using hi
   exact .inr hb
  ·rw [List.getElem?_eq_none (by simp; omega)] at hi; cases hi
theorem RowsOwn.lt {base : Nat} {w : World} {vs : List SV} {ls : List (List UInt8)} (h : RowsOwn base w vs ls) : ∀ b, SS vs b → base ≤ b ∧ b < w.heap.size := by
 rintro b ⟨k, s, hk, hb⟩
 obtain ⟨l, hl⟩ : ∃ l, ls[k]? = some l := ⟨_, List.getElem?_eq_getElem (by rw [← h.len]; exact (List.getElem?_eq_some_iff.1 hk).1)⟩
 obtain ⟨h1, cur, hc⟩ := (h.row k s l hk hl).block b hb
 exact ⟨h1, Agg.heap_lt hc⟩
end Go.Proofs.YtfiadgdinhmgbaaGreatDoor
/-! A load by its run; a block behind changes elsewhere. -/
namespace Go.Agg
open Go.RowKit
theorem exec_loadB {P : Program} {o : Oper} {a : Act} {w : World} {ty : TypeId} {x : Operand} {p v : Value} (ho : o.op = .load ty x) (hx : a.eval x = p) (hrun : (Instr.loadAt ty p).run P w = .ok v w) : (execOp a.eval o).run P w = .ok (.value v) w := by simp [execOp, ho, hx, hrun]
theorem Blk.onlyP {w w' : World} {S : Nat → Prop} {g : Nat} {t : TypeId} {cs : Array Value} (h : Blk w g t cs) (ho : Only S w w') (hS : ¬ S g) : Blk w' g t cs := (ho.block g h.lt hS).trans h
end Go.Agg
/-! A resolved derivation in a block. -/
namespace Go.Agg
open Go.RowKit
theorem Blk.onlyQ {w w' : World} {S : Nat → Prop} {g : Nat} {t : TypeId} {cs : Array Value} (h : Blk w g t cs) (ho : Only S w w') (hS : ¬ S g) : Blk w' g t cs := (ho.block g h.lt hS).trans h
theorem Blk.pushedB {P : Program} {α : Type} {E : Elem P α} {base g : Nat} {w w' : World} {v : Value} {t : TypeId} {cs : Array Value} (h : Blk w g t cs) (hp : Pushed E base w w' v) (hne : t ≠ E.ty) : Blk w' g t cs := hp.blk g _ _ _ hne h
theorem Own.onlyB {P : Program} {α : Type} {E : Elem P α} {base g : Nat} {w w' : World} {v : Value} {l : List α} {t : TypeId} {cs : Array Value} (h : Own E base w v l) (ho : Only (· = g) w w') (hb : Blk w g t cs) (hne : t ≠ E.ty) : Own E base w' v l := by
 refine h.keepT fun k cur fr hk => (ho.block k (heap_lt hk) ?_).trans hk
 rintro rfl
 rw [show w.heap[k]? = _ from hb] at hk
 injection hk with hk
 injection hk with _ ht
 exact hne ht
end Go.Agg
namespace Go.Proofs.YtfiadgdinhmgbaaGreatDoor
open Go.RowKit Pl Go.Agg
def rsC (n : List UInt8) (vi vr : Value) : Array Value := #[.string ⟨n.toArray⟩, vi, vr]
theorem rsC_z : (rsC [] (.slice none 0 0) (.slice none 0 0)).all (·.oneCell') = true := by simp [rsC, Value.oneCell']
theorem rsC_ss (n m : List UInt8) (a b c d : Value) : (rsC n a b).size = (rsC m c d).size := rfl
theorem rsC_lt (n : List UInt8) (a b : Value) (i : Nat) (h : i < 3) : i < (rsC n a b).size := h
end Go.Proofs.YtfiadgdinhmgbaaGreatDoor
/-! (of general use) Steps of a region that draws: literals of two, new variables, whole rows stored. -/
namespace Go.Agg
open Go.RowKit
variable {P : Program} {ops : Array Oper} {o : Oper} {a : Act} {w : World} {Q : Exit → Act → World → Prop} {K : Act → World → Prop} {F : Prop}
theorem step_slice2B {α : Type} {E : Elem P α} (hg : o.guard = none) (x y : Operand) (ho : o.op = .buildSlice E.st 2 #[(0, x), (1, y)]) (vx vy : α) (hx : a.eval x = E.val vx) (hy : a.eval y = E.val vy)
  (h : ∀ v' w', SliceOf E w' v' [vx, vy] → (∀ b, v'.ownBlock = some b → b < w'.heap.size) → Below w.heap.size w w' → K (a.put o.dst v') w') : if Region.wanted o (yielded ops a.tmps) = true then o.wp P a w K Q else F :=
 step_val hg (v := .slice (some ⟨w.heap.size, 0, none⟩) 2 2) (w' := w.alloc (.cells ((E.val vx).cells ++ (E.val vy).cells) E.ty)) (by simp [execOp, ho, hx, hy, run_slice_two])
  (h _ _ (slice_of_block2 (Blk.new w E.ty _)) (fun b hb => by
   obtain rfl : w.heap.size = b := by simpa [Value.ownBlock] using hb
   simp) ((Below.refl _ _).alloc (Nat.le_refl _) _))
theorem step_zero (hg : o.guard = none) (ty : TypeId) (ho : o.op = .alloc ty) (cs : Array Value) (hz : (P.info? ty).map (·.zero) = some (some (.agg cs)))
  (h : ∀ g w', Blk w' g ty cs → Below w.heap.size w w' → w.heap.size ≤ g → K (a.put o.dst (.pointer (some ⟨g, 0, none⟩))) w') : if Region.wanted o (yielded ops a.tmps) = true then o.wp P a w K Q else F := by
 refine step_val hg (v := .pointer (some ⟨w.heap.size, 0, none⟩)) (w' := w.alloc (.cells cs ty)) ?_ (h _ _ (Blk.new w ty cs) ((Below.refl _ _).alloc (Nat.le_refl _) _) (Nat.le_refl _))
 cases hq : P.info? ty with
 | none => simp [hq] at hz
 | some i =>
  have hs : i.zero = some (.agg cs) := by simpa [hq] using hz
  simp [execOp, ho, Instr.alloc, zeroValue, typeInfo, hq, hs, newVar, newRow, Value.cells]
theorem step_put (hg : o.guard = none) (hd : o.dst = none) (ty : TypeId) (x y : Operand) (ho : o.op = .store ty x y) (g : Nat) (cs old : Array Value) (hx : a.eval x = .pointer (some ⟨g, 0, none⟩)) (hy : a.eval y = .agg cs)
  (hb : Blk w g ty old) (hi : (P.info? ty).map (·.size) = some cs.size) (hold : old.size = cs.size) (h1 : cs.all (·.oneCell') = true)
  (h : ∀ w', Blk w' g ty cs → Below g w w' → w'.heap.size = w.heap.size → (∀ k, k ≠ g → w'.heap[k]? = w.heap[k]?) → K a w') : if Region.wanted o (yielded ops a.tmps) = true then o.wp P a w K Q else F := by
 refine step_store hg hd ty x y ho _ _ hx hy (w' := w.setRow g cs) (by simp [Instr.storeAt, Instr.sureAddr, run_storeVar_row w g ty ty old cs hb hi hold h1]) ?_
 exact h _ (setRow_heap _ _ _ _ _ _ hb) (below_setRow (Below.refl _ _) (Nat.le_refl _)) (by simp) (fun k hk => setRow_other w g k cs hk)
end Go.Agg
/-! Blocks that a step leaves alone. -/
namespace Go.Agg
open Go.RowKit
variable {P : Program}
theorem Blk.type {w : World} {g : Nat} {t t' : TypeId} {cs cs' : Array Value} (h : Blk w g t cs) (h' : Blk w g t' cs') : t = t' := by
 unfold Blk at h h'
 rw [h] at h'
 injection h' with h'
 injection h' with _ h'
theorem Blk.only {w w' : World} {S : Nat → Prop} {g : Nat} {t : TypeId} {cs : Array Value} (h : Blk w g t cs) (ho : Only S w w') (hS : ¬ S g) : Blk w' g t cs := (ho.block g h.lt hS).trans h
theorem Only.of_eq {w w' : World} {g : Nat} {S : Nat → Prop} (hb : Below g w w') (hs : w'.heap.size = w.heap.size) (hk : ∀ k, k ≠ g → w'.heap[k]? = w.heap[k]?) (hg : S g) : Only S w w' :=
 ⟨hb.os, hb.tape, hb.output, Nat.le_of_eq hs.symm, fun k _ hn => hk k (fun e => hn (e ▸ hg))⟩
end Go.Agg
/-! Maps that a call makes: a look-up that does not ask whether it is there; what a new key leaves. -/
namespace Go.Mp
open Go.RowKit Go.Instr
section
variable {P : Program} {α β : Type} [DecidableEq α]
def mval {β : Type} (ν : β → Value) (z : Value) : Option β → Value | some v => ν v | none => z
theorem run_lookup0 {t K E : TypeId} {w : World} {b : Nat} {κ : α → Value} {ν : β → Value} {m : List (α × β)} {z : Value} (ht : P.underlying t = some (.map K E)) (hK : KeyEq P K κ) (hz : ∀ w, (zeroValue E).run P w = .ok z w)
  (h : MapIs w b κ ν m) (a : α) :
  (lookup t (.map (some b)) (κ a) false).run P w = .ok (mval ν z (mget m a)) w := by
 obtain ⟨es, c, hb, he⟩ := h
 unfold lookup
 rw [Sem.run_bind, run_underlying ht w]
 simp only [Result.andThen, Sem.run_bind, getObj, Sem.run, hb, Sem.run_pure, hK.check, findKey_eq hK a m es.toList w he]
 have hg := place_get m a 0
 cases hp : place m a 0 with
 | none =>
  rw [hp] at hg
  simp [← hg, hz, mval]
 | some x =>
  rw [hp] at hg
  simp [← hg, mval]
theorem mput_new' (m : List (α × β)) (x : α) (v : β) (h : mget m x = none) : mput m x v = m ++ [(x, v)] := by
 induction m with
 | nil => rfl
 | cons p r ih =>
  by_cases e : x = p.1
  ·simp [mget, e] at h
  ·have h' : mget r x = none := by simpa [mget, e] using h
   simp [mput, e, ih h']
theorem mget_none (m : List (α × β)) (x : α) (h : ¬ x ∈ m.map (·.1)) : mget m x = none := by
 unfold mget
 rw [List.find?_eq_none.2]
 ·rfl
 ·intro y hy
  simp only [decide_eq_true_eq]
  rintro rfl
  exact h (List.mem_map.2 ⟨y, hy, rfl⟩)
theorem mget_some (m : List (α × β)) (x : α) (v : β) (h : x ∈ m.map (·.1)) (hv : ∀ p ∈ m, p.2 = v) : mget m x = some v := by
 unfold mget
 cases hf : m.find? (fun p => decide (x = p.1)) with
 | some y => simp only [Option.map_some]; rw [hv y (List.mem_of_find?_eq_some hf)]
 | none =>
  rw [List.find?_eq_none] at hf
  obtain ⟨y, hy, rfl⟩ := List.mem_map.1 h
  exact absurd (hf y hy) (by simp)
variable {ops : Array Oper} {rest : List Oper} {o : Oper} {a : Act} {w : World} {Q : Exit → Act → World → Prop}
theorem wpList_lookup0 (hg : o.guard = none) (mo xo : Operand) (t K E : TypeId) (hop : o.op = Op.lookup t mo xo false) (ht : P.underlying t = some (.map K E)) {κ : α → Value} {ν : β → Value} {z : Value}
  (hK : KeyEq P K κ) (hz : ∀ w, (zeroValue E).run P w = .ok z w) {b : Nat} {m : List (α × β)} (hm : a.eval mo = .map (some b)) (h : MapIs w b κ ν m) (x : α) (hx : a.eval xo = κ x) (r : Value) (hr : mval ν z (mget m x) = r)
  (hk : wpList P ops Q rest (a.put o.dst r) w) : wpList P ops Q (o :: rest) a w := by
 refine wpList_plain hg fun K' hK' => ?_
 unfold Oper.wp
 simp [execOp, hop, hm, hx, run_lookup0 ht hK hz h x, Result.andThen, hr]
 exact hK' _ _ hk
omit [DecidableEq α] in
theorem wpList_makeMap (κ : α → Value) (ν : β → Value) (hg : o.guard = none) (t : TypeId) (hop : o.op = Op.makeMap t none)
  (h : ∀ g w', MapIs w' g κ ν [] → Below w.heap.size w w' → w.heap.size ≤ g → wpList P ops Q rest (a.put o.dst (.map (some g))) w') : wpList P ops Q (o :: rest) a w := by
 refine wpList_plain hg fun K' hK' => ?_
 unfold Oper.wp
 simp [execOp, hop, run_makeMap, Result.andThen]
 exact hK' _ _ (h _ _ (MapIs.empty w κ ν) ((Below.refl _ _).alloc (Nat.le_refl _) _) (Nat.le_refl _))
end
end Go.Mp
/-! (of general use) Arms: one cell, a row of cells, stored into a block; a look-up at a step of a region that draws; a literal of two in a list of operations. -/
namespace Go.Agg
open Go.RowKit
section
variable {P : Program} {ops : Array Oper} {rest : List Oper} {o : Oper} {a : Act} {w : World} {Q : Exit → Act → World → Prop}
theorem wpList_put1 (hg : o.guard = none) (hd : o.dst = none) (ty : TypeId) (x y : Operand) (ho : o.op = .store ty x y) (g i : Nat) (v : Value) (hx : a.eval x = .pointer (some ⟨g, i, none⟩)) (hy : a.eval y = v)
  {t : TypeId} {cs : Array Value} (hb : Blk w g t cs) (hi : i < cs.size) (hv : v.cells = #[v]) (h1 : v.oneCell' = true) (hs : (P.info? ty).map (·.size) = some 1) (ds : Array Value) (he : cs.setIfInBounds i v = ds)
  (h : ∀ w', Blk w' g t ds → Only (· = g) w w' → w'.heap.size = w.heap.size → wpList P ops Q rest a w') : wpList P ops Q (o :: rest) a w := by
 subst he
 exact wpList_store hg hd ty x y ho _ v hx hy (hb.run_put i hi v hv h1 hs) (h _ (hb.set i v) ⟨rfl, rfl, rfl, by simp [World.setCell], fun k _ hk => Below.heap_setCell _ _ _ _ hk⟩ (by simp [World.setCell]))
theorem wpList_putRow (hg : o.guard = none) (hd : o.dst = none) (ty : TypeId) (x y : Operand) (ho : o.op = .store ty x y) (g i : Nat) (xs ys zs ds : Array Value) (hx : a.eval x = .pointer (some ⟨g, i, none⟩)) (hy : a.eval y = .agg ds)
  {t : TypeId} (hb : Blk w g t (xs ++ (ys ++ zs))) (hl : ys.size = ds.size) (hi : i = xs.size) (hs : (P.info? ty).map (·.size) = some ds.size) (h1 : ds.all (·.oneCell') = true)
  (h : ∀ w', Blk w' g t (xs ++ (ds ++ zs)) → Only (· = g) w w' → wpList P ops Q rest a w') : wpList P ops Q (o :: rest) a w := by
 obtain ⟨w', hr, h2, h3⟩ := hb.run_row xs ys zs ds hl hs h1 hi
 exact wpList_store hg hd ty x y ho _ _ hx hy hr (h w' h2 h3)
theorem Blk.keepO {S : Nat → Prop} {w' : World} {g : Nat} {t : TypeId} {cs : Array Value} (h : Blk w g t cs) (ho : Only S w w') (hS : ¬ S g) : Blk w' g t cs := (ho.block g h.lt hS).trans h
theorem Only.ofBelow {S : Nat → Prop} {w w' : World} (h : Below w.heap.size w w') : Only S w w' := Only.of_below h
theorem Only.more {g : Nat} {w w' w'' : World} (h : Only (· = g) w w') (k : Only (· = g) w' w'') : Only (· = g) w w'' := h.trans k (fun _ _ h => h)
theorem Only.new {g : Nat} {w w' w'' : World} (h : Only (· = g) w w') (k : Below w'.heap.size w' w'') : Only (· = g) w w'' := h.trans (Only.of_below (S := fun _ => False) k) (fun _ _ h => h.elim)
end
end Go.Agg
namespace Go.Mp
open Go.RowKit Go.Instr
theorem exec_hit {P : Program} {α β : Type} [DecidableEq α] {o : Oper} {a : Act} {w : World} {mo xo : Operand} {t K E : TypeId} (ho : o.op = Op.lookup t mo xo true) (ht : P.underlying t = some (.map K E)) {κ : α → Value} {ν : β → Value} {z : Value}
  (hK : KeyEq P K κ) (hz : ∀ w, (zeroValue E).run P w = .ok z w) {b : Nat} {m : List (α × β)} (hm : a.eval mo = .map (some b)) (h : MapIs w b κ ν m) (x : α) (hx : a.eval xo = κ x) (v : β) (hr : mget m x = some v) :
  (execOp a.eval o).run P w = .ok (.value (.tuple #[ν v, .bool true])) w := by
 simp [execOp, ho, hm, hx, run_lookup_ok ht hK hz h x, Result.andThen, hr]
theorem exec_miss {P : Program} {α β : Type} [DecidableEq α] {o : Oper} {a : Act} {w : World} {mo xo : Operand} {t K E : TypeId} (ho : o.op = Op.lookup t mo xo true) (ht : P.underlying t = some (.map K E)) {κ : α → Value} {ν : β → Value} {z : Value}
  (hK : KeyEq P K κ) (hz : ∀ w, (zeroValue E).run P w = .ok z w) {b : Nat} {m : List (α × β)} (hm : a.eval mo = .map (some b)) (h : MapIs w b κ ν m) (x : α) (hx : a.eval xo = κ x) (hr : mget m x = none) :
  (execOp a.eval o).run P w = .ok (.value (.tuple #[z, .bool false])) w := by
 simp [execOp, ho, hm, hx, run_lookup_ok ht hK hz h x, Result.andThen, hr]
end Go.Mp
/-! A tree of one's own that grows by a kid. -/
namespace Go.Agg
open Go.RowKit
section
variable {P : Program} {ops : Array Oper} {o : Oper} {a : Act} {w : World} {Q : Exit → Act → World → Prop} {K : Act → World → Prop} {F : Prop}
theorem exec_b2 {ty : TypeId} {i j : Nat} {x y : Operand} {vx vy v : Value} (ho : o.op = .build ty #[(i, x), (j, y)]) (hx : a.eval x = vx) (hy : a.eval y = vy) (hrun : (Instr.build ty #[(i, vx), (j, vy)]).run P w = .ok v w) : (execOp a.eval o).run P w = .ok (.value v) w := by
 simp [execOp, ho, hx, hy, hrun]
theorem exec_b1 {ty : TypeId} {i : Nat} {x : Operand} {vx v : Value} (ho : o.op = .build ty #[(i, x)]) (hx : a.eval x = vx) (hrun : (Instr.build ty #[(i, vx)]).run P w = .ok v w) : (execOp a.eval o).run P w = .ok (.value v) w := by
 simp [execOp, ho, hx, hrun]
theorem step_appendG {α : Type} {E : Elem P α} {base : Nat} {v : Value} {l : List α} (hg : o.guard = none) (s x : Operand) (ho : o.op = .call { callee := .builtin .append, args := #[s, x], argTypes := #[E.st, E.st] }) (vx : Value) (hs : a.eval s = v) (hx : a.eval x = vx) (m : List α)
  (hown : Own E base w v l) (hm : SliceOf E w vx m) (h63 : l.length + m.length ≤ 1099511627776 / 8) (hby : E.bytes ≤ 1000) (hbase : base ≤ w.heap.size)
  (h : ∀ v' w', Own E base w' v' (l ++ m) → Pushed E base w w' v → Grew w v v' → K (a.put o.dst v') w') : if Region.wanted o (yielded ops a.tmps) = true then o.wp P a w K Q else F := by
 rw [if_pos (by simp [Region.wanted, hg])]
 obtain ⟨v', w', hrun, h2, h3, h4, _⟩ := run_append (ty := o.type) hown _ m hm h63 hby hbase
 unfold Oper.wp
 have : (execOp a.eval o).run P w = .ok (.value v') w' := by simp [execOp, ho, resolve, invoke, builtin, hs, hx, hrun]
 rw [this]
 exact h v' w' h2 (pushed_of hown h3) (grew_of (Nat.le_refl _) h4)
end
end Go.Agg
namespace Go.Proofs.YtfiadgdinhmgbaaGreatDoor
open Go.RowKit Pl Go.Agg Go.Tr
structure OwnS (base : Nat) (w : World) (vb : Value) (bs : List UInt8) (vk : Value) (ks : List KdV) (l : List (List UInt8 × T)) (cs : List Nat) : Prop where
 bytes : Agg.Own EB base w vb bs
 row : Agg.Own EK base w vk ks
 kids : OwnL base w ks l cs
 nodup : (ownB vb ++ (ownB vk ++ cs)).Nodup
theorem sv_cells (s : SV) : s.1.cells = #[s.1] := by obtain ⟨_, p, n, c, rfl⟩ := s; rfl
theorem ownB_nodup (v : Value) : (ownB v).Nodup := by
 unfold ownB
 cases v.ownBlock <;> simp
theorem mem_ownB {v : Value} {k : Nat} : k ∈ ownB v ↔ v.ownBlock = some k := by simp [ownB, eq_comm]
section
variable {base : Nat} {w w' : World} {vb vk vk' : Value} {bs : List UInt8} {ks : List KdV} {l : List (List UInt8 × T)} {cs : List Nat}
theorem OwnS.below (h : OwnS base w vb bs vk ks l cs) (hb : Below w.heap.size w w') : OwnS base w' vb bs vk ks l cs := ⟨h.bytes.below hb, h.row.below hb, h.kids.below hb, h.nodup⟩
theorem OwnS.range (h : OwnS base w vb bs vk ks l cs) : ∀ k ∈ ownB vb ++ (ownB vk ++ cs), base ≤ k ∧ k < w.heap.size := fun k hk => by
 simp only [List.mem_append] at hk
 rcases hk with hk | hk | hk
 ·exact own_range h.bytes k hk
 ·exact own_range h.row k hk
 ·exact OwnL.range l ks cs h.kids k hk
theorem OwnS.other {g : Nat} {t : TypeId} {ds : Array Value} (h : OwnS base w vb bs vk ks l cs) (ho : Only (· = g) w w') (hb : Blk w g t ds) (h1 : t ≠ 5) (h2 : t ≠ 28) (h3 : g ∉ cs) : OwnS base w' vb bs vk ks l cs :=
 ⟨Own.onlyB h.bytes ho hb h1, Own.onlyB h.row ho hb h2, OwnL.only ho l ks cs h.kids (fun _ hk e => h3 (e ▸ hk)), h.nodup⟩
theorem OwnS.push {y : KdV} {t : T} {b2 : List Nat} (h : OwnS base w vb bs vk ks l cs) (h2 : OwnT base w y.2 t b2) (hn2 : b2.Nodup) (hlt : ∀ k ∈ ownB vb ++ (ownB vk ++ cs), ∀ j ∈ b2, k < j)
  (ho : Agg.Own EK base w' vk' (ks ++ [y])) (hp : Pushed EK base w w' vk) (hg : Grew w vk vk') : OwnS base w' vb bs vk' (ks ++ [y]) (l ++ [(y.1, t)]) (cs ++ b2) := by
 have hn := h.nodup
 rw [List.nodup_append, List.nodup_append] at hn
 obtain ⟨_, ⟨_, hcs, hkc⟩, hbk⟩ := hn
 have hr2 := OwnT.range t y.2 b2 h2
 refine ⟨own_stays h.bytes hp.only fun k hk e => hbk k hk k (List.mem_append.2 (.inl (mem_ownB.2 e))) rfl, ho, (OwnL.only hp.only l ks cs h.kids fun k hk e => hkc k (mem_ownB.2 e) k hk rfl).snoc (OwnT.only hp.only t y.2 b2 h2 fun k hk e => ?_), ?_⟩
 ·have := hlt k (List.mem_append.2 (.inr (List.mem_append.2 (.inl (mem_ownB.2 e))))) k hk
  omega
 ·have hbr := h.range
  have hk' : ∀ k ∈ ownB vk', k ∈ ownB vk ∨ w.heap.size ≤ k := fun k hk => (hg k (mem_ownB.1 hk)).imp mem_ownB.2 id
  rw [List.nodup_append, List.nodup_append, List.nodup_append]
  refine ⟨ownB_nodup _, ⟨ownB_nodup _, ⟨hcs, hn2, fun a ha b hb e => ?_⟩, fun a ha b hb e => ?_⟩, fun a ha b hb e => ?_⟩
  ·have := hlt a (by simp [ha]) b hb; omega
  ·subst e
   rcases List.mem_append.1 hb with hb | hb
   ·rcases hk' a ha with h1 | h1
    ·exact hkc a h1 a hb rfl
    ·have := (hbr a (by simp [hb])).2; omega
   ·rcases hk' a ha with h1 | h1
    ·have := hlt a (by simp [h1]) a hb; omega
    ·have := (hr2 a hb).2; omega
  ·subst e
   rcases List.mem_append.1 hb with hb | hb
   ·rcases hk' a hb with h1 | h1
    ·exact hbk a ha a (by simp [h1]) rfl
    ·have := (hbr a (by simp [ha])).2; omega
   ·rcases List.mem_append.1 hb with hb | hb
    ·exact hbk a ha a (by simp [hb]) rfl
    ·have := hlt a (by simp [ha]) a hb; omega
end
def OwnN (base : Nat) (w : World) (x : NdV) (t : T) : Prop := ∃ bs, OwnT base w x t bs ∧ bs.Nodup
theorem OwnS.node {base : Nat} {w : World} {k : Int} {vb vk : SV} {bs : List UInt8} {ks : List KdV} {l : List (List UInt8 × T)} {cs : List Nat} (h : OwnS base w vb.1 bs vk.1 ks l cs) : OwnN base w (k, vb, vk) (.mk k bs l) :=
 ⟨_, ⟨rfl, h.bytes, ks, cs, h.row, h.kids, rfl⟩, h.nodup⟩
theorem OwnN.below {base : Nat} {w w' : World} {x : NdV} {t : T} (h : OwnN base w x t) (hb : Below w.heap.size w w') : OwnN base w' x t := by
 obtain ⟨bs, h1, h2⟩ := h
 exact ⟨bs, h1.below hb, h2⟩
theorem OwnN.reads {base : Nat} {w : World} {x : NdV} {t : T} (h : OwnN base w x t) : NodeV w x t := by
 obtain ⟨bs, h1, _⟩ := h
 exact OwnT.reads t x bs h1
mutual
theorem OwnT.lowerB {b b' : Nat} {w : World} (hb : b' ≤ b) : ∀ (t : T) (x : NdV) (bs : List Nat), OwnT b w x t bs → OwnT b' w x t bs
 | .mk _ _ l, _, _, h => by
  obtain ⟨h1, h2, ks, cs, h3, h4, rfl⟩ := h
  exact ⟨h1, h2.lower hb, ks, cs, h3.lower hb, OwnL.lowerB hb l ks cs h4, rfl⟩
theorem OwnL.lowerB {b b' : Nat} {w : World} (hb : b' ≤ b) : ∀ (l : List (List UInt8 × T)) (ks : List KdV) (bs : List Nat), OwnL b w ks l bs → OwnL b' w ks l bs
 | [], [], _, h => h
 | (_, t) :: l, y :: ks, _, h => by
  obtain ⟨h1, cs, ds, h2, h3, rfl⟩ := h
  exact ⟨h1, cs, ds, OwnT.lowerB hb t y.2 cs h2, OwnL.lowerB hb l ks ds h3, rfl⟩
 | [], _ :: _, _, h => h.elim
 | _ :: _, [], _, h => h.elim
end
theorem OwnN.lower {b b' : Nat} {w : World} {x : NdV} {t : T} (h : OwnN b w x t) (hb : b' ≤ b) : OwnN b' w x t := by
 obtain ⟨bs, h1, h2⟩ := h
 exact ⟨bs, OwnT.lowerB hb t x bs h1, h2⟩
theorem own_sv {α : Type} {E : Elem Tryz.prog α} {base : Nat} {w : World} {v : Value} {l : List α} (h : Agg.Own E base w v l) : ∃ s : SV, v = s.1 := by
 obtain ⟨p, c, hf⟩ := h.slice.form
 exact ⟨⟨v, p, _, c, hf⟩, rfl⟩
theorem kd_build (n : List UInt8) (x : NdV) (W : World) : (Instr.build 28 #[(0, .string ⟨n.toArray⟩), (1, .agg (ndC x))]).run Tryz.prog W = .ok (.agg (kdC (n, x))) W := by
 obtain ⟨k, ⟨_, p, m, c, rfl⟩, ⟨_, q, m2, c2, rfl⟩⟩ := x
 kernel_rfl
theorem nd_build2 (k : Int) (s : SV) (W : World) : (Instr.build 26 #[(0, .int .i64 k), (1, s.1)]).run Tryz.prog W = .ok (.agg (ndC (k, s, svN))) W := by
 obtain ⟨_, p, m, c, rfl⟩ := s
 kernel_rfl
theorem nd_build0 (W : World) : (Instr.build 26 #[]).run Tryz.prog W = .ok (.agg (ndC ndZ)) W := by kernel_rfl
theorem kd_build1 (n : List UInt8) (W : World) : (Instr.build 28 #[(0, .string ⟨n.toArray⟩)]).run Tryz.prog W = .ok (.agg (kdC (n, ndZ))) W := by kernel_rfl
end Go.Proofs.YtfiadgdinhmgbaaGreatDoor
