/- (of general use) A range over a function whose iterator makes blocks of its own, in calls within calls: the loop's law, at the wide fence; a body that goes on. -/
import Derived.Test.YtfiadgdinhmgbaaDoorHAL
namespace Go.Agg
open Go.RowKit
def SeqW {α : Type} (P : Program) (gf : Nat) (lb : Array Value) (encs : α → Array Value) (Kp : World → World → Prop) (Nx : List α → α → Prop) (S : List α → Prop) (w : World) : Prop :=
 ∀ (l : Nat) (J : List α → World → Prop) (W : World), Below w.heap.size w W → w.heap.size + 1 < W.heap.size → (∀ pre A B, J pre A → Below A.heap.size A B → J pre B) →
  (∀ pre x A, J pre A → Nx pre x → YieldAt Fence.wide 1 P l (encs x) A fun e B => e = .returned (.bool true) ∧ J (pre ++ [x]) B ∧ Kp A B) →
  J [] W → Calls P gf (#[.func (.yield l) #[] #[]] ++ lb) W fun e W' => (∃ v, e = .returned v) ∧ ∃ xs, S xs ∧ J xs W'
def postW {α : Type} (B : Nat) (Kp : World → World → Prop) (I : List α → World → Prop) (xs : List α) (W : World) : Exit → Act → World → Prop
 | .normal, _, W' => KeepsFrom B W W' ∧ Kp W W' ∧ I xs W'
 | _, _, _ => False
theorem range_ownW {α : Type} {P : Program} {g : Operand} {ps : Array Tmp} {assign body : Code} {Q : Exit → Act → World → Prop} {a : Act} {w : World} {gf : Nat} {lb : Array Value} (hg : a.eval g = .func (.func gf) #[] lb)
  (eg : ∀ args w, (callFunc gf args).run P w = .ok (.enter gf args) w) {encs : α → Array Value} {Kp : World → World → Prop} {Nx : List α → α → Prop} {S : List α → Prop} (hseq : SeqW P gf lb encs Kp Nx S w)
  (hKt : ∀ A B C, Kp A B → Kp B C → Kp A C) (hKb : ∀ A B, w.heap.size ≤ A.heap.size → Below A.heap.size A B → Kp A B) (hKl : ∀ (W : World) (l : Nat) (o o' : Obj), w.heap.size ≤ l → W.heap[l]? = some o → o.isCells = false → Kp W (W.putObj l o')) (hps : ∀ x, (encs x).size = ps.size)
  (I : List α → World → Prop) (hI : OwnFrom w.heap.size I) (hIT : ∀ pre A B, I pre A → Below A.heap.size A B → I pre B) (h0 : I [] w) (Ax : α → Act → World → Prop) (hAx : ∀ x a', OwnFrom w.heap.size (fun (_ : Unit) W => Ax x a' W))
  (hassign : ∀ (l : Nat) (x : α) (W : World) (K : Act → World → Prop), (∀ a' W', Below W.heap.size W W' → Ax x a' W' → K a' W') → assign.wpIn (Fence.wide.inRound l) 1 P (Exit.then K (fun _ _ _ => False)) { tmps := (ps.zip (encs x)).foldl (fun t (p, v) => t.setIfInBounds p v) a.tmps, defers := [] } W)
  (hbody : ∀ (l : Nat) (pre : List α) (x : α) (a' : Act) (W : World), w.heap.size ≤ W.heap.size → I pre W → Ax x a' W → Nx pre x → body.wpIn (Fence.wide.inRound l) 1 P (postW w.heap.size Kp I (pre ++ [x]) W) a' W)
  (hdone : ∀ (D : Nat) (xs : List α) (W : World), w.heap.size ≤ D → S xs → I xs W → W.heap[D]? = some (.deferred (some [])) → Q .normal { a with defers := { target := .collected D, args := #[] } :: a.defers } W) :
  (Code.rangeFunc g ps assign body).wpIn Fence.wide 3 P Q a w := by
 refine wpIn_rangeFunc fun fn hfn => ?_
 let R : LoopState → Option Code → Loop := fun st pe => { state := st, pending := pe, fn, tmps := a.tmps, params := ps, assign, body, defers := w.heap.size }
 have hz0 : (w.alloc (.deferred (some []))).heap.size = w.heap.size + 1 := by simp
 have hne : w.heap.size ≠ w.heap.size + 1 := by omega
 obtain ⟨V, hV⟩ : ∃ V, V = (w.alloc (.deferred (some []))).alloc (.loop (R .ready none)) := ⟨_, rfl⟩
 have hl : V.heap[w.heap.size + 1]? = some (.loop (R .ready none)) := by rw [hV, ← hz0]; exact World.alloc_heap_new _ _
 have hd : V.heap[w.heap.size]? = some (.deferred (some [])) := by rw [hV]; exact (Below.heap_alloc _ _ _ (by simp)).trans (World.alloc_heap_new w _)
 have hw : Below w.heap.size w V := by rw [hV]; exact ((Below.refl _ w).alloc (Nat.le_refl _) _).alloc (by simp) _
 have hi : I [] V := by rw [hV]; exact hI.alloc _ (hI.alloc _ h0)
 have lay : ∀ {W : World} {st : LoopState} {pe : Option Code}, W.heap[w.heap.size + 1]? = some (.loop (R st pe)) → ∀ o : Obj, (W.putObj (w.heap.size + 1) o).heap[w.heap.size + 1]? = some o := fun h o => World.putObj_heap_same (heap_lt h)
 have away : ∀ {W : World} (o : Obj), (W.putObj (w.heap.size + 1) o).heap[w.heap.size]? = W.heap[w.heap.size]? := fun o => World.putObj_heap_other hne
 refine ⟨w.heap.size + 1, [{ target := .collected w.heap.size, args := #[] }], V, { target := .fn (.func gf) lb, args := #[.func (.yield (w.heap.size + 1)) #[] #[]] }, V, gf, #[.func (.yield (w.heap.size + 1)) #[] #[]] ++ lb, V, by rw [hV]; exact run_enterLoop_outer fn a.tmps ps assign body, ?_, fun _ _ => trivial, by simp [invoke, go_sem, eg], fun _ => by omega, ?_⟩
 ·simp only [resolve, hg]
  simp [go_sem]
 refine (callsIn_wide.2 (hseq (w.heap.size + 1) (fun pre W => I pre W ∧ W.heap[w.heap.size + 1]? = some (.loop (R .ready none)) ∧ W.heap[w.heap.size]? = some (.deferred (some []))) V hw (by rw [hV]; simp)
  (fun pre A B h hb => ⟨hIT pre A B h.1 hb, (hb.block _ (heap_lt h.2.1)).trans h.2.1, (hb.block _ (heap_lt h.2.2)).trans h.2.2⟩) ?_ ⟨hi, hl, hd⟩)).mono ?_
 ·rintro pre x A ⟨hiA, hlA, hdA⟩ hnx
  refine ⟨fn, _, assign, body, run_yield hlA (hps x), roundIn_of_wpIn hfn (hassign _ x A _ ?_)⟩
  intro a' A1 hbA hax
  have hlA1 := (hbA.block _ (heap_lt hlA)).trans hlA
  have hdA1 := (hbA.block _ (heap_lt hdA)).trans hdA
  refine ⟨_, run_beginRound hlA1 rfl, ?_⟩
  have hlB := lay hlA1 (.loop { R .ready none with state := .busy })
  have hdB := (away (W := A1) (.loop { R .ready none with state := .busy })).trans hdA1
  have hzB : w.heap.size ≤ (A1.putObj (w.heap.size + 1) (.loop { R .ready none with state := .busy })).heap.size := by have := heap_lt hdB; omega
  refine wpIn_mono (hbody _ pre x a' _ hzB (hI.putObj _ (hIT pre A A1 hiA hbA) (by omega) hlA1 rfl) ((hAx x a').putObj (s := ()) _ hax (by omega) hlA1 rfl) hnx) ?_
  rintro e a3 W3 hp
  cases e with
  | normal =>
   obtain ⟨hk, hkp, hi3⟩ := hp
   have hl3 := hk.same _ _ (by omega) hlB rfl
   exact ⟨_, _, run_endRound none hl3, rfl, ⟨hI.putObj _ hi3 (by omega) hl3 rfl, lay (st := .busy) (pe := none) hl3 _, (away _).trans (hk.same _ _ (Nat.le_refl _) hdB rfl)⟩, hKt _ _ _ (hKb _ _ (by have := heap_lt hdA; omega) hbA) (hKt _ _ _ (hKl _ _ _ _ (by omega) hlA1 rfl) (hKt _ _ _ hkp (hKl _ _ _ _ (by omega) hl3 rfl)))⟩
  | ret => exact hp.elim
  | exit id => exact hp.elim
  | goto t => exact hp.elim
  | panic ch => exact hp.elim
  | outgrown => exact hp.elim
 ·rintro e W2 ⟨⟨v, rfl⟩, xs, hS, hi2, hl2, hd2⟩
  exact ⟨none, _, run_endLoop hl2 (by simp [R]), hdone _ xs _ (Nat.le_refl _) hS (hI.putObj _ hi2 (by omega) hl2 rfl) ((away _).trans hd2)⟩
end Go.Agg
