/- (of general use) A range over a function whose iterator writes a variable of its own: the loop's law, at the wide fence; a body that goes on, or returns. -/
import Derived.Test.YtfiadgdinhmgbaaGreatDoorEAB
namespace Go.Agg
open Go.RowKit
def postT {α : Type} (B : Nat) (Kp : World → World → Prop) (I Ix : List α → World → Prop) (xs : List α) (W : World) : Exit → Act → World → Prop
 | .normal, _, W' => KeepsFrom B W W' ∧ Kp W W' ∧ I xs W'
 | .ret, _, W' => KeepsFrom B W W' ∧ Ix xs W'
 | _, _, _ => False
def SeqT {α : Type} (P : Program) (gf : Nat) (lb : Array Value) (encs : α → Array Value) (Kp T : World → World → Prop) (S Sp : List α → Prop) (N : Nat) (w : World) : Prop :=
 ∀ (l : Nat) (J Jx : List α → World → Prop) (W : World), Below w.heap.size w W → (∀ pre A B, J pre A → T A B → J pre B) →
  (∀ pre x A, J pre A → pre.length < N → YieldAt Fence.wide 1 P l (encs x) A fun e B => (e = .returned (.bool true) ∧ J (pre ++ [x]) B ∧ Kp A B) ∨ (e = .returned (.bool false) ∧ Jx (pre ++ [x]) B)) →
  J [] W → CallsIn Fence.wide 2 P gf (#[.func (.yield l) #[] #[]] ++ lb) W fun e W' => (∃ v, e = .returned v) ∧ ((∃ xs, S xs ∧ J xs W') ∨ (∃ pre, Sp pre ∧ Jx pre W'))
theorem range_ownT {α : Type} {P : Program} {g : Operand} {ps : Array Tmp} {assign body : Code} {Q : Exit → Act → World → Prop} {a : Act} {w : World} {gf : Nat} {lb : Array Value} (hg : a.eval g = .func (.func gf) #[] lb)
  (eg : ∀ args w, (callFunc gf args).run P w = .ok (.enter gf args) w) {encs : α → Array Value} {Kp T : World → World → Prop} {S Sp : List α → Prop} {N : Nat} (hseq : SeqT P gf lb encs Kp T S Sp N w)
  (hT : ∀ A B, T A B → ∀ k, w.heap.size ≤ k → k < A.heap.size → B.heap[k]? = A.heap[k]?)
  (hKt : ∀ A B C, Kp A B → Kp B C → Kp A C) (hKl : ∀ (W : World) (l : Nat) (o : Obj), w.heap.size ≤ l → Kp W (W.putObj l o)) (hps : ∀ x, (encs x).size = ps.size)
  (I Ix : List α → World → Prop) (hI : OwnFrom w.heap.size I) (hIx : OwnFrom w.heap.size Ix) (hIT : ∀ pre A B, I pre A → T A B → I pre B) (h0 : I [] w) (a₁ : α → Act)
  (hassign : ∀ (l : Nat) (x : α) (W : World) (K : Act → World → Prop), K (a₁ x) W → assign.wpIn (Fence.wide.inRound l) 1 P (Exit.then K (fun _ _ _ => False)) { tmps := (ps.zip (encs x)).foldl (fun t (p, v) => t.setIfInBounds p v) a.tmps, defers := [] } W)
  (hbody : ∀ (l : Nat) (pre : List α) (x : α) (W : World), I pre W → pre.length < N → body.wpIn (Fence.wide.inRound l) 1 P (postT w.heap.size Kp I Ix (pre ++ [x]) W) (a₁ x) W)
  (hdone : ∀ (D : Nat) (xs : List α) (W : World), w.heap.size ≤ D → S xs → I xs W → W.heap[D]? = some (.deferred (some [])) → Q .normal { a with defers := { target := .collected D, args := #[] } :: a.defers } W)
  (hstop : ∀ (D : Nat) (pre : List α) (W : World), w.heap.size ≤ D → Sp pre → Ix pre W → W.heap[D]? = some (.deferred (some [])) → Code.ret.wpIn Fence.wide 3 P Q { a with defers := { target := .collected D, args := #[] } :: a.defers } W) :
  (Code.rangeFunc g ps assign body).wpIn Fence.wide 3 P Q a w := by
 refine wpIn_rangeFunc fun fn hfn => ?_
 let R : LoopState → Option Code → Loop := fun st pe => { state := st, pending := pe, fn, tmps := a.tmps, params := ps, assign, body, defers := w.heap.size }
 have hz0 : (w.alloc (.deferred (some []))).heap.size = w.heap.size + 1 := by simp
 have hne : w.heap.size ≠ w.heap.size + 1 := by omega
 obtain ⟨V, hV⟩ : ∃ V, V = (w.alloc (.deferred (some []))).alloc (.loop (R .ready none)) := ⟨_, rfl⟩
 have hl : V.heap[w.heap.size + 1]? = some (.loop (R .ready none)) := by rw [hV, ← hz0]; exact World.alloc_heap_new _ _
 have hd : V.heap[w.heap.size]? = some (.deferred (some [])) := by rw [hV]; exact (Below.heap_alloc _ _ _ (by simp)).trans (World.alloc_heap_new w _)
 have hw : Below w.heap.size w V := by rw [hV]; exact ((Below.refl _ w).alloc (Nat.le_refl _) _).alloc (by simp) _
 have hi : I [] V := by rw [hV]; exact hI.alloc _ (hI.alloc _ h0)
 have lay : ∀ {W : World} {st : LoopState} {pe : Option Code}, W.heap[w.heap.size + 1]? = some (.loop (R st pe)) → ∀ o : Obj, (W.putObj (w.heap.size + 1) o).heap[w.heap.size + 1]? = some o := fun h o => World.putObj_heap_same (heap_lt h)
 have away : ∀ {W : World} (o : Obj), (W.putObj (w.heap.size + 1) o).heap[w.heap.size]? = W.heap[w.heap.size]? := fun o => World.putObj_heap_other hne
 refine ⟨w.heap.size + 1, [{ target := .collected w.heap.size, args := #[] }], V, { target := .fn (.func gf) lb, args := #[.func (.yield (w.heap.size + 1)) #[] #[]] }, V, gf, #[.func (.yield (w.heap.size + 1)) #[] #[]] ++ lb, V, by rw [hV]; exact run_enterLoop_outer fn a.tmps ps assign body, ?_, fun _ _ => trivial, by simp [invoke, go_sem, eg], fun _ => by omega, ?_⟩
 ·simp only [resolve, hg]
  simp [go_sem]
 refine (hseq (w.heap.size + 1) (fun pre W => I pre W ∧ W.heap[w.heap.size + 1]? = some (.loop (R .ready none)) ∧ W.heap[w.heap.size]? = some (.deferred (some [])))
  (fun pre W => Ix pre W ∧ W.heap[w.heap.size + 1]? = some (.loop (R .done (some .ret))) ∧ W.heap[w.heap.size]? = some (.deferred (some []))) V hw
  (fun pre A B h ht => ⟨hIT pre A B h.1 ht, (hT A B ht _ (by omega) (heap_lt h.2.1)).trans h.2.1, (hT A B ht _ (Nat.le_refl _) (heap_lt h.2.2)).trans h.2.2⟩) ?_ ⟨hi, hl, hd⟩).mono ?_
 ·rintro pre x A ⟨hiA, hlA, hdA⟩ hlen
  refine ⟨fn, _, assign, body, run_yield hlA (hps x), roundIn_of_wpIn hfn (hassign _ x A _ ?_)⟩
  refine ⟨_, run_beginRound hlA rfl, ?_⟩
  have hlB := lay hlA (.loop { R .ready none with state := .busy })
  have hdB := (away (W := A) (.loop { R .ready none with state := .busy })).trans hdA
  refine wpIn_mono (hbody _ pre x _ (hI.putObj _ hiA (by omega) hlA rfl) hlen) ?_
  rintro e a3 W3 hp
  cases e with
  | normal =>
   obtain ⟨hk, hkp, hi3⟩ := hp
   have hl3 := hk.same _ _ (by omega) hlB rfl
   exact ⟨_, _, run_endRound none hl3, .inl ⟨rfl, ⟨hI.putObj _ hi3 (by omega) hl3 rfl, lay (st := .busy) (pe := none) hl3 _, (away _).trans (hk.same _ _ (Nat.le_refl _) hdB rfl)⟩, hKt _ _ _ (hKt _ _ _ (hKl _ _ _ (by omega)) hkp) (hKl _ _ _ (by omega))⟩⟩
  | ret =>
   obtain ⟨hk, hi3⟩ := hp
   have hl3 := hk.same _ _ (by omega) hlB rfl
   exact ⟨_, _, run_endRound (some .ret) hl3, .inr ⟨rfl, hIx.putObj _ hi3 (by omega) hl3 rfl, lay (st := .busy) (pe := none) hl3 _, (away _).trans (hk.same _ _ (Nat.le_refl _) hdB rfl)⟩⟩
  | exit id => exact hp.elim
  | goto t => exact hp.elim
  | panic ch => exact hp.elim
  | outgrown => exact hp.elim
 ·rintro e W2 ⟨⟨v, rfl⟩, ⟨xs, hS, hi2, hl2, hd2⟩ | ⟨pre, hsp, hi2, hl2, hd2⟩⟩
  ·exact ⟨none, _, run_endLoop hl2 (by simp [R]), hdone _ xs _ (Nat.le_refl _) hS (hI.putObj _ hi2 (by omega) hl2 rfl) ((away _).trans hd2)⟩
  ·exact ⟨some .ret, _, run_endLoop hl2 (by simp [R]), hstop _ pre _ (Nat.le_refl _) hsp (hIx.putObj _ hi2 (by omega) hl2 rfl) ((away _).trans hd2)⟩
end Go.Agg
