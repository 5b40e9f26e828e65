/- What a slice of one's own keeps of another's writes; resolve.Of: sizes. -/
import Derived.Test.YtgekpghjlhcpkaaDAX
import Derived.Test.YtgekpghjlhcpkaaDAK
import Derived.Test.YtgekpghjlhcpkaaDAL
namespace Go.Agg
open Go.RowKit
variable {P : Program} {α β : Type} {E : Elem P α} {E' : Elem P β} {base base' : Nat} {w w' w1 : World} {v v' : Value} {l : List α} {l' : List β}
theorem Own.onlyS {S : Nat → Prop} (h : Own E base w v l) (ho : Only S w w') (hS : ∀ k, v.ownBlock = some k → ¬ S k) : Own E base w' v l := by
  obtain ⟨h1, h2⟩ := h
  refine ⟨h1, ?_⟩
  rcases h2 with h2 | ⟨g, cap, cur, e1, e2, e3, e4⟩
  · exact .inl h2
  · exact .inr ⟨g, cap, cur, e1, e2, (ho.block g (heap_lt e3) (hS g (by rw [e1]; rfl))).trans e3, e4⟩
theorem Own.notB {g : Nat} {t : TypeId} {cs : Array Value} (h : Own E base w v l) (hb : Blk w g t cs) (hne : t ≠ E.ty) : ¬ v.ownBlock = some g := by
  intro hk
  obtain ⟨_, cur, hc⟩ := h.block g hk
  rw [show w.heap[g]? = _ from hb] at hc
  injection hc with hc
  injection hc with _ ht
  exact hne ht
theorem Own.apT (h : Own E base w v l) (h' : Own E' base' w v' l') (hne : E.ty ≠ E'.ty) : ∀ k, v.ownBlock = some k → ¬ v'.ownBlock = some k := by
  intro k hk hk'
  obtain ⟨_, cur, hc⟩ := h.block k hk
  obtain ⟨_, cur', hc'⟩ := h'.block k hk'
  rw [hc] at hc'
  injection hc' with hc'
  injection hc' with _ ht
  exact hne ht
theorem Own.apL (h : Own E base w v l) (h' : Own E' base' w1 v' l') (hb : w1.heap.size ≤ base) : ∀ k, v.ownBlock = some k → ¬ v'.ownBlock = some k := by
  intro k hk hk'
  obtain ⟨h1, _⟩ := h.block k hk
  obtain ⟨_, cur', hc'⟩ := h'.block k hk'
  have := heap_lt hc'
  omega
end Go.Agg
namespace Go.Proofs.Ytgekpghjlhcpkaa
open Go.RowKit Pl Go.Agg
theorem inputsFold_len (made : List Md) (l : List Nam) : ∀ (acc : Option (List Rin)) q, l.foldl (fun o x => match o, pathOf made x.2 with | some q, some p => some (q ++ [(x.1, p)]) | _, _ => none) acc = some q → ∃ a, acc = some a ∧ q.length = a.length + l.length := by
  induction l with
  | nil => intro acc q h; exact ⟨q, h, rfl⟩
  | cons x l ih =>
    intro acc q h
    rw [List.foldl_cons] at h
    obtain ⟨a, ha, hq⟩ := ih _ q h
    cases acc with
    | none => cases ha
    | some y =>
      cases hp : pathOf made x.2 with
      | none => rw [hp] at ha; cases ha
      | some z =>
        rw [hp] at ha
        obtain rfl : y ++ [(x.1, z)] = a := by simpa using ha
        exact ⟨y, rfl, by rw [hq, List.length_append, List.length_cons]; simp; omega⟩
theorem inputsOf_len (made : List Md) (l : List Nam) (q : List Rin) (h : inputsOf made l = some q) : q.length = l.length := by
  obtain ⟨a, ha, hq⟩ := inputsFold_len made l _ q h
  obtain rfl : [] = a := by simpa using ha
  simpa using hq
theorem ofP_len (d : Drv) (made : List Md) : (ofP d made).1.2.1.length ≤ d.2.1.length ∧ (ofP d made).1.2.2.length ≤ d.2.2.length := by
  unfold ofP
  split
  · cases h : inputsOf made d.2.1 with
    | none => exact ⟨Nat.zero_le _, Nat.zero_le _⟩
    | some q => exact ⟨Nat.le_of_eq (inputsOf_len made _ q h), Nat.le_refl _⟩
  · exact ⟨Nat.zero_le _, Nat.zero_le _⟩
end Go.Proofs.Ytgekpghjlhcpkaa
