/- Paths in order: the plain law of both Sorted. -/
import Derived.Test.YtfgjepfmcmppaaaRefLess
import Derived.Test.YtfgjepfmcmppaaaKeys
import Derived.Sort.Statements
namespace Go.Proofs.Ytfgjepfmcmppaaa
open Pl
open Go.Lib (compareBytes)
theorem bytesLess_trans : ∀ (a b c : List UInt8), Op.bytesLess a b = true → Op.bytesLess b c = true → Op.bytesLess a c = true
  | [], [], _, h, _ => by simp [Op.bytesLess] at h
  | [], _ :: _, [], _, h => by simp [Op.bytesLess] at h
  | [], _ :: _, _ :: _, _, _ => by simp [Op.bytesLess]
  | _ :: _, [], _, h, _ => by simp [Op.bytesLess] at h
  | _ :: _, _ :: _, [], _, h => by simp [Op.bytesLess] at h
  | x :: a, y :: b, z :: c, h1, h2 => by
    simp only [Op.bytesLess, Bool.or_eq_true, Bool.and_eq_true, decide_eq_true_eq, beq_iff_eq] at h1 h2 ⊢
    rcases h1 with h1 | ⟨rfl, h1⟩
    · rcases h2 with h2 | ⟨rfl, h2⟩
      · exact .inl (UInt8.lt_trans h1 h2)
      · exact .inl h1
    · rcases h2 with h2 | ⟨rfl, h2⟩
      · exact .inl h2
      · exact .inr ⟨rfl, bytesLess_trans a b c h1 h2⟩
/-- how two paths stand, as the sort asks it -/
def cmp20 (p q : P20) : Int := cmpP p.1.1 p.1.2 q.1.1 q.1.2
def lt20 (p q : P20) : Bool := decide (cmp20 p q < 0)
theorem lt20_eq (p q : P20) : lt20 p q = if p.1.1 == q.1.1 then Op.bytesLess p.1.2 q.1.2 else Op.bytesLess p.1.1 q.1.1 := by
  unfold lt20 cmp20 cmpP
  split <;> exact compare_less _ _
theorem lt20_irrefl (p : P20) : lt20 p p = false := by rw [lt20_eq]; simp [bytesLess_irrefl]
theorem lt20_trans (p q r : P20) (h1 : lt20 p q = true) (h2 : lt20 q r = true) : lt20 p r = true := by
  rw [lt20_eq] at h1 h2 ⊢
  by_cases e1 : p.1.1 = q.1.1 <;> by_cases e2 : q.1.1 = r.1.1
  · have e3 : p.1.1 = r.1.1 := e1.trans e2
    simp only [beq_iff_eq, e1, e2, if_true] at h1 h2 ⊢
    exact bytesLess_trans _ _ _ h1 h2
  · have e3 : ¬ p.1.1 = r.1.1 := fun e => e2 (e1.symm.trans e)
    simp only [beq_iff_eq, e1, e2, if_false] at h2 ⊢
    exact h2
  · have e3 : ¬ p.1.1 = r.1.1 := fun e => e1 (e.trans e2.symm)
    simp only [beq_iff_eq, e1, e3, if_false] at h1 ⊢
    rwa [← e2]
  · simp only [beq_iff_eq, e1, e2, if_false] at h1 h2
    have h3 := bytesLess_trans _ _ _ h1 h2
    have e3 : ¬ p.1.1 = r.1.1 := fun e => by rw [e, bytesLess_irrefl] at h3; cases h3
    simp only [beq_iff_eq, e3, if_false]
    exact h3
theorem lt20_total (p q : P20) (hne : p ≠ q) (h : lt20 p q = false) : lt20 q p = true := by
  rw [lt20_eq] at h ⊢
  by_cases e : p.1.1 = q.1.1
  · have e' : q.1.1 = p.1.1 := e.symm
    simp only [beq_iff_eq, e, if_true] at h ⊢
    exact bytesLess_total _ _ (fun e2 => hne (Subtype.ext (Prod.ext e e2))) h
  · have e' : ¬ q.1.1 = p.1.1 := fun x => e x.symm
    simp only [beq_iff_eq, e, e', if_false] at h ⊢
    exact bytesLess_total _ _ e h
theorem lt20_asymm (p q : P20) (h : lt20 p q = true) : lt20 q p = false := by
  cases h2 : lt20 q p with
  | false => rfl
  | true => have := lt20_trans _ _ _ h h2; rw [lt20_irrefl] at this; cases this
theorem lt20_swo : Sort.SWO lt20 where
  irrefl := lt20_irrefl
  trans := lt20_trans
  ntrans := fun x y z h1 h2 => by
    cases h3 : lt20 x z with
    | false => rfl
    | true =>
      by_cases e : x = y
      · subst e; rw [h3] at h2; cases h2
      · have := lt20_trans _ _ _ (lt20_total _ _ e h1) h3
        rw [this] at h2; cases h2
/-- rising: each ahead of all behind it -/
def Rising (l : List P20) : Prop := l.Pairwise fun p q => lt20 p q = true
theorem rising_unique : ∀ (a b : List P20), Rising a → Rising b → (∀ x, x ∈ a ↔ x ∈ b) → a = b
  | [], [], _, _, _ => rfl
  | [], y :: b, _, _, h => absurd ((h y).2 (by simp)) (by simp)
  | x :: a, [], _, _, h => absurd ((h x).1 (by simp)) (by simp)
  | x :: a, y :: b, ha, hb, h => by
    rw [Rising, List.pairwise_cons] at ha hb
    have hxy : x = y := by
      rcases List.mem_cons.1 ((h x).1 (by simp)) with e | hx
      · exact e
      · rcases List.mem_cons.1 ((h y).2 (by simp)) with e | hy
        · exact e.symm
        · have h1 := hb.1 x hx
          have h2 := ha.1 y hy
          rw [lt20_asymm _ _ h1] at h2; cases h2
    subst hxy
    congr 1
    refine rising_unique a b ha.2 hb.2 fun z => ?_
    have hz := h z
    simp only [List.mem_cons] at hz
    constructor
    · intro hza
      rcases hz.1 (.inr hza) with e | hzb
      · subst e
        have := ha.1 z hza
        rw [lt20_irrefl] at this; cases this
      · exact hzb
    · intro hzb
      rcases hz.2 (.inr hzb) with e | hza
      · subst e
        have := hb.1 z hzb
        rw [lt20_irrefl] at this; cases this
      · exact hza
/-- a sorted list without doubles rises -/
theorem rising_of_sorted (l : List P20) (hn : l.Nodup) (hs : l.Pairwise fun p q => lt20 q p = false) : Rising l := by
  refine List.Pairwise.imp₂ ?_ hn hs
  intro p q hne h
  exact lt20_total q p (Ne.symm hne) h
end Go.Proofs.Ytfgjepfmcmppaaa
