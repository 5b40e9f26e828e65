/- A cut behind a region: what it leaves, said once for all orders. -/
import Derived.Test.YtnlilmiakddlaaaBAK
namespace Go.Agg
open Go.RowKit
variable {P : Program}
/-- some slots hold whatever -/
def ExPut : List Nat → Act → Act → Prop
  | [], a, a' => a' = a
  | k :: ks, a, a' => ∃ x, ExPut ks (a.put (some k) x) a'
theorem wp_cutR {c : Code} {Q : Exit → Act → World → Prop} {a : Act} {w : World} (R : Act → Act → World → Prop) (h1 : c.wp P (fun e a' w' => match e with | .normal => R a a' w' | _ => False) a w)
    (h2 : ∀ a' w', R a a' w' → Q .normal a' w') : c.wp P Q a w :=
  Code.wp_mono (fun e a' w' h => by
    cases e
    case normal => exact h2 a' w' h
    all_goals exact False.elim h) h1
section
variable {l : List Oper} {md : Region.Mode} {Q : Exit → Act → World → Prop} {S : World → Prop} {fuel : Nat} {listed : Array Bool} {a : Act} {w : World}
/-- an operation whose guard does not want it -/
theorem held_skip {o : Oper} (i : Nat) (ho : l[i]? = some o) (hB : takeB md l listed i = true) (hQ : ∀ c a w, Q (.panic c) (a.put o.dst undef) w → Q (.panic c) a w) (hw : Region.wanted o (yielded l.toArray a.tmps) = false)
    (hS : S w) (h : wpAnyH P md l.toArray Q S fuel (listed.setIfInBounds i true) (a.put o.dst undef) w) : wpAnyH P md l.toArray Q S (fuel + 1) listed a w := by
  simp only [takeB, Bool.and_eq_true] at hB
  exact wpAnyH_take (by simpa using ho) hB.1.1 hB.1.2 hB.2 hQ (.inr ⟨hw, rfl⟩) hS h
end
end Go.Agg
