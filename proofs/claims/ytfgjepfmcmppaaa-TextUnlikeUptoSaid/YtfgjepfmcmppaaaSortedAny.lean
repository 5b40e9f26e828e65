/- base.Sorted at every slice of paths. -/
import Derived.Test.YtfgjepfmcmppaaaSorted
import Derived.Shelf.SlSortCmp.NoneTotal
namespace Go.Proofs.Ytfgjepfmcmppaaa
open Go.RowKit Pl Go.Mp Go.Agg
theorem sort_none (p : Option Addr) (cap : Nat) (fv : Value) (w : World) :
    Calls Try.prog 61 #[.slice p 0 cap, fv] w fun e w' => e = .returned (.tuple #[]) ∧ w' = w := AnyF.slices_SortFunc_none Try.sortPath p cap fv w
set_option maxRecDepth 100000 in
theorem sorted_none (a : Option Addr) (c : Nat) (w : World) :
    Calls Try.prog 34 #[.slice a 0 c] w fun e w' => e = .returned (.slice none 0 0) ∧ Below w.heap.size w w' := by
  have hmm := @run_makeMap Try.prog
  go_enter Try.func34, Try.ntmps34
  go_wp2_with fail
  refine wp_loop_rounds 1 ?_
  rw [rounds_succ]
  go_wp2_with fail
  refine (sort_none _ _ _ _).mono ?_
  rintro e w1 ⟨rfl, rfl⟩
  go_wp2_with fail
  go_ret
  exact ⟨rfl, (Below.refl _ w).alloc (Nat.le_refl _) _⟩
theorem sorted_any (v : Value) (l : List P20) (hlen : l.length ≤ 1048576) (w : World) (he : ElemsAt w v l) :
    Calls Try.prog 34 #[v] w fun e w' => ∃ v R, e = .returned v ∧ Rising R ∧ (∀ x, x ∈ R ↔ x ∈ l) ∧ ElemsAt w' v R ∧ Below w.heap.size w w' := by
  by_cases h0 : l = []
  · subst h0
    obtain ⟨p, c, rfl⟩ := he.form
    exact (sorted_none _ c w).mono fun e w' ⟨h1, h2⟩ => ⟨_, [], h1, List.Pairwise.nil, fun _ => Iff.rfl, SliceOf.nil _ _ _, h2⟩
  · exact sorted_some v l hlen h0 w he
end Go.Proofs.Ytfgjepfmcmppaaa
