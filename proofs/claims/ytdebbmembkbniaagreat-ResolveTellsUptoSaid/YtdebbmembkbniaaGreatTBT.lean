/- ResolveTells, its sizes told by sums. -/
import Derived.Test.YtdebbmembkbniaaGreatTBR
import Derived.Test.YtdebbmembkbniaaGreatTBS
namespace Go.Proofs.YtdebbmembkbniaaGreat
open Go.RowKit Pl Go.Agg
theorem small_allT {l : List Rin} (h : (l.map riSz).sum ≤ 1048576) : ∀ x ∈ l, x.1.length ≤ 1048576 ∧ x.2.1.2.length ≤ 1048576 := fun x hx => by
 have := le_sumR hx
 have h2 : riSz x = x.1.length + x.2.1.2.length := rfl
 omega
theorem resolveTells_sum (v1 v2 : Value) (r : Rv) (b : List UInt8) (h1 : r.1.length + (r.2.1.map riSz).sum + r.2.1.length + r.2.2.length ≤ 1048576) (h2 : b.length ≤ 1048576) (w : World) (hr : RvAt w v1 r) (hb : BytesAt w v2 b) :
  Calls Tryz.prog 3 #[v1, v2] w fun e w' => e = .returned (.bool true) ∧ Below w.heap.size w w' :=
 resolveTells_any v1 v2 r b ⟨by omega, by omega, small_allT (by omega)⟩ (by omega) h2 w hr hb
end Go.Proofs.YtdebbmembkbniaaGreat
