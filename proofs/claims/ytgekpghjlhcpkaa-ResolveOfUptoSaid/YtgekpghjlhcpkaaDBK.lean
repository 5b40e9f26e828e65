/- ResolveOf, its sizes told by sums. -/
import Derived.Test.YtgekpghjlhcpkaaDBI
import Derived.Test.YtgekpghjlhcpkaaDBJ
namespace Go.Proofs.Ytgekpghjlhcpkaa
open Go.RowKit Pl Go.Agg
theorem small_mds {l : List Md} (h : (l.map szMd).sum ≤ 1048576) : ∀ x ∈ l, x.2.1.2.length ≤ 1048576 := by
  intro x hx
  have h2 : szMd x ≤ (l.map szMd).sum := mem_sum _ _ (List.mem_map.2 ⟨x, hx, rfl⟩)
  have h3 : x.2.1.2.length ≤ szMd x := by unfold szMd; omega
  omega
theorem resolveOf_sum (v0 v1 : Value) (d : Drv) (made : List Md) (h1 : d.1.length + namsSz d.2.1 + d.2.1.length + d.2.2.length ≤ 1048576) (h2 : (made.map szMd).sum + made.length ≤ 1048576) (w : World) (hd : DrvAt w v0 d) (hm : MdsAt w v1 made) :
    Calls Try.prog 3 #[v0, v1] w fun e w' => e = .returned (.bool true) ∧ Below w.heap.size w w' :=
  resolveOf_any v0 v1 d made (by omega) (by omega) (by omega) (by omega) (by omega) (small_mds (by omega)) w hd hm
end Go.Proofs.Ytgekpghjlhcpkaa
