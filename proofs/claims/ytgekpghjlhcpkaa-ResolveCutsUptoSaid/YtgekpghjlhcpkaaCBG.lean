/- ResolveCuts, its sizes told by sums. -/
import Derived.Test.YtgekpghjlhcpkaaCBE
import Derived.Test.YtgekpghjlhcpkaaCBF
namespace Go.Proofs.Ytgekpghjlhcpkaa
open Go.RowKit Pl Go.Agg
theorem resolveCuts_sum (v0 v1 v2 : Value) (d : Drv) (made more : List Md) (h1 : d.1.length + namsSz d.2.1 + d.2.1.length + d.2.2.length ≤ 1048576) (h2 : made.length ≤ 1048576) (h3 : more.length ≤ 1048576) (w : World) (hd : DrvAt w v0 d) (hm : MdsAt w v1 made) (hn : MdsAt w v2 more) :
    Calls Try.prog 4 #[v0, v1, v2] w fun e w' => e = .returned (.bool true) ∧ Below w.heap.size w w' :=
  resolveCuts_any v0 v1 v2 d made more (by omega) (by omega) (by omega) (by omega) h2 h3 w hd hm hn
end Go.Proofs.Ytgekpghjlhcpkaa
