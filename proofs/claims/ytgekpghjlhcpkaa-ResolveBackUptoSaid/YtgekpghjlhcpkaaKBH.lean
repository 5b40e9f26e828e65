/- ResolveBack, its sizes told by sums. -/
import Derived.Test.YtgekpghjlhcpkaaKBF
import Derived.Test.YtgekpghjlhcpkaaKBG
namespace Go.Proofs.Ytgekpghjlhcpkaa
open Go.RowKit Pl Go.Agg
theorem small_all {l : List Rin} (h : (l.map riSz).sum ≤ 1048576) : ∀ x ∈ l, x.1.length ≤ 1048576 ∧ x.2.1.2.length ≤ 1048576 := fun x hx => by
  have := le_sumR hx
  have h2 : riSz x = x.1.length + x.2.1.2.length := rfl
  omega
theorem resolveBack_sum (v1 v2 v3 : Value) (r s : Rv) (b : List UInt8) (h1 : r.1.length + (r.2.1.map riSz).sum + r.2.1.length + r.2.2.length ≤ 1048576) (h2 : s.1.length + (s.2.1.map riSz).sum + s.2.1.length + s.2.2.length ≤ 1048576) (h3 : b.length ≤ 1048576) (w : World) (hr : RvAt w v1 r) (hs : RvAt w v2 s) (hb : BytesAt w v3 b) :
    Calls Try.prog 5 #[v1, v2, v3] w fun e w' => e = .returned (.bool true) ∧ Below w.heap.size w w' :=
  resolveBack_any v1 v2 v3 r s b (by omega) (by omega) (small_all (by omega)) (by omega) (by omega) (by omega) (small_all (by omega)) (by omega) h3 w hr hs hb
end Go.Proofs.Ytgekpghjlhcpkaa
