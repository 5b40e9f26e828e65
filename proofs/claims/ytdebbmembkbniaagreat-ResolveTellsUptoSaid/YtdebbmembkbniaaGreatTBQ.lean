/- What a slice of one's own keeps of another's writes; resolve.Of: sizes. -/
import Derived.Test.YtdebbmembkbniaaGreatTAD
import Derived.Test.YtdebbmembkbniaaGreatTAK
import Derived.Test.YtdebbmembkbniaaGreatTAC
namespace Go.Agg
open Go.RowKit
variable {P : Program} {α β : Type} {E : Elem P α} {E' : Elem P β} {base base' : Nat} {w w' w1 : World} {v v' : Value} {l : List α} {l' : List β}
end Go.Agg
namespace Go.Proofs.YtdebbmembkbniaaGreat
open Go.RowKit Pl Go.Agg
end Go.Proofs.YtdebbmembkbniaaGreat
