/- slices.SortFunc at paths, by base.order. -/
import Derived.Test.YtfgjepfmcmppaaaSortLay
import Derived.Test.YtfgjepfmcmppaaaOrderG
import Derived.Test.YtfgjepfmcmppaaaElems
namespace Go.Proofs.Ytfgjepfmcmppaaa
open Go.RowKit Pl Go.Sort
theorem cmpLays20 (blk off size : Nat) (w : World) : CmpLays Try.prog 62 #[] cells20 21 cmp20 blk off size w :=
  fun _ _ _ _ x y => order_grown x.1.1 x.1.2 y.1.1 y.1.2 x.2 y.2 _
theorem sort_any (d : Array P20) (blk off cap : Nat) (w : World) (hH : HoldsK cells20 21 w blk off d) (hblk : blk < w.heap.size) (hsz : d.size < 4611686018427387904) :
    Calls Try.prog 61 #[.slice (some ⟨blk, off, none⟩) d.size cap, .func (.func 62) #[] #[]] w fun e w' =>
      e = .returned (.tuple #[]) ∧ ∃ d' n os, PermIn 0 d.size d d' ∧ SortedIn lt20 0 d.size d' ∧ w' = sortWorldK cells20 21 w blk off n d' os := by
  have eg : ∀ args w, (callFunc 62 args).run Try.prog w = .ok (.enter 62 args) w := enters_of Try.func62 (by kernel_rfl) rfl
  exact AnyQ.slices_SortFunc Try.sortPath 21 (fun w => by kernel_rfl) (fun w => by kernel_rfl) cells20 cells20_length cells20_one cmp20 lt20_swo 62 #[] blk off cap d w eg (cmpLays20 blk off d.size w) hH hblk hsz
end Go.Proofs.Ytfgjepfmcmppaaa
