/-
  No cell of these rows narrows 'for every input' (looked for: loops, veiled, ifaces, maps, wideKeys, modest, calm, conditions, laid).
  DERIVED. THE GIVEN ROWS OF THIS SEAT. 8 by the template 'for every input the law returns true; each argument reads behind the call as it read before'; 0 by the template 'total and deterministic' (their statements: YtfgjepfmcmppaaaTotals.lean).
  GIVEN WITH THE SEED: the statements are not yours to turn. If you find one false, say at which input.
  Laid BY PROGRAM, IN A SANDBOX (cutbox-rows.mjs): the forced cells as the released guide's own fill.sh prints them over the translation 4223ceb68077fd6e… (all of the seat's roots in one cut). By AI agents, Wed Nov 11 2026. No macro, syntax, notation, axiom, sorry.
-/
import Derived.Test.YtfgjepfmcmppaaaChecked
import GoSem.Claim
import GoSem.ClaimJoined
import GoSem.ClaimMapViews
import Derived.JoinedTies
import Derived.KernelRfl
namespace Go.Proofs.Ytfgjepfmcmppaaa
/- THE CELL 'sum', in the pinned program and in every row, IS THE sha256 OF THE DUMP (.gsa) THAT YtfgjepfmcmppaaaProg.lean LOADS. Nothing in Lean hashes anything: it is a label: what it is worth is what the hold of that sum in a sandbox is worth. -/
noncomputable def Try.pinned : Pinned := { name := "ytfgjepfmcmppaaa", sum := "4223ceb68077fd6e6051d76b677e1ea3eb7e00d0067a8ac9e80d903a747e3bda", checked := Try.checked }
namespace Rows
def none {H : Type} : Left H := { results := [], args := [] }

/-- 'spencelaw17.TextPuts': WHATEVER THE INPUT: true; the input reads as it did. -/
def textPutsSpec : ChangeSpec := { name := "textPuts", fn := fun _ => fun
  | [d] => { results := [.lit (.bool true)], args := [d] }
  | _ => none }
def textPutsRow : OpenClaim := { program := "ytfgjepfmcmppaaa", sum := "4223ceb68077fd6e6051d76b677e1ea3eb7e00d0067a8ac9e80d903a747e3bda", func := "spence/spencelaw17.TextPuts", spec := "textPuts", inPlace := ["internal/bytealg.IndexByteString", "internal/abi.NoEscape", "internal/bytealg.MakeNoZero"], recurses := true, plainKeys := false, apart := false }
def TextPutsSaid : Prop := textPutsRow.holds Try.pinned (OpenSpec.ofChange textPutsSpec)

/-- ITS FALSE NEIGHBOUR: 'it returns false'. Refute it at one input. -/
def textPutsWrong : ChangeSpec := { name := "textPuts", fn := fun _ => fun
  | [d] => { results := [.lit (.bool false)], args := [d] }
  | _ => none }
def TextPutsWrongFalsely : Prop := textPutsRow.holds Try.pinned (OpenSpec.ofChange textPutsWrong)

/-- 'spencelaw17.TextUnlike': WHATEVER THE INPUT: true; the input reads as it did. -/
def textUnlikeSpec : ChangeSpec := { name := "textUnlike", fn := fun _ => fun
  | [d1, d2] => { results := [.lit (.bool true)], args := [d1, d2] }
  | _ => none }
def textUnlikeRow : OpenClaim := { program := "ytfgjepfmcmppaaa", sum := "4223ceb68077fd6e6051d76b677e1ea3eb7e00d0067a8ac9e80d903a747e3bda", func := "spence/spencelaw17.TextUnlike", spec := "textUnlike", inPlace := ["internal/bytealg.IndexByteString", "internal/abi.NoEscape", "internal/bytealg.MakeNoZero"], plainKeys := false, apart := false }
def TextUnlikeSaid : Prop := textUnlikeRow.holds Try.pinned (OpenSpec.ofChange textUnlikeSpec)

/-- ITS FALSE NEIGHBOUR: 'it returns false'. Refute it at one input. -/
def textUnlikeWrong : ChangeSpec := { name := "textUnlike", fn := fun _ => fun
  | [d1, d2] => { results := [.lit (.bool false)], args := [d1, d2] }
  | _ => none }
def TextUnlikeWrongFalsely : Prop := textUnlikeRow.holds Try.pinned (OpenSpec.ofChange textUnlikeWrong)

/-- 'spencelaw03.BaseTells': WHATEVER THE INPUT: true; the input reads as it did. -/
def baseTellsSpec : ChangeSpec := { name := "baseTells", fn := fun _ => fun
  | [d1, d2] => { results := [.lit (.bool true)], args := [d1, d2] }
  | _ => none }
def baseTellsRow : OpenClaim := { program := "ytfgjepfmcmppaaa", sum := "4223ceb68077fd6e6051d76b677e1ea3eb7e00d0067a8ac9e80d903a747e3bda", func := "spence/spencelaw03.BaseTells", spec := "baseTells", inPlace := ["internal/abi.NoEscape", "internal/bytealg.IndexByteString", "internal/bytealg.IndexString"], named := ["internal/bytealg.MaxLen"], plainKeys := false, apart := false }
def BaseTellsSaid : Prop := baseTellsRow.holds Try.pinned (OpenSpec.ofChange baseTellsSpec)

/-- ITS FALSE NEIGHBOUR: 'it returns false'. Refute it at one input. -/
def baseTellsWrong : ChangeSpec := { name := "baseTells", fn := fun _ => fun
  | [d1, d2] => { results := [.lit (.bool false)], args := [d1, d2] }
  | _ => none }
def BaseTellsWrongFalsely : Prop := baseTellsRow.holds Try.pinned (OpenSpec.ofChange baseTellsWrong)

/-- 'spencelaw03.BaseEnds': WHATEVER THE INPUT: true; the input reads as it did. -/
def baseEndsSpec : ChangeSpec := { name := "baseEnds", fn := fun _ => fun
  | [] => { results := [.lit (.bool true)], args := [] }
  | _ => none }
def baseEndsRow : OpenClaim := { program := "ytfgjepfmcmppaaa", sum := "4223ceb68077fd6e6051d76b677e1ea3eb7e00d0067a8ac9e80d903a747e3bda", func := "spence/spencelaw03.BaseEnds", spec := "baseEnds", inPlace := ["internal/abi.NoEscape", "internal/bytealg.IndexByteString", "internal/bytealg.IndexString"], named := ["internal/bytealg.MaxLen"], plainKeys := false, apart := false }
def BaseEndsSaid : Prop := baseEndsRow.holds Try.pinned (OpenSpec.ofChange baseEndsSpec)

/-- ITS FALSE NEIGHBOUR: 'it returns false'. Refute it at one input. -/
def baseEndsWrong : ChangeSpec := { name := "baseEnds", fn := fun _ => fun
  | [] => { results := [.lit (.bool false)], args := [] }
  | _ => none }
def BaseEndsWrongFalsely : Prop := baseEndsRow.holds Try.pinned (OpenSpec.ofChange baseEndsWrong)

/-- 'spencelaw03.BaseBack': WHATEVER THE INPUT: true; the input reads as it did. -/
def baseBackSpec : ChangeSpec := { name := "baseBack", fn := fun _ => fun
  | [d1, d2, d3] => { results := [.lit (.bool true)], args := [d1, d2, d3] }
  | _ => none }
def baseBackRow : OpenClaim := { program := "ytfgjepfmcmppaaa", sum := "4223ceb68077fd6e6051d76b677e1ea3eb7e00d0067a8ac9e80d903a747e3bda", func := "spence/spencelaw03.BaseBack", spec := "baseBack", inPlace := ["internal/abi.NoEscape", "internal/bytealg.IndexByteString", "internal/bytealg.IndexString"], named := ["internal/bytealg.MaxLen"], plainKeys := false, apart := false }
def BaseBackSaid : Prop := baseBackRow.holds Try.pinned (OpenSpec.ofChange baseBackSpec)

/-- ITS FALSE NEIGHBOUR: 'it returns false'. Refute it at one input. -/
def baseBackWrong : ChangeSpec := { name := "baseBack", fn := fun _ => fun
  | [d1, d2, d3] => { results := [.lit (.bool false)], args := [d1, d2, d3] }
  | _ => none }
def BaseBackWrongFalsely : Prop := baseBackRow.holds Try.pinned (OpenSpec.ofChange baseBackWrong)

/-- 'spencelaw17.TextBack': WHATEVER THE INPUT: true; the input reads as it did. -/
def textBackSpec : ChangeSpec := { name := "textBack", fn := fun _ => fun
  | [d1, d2, d3] => { results := [.lit (.bool true)], args := [d1, d2, d3] }
  | _ => none }
def textBackRow : OpenClaim := { program := "ytfgjepfmcmppaaa", sum := "4223ceb68077fd6e6051d76b677e1ea3eb7e00d0067a8ac9e80d903a747e3bda", func := "spence/spencelaw17.TextBack", spec := "textBack", inPlace := ["internal/bytealg.IndexByteString", "internal/abi.NoEscape", "internal/bytealg.MakeNoZero", "internal/bytealg.IndexString"], unfollowed := true, recurses := true, named := ["internal/bytealg.MaxLen"], plainKeys := false, apart := false }
def TextBackSaid : Prop := textBackRow.holds Try.pinned (OpenSpec.ofChange textBackSpec)

/-- ITS FALSE NEIGHBOUR: 'it returns false'. Refute it at one input. -/
def textBackWrong : ChangeSpec := { name := "textBack", fn := fun _ => fun
  | [d1, d2, d3] => { results := [.lit (.bool false)], args := [d1, d2, d3] }
  | _ => none }
def TextBackWrongFalsely : Prop := textBackRow.holds Try.pinned (OpenSpec.ofChange textBackWrong)

/-- 'spencelaw03.BaseSorts': WHATEVER THE INPUT: true; the input reads as it did. -/
def baseSortsSpec : ChangeSpec := { name := "baseSorts", fn := fun _ => fun
  | [d] => { results := [.lit (.bool true)], args := [d] }
  | _ => none }
def baseSortsRow : OpenClaim := { program := "ytfgjepfmcmppaaa", sum := "4223ceb68077fd6e6051d76b677e1ea3eb7e00d0067a8ac9e80d903a747e3bda", func := "spence/spencelaw03.BaseSorts", spec := "baseSorts", inPlace := ["internal/abi.NoEscape", "internal/bytealg.IndexByteString", "internal/bytealg.Compare"], unfollowed := true, recurses := true, plainKeys := false, apart := false }
def BaseSortsSaid : Prop := baseSortsRow.holds Try.pinned (OpenSpec.ofChange baseSortsSpec)

/-- ITS FALSE NEIGHBOUR: 'it returns false'. Refute it at one input. -/
def baseSortsWrong : ChangeSpec := { name := "baseSorts", fn := fun _ => fun
  | [d] => { results := [.lit (.bool false)], args := [d] }
  | _ => none }
def BaseSortsWrongFalsely : Prop := baseSortsRow.holds Try.pinned (OpenSpec.ofChange baseSortsWrong)

/-- 'spencelaw03.BaseOrder': WHATEVER THE INPUT: true; the input reads as it did. -/
def baseOrderSpec : ChangeSpec := { name := "baseOrder", fn := fun _ => fun
  | [d1, d2, d3, d4] => { results := [.lit (.bool true)], args := [d1, d2, d3, d4] }
  | _ => none }
def baseOrderRow : OpenClaim := { program := "ytfgjepfmcmppaaa", sum := "4223ceb68077fd6e6051d76b677e1ea3eb7e00d0067a8ac9e80d903a747e3bda", func := "spence/spencelaw03.BaseOrder", spec := "baseOrder", inPlace := ["internal/abi.NoEscape", "internal/bytealg.IndexByteString", "internal/bytealg.Compare"], unfollowed := true, recurses := true, plainKeys := false, apart := false }
def BaseOrderSaid : Prop := baseOrderRow.holds Try.pinned (OpenSpec.ofChange baseOrderSpec)

/-- ITS FALSE NEIGHBOUR: 'it returns false'. Refute it at one input. -/
def baseOrderWrong : ChangeSpec := { name := "baseOrder", fn := fun _ => fun
  | [d1, d2, d3, d4] => { results := [.lit (.bool false)], args := [d1, d2, d3, d4] }
  | _ => none }
def BaseOrderWrongFalsely : Prop := baseOrderRow.holds Try.pinned (OpenSpec.ofChange baseOrderWrong)

/- THE SECOND FORM. 'bulk': how many values and letters a reading holds, each counted each time it is reached (what is shared counts as often as it is met; a slice's spare places count too). A statement '..UptoSaid' is the law's where the arguments, and the package variables that the reading takes, are together of bulk at most 1048576: NARROWER than '..Said'. Prove '..Said' where nothing that the law and all that it calls make is longer than what came in: it says more and counts as full. Else prove '..UptoSaid'. A law counts once. -/
mutual
def uptoBulk {H : Type} : DataW H → Nat
  | .lit (.string bytes) => bytes.length + 1
  | .lit _ => 1
  | .nil => 1
  | .ptr d => uptoBulk d + 1
  | .slice elems spare => uptoBulkAll elems + uptoBulkAll spare + 1
  | .agg parts => uptoBulkAll parts + 1
  | .iface _ d => uptoBulk d + 1
  | .map entries => uptoBulkEntries entries + 1
  | .held _ => 1
def uptoBulkAll {H : Type} : List (DataW H) → Nat
  | [] => 0
  | d :: r => uptoBulk d + uptoBulkAll r
def uptoBulkEntries {H : Type} : List (Lit × DataW H) → Nat
  | [] => 0
  | x :: r => uptoBulkEntry x + uptoBulkEntries r
def uptoBulkEntry {H : Type} : Lit × DataW H → Nat
  | (.string bytes, d) => bytes.length + uptoBulk d + 1
  | (_, d) => uptoBulk d + 1
 end
def uptoSmall : (H : Type) → List (DataW H) → Bool := fun _ ds => decide (uptoBulkAll ds ≤ 1048576)
def OpenSpec.upto (s : _root_.Go.ChangeSpec) : _root_.Go.OpenSpec := { _root_.Go.OpenSpec.ofChange s with cond := some uptoSmall }

/-- 'spencelaw17.TextPuts', WHERE WHAT IT READS IS OF BULK AT MOST 1048576: true; the input reads as it did. -/
def textPutsUptoRow : OpenClaim := { program := "ytfgjepfmcmppaaa", sum := "4223ceb68077fd6e6051d76b677e1ea3eb7e00d0067a8ac9e80d903a747e3bda", func := "spence/spencelaw17.TextPuts", spec := "textPuts", inPlace := ["internal/bytealg.IndexByteString", "internal/abi.NoEscape", "internal/bytealg.MakeNoZero"], recurses := true, plainKeys := false, apart := false, narrowed := true }
def TextPutsUptoSaid : Prop := textPutsUptoRow.holds Try.pinned (OpenSpec.upto textPutsSpec)

/-- 'spencelaw17.TextUnlike', WHERE WHAT IT READS IS OF BULK AT MOST 1048576: true; the input reads as it did. -/
def textUnlikeUptoRow : OpenClaim := { program := "ytfgjepfmcmppaaa", sum := "4223ceb68077fd6e6051d76b677e1ea3eb7e00d0067a8ac9e80d903a747e3bda", func := "spence/spencelaw17.TextUnlike", spec := "textUnlike", inPlace := ["internal/bytealg.IndexByteString", "internal/abi.NoEscape", "internal/bytealg.MakeNoZero"], plainKeys := false, apart := false, narrowed := true }
def TextUnlikeUptoSaid : Prop := textUnlikeUptoRow.holds Try.pinned (OpenSpec.upto textUnlikeSpec)

/-- 'spencelaw03.BaseTells', WHERE WHAT IT READS IS OF BULK AT MOST 1048576: true; the input reads as it did. -/
def baseTellsUptoRow : OpenClaim := { program := "ytfgjepfmcmppaaa", sum := "4223ceb68077fd6e6051d76b677e1ea3eb7e00d0067a8ac9e80d903a747e3bda", func := "spence/spencelaw03.BaseTells", spec := "baseTells", inPlace := ["internal/abi.NoEscape", "internal/bytealg.IndexByteString", "internal/bytealg.IndexString"], named := ["internal/bytealg.MaxLen"], plainKeys := false, apart := false, narrowed := true }
def BaseTellsUptoSaid : Prop := baseTellsUptoRow.holds Try.pinned (OpenSpec.upto baseTellsSpec)

/-- 'spencelaw03.BaseEnds', WHERE WHAT IT READS IS OF BULK AT MOST 1048576: true; the input reads as it did. -/
def baseEndsUptoRow : OpenClaim := { program := "ytfgjepfmcmppaaa", sum := "4223ceb68077fd6e6051d76b677e1ea3eb7e00d0067a8ac9e80d903a747e3bda", func := "spence/spencelaw03.BaseEnds", spec := "baseEnds", inPlace := ["internal/abi.NoEscape", "internal/bytealg.IndexByteString", "internal/bytealg.IndexString"], named := ["internal/bytealg.MaxLen"], plainKeys := false, apart := false, narrowed := true }
def BaseEndsUptoSaid : Prop := baseEndsUptoRow.holds Try.pinned (OpenSpec.upto baseEndsSpec)

/-- 'spencelaw03.BaseBack', WHERE WHAT IT READS IS OF BULK AT MOST 1048576: true; the input reads as it did. -/
def baseBackUptoRow : OpenClaim := { program := "ytfgjepfmcmppaaa", sum := "4223ceb68077fd6e6051d76b677e1ea3eb7e00d0067a8ac9e80d903a747e3bda", func := "spence/spencelaw03.BaseBack", spec := "baseBack", inPlace := ["internal/abi.NoEscape", "internal/bytealg.IndexByteString", "internal/bytealg.IndexString"], named := ["internal/bytealg.MaxLen"], plainKeys := false, apart := false, narrowed := true }
def BaseBackUptoSaid : Prop := baseBackUptoRow.holds Try.pinned (OpenSpec.upto baseBackSpec)

/-- 'spencelaw17.TextBack', WHERE WHAT IT READS IS OF BULK AT MOST 1048576: true; the input reads as it did. -/
def textBackUptoRow : OpenClaim := { program := "ytfgjepfmcmppaaa", sum := "4223ceb68077fd6e6051d76b677e1ea3eb7e00d0067a8ac9e80d903a747e3bda", func := "spence/spencelaw17.TextBack", spec := "textBack", inPlace := ["internal/bytealg.IndexByteString", "internal/abi.NoEscape", "internal/bytealg.MakeNoZero", "internal/bytealg.IndexString"], unfollowed := true, recurses := true, named := ["internal/bytealg.MaxLen"], plainKeys := false, apart := false, narrowed := true }
def TextBackUptoSaid : Prop := textBackUptoRow.holds Try.pinned (OpenSpec.upto textBackSpec)

/-- 'spencelaw03.BaseSorts', WHERE WHAT IT READS IS OF BULK AT MOST 1048576: true; the input reads as it did. -/
def baseSortsUptoRow : OpenClaim := { program := "ytfgjepfmcmppaaa", sum := "4223ceb68077fd6e6051d76b677e1ea3eb7e00d0067a8ac9e80d903a747e3bda", func := "spence/spencelaw03.BaseSorts", spec := "baseSorts", inPlace := ["internal/abi.NoEscape", "internal/bytealg.IndexByteString", "internal/bytealg.Compare"], unfollowed := true, recurses := true, plainKeys := false, apart := false, narrowed := true }
def BaseSortsUptoSaid : Prop := baseSortsUptoRow.holds Try.pinned (OpenSpec.upto baseSortsSpec)

/-- 'spencelaw03.BaseOrder', WHERE WHAT IT READS IS OF BULK AT MOST 1048576: true; the input reads as it did. -/
def baseOrderUptoRow : OpenClaim := { program := "ytfgjepfmcmppaaa", sum := "4223ceb68077fd6e6051d76b677e1ea3eb7e00d0067a8ac9e80d903a747e3bda", func := "spence/spencelaw03.BaseOrder", spec := "baseOrder", inPlace := ["internal/abi.NoEscape", "internal/bytealg.IndexByteString", "internal/bytealg.Compare"], unfollowed := true, recurses := true, plainKeys := false, apart := false, narrowed := true }
def BaseOrderUptoSaid : Prop := baseOrderUptoRow.holds Try.pinned (OpenSpec.upto baseOrderSpec)

end Rows
end Go.Proofs.Ytfgjepfmcmppaaa
