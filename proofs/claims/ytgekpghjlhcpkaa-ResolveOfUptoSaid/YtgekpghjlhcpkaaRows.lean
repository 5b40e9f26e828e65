/-
  No cell of these rows narrows 'for every input' (looked for: loops, veiled, ifaces, maps, wideKeys, modest, calm, conditions, laid).
  DERIVED. THE GIVEN ROWS OF THIS SEAT. 3 by the template 'for every input the law returns true; each argument reads behind the call as it read before'; 0 by the template 'total and deterministic' (their statements: YtgekpghjlhcpkaaTotals.lean).
  GIVEN WITH THE SEED: the statements are not yours to turn. If you find one false, say at which input.
  Laid BY PROGRAM, IN A SANDBOX (cutbox-rows.mjs): the forced cells as the released guide's own fill.sh prints them over the translation ca9997880fa2f7f6… (all of the seat's roots in one cut). By AI agents, Wed Nov 11 2026. No macro, syntax, notation, axiom, sorry.
-/
import Derived.Test.YtgekpghjlhcpkaaChecked
import GoSem.Claim
import GoSem.ClaimJoined
import GoSem.ClaimMapViews
import Derived.JoinedTies
import Derived.KernelRfl
namespace Go.Proofs.Ytgekpghjlhcpkaa
/- THE CELL 'sum', in the pinned program and in every row, IS THE sha256 OF THE DUMP (.gsa) THAT YtgekpghjlhcpkaaProg.lean LOADS. Nothing in Lean hashes anything: it is a label: what it is worth is what the hold of that sum in a sandbox is worth. -/
noncomputable def Try.pinned : Pinned := { name := "ytgekpghjlhcpkaa", sum := "ca9997880fa2f7f67e2303d4d353cc21eb0823025aa1c61099fdc89789733297", checked := Try.checked }
namespace Rows
def none {H : Type} : Left H := { results := [], args := [] }

/-- 'spencelaw20.ResolveOf': WHATEVER THE INPUT: true; the input reads as it did. -/
def resolveOfSpec : ChangeSpec := { name := "resolveOf", fn := fun _ => fun
  | [d1, d2] => { results := [.lit (.bool true)], args := [d1, d2] }
  | _ => none }
def resolveOfRow : OpenClaim := { program := "ytgekpghjlhcpkaa", sum := "ca9997880fa2f7f67e2303d4d353cc21eb0823025aa1c61099fdc89789733297", func := "spence/spencelaw20.ResolveOf", spec := "resolveOf", inPlace := ["internal/bytealg.IndexByteString"], unfollowed := true, recurses := true, plainKeys := false, apart := false }
def ResolveOfSaid : Prop := resolveOfRow.holds Try.pinned (OpenSpec.ofChange resolveOfSpec)

/-- ITS FALSE NEIGHBOUR: 'it returns false'. Refute it at one input. -/
def resolveOfWrong : ChangeSpec := { name := "resolveOf", fn := fun _ => fun
  | [d1, d2] => { results := [.lit (.bool false)], args := [d1, d2] }
  | _ => none }
def ResolveOfWrongFalsely : Prop := resolveOfRow.holds Try.pinned (OpenSpec.ofChange resolveOfWrong)

/-- 'spencelaw20.ResolveCuts': WHATEVER THE INPUT: true; the input reads as it did. -/
def resolveCutsSpec : ChangeSpec := { name := "resolveCuts", fn := fun _ => fun
  | [d1, d2, d3] => { results := [.lit (.bool true)], args := [d1, d2, d3] }
  | _ => none }
def resolveCutsRow : OpenClaim := { program := "ytgekpghjlhcpkaa", sum := "ca9997880fa2f7f67e2303d4d353cc21eb0823025aa1c61099fdc89789733297", func := "spence/spencelaw20.ResolveCuts", spec := "resolveCuts", inPlace := ["internal/bytealg.IndexByteString"], unfollowed := true, recurses := true, plainKeys := false, apart := false }
def ResolveCutsSaid : Prop := resolveCutsRow.holds Try.pinned (OpenSpec.ofChange resolveCutsSpec)

/-- ITS FALSE NEIGHBOUR: 'it returns false'. Refute it at one input. -/
def resolveCutsWrong : ChangeSpec := { name := "resolveCuts", fn := fun _ => fun
  | [d1, d2, d3] => { results := [.lit (.bool false)], args := [d1, d2, d3] }
  | _ => none }
def ResolveCutsWrongFalsely : Prop := resolveCutsRow.holds Try.pinned (OpenSpec.ofChange resolveCutsWrong)

/-- 'spencelaw20.ResolveBack': WHATEVER THE INPUT: true; the input reads as it did. -/
def resolveBackSpec : ChangeSpec := { name := "resolveBack", fn := fun _ => fun
  | [d1, d2, d3] => { results := [.lit (.bool true)], args := [d1, d2, d3] }
  | _ => none }
def resolveBackRow : OpenClaim := { program := "ytgekpghjlhcpkaa", sum := "ca9997880fa2f7f67e2303d4d353cc21eb0823025aa1c61099fdc89789733297", func := "spence/spencelaw20.ResolveBack", spec := "resolveBack", inPlace := ["internal/bytealg.IndexByteString"], unfollowed := true, recurses := true, plainKeys := false, apart := false }
def ResolveBackSaid : Prop := resolveBackRow.holds Try.pinned (OpenSpec.ofChange resolveBackSpec)

/-- ITS FALSE NEIGHBOUR: 'it returns false'. Refute it at one input. -/
def resolveBackWrong : ChangeSpec := { name := "resolveBack", fn := fun _ => fun
  | [d1, d2, d3] => { results := [.lit (.bool false)], args := [d1, d2, d3] }
  | _ => none }
def ResolveBackWrongFalsely : Prop := resolveBackRow.holds Try.pinned (OpenSpec.ofChange resolveBackWrong)

/- THE SECOND FORM. 'bulk': how many values and letters a reading holds, each counted each time it is reached (what is shared counts as often as it is met; a slice's spare places count too). A statement '..UptoSaid' is the law's where the arguments, and the package variables that the reading takes, are together of bulk at most 1048576: NARROWER than '..Said'. Prove '..Said' where nothing that the law and all that it calls make is longer than what came in: it says more and counts as full. Else prove '..UptoSaid'. A law counts once. -/
mutual
def uptoBulk {H : Type} : DataW H → Nat
  | .lit (.string bytes) => bytes.length + 1
  | .lit _ => 1
  | .nil => 1
  | .ptr d => uptoBulk d + 1
  | .slice elems spare => uptoBulkAll elems + uptoBulkAll spare + 1
  | .agg parts => uptoBulkAll parts + 1
  | .iface _ d => uptoBulk d + 1
  | .map entries => uptoBulkEntries entries + 1
  | .held _ => 1
def uptoBulkAll {H : Type} : List (DataW H) → Nat
  | [] => 0
  | d :: r => uptoBulk d + uptoBulkAll r
def uptoBulkEntries {H : Type} : List (Lit × DataW H) → Nat
  | [] => 0
  | x :: r => uptoBulkEntry x + uptoBulkEntries r
def uptoBulkEntry {H : Type} : Lit × DataW H → Nat
  | (.string bytes, d) => bytes.length + uptoBulk d + 1
  | (_, d) => uptoBulk d + 1
 end
def uptoSmall : (H : Type) → List (DataW H) → Bool := fun _ ds => decide (uptoBulkAll ds ≤ 1048576)
def OpenSpec.upto (s : _root_.Go.ChangeSpec) : _root_.Go.OpenSpec := { _root_.Go.OpenSpec.ofChange s with cond := some uptoSmall }

/-- 'spencelaw20.ResolveOf', WHERE WHAT IT READS IS OF BULK AT MOST 1048576: true; the input reads as it did. -/
def resolveOfUptoRow : OpenClaim := { program := "ytgekpghjlhcpkaa", sum := "ca9997880fa2f7f67e2303d4d353cc21eb0823025aa1c61099fdc89789733297", func := "spence/spencelaw20.ResolveOf", spec := "resolveOf", inPlace := ["internal/bytealg.IndexByteString"], unfollowed := true, recurses := true, plainKeys := false, apart := false, narrowed := true }
def ResolveOfUptoSaid : Prop := resolveOfUptoRow.holds Try.pinned (OpenSpec.upto resolveOfSpec)

/-- 'spencelaw20.ResolveCuts', WHERE WHAT IT READS IS OF BULK AT MOST 1048576: true; the input reads as it did. -/
def resolveCutsUptoRow : OpenClaim := { program := "ytgekpghjlhcpkaa", sum := "ca9997880fa2f7f67e2303d4d353cc21eb0823025aa1c61099fdc89789733297", func := "spence/spencelaw20.ResolveCuts", spec := "resolveCuts", inPlace := ["internal/bytealg.IndexByteString"], unfollowed := true, recurses := true, plainKeys := false, apart := false, narrowed := true }
def ResolveCutsUptoSaid : Prop := resolveCutsUptoRow.holds Try.pinned (OpenSpec.upto resolveCutsSpec)

/-- 'spencelaw20.ResolveBack', WHERE WHAT IT READS IS OF BULK AT MOST 1048576: true; the input reads as it did. -/
def resolveBackUptoRow : OpenClaim := { program := "ytgekpghjlhcpkaa", sum := "ca9997880fa2f7f67e2303d4d353cc21eb0823025aa1c61099fdc89789733297", func := "spence/spencelaw20.ResolveBack", spec := "resolveBack", inPlace := ["internal/bytealg.IndexByteString"], unfollowed := true, recurses := true, plainKeys := false, apart := false, narrowed := true }
def ResolveBackUptoSaid : Prop := resolveBackUptoRow.holds Try.pinned (OpenSpec.upto resolveBackSpec)

end Rows
end Go.Proofs.Ytgekpghjlhcpkaa
