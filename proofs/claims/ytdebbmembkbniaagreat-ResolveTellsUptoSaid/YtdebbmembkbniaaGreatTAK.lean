/- Resolved derivations: the plain law. -/
import Derived.Test.YtdebbmembkbniaaGreatTAI
import Derived.Test.YtdebbmembkbniaaGreatTAJ
namespace Go.Proofs.YtdebbmembkbniaaGreat
open Go.RowKit Pl Go.Agg Go.Mp
def zRv : Rv := ([], [], [])
def madesName (l : List Md) : Bool := l.all fun x => isName x.2.1.2
def pathOf (made : List Md) (x : Inp) : Option P20 := if x.2.2 then firstP made x.2.1 else some x.1
def inputsOf (made : List Md) (l : List Nam) : Option (List Rin) := l.foldl (fun o x => match o, pathOf made x.2 with | some q, some p => some (q ++ [(x.1, p)]) | _, _ => none) (some [])
theorem inputsOf_snoc (made : List Md) (l : List Nam) (x : Nam) : inputsOf made (l ++ [x]) = (match inputsOf made l, pathOf made x.2 with | some q, some p => some (q ++ [(x.1, p)]) | _, _ => none) := by
 unfold inputsOf
 rw [List.foldl_append]
 rfl
theorem inputsOf_succ (made : List Md) {l : List Nam} {k : Nat} {x : Nam} {q : List Rin} (h : l[k]? = some x) (hq : inputsOf made (l.take k) = some q) : inputsOf made (l.take (k + 1)) = (match pathOf made x.2 with | some p => some (q ++ [(x.1, p)]) | none => none) := by
 rw [List.take_add_one, h]
 show inputsOf made (l.take k ++ [x]) = _
 rw [inputsOf_snoc, hq]
 cases pathOf made x.2 <;> rfl
theorem foldl_none (made : List Md) (l : List Nam) : l.foldl (fun o x => match o, pathOf made x.2 with | some q, some p => some (q ++ [(x.1, p)]) | _, _ => none) (none : Option (List Rin)) = none := by
 induction l with
 | nil => rfl
 | cons x l ih => rw [List.foldl_cons]; exact ih
theorem inputsOf_none (made : List Md) {l : List Nam} {k : Nat} {x : Nam} {q : List Rin} (h : l[k]? = some x) (hq : inputsOf made (l.take k) = some q) (hp : pathOf made x.2 = none) : inputsOf made l = none := by
 have h1 : inputsOf made (l.take (k + 1)) = none := by rw [inputsOf_succ made h hq, hp]
 have h2 : inputsOf made l = (l.drop (k + 1)).foldl (fun o x => match o, pathOf made x.2 with | some q, some p => some (q ++ [(x.1, p)]) | _, _ => none) (inputsOf made (l.take (k + 1))) := by
  unfold inputsOf
  rw [← List.foldl_append, List.take_append_drop]
 rw [h2, h1, foldl_none]
def ofP (d : Drv) (made : List Md) : Rv × Nat :=
 if canDrv d && madesName made then (match inputsOf made d.2.1 with | none => (zRv, 5) | some q => ((d.1, q, d.2.2), 0)) else (zRv, 2)
theorem ofP_none {d : Drv} {made : List Md} (h1 : canDrv d = true) (h2 : madesName made = true) (h3 : inputsOf made d.2.1 = none) : ofP d made = (zRv, 5) := by
 unfold ofP
 rw [h1, h2, h3]
 rfl
theorem ofP_some {d : Drv} {made : List Md} {q : List Rin} (h1 : canDrv d = true) (h2 : madesName made = true) (h3 : inputsOf made d.2.1 = some q) : ofP d made = ((d.1, q, d.2.2), 0) := by
 unfold ofP
 rw [h1, h2, h3]
 rfl
theorem rinBuilt : ∀ parts, Tryz.prog.built 77 parts = Instr.fill (#[(0, 1), (1, 21)][·]?) (riC zR) parts := fun _ => by kernel_rfl
theorem build_rin (n : List UInt8) (p : P20) (w : World) : (Instr.build 77 #[(0, .string ⟨n.toArray⟩), (1, .agg (pC p.1.1 p.1.2))]).run Tryz.prog w = .ok (.agg (riC (n, p))) w := by
 have h1 : (pC p.1.1 p.1.2).size = 21 := by rw [pC_size, p.2]
 have hz : (riC zR).size = 22 := riC_size _
 have hs1 : (Go.Agg.splice (riC zR) 0 #[.string ⟨n.toArray⟩]).size = 22 := by rw [Go.Agg.splice_size _ _ _ (by simp; omega), hz]
 refine run_build w _ _ _ ?_
 rw [rinBuilt]
 rw [fill_cons (off := 0) (size := 1) rfl rfl (by omega)]
 rw [fill_cons (off := 1) (size := 21) rfl (by simp only [Value.cells]; exact h1) (by simp only [Value.cells]; omega)]
 rw [fill_nil]
 refine congrArg some ?_
 clear hs1
 simp only [Value.cells]
 generalize riC zR = Z at *
 apply Array.ext'
 have l3 : Z.toList.length = 22 := by rw [Array.length_toList]; exact hz
 simp [Go.Agg.splice, riC, h1, l3, List.drop_eq_nil_of_le]
theorem _root_.Go.Mp.MapIs.pushed {α β γ : Type} {P : Program} {E : Elem P γ} {base : Nat} {w w' : World} {v : Value} {b : Nat} {κ : α → Value} {ν : β → Value} {m : List (α × β)} (h : MapIs w b κ ν m) (hp : Pushed E base w w' v) : MapIs w' b κ ν m := by
 obtain ⟨es, c, hb, he⟩ := h
 exact ⟨es, c, hp.map b es c hb, he⟩
end Go.Proofs.YtdebbmembkbniaaGreat
