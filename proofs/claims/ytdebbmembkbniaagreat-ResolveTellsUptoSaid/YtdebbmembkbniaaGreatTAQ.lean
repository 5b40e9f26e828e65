/- A resolved derivation's bytes: the plain law. -/
import Derived.Test.YtdebbmembkbniaaGreatTAK
import Derived.Test.YtdebbmembkbniaaGreatTAP
namespace Go.Proofs.YtdebbmembkbniaaGreat
open Go.RowKit Pl Go.Agg
def putRi (x : Rin) : List UInt8 := encT x.1 ++ (x.2.1.1 ++ encT x.2.1.2)
def putRs (r : Rv) : List UInt8 := encT r.1 ++ (encN r.2.1.length ++ (r.2.1.flatMap putRi ++ encT r.2.2))
def putRv (r : Rv) : List UInt8 := if canRv r then putRs r else []
def errRv (r : Rv) : Nat := if canRv r then 0 else 2
structure CanParts (r : Rv) : Prop where
 name : r.1.length ≤ 24
 inp : r.2.1.length ≤ 8
 rcp : r.2.2.length ≤ 1000
 ins : ∀ x ∈ r.2.1, x.1.length ≤ 24 ∧ x.2.1.2.length ≤ 24
theorem canRs_all : ∀ (l : List Rin) (b : List UInt8), canRs b l = true → ∀ x ∈ l, isName x.1 = true ∧ isName x.2.1.2 = true
 | [], _, _ => by simp
 | y :: l, b, h => by
  simp only [canRs, canRi, Bool.and_eq_true] at h
  intro x hx
  rcases List.mem_cons.1 hx with rfl | hx
  ·exact ⟨h.1.1.1, h.1.2⟩
  ·exact canRs_all l _ h.2 x hx
theorem can_parts {r : Rv} (h : canRv r = true) : CanParts r := by
 simp only [canRv, Bool.and_eq_true, decide_eq_true_eq] at h
 obtain ⟨⟨⟨h1, h2⟩, h3⟩, h4⟩ := h
 exact ⟨isName_le h1, h2, h3, fun x hx => ⟨isName_le (canRs_all _ _ h4 x hx).1, isName_le (canRs_all _ _ h4 x hx).2⟩⟩
theorem encT_length {l : List UInt8} (h : l.length ≤ 1099511627776) : (encT l).length ≤ 6 + l.length := by
 have := encN_len h
 unfold encT
 rw [List.length_append]; omega
theorem flat_putRi {l : List Rin} (h : ∀ x ∈ l, x.1.length ≤ 24 ∧ x.2.1.2.length ≤ 24) : (l.flatMap putRi).length ≤ 100 * l.length := by
 induction l with
 | nil => simp
 | cons x l ih =>
  have h1 := h x (by simp)
  have h2 := ih (fun y hy => h y (by simp [hy]))
  have h3 := encT_length (l := x.1) (by omega)
  have h4 := encT_length (l := x.2.1.2) (by omega)
  have h5 := x.2.2
  simp only [List.flatMap_cons, List.length_append, List.length_cons, putRi]
  omega
theorem putRs_len {r : Rv} (h : canRv r = true) : (putRs r).length ≤ 3000 := by
 have P := can_parts h
 have h1 := P.name
 have h2 := P.inp
 have h3 := P.rcp
 have h4 := flat_putRi P.ins
 have h5 := encT_length (l := r.1) (by omega)
 have h6 := encT_length (l := r.2.2) (by omega)
 have h7 := encN_len (n := r.2.1.length) (by omega)
 unfold putRs
 simp only [List.length_append]
 omega
end Go.Proofs.YtdebbmembkbniaaGreat
