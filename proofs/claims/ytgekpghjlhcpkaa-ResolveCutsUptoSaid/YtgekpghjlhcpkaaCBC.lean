/- ResolveCuts: the plain law. -/
import Derived.Test.YtgekpghjlhcpkaaCAP
namespace Go.Proofs.Ytgekpghjlhcpkaa
open Go.RowKit Pl Go.Agg Go.Mp
def inputsR (made : List Md) : List Nam → Option (List Rin)
  | [] => some []
  | x :: l => match pathOf made x.2, inputsR made l with | some p, some q => some ((x.1, p) :: q) | _, _ => none
theorem foldl_some (made : List Md) : ∀ (l : List Nam) (a : List Rin), l.foldl (fun o x => match o, pathOf made x.2 with | some q, some p => some (q ++ [(x.1, p)]) | _, _ => none) (some a) = (inputsR made l).map (a ++ ·)
  | [], a => by simp [inputsR]
  | x :: l, a => by
    rw [List.foldl_cons]
    cases hp : pathOf made x.2 with
    | none =>
      have := foldl_none made l
      simp only [inputsR, hp]
      exact this
    | some p =>
      simp only [inputsR, hp]
      rw [foldl_some made l (a ++ [(x.1, p)])]
      cases inputsR made l with
      | none => rfl
      | some q => simp
theorem inputs_eq (made : List Md) (l : List Nam) : inputsOf made l = inputsR made l := by
  refine Eq.trans (foldl_some made l []) ?_
  cases inputsR made l <;> simp
def plainN (q : List Rin) : List Nam := q.map fun y => (y.1, (y.2, zH, false))
def plainD (d : Drv) (q : List Rin) : Drv := (d.1, plainN q, d.2.2)
theorem inputsR_cons {made : List Md} {x : Nam} {l : List Nam} {q : List Rin} (h : inputsR made (x :: l) = some q) : ∃ p q', pathOf made x.2 = some p ∧ inputsR made l = some q' ∧ q = (x.1, p) :: q' := by
  simp only [inputsR] at h
  cases hp : pathOf made x.2 with
  | none => rw [hp] at h; simp at h
  | some p =>
    cases hq : inputsR made l with
    | none => rw [hp, hq] at h; simp at h
    | some q' =>
      rw [hp, hq] at h
      exact ⟨p, q', rfl, rfl, (Option.some.inj h).symm⟩
theorem inputsR_names {made : List Md} : ∀ {l : List Nam} {q : List Rin}, inputsR made l = some q → q.map (·.1) = l.map (·.1)
  | [], q, h => by
    obtain rfl := Option.some.inj h
    rfl
  | x :: l, q, h => by
    obtain ⟨p, q', _, h2, rfl⟩ := inputsR_cons h
    simp [inputsR_names h2]
theorem firstP_mem {made : List Md} {c : H20} {p : P20} (h : firstP made c = some p) : ∃ y ∈ made, y.2 = p := by
  unfold firstP at h
  cases hf : made.find? (fun y => decide (y.1 = c)) with
  | none => rw [hf] at h; simp at h
  | some y =>
    rw [hf] at h
    exact ⟨y, List.mem_of_find?_eq_some hf, Option.some.inj h⟩
theorem path_named {made : List Md} {x : Nam} {b : List UInt8} {p : P20} (hm : madesName made = true) (hc : canNm x b = true) (h : pathOf made x.2 = some p) : isName p.1.2 = true := by
  unfold pathOf at h
  by_cases his : x.2.2.2 = true
  · rw [if_pos his] at h
    obtain ⟨y, hy, rfl⟩ := firstP_mem h
    unfold madesName at hm
    rw [List.all_eq_true] at hm
    exact hm y hy
  · rw [if_neg his] at h
    obtain rfl := Option.some.inj h
    simp only [canNm, Bool.and_eq_true] at hc
    have := hc.2
    rw [if_neg his] at this
    simp only [Bool.and_eq_true] at this
    exact this.1
theorem can_inputs {made : List Md} (hm : madesName made = true) : ∀ {l : List Nam} {q : List Rin} {b : List UInt8}, canAll b l = true → inputsR made l = some q → canRs b q = true ∧ canAll b (plainN q) = true
  | [], q, b, _, h => by
    obtain rfl := Option.some.inj h
    exact ⟨rfl, rfl⟩
  | x :: l, q, b, hc, h => by
    obtain ⟨p, q', h1, h2, rfl⟩ := inputsR_cons h
    simp only [canAll, Bool.and_eq_true] at hc
    obtain ⟨hc1, hc2⟩ := hc
    obtain ⟨h3, h4⟩ := can_inputs hm hc2 h2
    have hp := path_named hm hc1 h1
    have hc1' := hc1
    simp only [canNm, Bool.and_eq_true] at hc1'
    obtain ⟨⟨hn, hl⟩, _⟩ := hc1'
    refine ⟨?_, ?_⟩
    · simp only [canRs, canRi, hn, hl, hp, h3, Bool.and_self]
    · simp only [plainN, List.map_cons, canAll, canNm, hn, hl, hp, Bool.and_self, Bool.true_and]
      simpa [plainN] using h4
theorem inputs_plain : ∀ (q : List Rin), inputsR [] (plainN q) = some q
  | [] => rfl
  | y :: q => by
    have ih := inputs_plain q
    simp only [plainN, List.map_cons, inputsR, pathOf] at ih ⊢
    rw [ih]
    simp
theorem pathOf_more {made more : List Md} {x : Inp} {p : P20} (h : pathOf made x = some p) : pathOf (made ++ more) x = some p := by
  unfold pathOf at *
  by_cases his : x.2.2 = true
  · rw [if_pos his] at h ⊢
    unfold firstP at *
    rw [List.find?_append]
    cases hf : made.find? (fun y => decide (y.1 = x.2.1)) with
    | none => rw [hf] at h; simp at h
    | some y => rw [hf] at h; simpa using h
  · rw [if_neg his] at h ⊢
    exact h
theorem inputs_more {made more : List Md} : ∀ {l : List Nam} {q : List Rin}, inputsR made l = some q → inputsR (made ++ more) l = some q
  | [], q, h => h
  | x :: l, q, h => by
    obtain ⟨p, q', h1, h2, rfl⟩ := inputsR_cons h
    simp only [inputsR, pathOf_more h1, inputs_more h2]
/-- what the law says of a derivation that is resolved -/
structure CutsOk (d : Drv) (made more : List Md) (q : List Rin) : Prop where
  of_ : ofP d made = ((d.1, q, d.2.2), 0)
  names : q.map (·.1) = d.2.1.map (·.1)
  plain : ofP (plainD d q) [] = ((d.1, q, d.2.2), 0)
  can : canRv (d.1, q, d.2.2) = true
  more_ : ofP d (made ++ more) = ((d.1, q, d.2.2), 0) ∨ ofP d (made ++ more) = (zRv, 2)
theorem cuts_ok {d : Drv} {made : List Md} {q : List Rin} (h1 : canDrv d = true) (h2 : madesName made = true) (h3 : inputsOf made d.2.1 = some q) (more : List Md) : CutsOk d made more q := by
  have h3' := h3
  rw [inputs_eq] at h3'
  have hcd := h1
  simp only [canDrv, Bool.and_eq_true, decide_eq_true_eq] at hcd
  obtain ⟨⟨⟨hn, hi⟩, hr⟩, ha⟩ := hcd
  obtain ⟨hcr, hcp⟩ := can_inputs h2 ha h3'
  have hnm := inputsR_names h3'
  have hlen : q.length = d.2.1.length := by have := congrArg List.length hnm; simpa using this
  refine ⟨ofP_some h1 h2 h3, hnm, ?_, ?_, ?_⟩
  · have hc : canDrv (plainD d q) = true := by
      show (isName d.1 && decide ((plainN q).length ≤ 8) && decide (d.2.2.length ≤ 1000) && canAll [] (plainN q)) = true
      rw [hn, hcp, decide_eq_true hr, decide_eq_true (show (plainN q).length ≤ 8 by simp [plainN, hlen, hi])]
      rfl
    exact ofP_some (d := plainD d q) hc rfl (by rw [inputs_eq]; exact inputs_plain q)
  · simp only [canRv, Bool.and_eq_true, decide_eq_true_eq]
    exact ⟨⟨⟨hn, by omega⟩, hr⟩, hcr⟩
  · by_cases hm : madesName (made ++ more) = true
    · exact .inl (ofP_some h1 hm (by rw [inputs_eq]; exact inputs_more h3'))
    · refine .inr ?_
      unfold ofP
      rw [h1, Bool.eq_false_iff.2 hm]
      rfl
theorem cuts_cases (d : Drv) (made more : List Md) : (∃ q, CutsOk d made more q) ∨ ofP d made = (zRv, 2) ∨ (ofP d made = (zRv, 5) ∧ canDrv d = true) := by
  by_cases h1 : canDrv d = true
  · by_cases h2 : madesName made = true
    · cases h3 : inputsOf made d.2.1 with
      | none => exact .inr (.inr ⟨ofP_none h1 h2 h3, h1⟩)
      | some q => exact .inl ⟨q, cuts_ok h1 h2 h3 more⟩
    · refine .inr (.inl ?_)
      unfold ofP
      rw [Bool.eq_false_iff.2 h2, Bool.and_false]
      rfl
  · refine .inr (.inl ?_)
    unfold ofP
    rw [Bool.eq_false_iff.2 h1]
    rfl
end Go.Proofs.Ytgekpghjlhcpkaa
