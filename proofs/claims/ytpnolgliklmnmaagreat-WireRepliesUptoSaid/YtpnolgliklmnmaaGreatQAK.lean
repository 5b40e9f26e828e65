/- Operations of a region that draws: a store, a copy of bytes, literals. (Several texts in one.) -/
import Derived.Test.YtpnolgliklmnmaaGreatQAH
import Derived.Test.YtpnolgliklmnmaaGreatQAJ
import Derived.Test.YtpnolgliklmnmaaGreatQAE
import Derived.Deep.MidRow
import Derived.Test.YtpnolgliklmnmaaGreatQAC
import Derived.Test.YtpnolgliklmnmaaGreatQAB
import Derived.Test.YtpnolgliklmnmaaGreatQAI
import Derived.Laws.CopyOwn
/-! Requests as bytes: the plain law. -/
namespace Go.Proofs.YtpnolgliklmnmaaGreat
open Go.RowKit Pl Go.Agg
/-! A cursor as a state: the bytes that are left; none, once something was wrong. -/
def sNum (most : Nat) : Option (List UInt8) → Nat × Option (List UInt8)
  | none => (0, none)
  | some r => match getN most r with
    | none => (0, none)
    | some p => (p.1, some p.2)
def sText (most : Nat) : Option (List UInt8) → List UInt8 × Option (List UInt8)
  | none => ([], none)
  | some r => match getT most r with
    | none => ([], none)
    | some p => (p.1, some p.2)
def sRaw (many : Nat) : Option (List UInt8) → List UInt8 × Option (List UInt8)
  | none => ([], none)
  | some r => if many ≤ r.length then (r.take many, some (r.drop many)) else ([], none)
def sHash (s : Option (List UInt8)) : List UInt8 × Option (List UInt8) := ((sRaw 20 s).1 ++ z20.drop (sRaw 20 s).1.length, (sRaw 20 s).2)
/-- a text with how long it is -/
def encT (l : List UInt8) : List UInt8 := encN l.length ++ l
theorem sNum_enc {most n : Nat} (h : n ≤ 1099511627776) (hm : n ≤ most) (y : List UInt8) : sNum most (some (encN n ++ y)) = (n, some y) := by simp only [sNum, getN_enc h hm]
theorem sNum_some {most n : Nat} {s : Option (List UInt8)} {y : List UInt8} (h : sNum most s = (n, some y)) : s = some (encN n ++ y) ∧ n ≤ most ∧ n ≤ 1099511627776 := by
  cases s with
  | none => simp [sNum] at h
  | some r =>
    simp only [sNum] at h
    cases hg : getN most r with
    | none => rw [hg] at h; simp at h
    | some p =>
      rw [hg] at h
      obtain ⟨n', y'⟩ := p
      simp only [Prod.mk.injEq, Option.some.injEq] at h
      obtain ⟨rfl, rfl⟩ := h
      obtain ⟨h1, h2, h3⟩ := getN_some hg
      exact ⟨by rw [← h1], h2, h3⟩
theorem getT_enc {most : Nat} {l : List UInt8} (h : l.length ≤ most) (h4 : l.length ≤ 1099511627776) (y : List UInt8) : getT most (encT l ++ y) = some (l, y) := by
  unfold getT encT
  rw [List.append_assoc, getN_enc h4 h4]
  simp [h]
theorem getT_some {most : Nat} {l r y : List UInt8} (h : getT most r = some (l, y)) : r = encT l ++ y ∧ l.length ≤ most := by
  unfold getT at h
  split at h
  · cases h
  · rename_i n z hg
    split at h
    · rename_i hc
      obtain ⟨h1, _, _⟩ := getN_some hg
      simp only [Option.some.injEq, Prod.mk.injEq] at h
      obtain ⟨rfl, rfl⟩ := h
      have hl : (z.take n).length = n := by simp; omega
      unfold encT
      rw [hl, List.append_assoc, List.take_append_drop]
      exact ⟨h1, by omega⟩
    · cases h
theorem sText_enc {most : Nat} {l : List UInt8} (h : l.length ≤ most) (h4 : l.length ≤ 1099511627776) (y : List UInt8) : sText most (some (encT l ++ y)) = (l, some y) := by simp only [sText, getT_enc h h4]
theorem sText_some {most : Nat} {s : Option (List UInt8)} {l y : List UInt8} (h : sText most s = (l, some y)) : s = some (encT l ++ y) ∧ l.length ≤ most := by
  cases s with
  | none => simp [sText] at h
  | some r =>
    simp only [sText] at h
    cases hg : getT most r with
    | none => rw [hg] at h; simp at h
    | some p =>
      rw [hg] at h
      obtain ⟨n', y'⟩ := p
      simp only [Prod.mk.injEq, Option.some.injEq] at h
      obtain ⟨rfl, rfl⟩ := h
      obtain ⟨h1, h2⟩ := getT_some hg
      exact ⟨by rw [← h1], h2⟩
theorem sHash_enc {h : List UInt8} (hl : h.length = 20) (y : List UInt8) : sHash (some (h ++ y)) = (h, some y) := by
  have : sRaw 20 (some (h ++ y)) = (h, some y) := by
    simp only [sRaw, List.length_append, hl]
    rw [if_pos (by omega), ← hl, List.take_left, List.drop_left]
  unfold sHash
  rw [this]
  simp [hl, z20]
theorem sHash_some {s : Option (List UInt8)} {h y : List UInt8} (e : sHash s = (h, some y)) : s = some (h ++ y) ∧ h.length = 20 := by
  unfold sHash at e
  cases s with
  | none => simp [sRaw] at e
  | some r =>
    simp only [sRaw] at e
    by_cases hl : 20 ≤ r.length
    · rw [if_pos hl] at e
      simp only [Prod.mk.injEq, Option.some.injEq] at e
      obtain ⟨rfl, rfl⟩ := e
      have : (r.take 20).length = 20 := by simp; omega
      rw [this]
      simp [z20]
      omega
    · rw [if_neg hl] at e
      simp at e
theorem sHash_length (s : Option (List UInt8)) : (sHash s).1.length = 20 := by
  unfold sHash
  cases s with
  | none => simp [sRaw, z20]
  | some r =>
    simp only [sRaw]
    by_cases hl : 20 ≤ r.length
    · rw [if_pos hl]
      simp [z20]; omega
    · rw [if_neg hl]
      simp [z20]
def stLen : Option (List UInt8) → Nat
  | none => 0
  | some r => r.length
theorem sNum_len (most : Nat) (s : Option (List UInt8)) : stLen (sNum most s).2 ≤ stLen s := by
  cases h : (sNum most s).2 with
  | none => simp [stLen]
  | some y =>
    obtain ⟨h1, _⟩ := sNum_some (Prod.ext (rfl : (sNum most s).1 = (sNum most s).1) h)
    rw [h1]
    simp only [stLen, List.length_append]
    omega
theorem sText_len (most : Nat) (s : Option (List UInt8)) : stLen (sText most s).2 ≤ stLen s := by
  cases h : (sText most s).2 with
  | none => simp [stLen]
  | some y =>
    obtain ⟨h1, _⟩ := sText_some (Prod.ext (rfl : (sText most s).1 = (sText most s).1) h)
    rw [h1]
    simp only [stLen, List.length_append]
    omega
theorem sText_le (most : Nat) (s : Option (List UInt8)) : (sText most s).1.length ≤ most := by
  cases h : (sText most s).2 with
  | none =>
    cases s with
    | none => simp [sText]
    | some r =>
      simp only [sText] at h ⊢
      cases hg : getT most r with
      | none => simp
      | some p => rw [hg] at h; simp at h
  | some y => exact (sText_some (Prod.ext (rfl : (sText most s).1 = (sText most s).1) h)).2
theorem sRaw_len (many : Nat) (s : Option (List UInt8)) : stLen (sRaw many s).2 ≤ stLen s := by
  cases s with
  | none => simp [sRaw]
  | some r =>
    simp only [sRaw]
    split <;> simp [stLen]
/-! requests -/
structure Rq where
  k : Int
  u : Int
  wh : Int
  nm : List UInt8
  bs : List UInt8
  ph : List UInt8
  pn : List UInt8
  ch : List UInt8
def Rq.zero : Rq := ⟨0, 0, 0, [], [], z20, [], z20⟩
def Rq.right (q : Rq) : Bool := rightN q.k q.u q.wh q.nm q.bs.length q.ph q.pn q.ch
/-- its bytes, of some parts -/
def putP (P : Nat) (q : Rq) : List UInt8 :=
  encN q.k.toNat ++ (encN q.u.toNat ++ ((if hasN P 1 then encN q.wh.toNat else []) ++ ((if hasN P 2 then encT q.nm else []) ++ ((if hasN P 12 then encT (pathS q.ph q.pn) else []) ++ ((if hasN P 16 then q.ch else []) ++ (if hasN P 32 then encT q.bs else []))))))
def putRq (q : Rq) : List UInt8 := putP (partsN q.k) q
def pW (P : Nat) (s : Option (List UInt8)) : Nat × Option (List UInt8) := if hasN P 1 then sNum 16 s else (0, s)
def pN (P : Nat) (s : Option (List UInt8)) : List UInt8 × Option (List UInt8) := if hasN P 2 then sText 24 s else ([], s)
def pT (P : Nat) (s : Option (List UInt8)) : List UInt8 × Option (List UInt8) := if hasN P 12 then sText 57 s else ([], s)
def pH (P : Nat) (s : Option (List UInt8)) : List UInt8 × Option (List UInt8) := if hasN P 16 then sHash s else (z20, s)
def pB (P lim : Nat) (s : Option (List UInt8)) : List UInt8 × Option (List UInt8) := if hasN P 32 then sText lim s else ([], s)
def qK (b : Option (List UInt8)) := sNum 10 b
def qU (b : Option (List UInt8)) := sNum 8 (qK b).2
def qP (b : Option (List UInt8)) : Nat := partsN ((qK b).1 : Int)
def qW (b : Option (List UInt8)) := pW (qP b) (qU b).2
def qN (b : Option (List UInt8)) := pN (qP b) (qW b).2
def qT (b : Option (List UInt8)) := pT (qP b) (qN b).2
def qH (b : Option (List UInt8)) := pH (qP b) (qT b).2
def qB (lim : Int → Nat) (b : Option (List UInt8)) := pB (qP b) (lim ((qK b).1 : Int)) (qH b).2
def qRq (lim : Int → Nat) (b : Option (List UInt8)) : Rq := ⟨((qK b).1 : Int), ((qU b).1 : Int), ((qW b).1 : Int), (qN b).1, (qB lim b).1, parseH (qT b).1, parseN (qT b).1, (qH b).1⟩
def qOdd (b : Option (List UInt8)) : Bool := !((qT b).1 == [] || (parse (qT b).1).isSome)
def getRq (b : List UInt8) : Option Rq := if (qB mostN (some b)).2 = some [] ∧ qOdd (some b) = false ∧ (qRq mostN (some b)).right = true then some (qRq mostN (some b)) else none
theorem pathS_le {n : List UInt8} (h : List UInt8) : (pathS h n).length ≤ 57 := by
  unfold pathS
  split
  · rename_i hn
    have := isName_le hn
    simp [letters_length]
    omega
  · simp
theorem parse_pathS {h n : List UInt8} (hl : h.length = 20) (hn : isName n = true) : parse (pathS h n) = some (h, n) := by
  unfold pathS
  rw [if_pos hn, parse_text hl hn]
theorem pathS_none {h n : List UInt8} (hn : isName n = false) : pathS h n = [] := by
  unfold pathS
  rw [if_neg (by simp [hn])]
theorem parse_nil : parse [] = none := by decide +kernel
theorem isName_nil : isName [] = false := by decide
theorem hasN_zero_of {P c d : Nat} (h : P &&& c = 0) (hd : c &&& d = d) : P &&& d = 0 := by
  rw [← hd, ← Nat.and_assoc, h, Nat.zero_and]
structure RightParts (q : Rq) : Prop where
  k : 1 ≤ q.k ∧ q.k ≤ 10
  u : 1 ≤ q.u ∧ q.u ≤ 8
  wh1 : hasN (partsN q.k) 1 = true → 1 ≤ q.wh ∧ q.wh ≤ 16
  wh0 : hasN (partsN q.k) 1 = false → q.wh = 0
  nm1 : hasN (partsN q.k) 2 = true → isName q.nm = true
  nm0 : hasN (partsN q.k) 2 = false → q.nm = []
  p0 : hasN (partsN q.k) 12 = false → q.ph = z20 ∧ q.pn = []
  p1 : hasN (partsN q.k) 12 = true → isName q.pn = true ∨ q.ph = z20 ∧ q.pn = []
  c0 : hasN (partsN q.k) 16 = false → q.ch = z20
  bs : q.bs.length ≤ mostN q.k
theorem Rq.right_parts {q : Rq} (h : q.right = true) : RightParts q := by
  unfold Rq.right rightN at h
  simp only [Bool.and_eq_true, decide_eq_true_eq, rT, List.all_cons, List.all_nil, Bool.and_true, Bool.not_eq_true', Bool.not_not] at h
  obtain ⟨⟨h1, h2, h3, h4, h5, h6, h7, h8, h9⟩, h10⟩ := h
  refine ⟨by simpa using h1, by simpa using h2, fun e => ?_, fun e => ?_, fun e => ?_, fun e => ?_, fun e => ?_, fun e => ?_, fun e => ?_, h10⟩
  · rw [e] at h3; simpa using h3
  · rw [e] at h4; simpa using h4
  · rw [e] at h5; simpa using h5
  · rw [e] at h6; simpa using h6
  · rw [e] at h7; simpa using h7
  · rw [e] at h8
    simp only [Bool.true_and, Bool.not_eq_false', namedN, Bool.or_eq_true, Bool.and_eq_true, beq_iff_eq] at h8
    rcases h8 with h8 | ⟨_, h8⟩
    · exact .inl h8
    · exact .inr h8
  · rw [e] at h9; simpa using h9
theorem Rq.right_none {q : Rq} (h : q.right = true) (h12 : hasN (partsN q.k) 12 = true) (hn : isName q.pn = false) : hasN (partsN q.k) 8 = true := by
  unfold Rq.right rightN at h
  simp only [Bool.and_eq_true, rT, List.all_cons, List.all_nil, Bool.and_true, Bool.not_eq_true', Bool.not_not] at h
  obtain ⟨⟨h1, h2, h3, h4, h5, h6, h7, h8, h9⟩, h10⟩ := h
  rw [h12] at h8
  simp only [Bool.true_and, Bool.not_eq_false', namedN, hn, Bool.false_or, Bool.and_eq_true] at h8
  exact h8.1
theorem most_none {k : Int} (h : hasN (partsN k) 32 = false) : mostN k = 0 := by
  unfold mostN
  by_cases h2 : k = 2
  · subst h2; exact absurd h (by decide)
  · rw [if_neg h2, h]; rfl
theorem most_le (k : Int) : mostN k ≤ 4096 := by
  unfold mostN
  repeat' split
  all_goals omega
/-- what is put is got, whatever stands behind it -/
theorem parse_put {lim : Int → Nat} {q : Rq} (hr : q.right = true) (hp : q.ph.length = 20) (hc : q.ch.length = 20) (hlim : mostN q.k ≤ lim q.k) (y : List UInt8) :
    qRq lim (some (putRq q ++ y)) = q ∧ (qB lim (some (putRq q ++ y))).2 = some y ∧ qOdd (some (putRq q ++ y)) = false := by
  have R := q.right_parts hr
  obtain ⟨k, u, wh, nm, bs, ph, pn, ch⟩ := q
  obtain ⟨hk, hu, hw1, hw0, hn1, hn0, hp0, hp1, hc0, hbs⟩ := R
  simp only at *
  obtain ⟨k, rfl⟩ : ∃ n : Nat, k = n := ⟨k.toNat, by omega⟩
  obtain ⟨u, rfl⟩ : ∃ n : Nat, u = n := ⟨u.toNat, by omega⟩
  have eK : qK (some (putRq ⟨k, u, wh, nm, bs, ph, pn, ch⟩ ++ y)) = (k, some (encN u ++ ((if hasN (partsN k) 1 then encN wh.toNat else []) ++ ((if hasN (partsN k) 2 then encT nm else []) ++ ((if hasN (partsN k) 12 then encT (pathS ph pn) else []) ++ ((if hasN (partsN k) 16 then ch else []) ++ (if hasN (partsN k) 32 then encT bs else []))))) ++ y)) := by
    unfold qK putRq putP
    simp only [Int.toNat_natCast, List.append_assoc]
    exact sNum_enc (by omega) (by omega) _
  have eP : qP (some (putRq ⟨k, u, wh, nm, bs, ph, pn, ch⟩ ++ y)) = partsN k := by unfold qP; rw [eK]
  obtain ⟨P, hP⟩ : ∃ P, partsN (k : Int) = P := ⟨_, rfl⟩
  rw [hP] at eP eK hw1 hw0 hn1 hn0 hp0 hp1 hc0
  have eU : qU (some (putRq ⟨k, u, wh, nm, bs, ph, pn, ch⟩ ++ y)) = (u, some ((if hasN P 1 then encN wh.toNat else []) ++ ((if hasN P 2 then encT nm else []) ++ ((if hasN P 12 then encT (pathS ph pn) else []) ++ ((if hasN P 16 then ch else []) ++ (if hasN P 32 then encT bs else [])))) ++ y)) := by
    unfold qU
    rw [eK]
    simp only [List.append_assoc]
    exact sNum_enc (by omega) (by omega) _
  have eW : qW (some (putRq ⟨k, u, wh, nm, bs, ph, pn, ch⟩ ++ y)) = (wh.toNat, some ((if hasN P 2 then encT nm else []) ++ ((if hasN P 12 then encT (pathS ph pn) else []) ++ ((if hasN P 16 then ch else []) ++ (if hasN P 32 then encT bs else []))) ++ y)) ∧ (wh.toNat : Int) = wh := by
    unfold qW pW
    rw [eU, eP]
    cases h : hasN P 1 with
    | true =>
      have := hw1 h
      simp only [if_true, List.append_assoc]
      exact ⟨sNum_enc (by omega) (by omega) _, by omega⟩
    | false =>
      have := hw0 h
      subst this
      simp
  have eN : qN (some (putRq ⟨k, u, wh, nm, bs, ph, pn, ch⟩ ++ y)) = (nm, some ((if hasN P 12 then encT (pathS ph pn) else []) ++ ((if hasN P 16 then ch else []) ++ (if hasN P 32 then encT bs else [])) ++ y)) := by
    unfold qN pN
    rw [eW.1, eP]
    cases h : hasN P 2 with
    | true =>
      have := isName_le (hn1 h)
      simp only [if_true, List.append_assoc]
      exact sText_enc (by omega) (by omega) _
    | false =>
      have := hn0 h
      subst this
      simp
  have eT : qT (some (putRq ⟨k, u, wh, nm, bs, ph, pn, ch⟩ ++ y)) = ((if hasN P 12 then pathS ph pn else []), some ((if hasN P 16 then ch else []) ++ (if hasN P 32 then encT bs else []) ++ y)) := by
    unfold qT pT
    rw [eN, eP]
    cases h : hasN P 12 with
    | true =>
      have := pathS_le (n := pn) ph
      simp only [if_true, List.append_assoc]
      exact sText_enc (by omega) (by omega) _
    | false => simp
  have eH : qH (some (putRq ⟨k, u, wh, nm, bs, ph, pn, ch⟩ ++ y)) = (ch, some ((if hasN P 32 then encT bs else []) ++ y)) := by
    unfold qH pH
    rw [eT, eP]
    cases h : hasN P 16 with
    | true =>
      simp only [if_true, List.append_assoc]
      exact sHash_enc hc _
    | false =>
      have := hc0 h
      subst this
      simp
  have eB : qB lim (some (putRq ⟨k, u, wh, nm, bs, ph, pn, ch⟩ ++ y)) = (bs, some y) := by
    unfold qB pB
    rw [eH, eP, eK]
    cases h : hasN P 32 with
    | true =>
      have := most_le (k : Int)
      simp only [if_true]
      exact sText_enc (by omega) (by omega) _
    | false =>
      have := most_none (k := (k : Int)) (by rw [hP]; exact h)
      obtain rfl : bs = [] := List.length_eq_zero_iff.1 (by omega)
      simp
  have eS : parseH (if hasN P 12 then pathS ph pn else []) = ph ∧ parseN (if hasN P 12 then pathS ph pn else []) = pn ∧ (!((if hasN P 12 then pathS ph pn else []) == [] || (parse (if hasN P 12 then pathS ph pn else [])).isSome)) = false := by
    cases h : hasN P 12 with
    | true =>
      simp only [if_true]
      rcases hp1 h with h1 | ⟨rfl, rfl⟩
      · have := parse_pathS hp h1
        simp [parseH, parseN, this]
      · have e : pathS z20 [] = [] := pathS_none isName_nil
        rw [e]
        simp [parseH, parseN, parse_nil]
    | false =>
      obtain ⟨rfl, rfl⟩ := hp0 h
      simp [parseH, parseN, parse_nil]
  refine ⟨?_, by rw [eB], ?_⟩
  · unfold qRq
    rw [eK, eU, eW.1, eN, eT, eH, eB]
    simp only [eS.1, eS.2.1, eW.2]
  · unfold qOdd
    rw [eT]
    exact eS.2.2
theorem get_put {q : Rq} (hr : q.right = true) (hp : q.ph.length = 20) (hc : q.ch.length = 20) : getRq (putRq q) = some q := by
  obtain ⟨h1, h2, h3⟩ := parse_put (lim := mostN) hr hp hc (Nat.le_refl _) []
  rw [List.append_nil] at h1 h2 h3
  unfold getRq
  rw [if_pos ⟨h2, h3, by rw [h1]; exact hr⟩, h1]
theorem get_more {q : Rq} (hr : q.right = true) (hp : q.ph.length = 20) (hc : q.ch.length = 20) {y : List UInt8} (hy : y ≠ []) : getRq (putRq q ++ y) = none := by
  obtain ⟨_, h2, _⟩ := parse_put (lim := mostN) hr hp hc (Nat.le_refl _) y
  unfold getRq
  rw [if_neg]
  rintro ⟨h, _⟩
  rw [h2] at h
  exact hy (by simpa using h)
theorem parseH_length (s : List UInt8) : (parseH s).length = 20 := by
  unfold parseH
  cases h : parse s with
  | none => rfl
  | some p => exact (parse_some (h := p.1) (n := p.2) h).2.1
theorem pW_some {P : Nat} {s : Option (List UInt8)} {n : Nat} {y : List UInt8} (h : pW P s = (n, some y)) : s = some ((if hasN P 1 then encN n else []) ++ y) := by
  unfold pW at h
  cases h1 : hasN P 1 with
  | true => rw [h1] at h; simp only [if_true] at h ⊢; exact (sNum_some h).1
  | false => rw [h1] at h; simp only [Bool.false_eq_true, if_false, Prod.mk.injEq] at h ⊢; exact h.2
theorem pN_some {P : Nat} {s : Option (List UInt8)} {n : List UInt8} {y : List UInt8} (h : pN P s = (n, some y)) : s = some ((if hasN P 2 then encT n else []) ++ y) := by
  unfold pN at h
  cases h1 : hasN P 2 with
  | true => rw [h1] at h; simp only [if_true] at h ⊢; exact (sText_some h).1
  | false => rw [h1] at h; simp only [Bool.false_eq_true, if_false, Prod.mk.injEq] at h ⊢; exact h.2
theorem pT_some {P : Nat} {s : Option (List UInt8)} {n : List UInt8} {y : List UInt8} (h : pT P s = (n, some y)) : s = some ((if hasN P 12 then encT n else []) ++ y) := by
  unfold pT at h
  cases h1 : hasN P 12 with
  | true => rw [h1] at h; simp only [if_true] at h ⊢; exact (sText_some h).1
  | false => rw [h1] at h; simp only [Bool.false_eq_true, if_false, Prod.mk.injEq] at h ⊢; exact h.2
theorem pH_some {P : Nat} {s : Option (List UInt8)} {n : List UInt8} {y : List UInt8} (h : pH P s = (n, some y)) : s = some ((if hasN P 16 then n else []) ++ y) := by
  unfold pH at h
  cases h1 : hasN P 16 with
  | true => rw [h1] at h; simp only [if_true] at h ⊢; exact (sHash_some h).1
  | false => rw [h1] at h; simp only [Bool.false_eq_true, if_false, Prod.mk.injEq] at h ⊢; exact h.2
theorem pB_some {P lim : Nat} {s : Option (List UInt8)} {n : List UInt8} {y : List UInt8} (h : pB P lim s = (n, some y)) : s = some ((if hasN P 32 then encT n else []) ++ y) := by
  unfold pB at h
  cases h1 : hasN P 32 with
  | true => rw [h1] at h; simp only [if_true] at h ⊢; exact (sText_some h).1
  | false => rw [h1] at h; simp only [Bool.false_eq_true, if_false, Prod.mk.injEq] at h ⊢; exact h.2
theorem pT_none {P : Nat} {s s' : Option (List UInt8)} {n : List UInt8} (h : pT P s = (n, s')) (h1 : hasN P 12 = false) : n = [] := by
  unfold pT at h
  rw [h1] at h
  simp only [Bool.false_eq_true, if_false, Prod.mk.injEq] at h
  exact h.1.symm
theorem pathS_text {t : List UInt8} (h : (!(t == [] || (parse t).isSome)) = false) : pathS (parseH t) (parseN t) = t := by
  simp only [Bool.not_eq_false', Bool.or_eq_true, beq_iff_eq] at h
  rcases h with rfl | ho
  · simp [parseH, parseN, parse_nil, pathS_none isName_nil]
  · obtain ⟨⟨h', n'⟩, hp⟩ := Option.isSome_iff_exists.1 ho
    obtain ⟨h1, h2, h3⟩ := parse_some hp
    simp only [parseH, parseN, hp, Option.map_some, Option.getD_some]
    unfold pathS
    rw [if_pos h1, h3]
/-- what was read, if all was and a path was one, has just these bytes -/
theorem put_parse {lim : Int → Nat} {b : List UInt8} (he : (qB lim (some b)).2 = some []) (ho : qOdd (some b) = false) : putRq (qRq lim (some b)) = b := by
  obtain ⟨k, s1, h1⟩ : ∃ k s, qK (some b) = (k, s) := ⟨_, _, rfl⟩
  obtain ⟨u, s2, h2⟩ : ∃ k s, qU (some b) = (k, s) := ⟨_, _, rfl⟩
  obtain ⟨wh, s3, h3⟩ : ∃ k s, qW (some b) = (k, s) := ⟨_, _, rfl⟩
  obtain ⟨nm, s4, h4⟩ : ∃ k s, qN (some b) = (k, s) := ⟨_, _, rfl⟩
  obtain ⟨t, s5, h5⟩ : ∃ k s, qT (some b) = (k, s) := ⟨_, _, rfl⟩
  obtain ⟨ch, s6, h6⟩ : ∃ k s, qH (some b) = (k, s) := ⟨_, _, rfl⟩
  obtain ⟨bs, s7, h7⟩ : ∃ k s, qB lim (some b) = (k, s) := ⟨_, _, rfl⟩
  have er : qRq lim (some b) = ⟨k, u, wh, nm, bs, parseH t, parseN t, ch⟩ := by unfold qRq; rw [h1, h2, h3, h4, h5, h6, h7]
  obtain ⟨P, hP⟩ : ∃ P, partsN (k : Int) = P := ⟨_, rfl⟩
  have eP : qP (some b) = P := by unfold qP; rw [h1]; exact hP
  rw [h7] at he
  have he : s7 = some [] := he
  subst he
  have ho : (!(t == [] || (parse t).isSome)) = false := by unfold qOdd at ho; rw [h5] at ho; exact ho
  have g7 : pB P (lim (k : Int)) s6 = (bs, some []) := by unfold qB at h7; rw [eP, h6, h1] at h7; exact h7
  have g6 : pH P s5 = (ch, s6) := by unfold qH at h6; rw [eP, h5] at h6; exact h6
  have g5 : pT P s4 = (t, s5) := by unfold qT at h5; rw [eP, h4] at h5; exact h5
  have g4 : pN P s3 = (nm, s4) := by unfold qN at h4; rw [eP, h3] at h4; exact h4
  have g3 : pW P s2 = (wh, s3) := by unfold qW at h3; rw [eP, h2] at h3; exact h3
  have g2 : sNum 8 s1 = (u, s2) := by unfold qU at h2; rw [h1] at h2; exact h2
  have g1 : sNum 10 (some b) = (k, s1) := h1
  clear h1 h2 h3 h4 h5 h6 h7 eP
  have hpath : (if hasN P 12 then encT (pathS (parseH t) (parseN t)) else []) = (if hasN P 12 then encT t else []) := by rw [pathS_text ho]
  obtain rfl := pB_some g7
  obtain rfl := pH_some g6
  obtain rfl := pT_some g5
  obtain rfl := pN_some g4
  obtain rfl := pW_some g3
  obtain ⟨rfl, _⟩ := sNum_some g2
  have hb := Option.some.inj (sNum_some g1).1
  rw [er]
  unfold putRq putP
  simp only [Int.toNat_natCast, hP]
  rw [hpath]
  rw [List.append_nil] at hb
  exact hb.symm
theorem put_get {b : List UInt8} {q : Rq} (h : getRq b = some q) : q.right = true ∧ putRq q = b ∧ q.ph.length = 20 ∧ q.ch.length = 20 := by
  unfold getRq at h
  split at h
  · rename_i hc
    obtain ⟨h1, h2, h3⟩ := hc
    obtain rfl := Option.some.inj h
    refine ⟨h3, put_parse h1 h2, parseH_length _, ?_⟩
    show (qH (some b)).1.length = 20
    unfold qH pH
    split
    · exact sHash_length _
    · rfl
  · cases h
/-- the document's answer: what is read, if its bytes are just these -/
def getRqD (lim : Int → Nat) (b : List UInt8) : Option Rq := if (qRq lim (some b)).right = true ∧ (qB lim (some b)).2 = some [] ∧ putRq (qRq lim (some b)) = b then some (qRq lim (some b)) else none
theorem qRq_hash (lim : Int → Nat) (b : Option (List UInt8)) : (qRq lim b).ph.length = 20 ∧ (qRq lim b).ch.length = 20 := by
  refine ⟨parseH_length _, ?_⟩
  show (qH b).1.length = 20
  unfold qH pH
  split
  · exact sHash_length _
  · rfl
theorem getRqD_eq {lim : Int → Nat} (hlim : ∀ k, mostN k ≤ lim k) (b : List UInt8) : getRqD lim b = getRq b := by
  cases h : getRq b with
  | some q =>
    obtain ⟨hr, hb, hp, hc⟩ := put_get h
    obtain ⟨h1, h2, _⟩ := parse_put (lim := lim) hr hp hc (hlim _) []
    rw [List.append_nil, hb] at h1 h2
    unfold getRqD
    rw [if_pos ⟨by rw [h1]; exact hr, h2, by rw [h1]; exact hb⟩, h1]
  | none =>
    unfold getRqD
    split
    · rename_i hc
      obtain ⟨h1, _, h3⟩ := hc
      obtain ⟨hp, hcl⟩ := qRq_hash lim (some b)
      have := get_put h1 hp hcl
      rw [h3, h] at this
      cases this
    · rfl
/-- a byte less is none -/
theorem get_less {q : Rq} (hr : q.right = true) (hp : q.ph.length = 20) (hc : q.ch.length = 20) {x y : List UInt8} (hy : y ≠ []) (hx : putRq q = x ++ y) : getRq x = none := by
  cases h : getRq x with
  | none => rfl
  | some p =>
    obtain ⟨hr', hb', hp', hc'⟩ := put_get h
    have := get_more hr' hp' hc' hy
    rw [hb', ← hx, get_put hr hp hc] at this
    cases this
theorem putRq_pos (q : Rq) : putRq q ≠ [] := by
  unfold putRq putP
  intro h
  have h1 := (List.append_eq_nil_iff.1 h).1
  rw [encN] at h1
  split at h1 <;> simp at h1
end Go.Proofs.YtpnolgliklmnmaaGreat
/-! code.Cursor as a state: contracts without cases. -/
namespace Go.Proofs.YtpnolgliklmnmaaGreat
open Go.RowKit Pl Go.Agg
/-- a cursor at g, of a state -/
def CuS (base g : Nat) (w : World) (s : Option (List UInt8)) : Prop := ∃ v r e, CuV base g w v r e ∧ (e ≠ 0 → v = .slice none 0 0 ∧ r = []) ∧ s = (if e = 0 then some r else none)
theorem CuS.good {base g : Nat} {w : World} {v : Value} {r : List UInt8} (h : CuV base g w v r 0) : CuS base g w (some r) := ⟨v, r, 0, h, fun h => absurd rfl h, rfl⟩
theorem CuS.bad {base g : Nat} {w : World} (h : CBad base g w) : CuS base g w none := by
  obtain ⟨e, he, h⟩ := h
  exact ⟨_, _, e, h, fun _ => ⟨rfl, rfl⟩, by rw [if_neg he]⟩
theorem CuS.below {base g : Nat} {w w' : World} {s : Option (List UInt8)} (h : CuS base g w s) (hb : Below w.heap.size w w') : CuS base g w' s := by
  obtain ⟨v, r, e, h, h1, h2⟩ := h
  exact ⟨v, r, e, h.below hb, h1, h2⟩
theorem CuS.lt {base g : Nat} {w : World} {s : Option (List UInt8)} (h : CuS base g w s) : g < w.heap.size := by
  obtain ⟨v, r, e, h, _⟩ := h
  exact h.blk.lt
theorem getN_nil (most : Nat) : getN most [] = none := by
  unfold getN
  rw [if_pos (.inl rfl)]
theorem getT_nil (most : Nat) : getT most [] = none := by
  unfold getT
  rw [getN_nil]
theorem snum_any (base g most : Nat) (s : Option (List UInt8)) (w : World) (hl : stLen s ≤ 16777216) (hmo : most ≤ 1099511627776) (h : CuS base g w s) :
    Calls Tryz.prog 52 #[.pointer (some ⟨g, 0, none⟩), .int .i64 (most : Int)] w fun x w' => x = .returned (.int .i64 ((sNum most s).1 : Int)) ∧ CuS base g w' (sNum most s).2 ∧ Only (· = g) w w' := by
  obtain ⟨v, r, e, hv, hbad, rfl⟩ := h
  by_cases h0 : e = 0
  · subst h0
    refine (cnum_any base g most v r 0 w (by simpa [stLen] using hl) hmo hv).mono ?_
    rintro x w' ⟨hc, ho⟩
    rcases hc with ⟨n, y, v', hg, rfl, hcu⟩ | ⟨hg, rfl, hcu⟩
    · simp only [if_true, sNum, hg]
      exact ⟨trivial, CuS.good hcu, ho⟩
    · simp only [if_true, sNum, hg] at hcu ⊢
      exact ⟨rfl, CuS.bad ⟨4, by omega, hcu⟩, ho⟩
  · obtain ⟨rfl, rfl⟩ := hbad h0
    refine (cnum_any base g most _ [] e w (by simp) hmo hv).mono ?_
    rintro x w' ⟨hc, ho⟩
    rcases hc with ⟨n, y, v', hg, rfl, hcu⟩ | ⟨hg, rfl, hcu⟩
    · rw [getN_nil] at hg; cases hg
    · simp only [if_neg h0, sNum] at hcu ⊢
      exact ⟨rfl, CuS.bad ⟨e, h0, hcu⟩, ho⟩
theorem sraw_any (base g many : Nat) (s : Option (List UInt8)) (w : World) (hl : stLen s ≤ 16777216) (hmo : many ≤ 1099511627776) (h : CuS base g w s) :
    Calls Tryz.prog 88 #[.pointer (some ⟨g, 0, none⟩), .int .i64 (many : Int)] w fun x w' => ∃ u, x = .returned u ∧ Own EB w.heap.size w' u (sRaw many s).1 ∧ CuS base g w' (sRaw many s).2 ∧ Only (· = g) w w' := by
  obtain ⟨v, r, e, hv, hbad, rfl⟩ := h
  by_cases h0 : e = 0
  · subst h0
    refine (craw_any base g many v r 0 w (by simpa [stLen] using hl) hmo hv).mono ?_
    rintro x w' ⟨hc, ho⟩
    rcases hc with ⟨_, hle, u, v', rfl, hu, hcu⟩ | ⟨hor, rfl, hcu⟩
    · simp only [if_true, sRaw, if_pos hle]
      exact ⟨u, rfl, hu, CuS.good hcu, ho⟩
    · have hle : ¬ many ≤ r.length := by rcases hor with h | h <;> omega
      simp only [if_true, sRaw, if_neg hle]
      exact ⟨_, rfl, Own.nil _ _ _, CuS.bad hcu, ho⟩
  · obtain ⟨rfl, rfl⟩ := hbad h0
    refine (craw_any base g many _ [] e w (by simp) hmo hv).mono ?_
    rintro x w' ⟨hc, ho⟩
    rcases hc with ⟨h, _⟩ | ⟨hor, rfl, hcu⟩
    · exact absurd h h0
    · simp only [if_neg h0, sRaw]
      exact ⟨_, rfl, Own.nil _ _ _, CuS.bad hcu, ho⟩
theorem stext_any (base g most : Nat) (s : Option (List UInt8)) (w : World) (hl : stLen s ≤ 16777216) (h : CuS base g w s) :
    Calls Tryz.prog 53 #[.pointer (some ⟨g, 0, none⟩), .int .i64 (most : Int)] w fun x w' => ∃ u, x = .returned u ∧ Own EB w.heap.size w' u (sText most s).1 ∧ CuS base g w' (sText most s).2 ∧ Only (· = g) w w' := by
  obtain ⟨v, r, e, hv, hbad, rfl⟩ := h
  by_cases h0 : e = 0
  · subst h0
    refine (ctext_any base g most v r 0 w (by simpa [stLen] using hl) (fun h => absurd rfl h) hv).mono ?_
    rintro x w' ⟨hc, ho⟩
    rcases hc with ⟨_, l, y, u, v', hg, rfl, hu, hcu⟩ | ⟨hor, rfl, hcu⟩
    · simp only [if_true, sText, hg]
      exact ⟨u, rfl, hu, CuS.good hcu, ho⟩
    · have hg : getT most r = none := hor.elim (fun h => absurd rfl h) id
      simp only [if_true, sText, hg]
      exact ⟨_, rfl, Own.nil _ _ _, CuS.bad hcu, ho⟩
  · obtain ⟨rfl, rfl⟩ := hbad h0
    refine (ctext_any base g most _ [] e w (by simp) (fun _ => rfl) hv).mono ?_
    rintro x w' ⟨hc, ho⟩
    rcases hc with ⟨h, _⟩ | ⟨hor, rfl, hcu⟩
    · exact absurd h h0
    · simp only [if_neg h0, sText]
      exact ⟨_, rfl, Own.nil _ _ _, CuS.bad hcu, ho⟩
theorem send_any (base g : Nat) (s : Option (List UInt8)) (w : World) (h : CuS base g w s) :
    Calls Tryz.prog 90 #[.pointer (some ⟨g, 0, none⟩)] w fun x w' => (∃ c : Nat, x = .returned (.int .i64 (c : Int)) ∧ (c = 0 ↔ s = some [])) ∧ w' = w := by
  obtain ⟨v, r, e, hv, hbad, rfl⟩ := h
  refine (cend_any base g v r e w hv).mono ?_
  rintro x w' ⟨⟨c, rfl, hc⟩, rfl⟩
  refine ⟨⟨c, rfl, ?_⟩, rfl⟩
  rw [hc]
  by_cases h0 : e = 0
  · simp [h0]
  · simp [h0]
end Go.Proofs.YtpnolgliklmnmaaGreat
/-! spenceref01.Number. -/
namespace Go.Proofs.YtpnolgliklmnmaaGreat
open Go.RowKit Pl Go.Agg
set_option maxRecDepth 100000 in
set_option maxHeartbeats 1000000 in
theorem refNumber_any (n : Nat) (w : World) (hn : n < 4398046511104) :
    Calls Tryz.prog 84 #[.int .i64 (n : Int)] w fun e w' => ∃ v, e = .returned v ∧ Own EB w.heap.size w' v (encN n) ∧ Below w.heap.size w w' := by
  go_enter Tryz.func84, Tryz.ntmps84
  go_wp2_with fail
  go_loopw [0, 3] (fun x out wr => ∃ k : Nat, x = .int .i64 (k : Int) ∧ k < 4398046511104 ∧ ∃ bs, Own EB w.heap.size wr out bs ∧ bs ++ encN k = encN n ∧ Below w.heap.size w wr) (fun x _ _ => (intOf x).toNat)
  case atStart => exact ⟨n, rfl, hn, [], Own.nil _ _ _, rfl, Below.refl _ _⟩
  case round =>
    obtain ⟨w1, rfl⟩ : ∃ w1 : World, w1 = wr := ⟨_, rfl⟩
    obtain ⟨k, rfl, hk, bs, ho, heq, hw⟩ := hrel
    have hbs : bs.length ≤ 6 := by
      have h1 := congrArg List.length heq
      have h2 := encN_len' 6 n (by omega) (by omega)
      simp only [List.length_append] at h1
      omega
    have h63 : bs.length + 1 ≤ 1099511627776 / 8 := by omega
    have hsz := hw.size
    have HO := Lib.hid ho
    have HEQ := Lib.hid heq
    have HW := Lib.hid hw
    clear ho heq hw
    by_cases hlt : 128 ≤ k
    · have hI : (128 : Int) ≤ (k : Int) := by omega
      obtain ⟨c, hc⟩ : ∃ c : UInt8, c.toNat = k % 128 + 128 := ⟨UInt8.ofNat (k % 128 + 128), by simp; omega⟩
      have hcc : (k : Int) % 128 + 128 = (c.toNat : Int) := by omega
      have HE : Hid (bs ++ [c] ++ encN (k / 128) = encN n) := Lib.hid (by
        have e : UInt8.ofNat (k % 128 + 128) = c := by rw [← hc]; simp
        rw [← HEQ.out, encN_ge hlt, e, List.append_assoc]; rfl)
      clear hlt hc
      go_wp2_with (first | (refine Agg.wpList_push (E := EB) (base := w.heap.size) rfl rfl 11 rfl _ rfl _ rfl (c) rfl (fun _ => rfl) (by simp) HO.out h63 (by decide) hsz ?_; intro u5 v5 w5 ho5 hp5; have HO5 := Lib.hid ho5; have HP5 := Lib.hid (HW.out.trans (hp5.below w.heap.size (Nat.le_refl _) hsz)); clear ho5 hp5))
      go_roundw
      case rel => exact ⟨k / 128, by go_num, by omega, _, HO5.out, HE.out, HP5.out⟩
      case measure => simp [intOf]; omega
    · obtain ⟨c, rfl⟩ : ∃ c : UInt8, k = c.toNat := ⟨UInt8.ofNat k, by simp; omega⟩
      have hI : ¬ (128 : Int) ≤ (c.toNat : Int) := by omega
      have HE : Hid (bs ++ [c] = encN n) := Lib.hid (by rw [← HEQ.out, encN_lt (by omega), UInt8.ofNat_toNat])
      clear hlt
      go_wp2_with (first | (refine Agg.wpList_push (E := EB) (base := w.heap.size) rfl rfl 18 rfl _ rfl _ rfl (c) rfl (fun _ => rfl) (by simp) HO.out h63 (by decide) hsz ?_; intro u5 v5 w5 ho5 hp5; have HO5 := Lib.hid ho5; have HP5 := Lib.hid (HW.out.trans (hp5.below w.heap.size (Nat.le_refl _) hsz)); clear ho5 hp5))
      go_ret
      exact ⟨_, rfl, by rw [← HE.out]; exact HO5.out, HP5.out⟩
end Go.Proofs.YtpnolgliklmnmaaGreat
/-! A row of cells stored into the middle of a block. -/
namespace Go.Agg
open Go.RowKit
variable {P : Program}
def setAll (cs : Array Value) : Nat → List Value → Array Value
  | _, [] => cs
  | i, v :: vs => setAll (cs.setIfInBounds i v) (i + 1) vs
theorem Blk.setAll {g : Nat} {t : TypeId} : ∀ (vs : List Value) (i : Nat) (w : World) (cs : Array Value), Blk w g t cs → Blk (w.setCells g i vs) g t (Agg.setAll cs i vs)
  | [], _, _, _, h => h
  | v :: vs, i, _, _, h => Blk.setAll vs (i + 1) _ _ (h.set i v)
theorem setAll_mid : ∀ (vs a b c : List Value), b.length = vs.length → setAll (a ++ (b ++ c)).toArray a.length vs = (a ++ (vs ++ c)).toArray
  | [], a, b, c, h => by
    obtain rfl := List.length_eq_zero_iff.1 h
    rfl
  | v :: vs, a, [], c, h => by simp at h
  | v :: vs, a, y :: b, c, h => by
    have e : (a ++ (y :: b ++ c)).toArray.setIfInBounds a.length v = ((a ++ [v]) ++ (b ++ c)).toArray := by simp
    have h1 := setAll_mid vs (a ++ [v]) b c (by simpa using h)
    rw [setAll, e, show a.length + 1 = (a ++ [v]).length by simp, h1]
    simp
/-- a row stored: what lies there then -/
theorem Blk.run_row {w : World} {g : Nat} {t ty : TypeId} (a b c ds : Array Value) (h : Blk w g t (a ++ (b ++ c))) (hb : b.size = ds.size) (hs : (P.info? ty).map (·.size) = some ds.size) (h1 : ds.all (·.oneCell') = true) {i : Nat} (hi : i = a.size) :
    ∃ w', (Instr.storeAt ty (.pointer (some ⟨g, i, none⟩)) (.agg ds)).run P w = .ok () w' ∧ Blk w' g t (a ++ (ds ++ c)) ∧ Only (· = g) w w' := by
  subst hi
  refine ⟨_, run_storeAt_mid w g a.size ty ds (fun j hj => ⟨?_, frozen_of_row _ _ _ _ _ h⟩) hs h1, ?_, only_setCells _ _ _ _⟩
  · rw [h.cell]
    simp
    omega
  · have h2 := h.setAll ds.toList a.size
    have e := setAll_mid ds.toList a.toList b.toList c.toList (by simpa using hb)
    have e1 : (a.toList ++ (b.toList ++ c.toList)).toArray = a ++ (b ++ c) := by apply Array.ext'; simp
    have e2 : (a.toList ++ (ds.toList ++ c.toList)).toArray = a ++ (ds ++ c) := by apply Array.ext'; simp
    rw [e1, e2, Array.length_toList] at e
    rw [← e]
    exact h2
/-- one cell stored -/
theorem Blk.run_one {w : World} {g : Nat} {t ty : TypeId} {cs : Array Value} (h : Blk w g t cs) (i : Nat) (hi : i < cs.size) (v : Value) (hv : v.cells = #[v]) (h1 : v.oneCell' = true) (hs : (P.info? ty).map (·.size) = some 1) (ds : Array Value) (he : cs.setIfInBounds i v = ds) :
    ∃ w', (Instr.storeAt ty (.pointer (some ⟨g, i, none⟩)) v).run P w = .ok () w' ∧ Blk w' g t ds ∧ Only (· = g) w w' := by
  subst he
  exact ⟨_, h.run_put i hi v hv h1 hs, h.set i v, rfl, rfl, rfl, by simp [World.setCell], fun k _ hk => Below.heap_setCell _ _ _ _ hk⟩
end Go.Agg
/-! Bytes and texts as elements. -/
namespace Go.Proofs.YtpnolgliklmnmaaGreat
open Go.RowKit Pl Go.Agg
/-- texts -/
def ES : Elem Tryz.prog (List UInt8) where
  ty := 9
  st := 59
  n := 1
  bytes := 16
  val := fun s => .string ⟨s.toArray⟩
  zero := .string ⟨#[]⟩
  pos := by omega
  small := by omega
  size := fun x => rfl
  one := fun x v hv => by
    obtain rfl : v = .string ⟨x.toArray⟩ := by simpa [Value.cells] using hv
    rfl
  zsize := rfl
  slice := by kernel_rfl
  info := info_of (by kernel_rfl) (by kernel_rfl) (by kernel_rfl)
  load := fun w a x hp h => LoadsL.of_cell (by have := h 0 _ rfl; rwa [show a.add 0 = a from rfl] at this) Tryz.underlying9 rfl
end Go.Proofs.YtpnolgliklmnmaaGreat
/-! Operations of a region that draws: a store, a copy of bytes, literals. -/
namespace Go.Agg
open Go.RowKit
variable {P : Program}
section
variable {ops : Array Oper} {o : Oper} {a : Act} {w : World} {Q : Exit → Act → World → Prop} {K : Act → World → Prop} {F : Prop}
theorem step_store {w' : World} (hg : o.guard = none) (hd : o.dst = none) (ty : TypeId) (x y : Operand) (ho : o.op = .store ty x y) (p v : Value) (hx : a.eval x = p) (hy : a.eval y = v)
    (hrun : (Instr.storeAt ty p v).run P w = .ok () w') (h : K a w') : if Region.wanted o (yielded ops a.tmps) = true then o.wp P a w K Q else F := by
  rw [if_pos (by simp [Region.wanted, hg])]
  unfold Oper.wp
  have : (execOp a.eval o).run P w = .ok .skip w' := by simp [execOp, ho, hx, hy, hrun]
  rw [this, Oper.upon_skip, hd]
  exact h
theorem step_val {v : Value} {w' : World} (hg : o.guard = none) (hrun : (execOp a.eval o).run P w = .ok (.value v) w') (h : K (a.put o.dst v) w') : if Region.wanted o (yielded ops a.tmps) = true then o.wp P a w K Q else F := by
  rw [if_pos (by simp [Region.wanted, hg])]
  unfold Oper.wp
  rw [hrun]
  exact h
theorem step_slice1 {α : Type} {E : Elem P α} (hg : o.guard = none) (y : Operand) (ho : o.op = .buildSlice E.st 1 #[(0, y)]) (x : α) (hy : a.eval y = E.val x)
    (h : ∀ v' w', Own E w.heap.size w' v' [x] → Below w.heap.size w w' → K (a.put o.dst v') w') : if Region.wanted o (yielded ops a.tmps) = true then o.wp P a w K Q else F := by
  refine step_val hg (v := .slice (some ⟨w.heap.size, 0, none⟩) 1 1) (w' := w.alloc (.cells (E.val x).cells E.ty)) (by simp [execOp, ho, hy, run_slice_one]) (h _ _ ?_ ((Below.refl _ _).alloc (Nat.le_refl _) _))
  have hs := E.size x
  refine ⟨by rw [E.flat_one, E.cs_length]; simp, .inr ⟨_, 1, _, rfl, Nat.le_refl _, heap_alloc_new w _, Nat.le_refl _, by simp [maxLen], by rw [hs]; simp, ?_⟩⟩
  rw [E.flat_one, Elem.cs, List.take_of_length_le (by rw [Array.length_toList, hs]; simp)]
/-- '&T{..}' -/
theorem step_box (hg : o.guard = none) (ty : TypeId) (x : Operand) (ho : o.op = .box ty x) (cs : Array Value) (hx : a.eval x = .agg cs)
    (h : ∀ g w', Blk w' g ty cs → Below w.heap.size w w' → w.heap.size ≤ g → K (a.put o.dst (.pointer (some ⟨g, 0, none⟩))) w') : if Region.wanted o (yielded ops a.tmps) = true then o.wp P a w K Q else F :=
  step_val hg (v := .pointer (some ⟨w.heap.size, 0, none⟩)) (w' := w.alloc (.cells cs ty)) (by simp [execOp, ho, hx, Instr.box, newVar, newRow, Value.cells]) (h _ _ (Blk.new w ty cs) ((Below.refl _ _).alloc (Nat.le_refl _) _) (Nat.le_refl _))
end
end Go.Agg
namespace Go.Proofs.YtpnolgliklmnmaaGreat
open Go.RowKit Pl Go.Agg
theorem flat_bytes (l : List UInt8) : EB.flat l = Lib.byteCells l := by
  simp only [Elem.flat, Lib.byteCells]
  induction l with
  | nil => rfl
  | cons c t ih =>
    rw [List.flatMap_cons, ih]
    rfl
theorem run_copyB {w : World} {g n : Nat} {t : TypeId} {cur : List Value} {u : Value} {l : List UInt8} (ty : TypeId) (hu : SliceOf EB w u l) (hb : Blk w g t cur.toArray) (hn : cur.length = n) (hl : l.length ≤ n) :
    ∃ w', (Builtin.copy_ #[23, 23] ty #[.slice (some ⟨g, 0, none⟩) n n, u]).run Tryz.prog w = .ok (goInt l.length) w' ∧ Blk w' g t (Lib.byteCells l ++ cur.drop l.length).toArray ∧ Only (· = g) w w' := by
  have hund : Tryz.prog.underlying 23 = some (.slice 5) := by kernel_rfl
  have hsz : (Tryz.prog.info? 5).map (·.size) = some 1 := by kernel_rfl
  have hc : (Lib.byteCells l).length = l.length := by simp [Lib.byteCells]
  by_cases h0 : l.length = 0
  · obtain rfl : l = [] := List.length_eq_zero_iff.1 h0
    obtain ⟨p, c, hf⟩ := hu.form
    subst hf
    exact ⟨w, run_copy_none w _ _ _ 5 _ _ _ _ _ _ hund hsz (by simp), by simpa [Lib.byteCells] using hb, Only.refl _ _⟩
  · rcases hu with ⟨_, _, _, h1⟩ | ⟨q, c, rfl, hq, hcell⟩
    · exact absurd (by simp [h1]) h0
    · rw [flat_bytes] at hcell
      have hrun := run_copy_row (P := Tryz.prog) w 23 23 ty 5 g 0 n n q l.length c cur.toArray t (Lib.byteCells l) hund hsz hb (by rw [hc]; exact (Nat.min_eq_left hl).symm) hcell (by simp [hc]; omega)
        (fun v hv => by
          simp only [Lib.byteCells, List.mem_map] at hv
          obtain ⟨b, _, rfl⟩ := hv
          rfl)
      rw [hc] at hrun
      refine ⟨_, hrun, ?_, rfl, rfl, rfl, by simp [World.setRow], fun k _ hk => setRow_other w g k _ hk⟩
      have h1 := setRow_heap w g cur.toArray (List.take 0 cur.toArray.toList ++ Lib.byteCells l ++ List.drop (0 + l.length) cur.toArray.toList).toArray t _ hb
      refine Eq.trans h1 ?_
      simp
theorem step_copyB {ops : Array Oper} {o : Oper} {a : Act} {w : World} {Q : Exit → Act → World → Prop} {K : Act → World → Prop} {F : Prop} {g n : Nat} {t : TypeId} {cur : List Value} {u : Value} {l : List UInt8} (hg : o.guard = none) (d s : Operand)
    (ho : o.op = .call { callee := .builtin .copy, args := #[d, s], argTypes := #[23, 23] }) (hd : a.eval d = .slice (some ⟨g, 0, none⟩) n n) (hs : a.eval s = u) (hu : SliceOf EB w u l) (hb : Blk w g t cur.toArray) (hn : cur.length = n) (hl : l.length ≤ n)
    (h : ∀ w', Blk w' g t (Lib.byteCells l ++ cur.drop l.length).toArray → Only (· = g) w w' → K (a.put o.dst (goInt l.length)) w') : if Region.wanted o (yielded ops a.tmps) = true then o.wp Tryz.prog a w K Q else F := by
  obtain ⟨w', hrun, h1, h2⟩ := run_copyB o.type hu hb hn hl
  exact step_val hg (by simp [execOp, ho, resolve, invoke, builtin, hd, hs, hrun]) (h w' h1 h2)
end Go.Proofs.YtpnolgliklmnmaaGreat
