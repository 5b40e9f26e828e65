/- spenceref03.Name. (Several texts in one.) -/
import Derived.Test.YtpnolgliklmnmaaGreatGAI
import Derived.Test.YtpnolgliklmnmaaGreatGAK
import Derived.Test.YtpnolgliklmnmaaGreatGAG
import Derived.Test.YtpnolgliklmnmaaGreatGAH
/-! Requests as bytes: the plain law. -/
namespace Go.Proofs.YtpnolgliklmnmaaGreat
open Go.RowKit Pl Go.Agg
/-! A cursor as a state: the bytes that are left; none, once something was wrong. -/
def sNum (most : Nat) : Option (List UInt8) → Nat × Option (List UInt8)
  | none => (0, none)
  | some r => match getN most r with
    | none => (0, none)
    | some p => (p.1, some p.2)
def sText (most : Nat) : Option (List UInt8) → List UInt8 × Option (List UInt8)
  | none => ([], none)
  | some r => match getT most r with
    | none => ([], none)
    | some p => (p.1, some p.2)
def sRaw (many : Nat) : Option (List UInt8) → List UInt8 × Option (List UInt8)
  | none => ([], none)
  | some r => if many ≤ r.length then (r.take many, some (r.drop many)) else ([], none)
def sHash (s : Option (List UInt8)) : List UInt8 × Option (List UInt8) := ((sRaw 20 s).1 ++ z20.drop (sRaw 20 s).1.length, (sRaw 20 s).2)
/-- a text with how long it is -/
def encT (l : List UInt8) : List UInt8 := encN l.length ++ l
theorem sNum_enc {most n : Nat} (h : n ≤ 1099511627776) (hm : n ≤ most) (y : List UInt8) : sNum most (some (encN n ++ y)) = (n, some y) := by simp only [sNum, getN_enc h hm]
theorem sNum_some {most n : Nat} {s : Option (List UInt8)} {y : List UInt8} (h : sNum most s = (n, some y)) : s = some (encN n ++ y) ∧ n ≤ most ∧ n ≤ 1099511627776 := by
  cases s with
  | none => simp [sNum] at h
  | some r =>
    simp only [sNum] at h
    cases hg : getN most r with
    | none => rw [hg] at h; simp at h
    | some p =>
      rw [hg] at h
      obtain ⟨n', y'⟩ := p
      simp only [Prod.mk.injEq, Option.some.injEq] at h
      obtain ⟨rfl, rfl⟩ := h
      obtain ⟨h1, h2, h3⟩ := getN_some hg
      exact ⟨by rw [← h1], h2, h3⟩
theorem getT_enc {most : Nat} {l : List UInt8} (h : l.length ≤ most) (h4 : l.length ≤ 1099511627776) (y : List UInt8) : getT most (encT l ++ y) = some (l, y) := by
  unfold getT encT
  rw [List.append_assoc, getN_enc h4 h4]
  simp [h]
theorem getT_some {most : Nat} {l r y : List UInt8} (h : getT most r = some (l, y)) : r = encT l ++ y ∧ l.length ≤ most := by
  unfold getT at h
  split at h
  · cases h
  · rename_i n z hg
    split at h
    · rename_i hc
      obtain ⟨h1, _, _⟩ := getN_some hg
      simp only [Option.some.injEq, Prod.mk.injEq] at h
      obtain ⟨rfl, rfl⟩ := h
      have hl : (z.take n).length = n := by simp; omega
      unfold encT
      rw [hl, List.append_assoc, List.take_append_drop]
      exact ⟨h1, by omega⟩
    · cases h
theorem sText_enc {most : Nat} {l : List UInt8} (h : l.length ≤ most) (h4 : l.length ≤ 1099511627776) (y : List UInt8) : sText most (some (encT l ++ y)) = (l, some y) := by simp only [sText, getT_enc h h4]
theorem sText_some {most : Nat} {s : Option (List UInt8)} {l y : List UInt8} (h : sText most s = (l, some y)) : s = some (encT l ++ y) ∧ l.length ≤ most := by
  cases s with
  | none => simp [sText] at h
  | some r =>
    simp only [sText] at h
    cases hg : getT most r with
    | none => rw [hg] at h; simp at h
    | some p =>
      rw [hg] at h
      obtain ⟨n', y'⟩ := p
      simp only [Prod.mk.injEq, Option.some.injEq] at h
      obtain ⟨rfl, rfl⟩ := h
      obtain ⟨h1, h2⟩ := getT_some hg
      exact ⟨by rw [← h1], h2⟩
theorem sHash_enc {h : List UInt8} (hl : h.length = 20) (y : List UInt8) : sHash (some (h ++ y)) = (h, some y) := by
  have : sRaw 20 (some (h ++ y)) = (h, some y) := by
    simp only [sRaw, List.length_append, hl]
    rw [if_pos (by omega), ← hl, List.take_left, List.drop_left]
  unfold sHash
  rw [this]
  simp [hl, z20]
theorem sHash_some {s : Option (List UInt8)} {h y : List UInt8} (e : sHash s = (h, some y)) : s = some (h ++ y) ∧ h.length = 20 := by
  unfold sHash at e
  cases s with
  | none => simp [sRaw] at e
  | some r =>
    simp only [sRaw] at e
    by_cases hl : 20 ≤ r.length
    · rw [if_pos hl] at e
      simp only [Prod.mk.injEq, Option.some.injEq] at e
      obtain ⟨rfl, rfl⟩ := e
      have : (r.take 20).length = 20 := by simp; omega
      rw [this]
      simp [z20]
      omega
    · rw [if_neg hl] at e
      simp at e
theorem sHash_length (s : Option (List UInt8)) : (sHash s).1.length = 20 := by
  unfold sHash
  cases s with
  | none => simp [sRaw, z20]
  | some r =>
    simp only [sRaw]
    by_cases hl : 20 ≤ r.length
    · rw [if_pos hl]
      simp [z20]; omega
    · rw [if_neg hl]
      simp [z20]
def stLen : Option (List UInt8) → Nat
  | none => 0
  | some r => r.length
theorem sNum_len (most : Nat) (s : Option (List UInt8)) : stLen (sNum most s).2 ≤ stLen s := by
  cases h : (sNum most s).2 with
  | none => simp [stLen]
  | some y =>
    obtain ⟨h1, _⟩ := sNum_some (Prod.ext (rfl : (sNum most s).1 = (sNum most s).1) h)
    rw [h1]
    simp only [stLen, List.length_append]
    omega
theorem sText_len (most : Nat) (s : Option (List UInt8)) : stLen (sText most s).2 ≤ stLen s := by
  cases h : (sText most s).2 with
  | none => simp [stLen]
  | some y =>
    obtain ⟨h1, _⟩ := sText_some (Prod.ext (rfl : (sText most s).1 = (sText most s).1) h)
    rw [h1]
    simp only [stLen, List.length_append]
    omega
theorem sText_le (most : Nat) (s : Option (List UInt8)) : (sText most s).1.length ≤ most := by
  cases h : (sText most s).2 with
  | none =>
    cases s with
    | none => simp [sText]
    | some r =>
      simp only [sText] at h ⊢
      cases hg : getT most r with
      | none => simp
      | some p => rw [hg] at h; simp at h
  | some y => exact (sText_some (Prod.ext (rfl : (sText most s).1 = (sText most s).1) h)).2
theorem sRaw_len (many : Nat) (s : Option (List UInt8)) : stLen (sRaw many s).2 ≤ stLen s := by
  cases s with
  | none => simp [sRaw]
  | some r =>
    simp only [sRaw]
    split <;> simp [stLen]
/-! requests -/
structure Rq where
  k : Int
  u : Int
  wh : Int
  nm : List UInt8
  bs : List UInt8
  ph : List UInt8
  pn : List UInt8
  ch : List UInt8
def Rq.zero : Rq := ⟨0, 0, 0, [], [], z20, [], z20⟩
def Rq.right (q : Rq) : Bool := rightN q.k q.u q.wh q.nm q.bs.length q.ph q.pn q.ch
/-- its bytes, of some parts -/
def putP (P : Nat) (q : Rq) : List UInt8 :=
  encN q.k.toNat ++ (encN q.u.toNat ++ ((if hasN P 1 then encN q.wh.toNat else []) ++ ((if hasN P 2 then encT q.nm else []) ++ ((if hasN P 12 then encT (pathS q.ph q.pn) else []) ++ ((if hasN P 16 then q.ch else []) ++ (if hasN P 32 then encT q.bs else []))))))
def putRq (q : Rq) : List UInt8 := putP (partsN q.k) q
def pW (P : Nat) (s : Option (List UInt8)) : Nat × Option (List UInt8) := if hasN P 1 then sNum 16 s else (0, s)
def pN (P : Nat) (s : Option (List UInt8)) : List UInt8 × Option (List UInt8) := if hasN P 2 then sText 24 s else ([], s)
def pT (P : Nat) (s : Option (List UInt8)) : List UInt8 × Option (List UInt8) := if hasN P 12 then sText 57 s else ([], s)
def pH (P : Nat) (s : Option (List UInt8)) : List UInt8 × Option (List UInt8) := if hasN P 16 then sHash s else (z20, s)
def pB (P lim : Nat) (s : Option (List UInt8)) : List UInt8 × Option (List UInt8) := if hasN P 32 then sText lim s else ([], s)
def qK (b : Option (List UInt8)) := sNum 10 b
def qU (b : Option (List UInt8)) := sNum 8 (qK b).2
def qP (b : Option (List UInt8)) : Nat := partsN ((qK b).1 : Int)
def qW (b : Option (List UInt8)) := pW (qP b) (qU b).2
def qN (b : Option (List UInt8)) := pN (qP b) (qW b).2
def qT (b : Option (List UInt8)) := pT (qP b) (qN b).2
def qH (b : Option (List UInt8)) := pH (qP b) (qT b).2
def qB (lim : Int → Nat) (b : Option (List UInt8)) := pB (qP b) (lim ((qK b).1 : Int)) (qH b).2
def qRq (lim : Int → Nat) (b : Option (List UInt8)) : Rq := ⟨((qK b).1 : Int), ((qU b).1 : Int), ((qW b).1 : Int), (qN b).1, (qB lim b).1, parseH (qT b).1, parseN (qT b).1, (qH b).1⟩
def qOdd (b : Option (List UInt8)) : Bool := !((qT b).1 == [] || (parse (qT b).1).isSome)
def getRq (b : List UInt8) : Option Rq := if (qB mostN (some b)).2 = some [] ∧ qOdd (some b) = false ∧ (qRq mostN (some b)).right = true then some (qRq mostN (some b)) else none
theorem pathS_le {n : List UInt8} (h : List UInt8) : (pathS h n).length ≤ 57 := by
  unfold pathS
  split
  · rename_i hn
    have := isName_le hn
    simp [letters_length]
    omega
  · simp
theorem parse_pathS {h n : List UInt8} (hl : h.length = 20) (hn : isName n = true) : parse (pathS h n) = some (h, n) := by
  unfold pathS
  rw [if_pos hn, parse_text hl hn]
theorem pathS_none {h n : List UInt8} (hn : isName n = false) : pathS h n = [] := by
  unfold pathS
  rw [if_neg (by simp [hn])]
theorem parse_nil : parse [] = none := by decide +kernel
theorem isName_nil : isName [] = false := by decide
theorem hasN_zero_of {P c d : Nat} (h : P &&& c = 0) (hd : c &&& d = d) : P &&& d = 0 := by
  rw [← hd, ← Nat.and_assoc, h, Nat.zero_and]
structure RightParts (q : Rq) : Prop where
  k : 1 ≤ q.k ∧ q.k ≤ 10
  u : 1 ≤ q.u ∧ q.u ≤ 8
  wh1 : hasN (partsN q.k) 1 = true → 1 ≤ q.wh ∧ q.wh ≤ 16
  wh0 : hasN (partsN q.k) 1 = false → q.wh = 0
  nm1 : hasN (partsN q.k) 2 = true → isName q.nm = true
  nm0 : hasN (partsN q.k) 2 = false → q.nm = []
  p0 : hasN (partsN q.k) 12 = false → q.ph = z20 ∧ q.pn = []
  p1 : hasN (partsN q.k) 12 = true → isName q.pn = true ∨ q.ph = z20 ∧ q.pn = []
  c0 : hasN (partsN q.k) 16 = false → q.ch = z20
  bs : q.bs.length ≤ mostN q.k
theorem Rq.right_parts {q : Rq} (h : q.right = true) : RightParts q := by
  unfold Rq.right rightN at h
  simp only [Bool.and_eq_true, decide_eq_true_eq, rT, List.all_cons, List.all_nil, Bool.and_true, Bool.not_eq_true', Bool.not_not] at h
  obtain ⟨⟨h1, h2, h3, h4, h5, h6, h7, h8, h9⟩, h10⟩ := h
  refine ⟨by simpa using h1, by simpa using h2, fun e => ?_, fun e => ?_, fun e => ?_, fun e => ?_, fun e => ?_, fun e => ?_, fun e => ?_, h10⟩
  · rw [e] at h3; simpa using h3
  · rw [e] at h4; simpa using h4
  · rw [e] at h5; simpa using h5
  · rw [e] at h6; simpa using h6
  · rw [e] at h7; simpa using h7
  · rw [e] at h8
    simp only [Bool.true_and, Bool.not_eq_false', namedN, Bool.or_eq_true, Bool.and_eq_true, beq_iff_eq] at h8
    rcases h8 with h8 | ⟨_, h8⟩
    · exact .inl h8
    · exact .inr h8
  · rw [e] at h9; simpa using h9
theorem Rq.right_none {q : Rq} (h : q.right = true) (h12 : hasN (partsN q.k) 12 = true) (hn : isName q.pn = false) : hasN (partsN q.k) 8 = true := by
  unfold Rq.right rightN at h
  simp only [Bool.and_eq_true, rT, List.all_cons, List.all_nil, Bool.and_true, Bool.not_eq_true', Bool.not_not] at h
  obtain ⟨⟨h1, h2, h3, h4, h5, h6, h7, h8, h9⟩, h10⟩ := h
  rw [h12] at h8
  simp only [Bool.true_and, Bool.not_eq_false', namedN, hn, Bool.false_or, Bool.and_eq_true] at h8
  exact h8.1
theorem most_none {k : Int} (h : hasN (partsN k) 32 = false) : mostN k = 0 := by
  unfold mostN
  by_cases h2 : k = 2
  · subst h2; exact absurd h (by decide)
  · rw [if_neg h2, h]; rfl
theorem most_le (k : Int) : mostN k ≤ 4096 := by
  unfold mostN
  repeat' split
  all_goals omega
/-- what is put is got, whatever stands behind it -/
theorem parse_put {lim : Int → Nat} {q : Rq} (hr : q.right = true) (hp : q.ph.length = 20) (hc : q.ch.length = 20) (hlim : mostN q.k ≤ lim q.k) (y : List UInt8) :
    qRq lim (some (putRq q ++ y)) = q ∧ (qB lim (some (putRq q ++ y))).2 = some y ∧ qOdd (some (putRq q ++ y)) = false := by
  have R := q.right_parts hr
  obtain ⟨k, u, wh, nm, bs, ph, pn, ch⟩ := q
  obtain ⟨hk, hu, hw1, hw0, hn1, hn0, hp0, hp1, hc0, hbs⟩ := R
  simp only at *
  obtain ⟨k, rfl⟩ : ∃ n : Nat, k = n := ⟨k.toNat, by omega⟩
  obtain ⟨u, rfl⟩ : ∃ n : Nat, u = n := ⟨u.toNat, by omega⟩
  have eK : qK (some (putRq ⟨k, u, wh, nm, bs, ph, pn, ch⟩ ++ y)) = (k, some (encN u ++ ((if hasN (partsN k) 1 then encN wh.toNat else []) ++ ((if hasN (partsN k) 2 then encT nm else []) ++ ((if hasN (partsN k) 12 then encT (pathS ph pn) else []) ++ ((if hasN (partsN k) 16 then ch else []) ++ (if hasN (partsN k) 32 then encT bs else []))))) ++ y)) := by
    unfold qK putRq putP
    simp only [Int.toNat_natCast, List.append_assoc]
    exact sNum_enc (by omega) (by omega) _
  have eP : qP (some (putRq ⟨k, u, wh, nm, bs, ph, pn, ch⟩ ++ y)) = partsN k := by unfold qP; rw [eK]
  obtain ⟨P, hP⟩ : ∃ P, partsN (k : Int) = P := ⟨_, rfl⟩
  rw [hP] at eP eK hw1 hw0 hn1 hn0 hp0 hp1 hc0
  have eU : qU (some (putRq ⟨k, u, wh, nm, bs, ph, pn, ch⟩ ++ y)) = (u, some ((if hasN P 1 then encN wh.toNat else []) ++ ((if hasN P 2 then encT nm else []) ++ ((if hasN P 12 then encT (pathS ph pn) else []) ++ ((if hasN P 16 then ch else []) ++ (if hasN P 32 then encT bs else [])))) ++ y)) := by
    unfold qU
    rw [eK]
    simp only [List.append_assoc]
    exact sNum_enc (by omega) (by omega) _
  have eW : qW (some (putRq ⟨k, u, wh, nm, bs, ph, pn, ch⟩ ++ y)) = (wh.toNat, some ((if hasN P 2 then encT nm else []) ++ ((if hasN P 12 then encT (pathS ph pn) else []) ++ ((if hasN P 16 then ch else []) ++ (if hasN P 32 then encT bs else []))) ++ y)) ∧ (wh.toNat : Int) = wh := by
    unfold qW pW
    rw [eU, eP]
    cases h : hasN P 1 with
    | true =>
      have := hw1 h
      simp only [if_true, List.append_assoc]
      exact ⟨sNum_enc (by omega) (by omega) _, by omega⟩
    | false =>
      have := hw0 h
      subst this
      simp
  have eN : qN (some (putRq ⟨k, u, wh, nm, bs, ph, pn, ch⟩ ++ y)) = (nm, some ((if hasN P 12 then encT (pathS ph pn) else []) ++ ((if hasN P 16 then ch else []) ++ (if hasN P 32 then encT bs else [])) ++ y)) := by
    unfold qN pN
    rw [eW.1, eP]
    cases h : hasN P 2 with
    | true =>
      have := isName_le (hn1 h)
      simp only [if_true, List.append_assoc]
      exact sText_enc (by omega) (by omega) _
    | false =>
      have := hn0 h
      subst this
      simp
  have eT : qT (some (putRq ⟨k, u, wh, nm, bs, ph, pn, ch⟩ ++ y)) = ((if hasN P 12 then pathS ph pn else []), some ((if hasN P 16 then ch else []) ++ (if hasN P 32 then encT bs else []) ++ y)) := by
    unfold qT pT
    rw [eN, eP]
    cases h : hasN P 12 with
    | true =>
      have := pathS_le (n := pn) ph
      simp only [if_true, List.append_assoc]
      exact sText_enc (by omega) (by omega) _
    | false => simp
  have eH : qH (some (putRq ⟨k, u, wh, nm, bs, ph, pn, ch⟩ ++ y)) = (ch, some ((if hasN P 32 then encT bs else []) ++ y)) := by
    unfold qH pH
    rw [eT, eP]
    cases h : hasN P 16 with
    | true =>
      simp only [if_true, List.append_assoc]
      exact sHash_enc hc _
    | false =>
      have := hc0 h
      subst this
      simp
  have eB : qB lim (some (putRq ⟨k, u, wh, nm, bs, ph, pn, ch⟩ ++ y)) = (bs, some y) := by
    unfold qB pB
    rw [eH, eP, eK]
    cases h : hasN P 32 with
    | true =>
      have := most_le (k : Int)
      simp only [if_true]
      exact sText_enc (by omega) (by omega) _
    | false =>
      have := most_none (k := (k : Int)) (by rw [hP]; exact h)
      obtain rfl : bs = [] := List.length_eq_zero_iff.1 (by omega)
      simp
  have eS : parseH (if hasN P 12 then pathS ph pn else []) = ph ∧ parseN (if hasN P 12 then pathS ph pn else []) = pn ∧ (!((if hasN P 12 then pathS ph pn else []) == [] || (parse (if hasN P 12 then pathS ph pn else [])).isSome)) = false := by
    cases h : hasN P 12 with
    | true =>
      simp only [if_true]
      rcases hp1 h with h1 | ⟨rfl, rfl⟩
      · have := parse_pathS hp h1
        simp [parseH, parseN, this]
      · have e : pathS z20 [] = [] := pathS_none isName_nil
        rw [e]
        simp [parseH, parseN, parse_nil]
    | false =>
      obtain ⟨rfl, rfl⟩ := hp0 h
      simp [parseH, parseN, parse_nil]
  refine ⟨?_, by rw [eB], ?_⟩
  · unfold qRq
    rw [eK, eU, eW.1, eN, eT, eH, eB]
    simp only [eS.1, eS.2.1, eW.2]
  · unfold qOdd
    rw [eT]
    exact eS.2.2
theorem get_put {q : Rq} (hr : q.right = true) (hp : q.ph.length = 20) (hc : q.ch.length = 20) : getRq (putRq q) = some q := by
  obtain ⟨h1, h2, h3⟩ := parse_put (lim := mostN) hr hp hc (Nat.le_refl _) []
  rw [List.append_nil] at h1 h2 h3
  unfold getRq
  rw [if_pos ⟨h2, h3, by rw [h1]; exact hr⟩, h1]
theorem get_more {q : Rq} (hr : q.right = true) (hp : q.ph.length = 20) (hc : q.ch.length = 20) {y : List UInt8} (hy : y ≠ []) : getRq (putRq q ++ y) = none := by
  obtain ⟨_, h2, _⟩ := parse_put (lim := mostN) hr hp hc (Nat.le_refl _) y
  unfold getRq
  rw [if_neg]
  rintro ⟨h, _⟩
  rw [h2] at h
  exact hy (by simpa using h)
theorem parseH_length (s : List UInt8) : (parseH s).length = 20 := by
  unfold parseH
  cases h : parse s with
  | none => rfl
  | some p => exact (parse_some (h := p.1) (n := p.2) h).2.1
theorem pW_some {P : Nat} {s : Option (List UInt8)} {n : Nat} {y : List UInt8} (h : pW P s = (n, some y)) : s = some ((if hasN P 1 then encN n else []) ++ y) := by
  unfold pW at h
  cases h1 : hasN P 1 with
  | true => rw [h1] at h; simp only [if_true] at h ⊢; exact (sNum_some h).1
  | false => rw [h1] at h; simp only [Bool.false_eq_true, if_false, Prod.mk.injEq] at h ⊢; exact h.2
theorem pN_some {P : Nat} {s : Option (List UInt8)} {n : List UInt8} {y : List UInt8} (h : pN P s = (n, some y)) : s = some ((if hasN P 2 then encT n else []) ++ y) := by
  unfold pN at h
  cases h1 : hasN P 2 with
  | true => rw [h1] at h; simp only [if_true] at h ⊢; exact (sText_some h).1
  | false => rw [h1] at h; simp only [Bool.false_eq_true, if_false, Prod.mk.injEq] at h ⊢; exact h.2
theorem pT_some {P : Nat} {s : Option (List UInt8)} {n : List UInt8} {y : List UInt8} (h : pT P s = (n, some y)) : s = some ((if hasN P 12 then encT n else []) ++ y) := by
  unfold pT at h
  cases h1 : hasN P 12 with
  | true => rw [h1] at h; simp only [if_true] at h ⊢; exact (sText_some h).1
  | false => rw [h1] at h; simp only [Bool.false_eq_true, if_false, Prod.mk.injEq] at h ⊢; exact h.2
theorem pH_some {P : Nat} {s : Option (List UInt8)} {n : List UInt8} {y : List UInt8} (h : pH P s = (n, some y)) : s = some ((if hasN P 16 then n else []) ++ y) := by
  unfold pH at h
  cases h1 : hasN P 16 with
  | true => rw [h1] at h; simp only [if_true] at h ⊢; exact (sHash_some h).1
  | false => rw [h1] at h; simp only [Bool.false_eq_true, if_false, Prod.mk.injEq] at h ⊢; exact h.2
theorem pB_some {P lim : Nat} {s : Option (List UInt8)} {n : List UInt8} {y : List UInt8} (h : pB P lim s = (n, some y)) : s = some ((if hasN P 32 then encT n else []) ++ y) := by
  unfold pB at h
  cases h1 : hasN P 32 with
  | true => rw [h1] at h; simp only [if_true] at h ⊢; exact (sText_some h).1
  | false => rw [h1] at h; simp only [Bool.false_eq_true, if_false, Prod.mk.injEq] at h ⊢; exact h.2
theorem pT_none {P : Nat} {s s' : Option (List UInt8)} {n : List UInt8} (h : pT P s = (n, s')) (h1 : hasN P 12 = false) : n = [] := by
  unfold pT at h
  rw [h1] at h
  simp only [Bool.false_eq_true, if_false, Prod.mk.injEq] at h
  exact h.1.symm
theorem pathS_text {t : List UInt8} (h : (!(t == [] || (parse t).isSome)) = false) : pathS (parseH t) (parseN t) = t := by
  simp only [Bool.not_eq_false', Bool.or_eq_true, beq_iff_eq] at h
  rcases h with rfl | ho
  · simp [parseH, parseN, parse_nil, pathS_none isName_nil]
  · obtain ⟨⟨h', n'⟩, hp⟩ := Option.isSome_iff_exists.1 ho
    obtain ⟨h1, h2, h3⟩ := parse_some hp
    simp only [parseH, parseN, hp, Option.map_some, Option.getD_some]
    unfold pathS
    rw [if_pos h1, h3]
/-- what was read, if all was and a path was one, has just these bytes -/
theorem put_parse {lim : Int → Nat} {b : List UInt8} (he : (qB lim (some b)).2 = some []) (ho : qOdd (some b) = false) : putRq (qRq lim (some b)) = b := by
  obtain ⟨k, s1, h1⟩ : ∃ k s, qK (some b) = (k, s) := ⟨_, _, rfl⟩
  obtain ⟨u, s2, h2⟩ : ∃ k s, qU (some b) = (k, s) := ⟨_, _, rfl⟩
  obtain ⟨wh, s3, h3⟩ : ∃ k s, qW (some b) = (k, s) := ⟨_, _, rfl⟩
  obtain ⟨nm, s4, h4⟩ : ∃ k s, qN (some b) = (k, s) := ⟨_, _, rfl⟩
  obtain ⟨t, s5, h5⟩ : ∃ k s, qT (some b) = (k, s) := ⟨_, _, rfl⟩
  obtain ⟨ch, s6, h6⟩ : ∃ k s, qH (some b) = (k, s) := ⟨_, _, rfl⟩
  obtain ⟨bs, s7, h7⟩ : ∃ k s, qB lim (some b) = (k, s) := ⟨_, _, rfl⟩
  have er : qRq lim (some b) = ⟨k, u, wh, nm, bs, parseH t, parseN t, ch⟩ := by unfold qRq; rw [h1, h2, h3, h4, h5, h6, h7]
  obtain ⟨P, hP⟩ : ∃ P, partsN (k : Int) = P := ⟨_, rfl⟩
  have eP : qP (some b) = P := by unfold qP; rw [h1]; exact hP
  rw [h7] at he
  have he : s7 = some [] := he
  subst he
  have ho : (!(t == [] || (parse t).isSome)) = false := by unfold qOdd at ho; rw [h5] at ho; exact ho
  have g7 : pB P (lim (k : Int)) s6 = (bs, some []) := by unfold qB at h7; rw [eP, h6, h1] at h7; exact h7
  have g6 : pH P s5 = (ch, s6) := by unfold qH at h6; rw [eP, h5] at h6; exact h6
  have g5 : pT P s4 = (t, s5) := by unfold qT at h5; rw [eP, h4] at h5; exact h5
  have g4 : pN P s3 = (nm, s4) := by unfold qN at h4; rw [eP, h3] at h4; exact h4
  have g3 : pW P s2 = (wh, s3) := by unfold qW at h3; rw [eP, h2] at h3; exact h3
  have g2 : sNum 8 s1 = (u, s2) := by unfold qU at h2; rw [h1] at h2; exact h2
  have g1 : sNum 10 (some b) = (k, s1) := h1
  clear h1 h2 h3 h4 h5 h6 h7 eP
  have hpath : (if hasN P 12 then encT (pathS (parseH t) (parseN t)) else []) = (if hasN P 12 then encT t else []) := by rw [pathS_text ho]
  obtain rfl := pB_some g7
  obtain rfl := pH_some g6
  obtain rfl := pT_some g5
  obtain rfl := pN_some g4
  obtain rfl := pW_some g3
  obtain ⟨rfl, _⟩ := sNum_some g2
  have hb := Option.some.inj (sNum_some g1).1
  rw [er]
  unfold putRq putP
  simp only [Int.toNat_natCast, hP]
  rw [hpath]
  rw [List.append_nil] at hb
  exact hb.symm
theorem put_get {b : List UInt8} {q : Rq} (h : getRq b = some q) : q.right = true ∧ putRq q = b ∧ q.ph.length = 20 ∧ q.ch.length = 20 := by
  unfold getRq at h
  split at h
  · rename_i hc
    obtain ⟨h1, h2, h3⟩ := hc
    obtain rfl := Option.some.inj h
    refine ⟨h3, put_parse h1 h2, parseH_length _, ?_⟩
    show (qH (some b)).1.length = 20
    unfold qH pH
    split
    · exact sHash_length _
    · rfl
  · cases h
/-- the document's answer: what is read, if its bytes are just these -/
def getRqD (lim : Int → Nat) (b : List UInt8) : Option Rq := if (qRq lim (some b)).right = true ∧ (qB lim (some b)).2 = some [] ∧ putRq (qRq lim (some b)) = b then some (qRq lim (some b)) else none
theorem qRq_hash (lim : Int → Nat) (b : Option (List UInt8)) : (qRq lim b).ph.length = 20 ∧ (qRq lim b).ch.length = 20 := by
  refine ⟨parseH_length _, ?_⟩
  show (qH b).1.length = 20
  unfold qH pH
  split
  · exact sHash_length _
  · rfl
theorem getRqD_eq {lim : Int → Nat} (hlim : ∀ k, mostN k ≤ lim k) (b : List UInt8) : getRqD lim b = getRq b := by
  cases h : getRq b with
  | some q =>
    obtain ⟨hr, hb, hp, hc⟩ := put_get h
    obtain ⟨h1, h2, _⟩ := parse_put (lim := lim) hr hp hc (hlim _) []
    rw [List.append_nil, hb] at h1 h2
    unfold getRqD
    rw [if_pos ⟨by rw [h1]; exact hr, h2, by rw [h1]; exact hb⟩, h1]
  | none =>
    unfold getRqD
    split
    · rename_i hc
      obtain ⟨h1, _, h3⟩ := hc
      obtain ⟨hp, hcl⟩ := qRq_hash lim (some b)
      have := get_put h1 hp hcl
      rw [h3, h] at this
      cases this
    · rfl
/-- a byte less is none -/
theorem get_less {q : Rq} (hr : q.right = true) (hp : q.ph.length = 20) (hc : q.ch.length = 20) {x y : List UInt8} (hy : y ≠ []) (hx : putRq q = x ++ y) : getRq x = none := by
  cases h : getRq x with
  | none => rfl
  | some p =>
    obtain ⟨hr', hb', hp', hc'⟩ := put_get h
    have := get_more hr' hp' hc' hy
    rw [hb', ← hx, get_put hr hp hc] at this
    cases this
theorem putRq_pos (q : Rq) : putRq q ≠ [] := by
  unfold putRq putP
  intro h
  have h1 := (List.append_eq_nil_iff.1 h).1
  rw [encN] at h1
  split at h1 <;> simp at h1
end Go.Proofs.YtpnolgliklmnmaaGreat
/-! spenceref03: bit, Letters, value, within. -/
namespace Go.Proofs.YtpnolgliklmnmaaGreat
open Go.RowKit Pl
theorem within_any (c lo hi : Int) (w : World) :
    Calls Tryz.prog 94 #[.int .u8 c, .int .u8 lo, .int .u8 hi] w fun e w' => e = .returned (.bool (wi c lo hi)) ∧ w = w' := by
  by_cases h : lo ≤ c
  · go_enter Tryz.func94, Tryz.ntmps94
    go_wp2_with fail
    go_ret
    exact ⟨by simp [wi, h], rfl⟩
  · have hd : decide (lo ≤ c) = false := by simp; omega
    go_enter Tryz.func94, Tryz.ntmps94
    go_wp2_with fail
    go_ret
    exact ⟨by simp [wi, hd], rfl⟩
/-- bit i of a hash, as a number -/
def bitAt (h : List UInt8) (i : Nat) : Nat := num 256 (nats h) / 2 ^ i % 2
theorem bitAt_eq (h : List UInt8) (i : Nat) (hi : i / 8 < h.length) : bitAt h i = (h[i / 8]?.getD 0).toNat / 2 ^ (i % 8) % 2 := by
  have hd := digs_num 256 (nats h) (nats_lt h)
  have hq := digs_getElem? 256 (nats h).length (num 256 (nats h)) (i / 8) (by simpa [nats] using hi)
  rw [hd] at hq
  have hn : (nats h)[i / 8]? = some (h[i / 8]?.getD 0).toNat := by simp [nats, List.getElem?_eq_getElem hi]
  rw [hn] at hq
  have hx := Option.some.inj hq
  unfold bitAt
  have e : num 256 (nats h) / 2 ^ i = num 256 (nats h) / 256 ^ (i / 8) / 2 ^ (i % 8) := by
    rw [pow256, Nat.div_div_eq_div_mul, ← Nat.pow_add, Nat.div_add_mod]
  rw [e, hx]
  generalize num 256 (nats h) / 256 ^ (i / 8) = y
  have hr : i % 8 < 8 := Nat.mod_lt _ (by omega)
  generalize i % 8 = r at hr
  have : r = 0 ∨ r = 1 ∨ r = 2 ∨ r = 3 ∨ r = 4 ∨ r = 5 ∨ r = 6 ∨ r = 7 := by omega
  rcases this with rfl | rfl | rfl | rfl | rfl | rfl | rfl | rfl <;> omega
set_option maxHeartbeats 400000 in
theorem bit_any (h : List UInt8) (hl : h.length = 20) (i : Nat) (hi : i < 160) (w : World) :
    Calls Tryz.prog 155 #[.agg (hC h), .int .i64 (i : Int)] w fun e w' => e = .returned (.int .i64 (bitAt h i : Nat)) ∧ Below w.heap.size w w' := by
  have hc : (w.alloc (.cells (hC h) 25)).cell? ⟨w.heap.size, i / 8, none⟩ = some (.int .u8 ((h[i / 8]?.getD 0).toNat : Int)) := by
    rw [cell_of_row _ _ _ _ _ _ (heap_alloc_new _ _)]
    simp [hC, Lib.byteCells, List.getElem?_eq_getElem (show i / 8 < h.length by omega)]
  have he := bitAt_eq h i (by omega)
  have HE := Lib.hid he
  clear he hl
  have hb := u8_lt (h[i / 8]?.getD 0)
  go_enter Tryz.func155, Tryz.ntmps155
  go_wp2_with fail
  go_ret
  refine ⟨ret_num ?_, (Below.refl _ _).alloc (Nat.le_refl _) _⟩
  rw [HE.out]
  have e : ((h[i / 8]?.getD 0).toNat : Int) / 2 ^ (i % 8) = (((h[i / 8]?.getD 0).toNat / 2 ^ (i % 8) : Nat) : Int) := by simp
  rw [e, Int.tmod_eq_emod_of_nonneg (Int.natCast_nonneg _)]
  simp
/-- a letter's value, or -1 -/
def valI (c : UInt8) : Int := match val c with | some n => (n : Int) | none => -1
theorem value_any (c : UInt8) (w : World) :
    Calls Tryz.prog 158 #[.int .u8 (c.toNat : Int)] w fun e w' => e = .returned (.int .i64 (valI c)) ∧ w = w' := by
  go_enter Tryz.func158, Tryz.ntmps158
  go_wp2_with fail
  go_loop [3] (fun i => ∃ k : Nat, k ≤ 32 ∧ i = .int .i64 k ∧ ∀ j, j < k → letter j ≠ c) (fun i => 32 - (intOf i).toNat)
  case atStart => exact ⟨0, by omega, rfl, by intros; omega⟩
  case round =>
    obtain ⟨k, hk, rfl, hn⟩ := hrel
    have HN := Lib.hid hn
    clear hn
    by_cases hlt : k < 32
    · have hla := letter_at .i64 k hlt
      by_cases hc : letter k = c
      · have hd : ((((letter k).toNat : Int)) == (c.toNat : Int)) = true := by simp [hc]
        go_wp2_with fail
        go_ret
        exact ⟨ret_num (by unfold valI; rw [← hc, val_letter k hlt]), rfl⟩
      · have hd : ((((letter k).toNat : Int)) == (c.toNat : Int)) = false := by
          simp only [beq_eq_false_iff_ne, ne_eq]; intro h; apply hc; exact UInt8.toNat_inj.1 (by omega)
        go_wp2_with fail
        go_round
        case rel => exact ⟨k + 1, by omega, by go_num, fun j hj => by
          rcases Nat.lt_or_ge j k with h | h
          · exact HN.out j h
          · obtain rfl : j = k := by omega
            exact hc⟩
        case measure => simp [intOf]; omega
    · obtain rfl : k = 32 := by omega
      have hnone : val c = none := by
        cases hv : val c with
        | none => rfl
        | some n => exact absurd (letter_val hv) (HN.out n (val_lt hv))
      go_wp2_with fail
      go_ret
      exact ⟨ret_num (by unfold valI; rw [hnone]), rfl⟩
theorem bit_int (h : List UInt8) (hl : h.length = 20) (i : Int) (h0 : 0 ≤ i) (hi : i < 160) (w : World) :
    Calls Tryz.prog 155 #[.agg (hC h), .int .i64 i] w fun e w' => e = .returned (.int .i64 (bitAt h i.toNat : Nat)) ∧ Below w.heap.size w w' := by
  obtain ⟨n, rfl⟩ := Int.eq_ofNat_of_zero_le h0
  exact bit_any h hl n (by omega) w
/-- the higher bits of letter i, from t on -/
def part (h : List UInt8) (i t : Nat) : Nat := num 256 (nats h) / 2 ^ (5 * i + t) % 2 ^ (5 - t)
theorem part_lt (h : List UInt8) (i t : Nat) : part h i t < 32 :=
  Nat.lt_of_lt_of_le (Nat.mod_lt _ (Nat.pow_pos (by omega))) (Nat.pow_le_pow_right (n := 2) (by omega) (by omega : 5 - t ≤ 5))
theorem part_5 (h : List UInt8) (i : Nat) : part h i 5 = 0 := by simp [part, Nat.mod_one]
theorem part_0 (h : List UInt8) (i : Nat) : part h i 0 = num 256 (nats h) / 32 ^ i % 32 := by simp [part, pow32]
theorem part_step (h : List UInt8) (i t : Nat) (ht : t < 5) : part h i t = 2 * part h i (t + 1) + bitAt h (5 * i + t) := by
  unfold part bitAt
  rw [show 5 - t = (5 - (t + 1)) + 1 by omega, Nat.pow_succ', Nat.mod_mul, Nat.div_div_eq_div_mul, ← Nat.pow_succ, show (5 * i + t).succ = 5 * i + (t + 1) by omega]
  omega
theorem bitAt_lt (h : List UInt8) (i : Nat) : bitAt h i < 2 := Nat.mod_lt _ (by omega)
theorem refLetters_step (h : List UInt8) (k : Nat) (hk : k < 32) : ({ data := (List.take k (letters h)).toArray } : ByteArray) ++
    ByteArray.extract ⟨#[48, 49, 50, 51, 52, 53, 54, 55, 56, 57, 97, 98, 99, 100, 102, 103, 104, 105, 106, 107, 108, 109, 110, 112, 113, 114, 115, 118, 119, 120, 121, 122]⟩ (part h k 0) (part h k 0 + 1) = { data := (List.take (k + 1) (letters h)).toArray } := by
  show ({ data := (List.take k (letters h)).toArray } : ByteArray) ++ ByteArray.extract ⟨alpha.toArray⟩ (part h k 0) (part h k 0 + 1) = { data := (List.take (k + 1) (letters h)).toArray }
  have hp := part_lt h k 0
  have hl : k < (letters h).length := by rw [letters_length]; exact hk
  rw [Agg.bytes_extract, Agg.bytes_append, List.take_succ_eq_append_getElem hl]
  congr 3
  have ha : part h k 0 < alpha.length := hp
  rw [List.take_succ_eq_append_getElem ha, List.drop_append_of_le_length (by simp; omega), List.drop_eq_nil_of_le (by simp; omega), List.nil_append]
  congr 1
  have : (letters h)[k]? = some (letter (part h k 0)) := by
    unfold letters
    rw [List.getElem?_map, digs_getElem? _ _ _ _ hk, part_0]; rfl
  rw [List.getElem?_eq_getElem hl] at this
  rw [Option.some.inj this]
  simp [letter, List.getD, List.getElem?_eq_getElem ha]
set_option maxHeartbeats 400000 in
theorem refLetters_any (h : List UInt8) (hl : h.length = 20) (w : World) :
    Calls Tryz.prog 125 #[.agg (hC h)] w fun e w' => e = .returned (.string ⟨(letters h).toArray⟩) ∧ Below w.heap.size w w' := by
  have HL := Lib.hid hl
  clear hl
  go_enter Tryz.func125, Tryz.ntmps125
  go_wp2_with fail
  go_loopw [3, 4] (fun o i wr => ∃ k : Nat, k ≤ 32 ∧ i = .int .i64 k ∧ o = .string ⟨((letters h).take k).toArray⟩ ∧ wr.heap[w.heap.size]? = some (.cells (hC h) 25 (0, 0)) ∧ Below w.heap.size w wr)
    (fun _ i _ => 32 - (intOf i).toNat)
  case atStart => exact ⟨0, by omega, rfl, rfl, heap_alloc_new _ _, (Below.refl _ _).alloc (Nat.le_refl _) _⟩
  case round =>
    obtain ⟨k, hk, rfl, rfl, hb, hw⟩ := hrel
    by_cases hlt : k < 32
    · have hd : decide ((k : Int) < 32) = true := by simp; omega
      go_wp2_with fail
      go_loopw [5, 6] (fun n i wr => ∃ t : Nat, t ≤ 5 ∧ i = .int .i64 ((t : Int) - 1) ∧ n = .int .i64 (part h k t : Nat) ∧ wr.heap[w.heap.size]? = some (.cells (hC h) 25 (0, 0)) ∧ Below w.heap.size w wr)
        (fun _ i _ => (intOf i + 1).toNat)
      case atStart => exact ⟨5, by omega, rfl, by rw [part_5]; rfl, hb, hw⟩
      case round =>
        obtain ⟨t, ht, rfl, rfl, hb, hw⟩ := hrel
        have hp := part_lt h k t
        by_cases h1 : 1 ≤ t
        · go_wp2_with (first | (with_reducible refine wpList_load_row rfl 25 _ rfl w.heap.size rfl 25 (hC h) (0, 0) (.array 20 5) hb Tryz.underlying25 rfl ?hs ?_))
          case hs => rw [hC_size, HL.out]; kernel_rfl
          go_wp2_with fail
          refine (bit_int h HL.out _ (by omega) (by omega) _).mono ?_
          rintro e w' ⟨rfl, hw'⟩
          have hbl := bitAt_lt h (5 * k + (t - 1))
          go_wp2_with fail
          go_roundw
          case rel => exact ⟨t - 1, by omega, by go_num, by rw [part_step h k (t - 1) (by omega), show t - 1 + 1 = t by omega]; go_num, Agg.keep' hw' hb, hw.trans (hw'.mono hw.size)⟩
          case measure => simp [intOf]; omega
        · obtain rfl : t = 0 := by omega
          go_wp2_with fail
          go_roundw
          case rel =>
            refine ⟨k + 1, by omega, by go_num, ?_, hb, hw⟩
            exact congrArg Value.string (refLetters_step h k hlt)
          case measure => simp [intOf]; omega
    · obtain rfl : k = 32 := by omega
      go_wp2_with fail
      go_ret
      exact ⟨by rw [List.take_of_length_le (by rw [letters_length]; omega)]; rfl, hw⟩
end Go.Proofs.YtpnolgliklmnmaaGreat
/-! spenceref03.Name. -/
namespace Go.Proofs.YtpnolgliklmnmaaGreat
open Go.RowKit Pl
/-- the test of spenceref03.Name: not a sign -/
theorem sgn_wi (c : UInt8) : sgn c = (wi c.toNat 97 122 || wi c.toNat 65 90 || wi c.toNat 48 57 || ((c.toNat : Int) == 46) || ((c.toNat : Int) == 95) || ((c.toNat : Int) == 43) || ((c.toNat : Int) == 45)) := by
  have : ∀ n : Nat, n < 256 → sgn (UInt8.ofNat n) = (wi n 97 122 || wi n 65 90 || wi n 48 57 || ((n : Int) == 46) || ((n : Int) == 95) || ((n : Int) == 43) || ((n : Int) == 45)) := by decide +kernel
  have h := this c.toNat c.toNat_lt
  rwa [UInt8.ofNat_toNat] at h
theorem n45 {x : Int} (h : (x != 45) = false) : x = 45 := by simpa using h
set_option maxRecDepth 100000 in
set_option maxHeartbeats 2000000 in
theorem refName_any (s : List UInt8) (hs : s.length ≤ 9223372036854775807) (w : World) :
    Calls Tryz.prog 67 #[.string ⟨s.toArray⟩] w fun e w' => e = .returned (.bool (isName s)) ∧ w = w' := by
  have hsz := Agg.bytes_size s
  have HS := Lib.hid hsz
  have hlen : ∀ w, (Builtin.len_ #[9] 3 #[.string ⟨s.toArray⟩]).run Tryz.prog w = .ok (.int .i64 (s.length : Int)) w := fun w => by rw [run_len_string w 9 3 _ Tryz.underlying9, hsz]; rfl
  clear hsz
  go_enter Tryz.func67, Tryz.ntmps67
  go_wp2_with fail
  go_loop [3] (fun i => ∃ k : Nat, k ≤ s.length ∧ i = .int .i64 k ∧ ∀ j (hj : j < s.length), j < k → sgn s[j] = true) (fun i => s.length - (intOf i).toNat)
  case atStart => exact ⟨0, by omega, rfl, by intros; omega⟩
  case round =>
    obtain ⟨k, hk, rfl, hg⟩ := hrel
    have HG := Lib.hid hg
    clear hg
    by_cases hlt : k < s.length
    · have hix := fun w => Agg.run_index_str (P := Tryz.prog) (k := .i64) (c := s[k]) w Tryz.underlying9 (List.getElem?_eq_getElem hlt)
      have hsg := sgn_wi s[k]
      have HS := Lib.hid hsg
      clear hsg
      generalize hc : s[k] = c at hix HS
      have HC := Lib.hid hc
      clear hc
      go_wp2_with (go_at_call 94; refine (within_any _ _ _ _).mono ?_; rintro e w' ⟨rfl, rfl⟩)
      · have h45 : ((c.toNat : Int) != 45) = true := by assumption
        have hsg : sgn s[k] = false := by rw [HC.out, HS.out]; simp [*]; simpa using h45
        go_ret
        exact ⟨ret_bool (isName_bad s k hlt hsg).symm, rfl⟩
      all_goals
        have hsg : sgn s[k] = true := by rw [HC.out, HS.out]; first | (simp [*]; done) | (have h45 := n45 ‹((c.toNat : Int) != 45) = false›; simp [h45]; done)
        go_round
        case rel => exact ⟨k + 1, by omega, by go_num, fun j hj h => by
          rcases Nat.lt_or_ge j k with h' | h'
          · exact HG.out j hj h'
          · obtain rfl : j = k := by omega
            exact hsg⟩
        case measure => simp [intOf]; omega
    · obtain rfl : k = s.length := by omega
      have hgood := isName_good s (fun j hj => HG.out j hj hj)
      have HI := Lib.hid hgood
      clear hgood
      cases s with
      | nil =>
        simp only [List.length_nil] at hlen
        go_wp2_with fail
        go_ret
        exact ⟨ret_bool (by rw [HI.out]; rfl), rfl⟩
      | cons c l =>
        have hix : ∀ w, (Instr.index 9 (.string ⟨(c :: l).toArray⟩) (.int .i64 0)).run Tryz.prog w = .ok (.int .u8 (c.toNat : Int)) w := fun w => Agg.run_index_str (i := 0) w Tryz.underlying9 rfl
        simp only [List.length_cons] at hlen
        go_wp2_with fail
        all_goals go_ret
        all_goals refine ⟨ret_bool ?_, rfl⟩
        all_goals rw [HI.out]
        · have h24 : (l.length : Int) + 1 ≤ 24 := by assumption
          have e : (((c.toNat : Int)) != 46) = (c != 46) := by
            rw [Bool.eq_iff_iff]; simp only [bne_iff_ne, ne_eq]; rw [← UInt8.toNat_inj]; simp; omega
          simp [e, show l.length + 1 ≤ 24 by omega]
        · have h24 : 24 < (l.length : Int) + 1 := by assumption
          simp [show ¬ l.length + 1 ≤ 24 by omega]
end Go.Proofs.YtpnolgliklmnmaaGreat
