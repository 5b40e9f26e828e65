/- How long an archive is at most (chapter 9). No program in sight. (Several texts in one.) -/
import Derived.Test.YtfiadgdinhmgbaaDoorGAH
import Derived.Test.YtfiadgdinhmgbaaDoorGAE
import Derived.Test.YtfiadgdinhmgbaaDoorGAA
import Derived.Test.YtfiadgdinhmgbaaDoorGAF
/-! A cursor as a state: the plain law of numbers, texts, hashes. -/
namespace Go.Proofs.YtfiadgdinhmgbaaDoor
open Go.RowKit Pl Go.Agg
/-! A cursor as a state: the bytes that are left; none, once something was wrong. -/
def sNum (most : Nat) : Option (List UInt8) → Nat × Option (List UInt8)
  | none => (0, none)
  | some r => match getN most r with
    | none => (0, none)
    | some p => (p.1, some p.2)
def sText (most : Nat) : Option (List UInt8) → List UInt8 × Option (List UInt8)
  | none => ([], none)
  | some r => match getT most r with
    | none => ([], none)
    | some p => (p.1, some p.2)
def sRaw (many : Nat) : Option (List UInt8) → List UInt8 × Option (List UInt8)
  | none => ([], none)
  | some r => if many ≤ r.length then (r.take many, some (r.drop many)) else ([], none)
def sHash (s : Option (List UInt8)) : List UInt8 × Option (List UInt8) := ((sRaw 20 s).1 ++ z20.drop (sRaw 20 s).1.length, (sRaw 20 s).2)
/-- a text with how long it is -/
def encT (l : List UInt8) : List UInt8 := encN l.length ++ l
theorem sNum_enc {most n : Nat} (h : n ≤ 1099511627776) (hm : n ≤ most) (y : List UInt8) : sNum most (some (encN n ++ y)) = (n, some y) := by simp only [sNum, getN_enc h hm]
theorem sNum_some {most n : Nat} {s : Option (List UInt8)} {y : List UInt8} (h : sNum most s = (n, some y)) : s = some (encN n ++ y) ∧ n ≤ most ∧ n ≤ 1099511627776 := by
  cases s with
  | none => simp [sNum] at h
  | some r =>
    simp only [sNum] at h
    cases hg : getN most r with
    | none => rw [hg] at h; simp at h
    | some p =>
      rw [hg] at h
      obtain ⟨n', y'⟩ := p
      simp only [Prod.mk.injEq, Option.some.injEq] at h
      obtain ⟨rfl, rfl⟩ := h
      obtain ⟨h1, h2, h3⟩ := getN_some hg
      exact ⟨by rw [← h1], h2, h3⟩
theorem getT_enc {most : Nat} {l : List UInt8} (h : l.length ≤ most) (h4 : l.length ≤ 1099511627776) (y : List UInt8) : getT most (encT l ++ y) = some (l, y) := by
  unfold getT encT
  rw [List.append_assoc, getN_enc h4 h4]
  simp [h]
theorem getT_some {most : Nat} {l r y : List UInt8} (h : getT most r = some (l, y)) : r = encT l ++ y ∧ l.length ≤ most := by
  unfold getT at h
  split at h
  · cases h
  · rename_i n z hg
    split at h
    · rename_i hc
      obtain ⟨h1, _, _⟩ := getN_some hg
      simp only [Option.some.injEq, Prod.mk.injEq] at h
      obtain ⟨rfl, rfl⟩ := h
      have hl : (z.take n).length = n := by simp; omega
      unfold encT
      rw [hl, List.append_assoc, List.take_append_drop]
      exact ⟨h1, by omega⟩
    · cases h
theorem sText_enc {most : Nat} {l : List UInt8} (h : l.length ≤ most) (h4 : l.length ≤ 1099511627776) (y : List UInt8) : sText most (some (encT l ++ y)) = (l, some y) := by simp only [sText, getT_enc h h4]
theorem sText_some {most : Nat} {s : Option (List UInt8)} {l y : List UInt8} (h : sText most s = (l, some y)) : s = some (encT l ++ y) ∧ l.length ≤ most := by
  cases s with
  | none => simp [sText] at h
  | some r =>
    simp only [sText] at h
    cases hg : getT most r with
    | none => rw [hg] at h; simp at h
    | some p =>
      rw [hg] at h
      obtain ⟨n', y'⟩ := p
      simp only [Prod.mk.injEq, Option.some.injEq] at h
      obtain ⟨rfl, rfl⟩ := h
      obtain ⟨h1, h2⟩ := getT_some hg
      exact ⟨by rw [← h1], h2⟩
theorem sHash_enc {h : List UInt8} (hl : h.length = 20) (y : List UInt8) : sHash (some (h ++ y)) = (h, some y) := by
  have : sRaw 20 (some (h ++ y)) = (h, some y) := by
    simp only [sRaw, List.length_append, hl]
    rw [if_pos (by omega), ← hl, List.take_left, List.drop_left]
  unfold sHash
  rw [this]
  simp [hl, z20]
theorem sHash_some {s : Option (List UInt8)} {h y : List UInt8} (e : sHash s = (h, some y)) : s = some (h ++ y) ∧ h.length = 20 := by
  unfold sHash at e
  cases s with
  | none => simp [sRaw] at e
  | some r =>
    simp only [sRaw] at e
    by_cases hl : 20 ≤ r.length
    · rw [if_pos hl] at e
      simp only [Prod.mk.injEq, Option.some.injEq] at e
      obtain ⟨rfl, rfl⟩ := e
      have : (r.take 20).length = 20 := by simp; omega
      rw [this]
      simp [z20]
      omega
    · rw [if_neg hl] at e
      simp at e
theorem sHash_length (s : Option (List UInt8)) : (sHash s).1.length = 20 := by
  unfold sHash
  cases s with
  | none => simp [sRaw, z20]
  | some r =>
    simp only [sRaw]
    by_cases hl : 20 ≤ r.length
    · rw [if_pos hl]
      simp [z20]; omega
    · rw [if_neg hl]
      simp [z20]
def stLen : Option (List UInt8) → Nat
  | none => 0
  | some r => r.length
theorem sNum_len (most : Nat) (s : Option (List UInt8)) : stLen (sNum most s).2 ≤ stLen s := by
  cases h : (sNum most s).2 with
  | none => simp [stLen]
  | some y =>
    obtain ⟨h1, _⟩ := sNum_some (Prod.ext (rfl : (sNum most s).1 = (sNum most s).1) h)
    rw [h1]
    simp only [stLen, List.length_append]
    omega
theorem sNum_le (most : Nat) (s : Option (List UInt8)) : (sNum most s).1 ≤ most := by
  cases h : (sNum most s).2 with
  | none =>
    cases s with
    | none => simp [sNum]
    | some r =>
      simp only [sNum] at h ⊢
      cases hg : getN most r with
      | none => simp
      | some p => rw [hg] at h; simp at h
  | some y => exact (sNum_some (Prod.ext (rfl : (sNum most s).1 = (sNum most s).1) h)).2.1
theorem sText_len (most : Nat) (s : Option (List UInt8)) : stLen (sText most s).2 ≤ stLen s := by
  cases h : (sText most s).2 with
  | none => simp [stLen]
  | some y =>
    obtain ⟨h1, _⟩ := sText_some (Prod.ext (rfl : (sText most s).1 = (sText most s).1) h)
    rw [h1]
    simp only [stLen, List.length_append]
    omega
theorem sText_le (most : Nat) (s : Option (List UInt8)) : (sText most s).1.length ≤ most := by
  cases h : (sText most s).2 with
  | none =>
    cases s with
    | none => simp [sText]
    | some r =>
      simp only [sText] at h ⊢
      cases hg : getT most r with
      | none => simp
      | some p => rw [hg] at h; simp at h
  | some y => exact (sText_some (Prod.ext (rfl : (sText most s).1 = (sText most s).1) h)).2
theorem sRaw_len (many : Nat) (s : Option (List UInt8)) : stLen (sRaw many s).2 ≤ stLen s := by
  cases s with
  | none => simp [sRaw]
  | some r =>
    simp only [sRaw]
    split <;> simp [stLen]
end Go.Proofs.YtfiadgdinhmgbaaDoor
/-! A tree's archive (chapter 9), as a function; what archives are read to. No program in sight. -/
namespace Go.Tr
open Go.Proofs.YtfiadgdinhmgbaaDoor Go.Agg
mutual
def packB : T → List UInt8
  | .mk k b l => if k = 4 then encN 4 ++ (encN l.length ++ packL l) else encN k.toNat ++ encT b
def packL : List K → List UInt8
  | [] => []
  | (n, t) :: l => encT n ++ (packB t ++ packL l)
end
abbrev S := Option (List UInt8)
/-- the kids that stand there, each behind a name above the last one; what reads a node: from so many nodes left and what is left -/
def opnL (g : Nat → S → Option (T × Nat × S)) : Nat → List UInt8 → Nat → S → Option (List K × Nat × S)
  | 0, _, left, s => some ([], left, s)
  | c + 1, last, left, s => if Op.bytesLess last (sText 24 s).1 then
      match g left (sText 24 s).2 with
      | none => none
      | some (t, left', s2) => match opnL g c (sText 24 s).1 left' s2 with
        | none => none
        | some (l, left'', s3) => some (((sText 24 s).1, t) :: l, left'', s3)
    else none
/-- the node that stands there, as the program reads it -/
def opn : Nat → Nat → Nat → S → Option (T × Nat × S)
  | 0, _, _, _ => none
  | f + 1, d, left, s => if left = 0 ∨ 8 < d then none else
      if (sNum 4 s).1 = 4 then
        match opnL (opn f (d + 1)) (sNum 200 (sNum 4 s).2).1 [] (left - 1) (sNum 200 (sNum 4 s).2).2 with
        | none => none
        | some (l, left', s') => some (.mk 4 [] l, left', s')
      else some (.mk ((sNum 4 s).1 : Int) (sText 2048 (sNum 4 s).2).1 [], left - 1, (sText 2048 (sNum 4 s).2).2)
theorem name_le {n : List UInt8} (h : Pl.isName n = true) : n.length ≤ 24 := by
  simp only [Pl.isName, Bool.and_eq_true, decide_eq_true_eq] at h
  exact h.1.2
theorem less_ne {n : List UInt8} (h : n ≠ []) : Op.bytesLess [] n = true := by
  cases n with
  | nil => exact absurd rfl h
  | cons c n => rfl
/-- what a node is, where it is alone -/
theorem alone_cases {k : Int} {b : List UInt8} {l : List K} (h : alone (.mk k b l) = true) : (k = 4 ∧ b = [] ∧ l.length ≤ 200 ∧ named none l = true) ∨ (k ≠ 4 ∧ 1 ≤ k ∧ k ≤ 3 ∧ b.length ≤ 2048 ∧ l = []) := by
  simp only [alone, Bool.or_eq_true, Bool.and_eq_true, decide_eq_true_eq, List.isEmpty_iff] at h
  rcases h with (⟨⟨h1 | h1, h2⟩, h3⟩ | ⟨⟨⟨h1, h2⟩, h4⟩, h3⟩) | ⟨⟨⟨h1, h2⟩, h3⟩, h4⟩
  · exact .inr ⟨by omega, by omega, by omega, h2, h3⟩
  · exact .inr ⟨by omega, by omega, by omega, h2, h3⟩
  · exact .inr ⟨by omega, by omega, by omega, by omega, h3⟩
  · exact .inl ⟨h1, h2, h3, h4⟩
/-- kids read back, where nodes are -/
theorem opnL_put {g : Nat → S → Option (T × Nat × S)} : ∀ (l : List K) (b : Option (List UInt8)) (left : Nat) (y : List UInt8), named b l = true → countL l ≤ left →
    (∀ x ∈ l, ∀ left y, count x.2 ≤ left → g left (some (packB x.2 ++ y)) = some (x.2, left - count x.2, some y)) →
    opnL g l.length (b.getD []) left (some (packL l ++ y)) = some (l, left - countL l, some y)
  | [], b, left, y, _, _, _ => by simp [opnL, packL, countL]
  | (n, t) :: l, b, left, y, hn, hc, hg => by
    simp only [named, Bool.and_eq_true] at hn
    obtain ⟨⟨h1, h2⟩, h3⟩ := hn
    have hl := name_le h1
    have ht : sText 24 (some (packL ((n, t) :: l) ++ y)) = (n, some (packB t ++ (packL l ++ y))) := by
      rw [packL, List.append_assoc, List.append_assoc]
      exact sText_enc hl (by omega) _
    have hless : Op.bytesLess (b.getD []) n = true := by
      cases b with
      | none => exact less_ne (name_ne h1)
      | some b => exact h2
    simp only [countL] at hc ⊢
    have hg1 := hg (n, t) (by simp) left (packL l ++ y) (by show count t ≤ left; omega)
    have ih := opnL_put l (some n) (left - count t) y h3 (by omega) (fun x hx => hg x (by simp [hx]))
    simp only [List.length_cons, opnL, ht, hless, if_true, hg1]
    rw [show (some n : Option (List UInt8)).getD [] = n from rfl] at ih
    rw [ih]
    simp only [Nat.sub_sub]
/-- an archive is read to its tree -/
theorem opn_put : ∀ (f : Nat) (t : T) (d left : Nat) (y : List UInt8), ok t = true → count t ≤ left → d + deep t ≤ 9 → deep t ≤ f → opn f d left (some (packB t ++ y)) = some (t, left - count t, some y)
  | 0, t, d, left, y, _, _, _, h => by have := deep_pos t; omega
  | f + 1, .mk k b l, d, left, y, hok, hc, hd, hf => by
    have hp := count_pos (.mk k b l)
    have hdp := deep_pos (.mk k b l)
    have ha : alone (.mk k b l) = true := by simp only [ok, Bool.and_eq_true] at hok; exact hok.1
    have hk := kids_ok hok
    rw [show (T.mk k b l).kids = l from rfl] at hk
    unfold opn
    rw [if_neg (by omega)]
    rcases alone_cases ha with ⟨rfl, rfl, h200, hnm⟩ | ⟨h4, h1, h3, h2048, rfl⟩
    · have e1 : sNum 4 (some (packB (.mk 4 [] l) ++ y)) = (4, some (encN l.length ++ (packL l ++ y))) := by
        simp only [packB, if_true, List.append_assoc]
        exact sNum_enc (by omega) (by omega) _
      have e2 : sNum 200 (some (encN l.length ++ (packL l ++ y))) = (l.length, some (packL l ++ y)) := sNum_enc (by omega) h200 _
      simp only [e1, e2, if_true]
      simp only [count, deep] at hc hd hf ⊢
      have := opnL_put (g := opn f (d + 1)) l none (left - 1) y hnm (by omega) (fun x hx left y hcx => opn_put f x.2 (d + 1) left y (okL_mem hk hx) hcx (by have := deepL_mem hx; omega) (by have := deepL_mem hx; omega))
      rw [show (none : Option (List UInt8)).getD [] = [] from rfl] at this
      rw [this]
      simp only [Option.some.injEq, Prod.mk.injEq, true_and, and_true]
      omega
    · have e1 : sNum 4 (some (packB (.mk k b []) ++ y)) = (k.toNat, some (encT b ++ y)) := by
        simp only [packB, if_neg h4, List.append_assoc]
        exact sNum_enc (by omega) (by omega) _
      have e2 : sText 2048 (some (encT b ++ y)) = (b, some y) := sText_enc h2048 (by omega) _
      have hk4 : ¬ k.toNat = 4 := by omega
      simp only [e1, e2, if_neg hk4]
      simp only [count, countL, Option.some.injEq, Prod.mk.injEq, T.mk.injEq, and_true]
      omega
theorem opnL_some {g : Nat → S → Option (T × Nat × S)} (hg : ∀ left s t left' y, g left s = some (t, left', some y) → s = some (packB t ++ y)) (hn : ∀ left, ∀ r, g left none = some r → r.2.2 = none) : ∀ (c : Nat) (last : List UInt8) (left : Nat) (s : S) (l : List K) (left' : Nat) (y : List UInt8), opnL g c last left s = some (l, left', some y) → s = some (packL l ++ y) ∧ l.length = c
  | 0, last, left, s, l, left', y, h => by
    simp only [opnL, Option.some.injEq, Prod.mk.injEq] at h
    obtain ⟨rfl, _, rfl⟩ := h
    exact ⟨rfl, rfl⟩
  | c + 1, last, left, s, l, left', y, h => by
    simp only [opnL] at h
    split at h
    · split at h
      · cases h
      · rename_i t left2 s2 hgt
        split at h
        · cases h
        · rename_i l2 left3 s3 hl2
          simp only [Option.some.injEq, Prod.mk.injEq] at h
          obtain ⟨rfl, _, rfl⟩ := h
          obtain ⟨h1, h2⟩ := opnL_some hg hn c _ _ _ _ _ _ hl2
          subst h1
          have h3 := hg _ _ _ _ _ hgt
          have h4 := sText_some (most := 24) (s := s) (l := (sText 24 s).1) (y := packB t ++ (packL l2 ++ y)) (by rw [← h3])
          refine ⟨h4.1.trans ?_, by simp [h2]⟩
          rw [packL, List.append_assoc, List.append_assoc]
    · cases h
theorem opnL_none {g : Nat → S → Option (T × Nat × S)} (hn : ∀ left, ∀ r, g left none = some r → r.2.2 = none) : ∀ (c : Nat) (last : List UInt8) (left : Nat) (r : List K × Nat × S), opnL g c last left none = some r → r.2.2 = none
  | 0, last, left, r, h => by
    simp only [opnL, Option.some.injEq] at h
    rw [← h]
  | c + 1, last, left, r, h => by
    simp only [opnL] at h
    split at h
    · split at h
      · cases h
      · rename_i t left2 s2 hgt
        have h2 : s2 = none := hn left _ hgt
        subst h2
        split at h
        · cases h
        · rename_i l2 left3 s3 hl2
          have h3 : s3 = none := opnL_none hn c _ _ _ hl2
          subst h3
          rw [← Option.some.inj h]
    · cases h
theorem opn_none : ∀ (f d left : Nat) (r : T × Nat × S), opn f d left none = some r → r.2.2 = none
  | 0, d, left, r, h => by simp [opn] at h
  | f + 1, d, left, r, h => by
    have e1 : sNum 4 none = (0, none) := rfl
    have e2 : (sText 2048 none).2 = none := rfl
    simp only [opn, e1, e2] at h
    split at h
    · cases h
    · simp only [show ¬ (0 : Nat) = 4 by omega, if_false] at h
      rw [← Option.some.inj h]
/-- what is read is an archive of what it is read to -/
theorem opn_some : ∀ (f d left : Nat) (s : S) (t : T) (left' : Nat) (y : List UInt8), opn f d left s = some (t, left', some y) → s = some (packB t ++ y)
  | 0, d, left, s, t, left', y, h => by simp [opn] at h
  | f + 1, d, left, s, t, left', y, h => by
    simp only [opn] at h
    split at h
    · cases h
    · obtain ⟨k, s1, hk⟩ : ∃ k s1, sNum 4 s = (k, s1) := ⟨_, _, rfl⟩
      rw [hk] at h
      split at h
      · rename_i h4
        have h4 : k = 4 := h4
        subst h4
        obtain ⟨c, s2, hc⟩ : ∃ c s2, sNum 200 s1 = (c, s2) := ⟨_, _, rfl⟩
        simp only [hc] at h
        split at h
        · cases h
        · rename_i l left2 s3 hl
          simp only [Option.some.injEq, Prod.mk.injEq] at h
          obtain ⟨rfl, _, rfl⟩ := h
          obtain ⟨h1, h2⟩ := opnL_some (fun left s t left' y => opn_some f (d + 1) left s t left' y) (fun left r => opn_none f (d + 1) left r) c _ _ _ _ _ _ hl
          subst h1
          obtain ⟨h3, _, _⟩ := sNum_some hc
          subst h3
          obtain ⟨h5, _, _⟩ := sNum_some hk
          rw [h5]
          simp only [packB, if_true, List.append_assoc, h2]
      · rename_i h4
        simp only [Option.some.injEq, Prod.mk.injEq] at h
        obtain ⟨rfl, _, h6⟩ := h
        obtain ⟨b, s2, hb⟩ : ∃ b s2, sText 2048 s1 = (b, s2) := ⟨_, _, rfl⟩
        simp only [hb] at h6 ⊢
        subst h6
        obtain ⟨h3, _⟩ := sText_some hb
        subst h3
        obtain ⟨h5, _, _⟩ := sNum_some hk
        have h4 : ¬ k = 4 := h4
        have hk4 : ¬ (k : Int) = 4 := by omega
        rw [h5]
        simp only [packB, if_neg hk4, List.append_assoc, Int.toNat_natCast]
/-- the tree of an archive -/
def openT (b : List UInt8) : Option T := match opn 9 1 200 (some b) with
  | some (t, _, some []) => if right t then some t else none
  | _ => none
/-- .. is the right tree whose archive it is -/
theorem openT_iff (b : List UInt8) (t : T) : openT b = some t ↔ right t = true ∧ packB t = b := by
  constructor
  · intro h
    unfold openT at h
    split at h
    · rename_i t' left' ho
      split at h
      · rename_i hr
        obtain rfl := Option.some.inj h
        have := opn_some _ _ _ _ _ _ _ ho
        simp only [List.append_nil, Option.some.injEq] at this
        exact ⟨hr, this.symm⟩
      · cases h
    · cases h
  · rintro ⟨hr, rfl⟩
    have hr' := hr
    simp only [right, lookB, Bool.and_eq_true, decide_eq_true_eq] at hr'
    have := opn_put 9 t 1 200 [] hr'.1.1 (by omega) (by omega) (by omega)
    rw [List.append_nil] at this
    unfold openT
    rw [this]
    simp only [if_pos hr]
theorem packB_inj {t u : T} (ht : right t = true) (hu : right u = true) (h : packB t = packB u) : t = u := by
  have h1 := (openT_iff (packB t) t).2 ⟨ht, rfl⟩
  have h2 := (openT_iff (packB t) u).2 ⟨hu, h.symm⟩
  rw [h1] at h2
  exact Option.some.inj h2
end Go.Tr
/-! Archives, as chapter 9 asks: what Pack and Open answer; a byte less, or more; an archive within another one. No program in sight. -/
namespace Go.Tr
open Go.Proofs.YtfiadgdinhmgbaaDoor Go.Agg
def zT : T := .mk 0 [] []
/-- pack.Pack: the error, the bytes -/
def pkE (t : T) : Nat := if right t then (if (packB t).length ≤ 4096 then 0 else 3) else 2
def pkB (t : T) : List UInt8 := if pkE t = 0 then packB t else []
/-- pack.Size -/
def pkN (t : T) : Nat := if right t then (packB t).length else 0
/-- pack.Open: the error, the tree -/
def opE (b : List UInt8) : Nat := if b.length ≤ 4096 then (if (openT b).isSome then 0 else 4) else 3
def opT (b : List UInt8) : T := if opE b = 0 then (openT b).getD zT else zT
theorem pkE_zero {t : T} : pkE t = 0 ↔ right t = true ∧ (packB t).length ≤ 4096 := by
  unfold pkE
  by_cases h : right t = true
  · rw [if_pos h]
    by_cases hl : (packB t).length ≤ 4096
    · rw [if_pos hl]; exact ⟨fun _ => ⟨h, hl⟩, fun _ => rfl⟩
    · rw [if_neg hl]; exact ⟨fun e => (by cases e), fun e => absurd e.2 hl⟩
  · rw [if_neg h]; exact ⟨fun e => (by cases e), fun e => absurd e.1 h⟩
theorem pkE_size {t : T} : decide (pkE t = 0) = (right t && decide (pkN t ≤ 4096)) := by
  rw [Bool.eq_iff_iff, decide_eq_true_iff, pkE_zero, Bool.and_eq_true, decide_eq_true_iff]
  constructor
  · rintro ⟨h, hl⟩; exact ⟨h, by rw [pkN, if_pos h]; exact hl⟩
  · rintro ⟨h, hl⟩; exact ⟨h, by rw [pkN, if_pos h] at hl; exact hl⟩
theorem opE_zero {b : List UInt8} (h : opE b = 0) : b.length ≤ 4096 ∧ openT b = some (opT b) := by
  have h0 := h
  unfold opE at h
  split at h
  · next hl =>
    split at h
    · next hs =>
      obtain ⟨t, ht⟩ := Option.isSome_iff_exists.1 hs
      refine ⟨hl, ?_⟩
      rw [opT, if_pos h0, ht]; rfl
    · cases h
  · cases h
theorem opE_of {b : List UInt8} {t : T} (hl : b.length ≤ 4096) (h : openT b = some t) : opE b = 0 ∧ opT b = t := by
  have e : opE b = 0 := by simp [opE, hl, h]
  exact ⟨e, by rw [opT, if_pos e, h]; rfl⟩
theorem opT_not {b : List UInt8} (h : opE b ≠ 0) : opT b = zT := by rw [opT, if_neg h]
theorem open_pack {t : T} (h : right t = true) : openT (packB t) = some t := (openT_iff _ _).2 ⟨h, rfl⟩
/-- with more behind: none -/
theorem open_more {t : T} {y : List UInt8} (h : right t = true) (hy : y ≠ []) : openT (packB t ++ y) = none := by
  have hr' := h
  simp only [right, lookB, Bool.and_eq_true, decide_eq_true_eq] at hr'
  have := opn_put 9 t 1 200 y hr'.1.1 (by omega) (by omega) (by omega)
  unfold openT
  rw [this]
  cases y with
  | nil => exact absurd rfl hy
  | cons c y => rfl
theorem encN_ne (n : Nat) : encN n ≠ [] := by
  unfold encN
  split <;> simp
theorem packB_ne (t : T) : packB t ≠ [] := by
  obtain ⟨k, b, l⟩ := t
  unfold packB
  split
  · intro h; exact encN_ne _ (List.append_eq_nil_iff.1 h).1
  · intro h; exact encN_ne _ (List.append_eq_nil_iff.1 h).1
/-- with a byte less: none -/
theorem open_less {t : T} (h : right t = true) : openT ((packB t).take ((packB t).length - 1)) = none := by
  have hd : (packB t).take ((packB t).length - 1) ++ [(packB t).getLast (packB_ne t)] = packB t := by
    rw [← List.dropLast_eq_take]; exact List.dropLast_concat_getLast _
  cases ho : openT ((packB t).take ((packB t).length - 1)) with
  | none => rfl
  | some u =>
    obtain ⟨h1, h2⟩ := (openT_iff _ _).1 ho
    have := open_more h1 (y := [(packB t).getLast (packB_ne t)]) (by simp)
    rw [h2, hd, open_pack h] at this
    cases this
/-- PackBack: a tree's archive -/
theorem back_pack {t u : T} (h : pkE t = 0) : opE (pkB t) = 0 ∧ opT (pkB t) = t ∧ (pkB t).length = pkN t ∧ opE ((pkB t).take ((pkB t).length - 1)) = 4 ∧ (∀ c, opE (pkB t ++ [c]) ≠ 0) ∧ (pkE u = 0 → (decide (pkB t = pkB u) = same t u)) := by
  obtain ⟨hr, hl⟩ := pkE_zero.1 h
  have e : pkB t = packB t := by rw [pkB, if_pos h]
  rw [e]
  obtain ⟨g1, g2⟩ := opE_of hl (open_pack hr)
  refine ⟨g1, g2, by rw [pkN, if_pos hr], ?_, fun c hc => ?_, fun hu => ?_⟩
  · rw [opE, if_pos (by rw [List.length_take]; omega), open_less hr]; rfl
  · have := (opE_zero hc).2
    rw [open_more hr (by simp)] at this
    cases this
  · obtain ⟨ur, ul⟩ := pkE_zero.1 hu
    rw [pkB, if_pos hu, Bool.eq_iff_iff, decide_eq_true_iff, same_iff]
    exact ⟨fun e => packB_inj hr ur e, fun e => by rw [e]⟩
/-- PackBack: bytes that are opened -/
theorem back_open {b : List UInt8} (h : opE b = 0) : pkE (opT b) = 0 ∧ right (opT b) = true ∧ pkB (opT b) = b := by
  obtain ⟨hl, ho⟩ := opE_zero h
  obtain ⟨h1, h2⟩ := (openT_iff _ _).1 ho
  have e : pkE (opT b) = 0 := pkE_zero.2 ⟨h1, by rw [h2]; exact hl⟩
  exact ⟨e, h1, by rw [pkB, if_pos e, h2]⟩
theorem packL_in : ∀ {l : List K} {x : K}, x ∈ l → packB x.2 <:+: packL l
  | y :: l, x, h => by
    rw [packL]
    rcases List.mem_cons.1 h with rfl | h
    · exact ⟨encT x.1, packL l, by simp⟩
    · obtain ⟨a, c, e⟩ := packL_in h
      exact ⟨encT y.1 ++ (packB y.2 ++ a), c, by rw [← e]; simp⟩
theorem place_kid {l : List K} {n : List UInt8} {x : T} (h : place l n = some x) : ∃ k ∈ l, k.2 = x := by
  simp only [place, Option.map_eq_some_iff] at h
  obtain ⟨k, hk, e⟩ := h
  exact ⟨k, List.mem_of_find?_eq_some hk, e⟩
/-- PackParts: an archive within that of the tree -/
theorem pack_within : ∀ (ns : List (List UInt8)) (t x : T), ok t = true → find t ns = some x → packB x <:+: packB t
  | [], t, x, _, h => by
    simp only [find] at h
    cases h
    exact List.infix_refl _
  | n :: ns, .mk k b l, x, hok, h => by
    simp only [find] at h
    split at h
    · cases h
    · next y hy =>
      obtain ⟨q, hq, e⟩ := place_kid hy
      have hk := kids_ok hok
      have hoy : ok y = true := e ▸ okL_mem hk hq
      have ih := pack_within ns y x hoy h
      have ha : alone (.mk k b l) = true := by simp only [ok, Bool.and_eq_true] at hok; exact hok.1
      rw [show (T.mk k b l).kids = l from rfl] at hq
      rcases alone_cases ha with ⟨rfl, rfl, _, _⟩ | ⟨_, _, _, _, rfl⟩
      · have h2 := packL_in hq
        rw [e] at h2
        refine ih.trans (h2.trans ?_)
        rw [packB, if_pos rfl]
        exact ⟨encN 4 ++ encN l.length, [], by simp⟩
      · cases hq
/-- PackParts: what is found is opened from its own archive, which stands within -/
theorem parts {b : List UInt8} {ns : List (List UInt8)} {x : T} (h : opE b = 0) (hf : find (opT b) ns = some x) : opE (packB x) = 0 ∧ opT (packB x) = x ∧ packB x <:+: b := by
  obtain ⟨hl, ho⟩ := opE_zero h
  obtain ⟨h1, h2⟩ := (openT_iff _ _).1 ho
  have hok : ok (opT b) = true := by
    have h1' := h1
    simp only [right, lookB, Bool.and_eq_true] at h1'
    exact h1'.1.1
  have hin := pack_within ns _ _ hok hf
  rw [h2] at hin
  have hlen := hin.length_le
  obtain ⟨g1, g2⟩ := opE_of (b := packB x) (by omega) (open_pack (find_right h1 hf))
  exact ⟨g1, g2, hin⟩
end Go.Tr
/-! How long an archive is at most (chapter 9). No program in sight. -/
namespace Go.Tr
open Go.Proofs.YtfiadgdinhmgbaaDoor Go.Agg
theorem isName_len {n : List UInt8} (h : Pl.isName n = true) : n.length ≤ 24 := name_le h
mutual
theorem packB_len : ∀ (t : T), ok t = true → (packB t).length + 40 ≤ 2150 * count t
  | .mk k b l, h => by
    have ha : alone (.mk k b l) = true := by simp only [ok, Bool.and_eq_true] at h; exact h.1
    have hk := kids_ok h
    rw [show (T.mk k b l).kids = l from rfl] at hk
    rcases alone_cases ha with ⟨rfl, rfl, h200, hnm⟩ | ⟨h4, h1, h3, h2048, rfl⟩
    · have ih := packL_len l none hk hnm
      have e1 := encN_len (n := 4) (by omega)
      have e2 := encN_len (n := l.length) (by omega)
      simp only [packB, if_true, List.length_append, count]
      omega
    · have e1 := encN_len (n := k.toNat) (by omega)
      have e2 := encN_len (n := b.length) (by omega)
      simp only [packB, if_neg h4, encT, List.length_append, count, countL]
      omega
theorem packL_len : ∀ (l : List K) (b : Option (List UInt8)), okL l = true → named b l = true → (packL l).length ≤ 2150 * countL l
  | [], _, _, _ => by simp [packL]
  | (n, t) :: l, b, h, hn => by
    simp only [okL, Bool.and_eq_true] at h
    simp only [named, Bool.and_eq_true] at hn
    have h1 := packB_len t h.1
    have h2 := packL_len l (some n) h.2 hn.2
    have h3 := name_le hn.1.1
    have e1 := encN_len (n := n.length) (by omega)
    simp only [packL, encT, List.length_append, countL]
    omega
end
theorem right_pack {t : T} (h : right t = true) : (packB t).length ≤ 430000 := by
  simp only [right, lookB, Bool.and_eq_true, decide_eq_true_eq] at h
  have := packB_len t h.1.1
  omega
/-- what was put of the kids, so many of them -/
theorem packL_take {l : List K} {k : Nat} {x : K} (h : l[k]? = some x) : packL (l.take (k + 1)) = packL (l.take k) ++ (encT x.1 ++ packB x.2) := by
  rw [take_succ' h]
  generalize l.take k = m
  induction m with
  | nil => obtain ⟨n, t⟩ := x; simp [packL]
  | cons y m ih => obtain ⟨n, t⟩ := y; simp only [List.cons_append, packL, ih, List.append_assoc]
end Go.Tr
