/- 'copy' into a row of the call's own, at elements of many cells. (Several texts in one.) -/
import Derived.Test.YtfiadgdinhmgbaaDoorHAA
import Derived.Test.YtfiadgdinhmgbaaDoorHAH
import Derived.Test.YtfiadgdinhmgbaaDoorHAE
import Derived.Test.YtfiadgdinhmgbaaDoorHAG
import Derived.Test.YtfiadgdinhmgbaaDoorHAB
import Derived.Laws.CopyRow
/-! A tree's archive (chapter 9), as a function; what archives are read to. No program in sight. -/
namespace Go.Tr
open Go.Proofs.YtfiadgdinhmgbaaDoor Go.Agg
mutual
def packB : T → List UInt8
 | .mk k b l => if k = 4 then encN 4 ++ (encN l.length ++ packL l) else encN k.toNat ++ encT b
def packL : List K → List UInt8
 | [] => []
 | (n, t) :: l => encT n ++ (packB t ++ packL l)
end
abbrev S := Option (List UInt8)
def opnL (g : Nat → S → Option (T × Nat × S)) : Nat → List UInt8 → Nat → S → Option (List K × Nat × S)
 | 0, _, left, s => some ([], left, s)
 | c + 1, last, left, s => if Op.bytesLess last (sText 24 s).1 then
   match g left (sText 24 s).2 with
   | none => none
   | some (t, left', s2) => match opnL g c (sText 24 s).1 left' s2 with
    | none => none
    | some (l, left'', s3) => some (((sText 24 s).1, t) :: l, left'', s3)
  else none
def opn : Nat → Nat → Nat → S → Option (T × Nat × S)
 | 0, _, _, _ => none
 | f + 1, d, left, s => if left = 0 ∨ 8 < d then none else
   if (sNum 4 s).1 = 4 then
    match opnL (opn f (d + 1)) (sNum 200 (sNum 4 s).2).1 [] (left - 1) (sNum 200 (sNum 4 s).2).2 with
    | none => none
    | some (l, left', s') => some (.mk 4 [] l, left', s')
   else some (.mk ((sNum 4 s).1 : Int) (sText 2048 (sNum 4 s).2).1 [], left - 1, (sText 2048 (sNum 4 s).2).2)
theorem name_le {n : List UInt8} (h : Pl.isName n = true) : n.length ≤ 24 := by
 simp only [Pl.isName, Bool.and_eq_true, decide_eq_true_eq] at h
 exact h.1.2
theorem less_ne {n : List UInt8} (h : n ≠ []) : Op.bytesLess [] n = true := by
 cases n with
 | nil => exact absurd rfl h
 | cons c n => rfl
theorem alone_cases {k : Int} {b : List UInt8} {l : List K} (h : alone (.mk k b l) = true) : (k = 4 ∧ b = [] ∧ l.length ≤ 200 ∧ named none l = true) ∨ (k ≠ 4 ∧ 1 ≤ k ∧ k ≤ 3 ∧ b.length ≤ 2048 ∧ l = []) := by
 simp only [alone, Bool.or_eq_true, Bool.and_eq_true, decide_eq_true_eq, List.isEmpty_iff] at h
 rcases h with (⟨⟨h1 | h1, h2⟩, h3⟩ | ⟨⟨⟨h1, h2⟩, h4⟩, h3⟩) | ⟨⟨⟨h1, h2⟩, h3⟩, h4⟩
 ·exact .inr ⟨by omega, by omega, by omega, h2, h3⟩
 ·exact .inr ⟨by omega, by omega, by omega, h2, h3⟩
 ·exact .inr ⟨by omega, by omega, by omega, by omega, h3⟩
 ·exact .inl ⟨h1, h2, h3, h4⟩
theorem opnL_put {g : Nat → S → Option (T × Nat × S)} : ∀ (l : List K) (b : Option (List UInt8)) (left : Nat) (y : List UInt8), named b l = true → countL l ≤ left →
  (∀ x ∈ l, ∀ left y, count x.2 ≤ left → g left (some (packB x.2 ++ y)) = some (x.2, left - count x.2, some y)) →
  opnL g l.length (b.getD []) left (some (packL l ++ y)) = some (l, left - countL l, some y)
 | [], b, left, y, _, _, _ => by simp [opnL, packL, countL]
 | (n, t) :: l, b, left, y, hn, hc, hg => by
  simp only [named, Bool.and_eq_true] at hn
  obtain ⟨⟨h1, h2⟩, h3⟩ := hn
  have hl := name_le h1
  have ht : sText 24 (some (packL ((n, t) :: l) ++ y)) = (n, some (packB t ++ (packL l ++ y))) := by
   rw [packL, List.append_assoc, List.append_assoc]
   exact sText_enc hl (by omega) _
  have hless : Op.bytesLess (b.getD []) n = true := by
   cases b with
   | none => exact less_ne (name_ne h1)
   | some b => exact h2
  simp only [countL] at hc ⊢
  have hg1 := hg (n, t) (by simp) left (packL l ++ y) (by show count t ≤ left; omega)
  have ih := opnL_put l (some n) (left - count t) y h3 (by omega) (fun x hx => hg x (by simp [hx]))
  simp only [List.length_cons, opnL, ht, hless, if_true, hg1]
  rw [show (some n : Option (List UInt8)).getD [] = n from rfl] at ih
  rw [ih]
  simp only [Nat.sub_sub]
theorem opn_put : ∀ (f : Nat) (t : T) (d left : Nat) (y : List UInt8), ok t = true → count t ≤ left → d + deep t ≤ 9 → deep t ≤ f → opn f d left (some (packB t ++ y)) = some (t, left - count t, some y)
 | 0, t, d, left, y, _, _, _, h => by have := deep_pos t; omega
 | f + 1, .mk k b l, d, left, y, hok, hc, hd, hf => by
  have hp := count_pos (.mk k b l)
  have hdp := deep_pos (.mk k b l)
  have ha : alone (.mk k b l) = true := by simp only [ok, Bool.and_eq_true] at hok; exact hok.1
  have hk := kids_ok hok
  rw [show (T.mk k b l).kids = l from rfl] at hk
  unfold opn
  rw [if_neg (by omega)]
  rcases alone_cases ha with ⟨rfl, rfl, h200, hnm⟩ | ⟨h4, h1, h3, h2048, rfl⟩
  ·have e1 : sNum 4 (some (packB (.mk 4 [] l) ++ y)) = (4, some (encN l.length ++ (packL l ++ y))) := by
    simp only [packB, if_true, List.append_assoc]
    exact sNum_enc (by omega) (by omega) _
   have e2 : sNum 200 (some (encN l.length ++ (packL l ++ y))) = (l.length, some (packL l ++ y)) := sNum_enc (by omega) h200 _
   simp only [e1, e2, if_true]
   simp only [count, deep] at hc hd hf ⊢
   have := opnL_put (g := opn f (d + 1)) l none (left - 1) y hnm (by omega) (fun x hx left y hcx => opn_put f x.2 (d + 1) left y (okL_mem hk hx) hcx (by have := deepL_mem hx; omega) (by have := deepL_mem hx; omega))
   rw [show (none : Option (List UInt8)).getD [] = [] from rfl] at this
   rw [this]
   simp only [Option.some.injEq, Prod.mk.injEq, true_and, and_true]
   omega
  ·have e1 : sNum 4 (some (packB (.mk k b []) ++ y)) = (k.toNat, some (encT b ++ y)) := by
    simp only [packB, if_neg h4, List.append_assoc]
    exact sNum_enc (by omega) (by omega) _
   have e2 : sText 2048 (some (encT b ++ y)) = (b, some y) := sText_enc h2048 (by omega) _
   have hk4 : ¬ k.toNat = 4 := by omega
   simp only [e1, e2, if_neg hk4]
   simp only [count, countL, Option.some.injEq, Prod.mk.injEq, T.mk.injEq, and_true]
   omega
theorem opnL_some {g : Nat → S → Option (T × Nat × S)} (hg : ∀ left s t left' y, g left s = some (t, left', some y) → s = some (packB t ++ y)) (hn : ∀ left, ∀ r, g left none = some r → r.2.2 = none) : ∀ (c : Nat) (last : List UInt8) (left : Nat) (s : S) (l : List K) (left' : Nat) (y : List UInt8), opnL g c last left s = some (l, left', some y) → s = some (packL l ++ y) ∧ l.length = c
 | 0, last, left, s, l, left', y, h => by
  simp only [opnL, Option.some.injEq, Prod.mk.injEq] at h
  obtain ⟨rfl, _, rfl⟩ := h
  exact ⟨rfl, rfl⟩
 | c + 1, last, left, s, l, left', y, h => by
  simp only [opnL] at h
  split at h
  ·split at h
   ·cases h
   ·rename_i t left2 s2 hgt
    split at h
    ·cases h
    ·rename_i l2 left3 s3 hl2
     simp only [Option.some.injEq, Prod.mk.injEq] at h
     obtain ⟨rfl, _, rfl⟩ := h
     obtain ⟨h1, h2⟩ := opnL_some hg hn c _ _ _ _ _ _ hl2
     subst h1
     have h3 := hg _ _ _ _ _ hgt
     have h4 := sText_some (most := 24) (s := s) (l := (sText 24 s).1) (y := packB t ++ (packL l2 ++ y)) (by rw [← h3])
     refine ⟨h4.1.trans ?_, by simp [h2]⟩
     rw [packL, List.append_assoc, List.append_assoc]
  ·cases h
theorem opnL_none {g : Nat → S → Option (T × Nat × S)} (hn : ∀ left, ∀ r, g left none = some r → r.2.2 = none) : ∀ (c : Nat) (last : List UInt8) (left : Nat) (r : List K × Nat × S), opnL g c last left none = some r → r.2.2 = none
 | 0, last, left, r, h => by
  simp only [opnL, Option.some.injEq] at h
  rw [← h]
 | c + 1, last, left, r, h => by
  simp only [opnL] at h
  split at h
  ·split at h
   ·cases h
   ·rename_i t left2 s2 hgt
    have h2 : s2 = none := hn left _ hgt
    subst h2
    split at h
    ·cases h
    ·rename_i l2 left3 s3 hl2
     have h3 : s3 = none := opnL_none hn c _ _ _ hl2
     subst h3
     rw [← Option.some.inj h]
  ·cases h
theorem opn_none : ∀ (f d left : Nat) (r : T × Nat × S), opn f d left none = some r → r.2.2 = none
 | 0, d, left, r, h => by simp [opn] at h
 | f + 1, d, left, r, h => by
  have e1 : sNum 4 none = (0, none) := rfl
  have e2 : (sText 2048 none).2 = none := rfl
  simp only [opn, e1, e2] at h
  split at h
  ·cases h
  ·simp only [show ¬ (0 : Nat) = 4 by omega, if_false] at h
   rw [← Option.some.inj h]
theorem opn_some : ∀ (f d left : Nat) (s : S) (t : T) (left' : Nat) (y : List UInt8), opn f d left s = some (t, left', some y) → s = some (packB t ++ y)
 | 0, d, left, s, t, left', y, h => by simp [opn] at h
 | f + 1, d, left, s, t, left', y, h => by
  simp only [opn] at h
  split at h
  ·cases h
  ·obtain ⟨k, s1, hk⟩ : ∃ k s1, sNum 4 s = (k, s1) := ⟨_, _, rfl⟩
   rw [hk] at h
   split at h
   ·rename_i h4
    have h4 : k = 4 := h4
    subst h4
    obtain ⟨c, s2, hc⟩ : ∃ c s2, sNum 200 s1 = (c, s2) := ⟨_, _, rfl⟩
    simp only [hc] at h
    split at h
    ·cases h
    ·rename_i l left2 s3 hl
     simp only [Option.some.injEq, Prod.mk.injEq] at h
     obtain ⟨rfl, _, rfl⟩ := h
     obtain ⟨h1, h2⟩ := opnL_some (fun left s t left' y => opn_some f (d + 1) left s t left' y) (fun left r => opn_none f (d + 1) left r) c _ _ _ _ _ _ hl
     subst h1
     obtain ⟨h3, _, _⟩ := sNum_some hc
     subst h3
     obtain ⟨h5, _, _⟩ := sNum_some hk
     rw [h5]
     simp only [packB, if_true, List.append_assoc, h2]
   ·rename_i h4
    simp only [Option.some.injEq, Prod.mk.injEq] at h
    obtain ⟨rfl, _, h6⟩ := h
    obtain ⟨b, s2, hb⟩ : ∃ b s2, sText 2048 s1 = (b, s2) := ⟨_, _, rfl⟩
    simp only [hb] at h6 ⊢
    subst h6
    obtain ⟨h3, _⟩ := sText_some hb
    subst h3
    obtain ⟨h5, _, _⟩ := sNum_some hk
    have h4 : ¬ k = 4 := h4
    have hk4 : ¬ (k : Int) = 4 := by omega
    rw [h5]
    simp only [packB, if_neg hk4, List.append_assoc, Int.toNat_natCast]
def openT (b : List UInt8) : Option T := match opn 9 1 200 (some b) with
 | some (t, _, some []) => if right t then some t else none
 | _ => none
theorem openT_iff (b : List UInt8) (t : T) : openT b = some t ↔ right t = true ∧ packB t = b := by
 constructor
 ·intro h
  unfold openT at h
  split at h
  ·rename_i t' left' ho
   split at h
   ·rename_i hr
    obtain rfl := Option.some.inj h
    have := opn_some _ _ _ _ _ _ _ ho
    simp only [List.append_nil, Option.some.injEq] at this
    exact ⟨hr, this.symm⟩
   ·cases h
  ·cases h
 ·rintro ⟨hr, rfl⟩
  have hr' := hr
  simp only [right, lookB, Bool.and_eq_true, decide_eq_true_eq] at hr'
  have := opn_put 9 t 1 200 [] hr'.1.1 (by omega) (by omega) (by omega)
  rw [List.append_nil] at this
  unfold openT
  rw [this]
  simp only [if_pos hr]
theorem packB_inj {t u : T} (ht : right t = true) (hu : right u = true) (h : packB t = packB u) : t = u := by
 have h1 := (openT_iff (packB t) t).2 ⟨ht, rfl⟩
 have h2 := (openT_iff (packB t) u).2 ⟨hu, h.symm⟩
 rw [h1] at h2
 exact Option.some.inj h2
end Go.Tr
/-! Archives, as chapter 9 asks: what Pack and Open answer; a byte less, or more; an archive within another one. No program in sight. -/
namespace Go.Tr
open Go.Proofs.YtfiadgdinhmgbaaDoor Go.Agg
def zT : T := .mk 0 [] []
def pkE (t : T) : Nat := if right t then (if (packB t).length ≤ 4096 then 0 else 3) else 2
def pkB (t : T) : List UInt8 := if pkE t = 0 then packB t else []
def pkN (t : T) : Nat := if right t then (packB t).length else 0
def opE (b : List UInt8) : Nat := if b.length ≤ 4096 then (if (openT b).isSome then 0 else 4) else 3
def opT (b : List UInt8) : T := if opE b = 0 then (openT b).getD zT else zT
theorem pkE_zero {t : T} : pkE t = 0 ↔ right t = true ∧ (packB t).length ≤ 4096 := by
 unfold pkE
 by_cases h : right t = true
 ·rw [if_pos h]
  by_cases hl : (packB t).length ≤ 4096
  ·rw [if_pos hl]; exact ⟨fun _ => ⟨h, hl⟩, fun _ => rfl⟩
  ·rw [if_neg hl]; exact ⟨fun e => (by cases e), fun e => absurd e.2 hl⟩
 ·rw [if_neg h]; exact ⟨fun e => (by cases e), fun e => absurd e.1 h⟩
theorem pkE_size {t : T} : decide (pkE t = 0) = (right t && decide (pkN t ≤ 4096)) := by
 rw [Bool.eq_iff_iff, decide_eq_true_iff, pkE_zero, Bool.and_eq_true, decide_eq_true_iff]
 constructor
 ·rintro ⟨h, hl⟩; exact ⟨h, by rw [pkN, if_pos h]; exact hl⟩
 ·rintro ⟨h, hl⟩; exact ⟨h, by rw [pkN, if_pos h] at hl; exact hl⟩
theorem opE_zero {b : List UInt8} (h : opE b = 0) : b.length ≤ 4096 ∧ openT b = some (opT b) := by
 have h0 := h
 unfold opE at h
 split at h
 ·next hl =>
  split at h
  ·next hs =>
   obtain ⟨t, ht⟩ := Option.isSome_iff_exists.1 hs
   refine ⟨hl, ?_⟩
   rw [opT, if_pos h0, ht]; rfl
  ·cases h
 ·cases h
theorem opE_of {b : List UInt8} {t : T} (hl : b.length ≤ 4096) (h : openT b = some t) : opE b = 0 ∧ opT b = t := by
 have e : opE b = 0 := by simp [opE, hl, h]
 exact ⟨e, by rw [opT, if_pos e, h]; rfl⟩
theorem opT_not {b : List UInt8} (h : opE b ≠ 0) : opT b = zT := by rw [opT, if_neg h]
theorem open_pack {t : T} (h : right t = true) : openT (packB t) = some t := (openT_iff _ _).2 ⟨h, rfl⟩
theorem open_more {t : T} {y : List UInt8} (h : right t = true) (hy : y ≠ []) : openT (packB t ++ y) = none := by
 have hr' := h
 simp only [right, lookB, Bool.and_eq_true, decide_eq_true_eq] at hr'
 have := opn_put 9 t 1 200 y hr'.1.1 (by omega) (by omega) (by omega)
 unfold openT
 rw [this]
 cases y with
 | nil => exact absurd rfl hy
 | cons c y => rfl
theorem encN_ne (n : Nat) : encN n ≠ [] := by
 unfold encN
 split <;> simp
theorem packB_ne (t : T) : packB t ≠ [] := by
 obtain ⟨k, b, l⟩ := t
 unfold packB
 split
 ·intro h; exact encN_ne _ (List.append_eq_nil_iff.1 h).1
 ·intro h; exact encN_ne _ (List.append_eq_nil_iff.1 h).1
theorem open_less {t : T} (h : right t = true) : openT ((packB t).take ((packB t).length - 1)) = none := by
 have hd : (packB t).take ((packB t).length - 1) ++ [(packB t).getLast (packB_ne t)] = packB t := by
  rw [← List.dropLast_eq_take]; exact List.dropLast_concat_getLast _
 cases ho : openT ((packB t).take ((packB t).length - 1)) with
 | none => rfl
 | some u =>
  obtain ⟨h1, h2⟩ := (openT_iff _ _).1 ho
  have := open_more h1 (y := [(packB t).getLast (packB_ne t)]) (by simp)
  rw [h2, hd, open_pack h] at this
  cases this
theorem back_pack {t u : T} (h : pkE t = 0) : opE (pkB t) = 0 ∧ opT (pkB t) = t ∧ (pkB t).length = pkN t ∧ opE ((pkB t).take ((pkB t).length - 1)) = 4 ∧ (∀ c, opE (pkB t ++ [c]) ≠ 0) ∧ (pkE u = 0 → (decide (pkB t = pkB u) = same t u)) := by
 obtain ⟨hr, hl⟩ := pkE_zero.1 h
 have e : pkB t = packB t := by rw [pkB, if_pos h]
 rw [e]
 obtain ⟨g1, g2⟩ := opE_of hl (open_pack hr)
 refine ⟨g1, g2, by rw [pkN, if_pos hr], ?_, fun c hc => ?_, fun hu => ?_⟩
 ·rw [opE, if_pos (by rw [List.length_take]; omega), open_less hr]; rfl
 ·have := (opE_zero hc).2
  rw [open_more hr (by simp)] at this
  cases this
 ·obtain ⟨ur, ul⟩ := pkE_zero.1 hu
  rw [pkB, if_pos hu, Bool.eq_iff_iff, decide_eq_true_iff, same_iff]
  exact ⟨fun e => packB_inj hr ur e, fun e => by rw [e]⟩
theorem back_open {b : List UInt8} (h : opE b = 0) : pkE (opT b) = 0 ∧ right (opT b) = true ∧ pkB (opT b) = b := by
 obtain ⟨hl, ho⟩ := opE_zero h
 obtain ⟨h1, h2⟩ := (openT_iff _ _).1 ho
 have e : pkE (opT b) = 0 := pkE_zero.2 ⟨h1, by rw [h2]; exact hl⟩
 exact ⟨e, h1, by rw [pkB, if_pos e, h2]⟩
theorem packL_in : ∀ {l : List K} {x : K}, x ∈ l → packB x.2 <:+: packL l
 | y :: l, x, h => by
  rw [packL]
  rcases List.mem_cons.1 h with rfl | h
  ·exact ⟨encT x.1, packL l, by simp⟩
  ·obtain ⟨a, c, e⟩ := packL_in h
   exact ⟨encT y.1 ++ (packB y.2 ++ a), c, by rw [← e]; simp⟩
theorem place_kid {l : List K} {n : List UInt8} {x : T} (h : place l n = some x) : ∃ k ∈ l, k.2 = x := by
 simp only [place, Option.map_eq_some_iff] at h
 obtain ⟨k, hk, e⟩ := h
 exact ⟨k, List.mem_of_find?_eq_some hk, e⟩
theorem pack_within : ∀ (ns : List (List UInt8)) (t x : T), ok t = true → find t ns = some x → packB x <:+: packB t
 | [], t, x, _, h => by
  simp only [find] at h
  cases h
  exact List.infix_refl _
 | n :: ns, .mk k b l, x, hok, h => by
  simp only [find] at h
  split at h
  ·cases h
  ·next y hy =>
   obtain ⟨q, hq, e⟩ := place_kid hy
   have hk := kids_ok hok
   have hoy : ok y = true := e ▸ okL_mem hk hq
   have ih := pack_within ns y x hoy h
   have ha : alone (.mk k b l) = true := by simp only [ok, Bool.and_eq_true] at hok; exact hok.1
   rw [show (T.mk k b l).kids = l from rfl] at hq
   rcases alone_cases ha with ⟨rfl, rfl, _, _⟩ | ⟨_, _, _, _, rfl⟩
   ·have h2 := packL_in hq
    rw [e] at h2
    refine ih.trans (h2.trans ?_)
    rw [packB, if_pos rfl]
    exact ⟨encN 4 ++ encN l.length, [], by simp⟩
   ·cases hq
theorem parts {b : List UInt8} {ns : List (List UInt8)} {x : T} (h : opE b = 0) (hf : find (opT b) ns = some x) : opE (packB x) = 0 ∧ opT (packB x) = x ∧ packB x <:+: b := by
 obtain ⟨hl, ho⟩ := opE_zero h
 obtain ⟨h1, h2⟩ := (openT_iff _ _).1 ho
 have hok : ok (opT b) = true := by
  have h1' := h1
  simp only [right, lookB, Bool.and_eq_true] at h1'
  exact h1'.1.1
 have hin := pack_within ns _ _ hok hf
 rw [h2] at hin
 have hlen := hin.length_le
 obtain ⟨g1, g2⟩ := opE_of (b := packB x) (by omega) (open_pack (find_right h1 hf))
 exact ⟨g1, g2, hin⟩
end Go.Tr
/-! How long an archive is at most (chapter 9). No program in sight. -/
namespace Go.Tr
open Go.Proofs.YtfiadgdinhmgbaaDoor Go.Agg
theorem isName_len {n : List UInt8} (h : Pl.isName n = true) : n.length ≤ 24 := name_le h
mutual
theorem packB_len : ∀ (t : T), ok t = true → (packB t).length + 40 ≤ 2150 * count t
 | .mk k b l, h => by
  have ha : alone (.mk k b l) = true := by simp only [ok, Bool.and_eq_true] at h; exact h.1
  have hk := kids_ok h
  rw [show (T.mk k b l).kids = l from rfl] at hk
  rcases alone_cases ha with ⟨rfl, rfl, h200, hnm⟩ | ⟨h4, h1, h3, h2048, rfl⟩
  ·have ih := packL_len l none hk hnm
   have e1 := encN_len (n := 4) (by omega)
   have e2 := encN_len (n := l.length) (by omega)
   simp only [packB, if_true, List.length_append, count]
   omega
  ·have e1 := encN_len (n := k.toNat) (by omega)
   have e2 := encN_len (n := b.length) (by omega)
   simp only [packB, if_neg h4, encT, List.length_append, count, countL]
   omega
theorem packL_len : ∀ (l : List K) (b : Option (List UInt8)), okL l = true → named b l = true → (packL l).length ≤ 2150 * countL l
 | [], _, _, _ => by simp [packL]
 | (n, t) :: l, b, h, hn => by
  simp only [okL, Bool.and_eq_true] at h
  simp only [named, Bool.and_eq_true] at hn
  have h1 := packB_len t h.1
  have h2 := packL_len l (some n) h.2 hn.2
  have h3 := name_le hn.1.1
  have e1 := encN_len (n := n.length) (by omega)
  simp only [packL, encT, List.length_append, countL]
  omega
end
theorem right_pack {t : T} (h : right t = true) : (packB t).length ≤ 430000 := by
 simp only [right, lookB, Bool.and_eq_true, decide_eq_true_eq] at h
 have := packB_len t h.1.1
 omega
theorem packL_take {l : List K} {k : Nat} {x : K} (h : l[k]? = some x) : packL (l.take (k + 1)) = packL (l.take k) ++ (encT x.1 ++ packB x.2) := by
 rw [take_succ' h]
 generalize l.take k = m
 induction m with
 | nil => obtain ⟨n, t⟩ := x; simp [packL]
 | cons y m ih => obtain ⟨n, t⟩ := y; simp only [List.cons_append, packL, ih, List.append_assoc]
end Go.Tr
/-! Whether trees are one: spencekit.SameNode; tree.same, Equal. -/
namespace Go.Tr
theorem bytes_msz (k : Int) (b : List UInt8) (l : List K) : b.length ≤ msz (.mk k b l) := by simp only [msz]; omega
theorem len_mszL : ∀ (l : List K), l.length ≤ mszL l
 | [] => by simp [mszL]
 | (n, t) :: l => by have := len_mszL l; simp only [List.length_cons, mszL]; omega
theorem kids_msz (k : Int) (b : List UInt8) (l : List K) : l.length ≤ msz (.mk k b l) := by have := len_mszL l; simp only [msz]; omega
theorem mem_mszL : ∀ {l : List K} {x : K}, x ∈ l → x.1.length + msz x.2 ≤ mszL l
 | (n, t) :: l, x, h => by
  rcases List.mem_cons.1 h with rfl | h
  ·simp only [mszL]; omega
  ·have := mem_mszL h; simp only [mszL]; omega
theorem kid_msz {k : Int} {b : List UInt8} {l : List K} {x : K} (h : x ∈ l) : msz x.2 ≤ msz (.mk k b l) := by have := mem_mszL h; simp only [msz]; omega
theorem take_snocE {l m : List K} {k : Nat} {x y : K} (hx : l[k]? = some x) (hy : m[k]? = some y) (h : l.take k = m.take k) (hxy : x = y) : l.take (k + 1) = m.take (k + 1) := by
 rw [take_succ' hx, take_succ' hy, h, hxy]
instance : DecidableEq T := fun a b => decidable_of_iff _ (same_iff a b)
theorem same_dec (t u : T) : same t u = decide (t = u) := by
 rw [Bool.eq_iff_iff, same_iff, decide_eq_true_iff]
theorem sameL_dec (l m : List K) : sameL l m = decide (l = m) := by
 rw [Bool.eq_iff_iff, sameL_iff, decide_eq_true_iff]
end Go.Tr
namespace Go.Proofs.YtfiadgdinhmgbaaDoor
open Go.RowKit Pl Go.Agg Go.Tr
theorem KdB.of {w : World} {g : Nat} {y : KdV} (h : Blk w g 51 (kdC y)) : LoadsL Tryd.prog w 9 (some ⟨g, 0, none⟩) (.string ⟨y.1.toArray⟩) ∧ LoadsL Tryd.prog w 26 (some ⟨g, 1, none⟩) (.agg (ndC y.2)) := ⟨(KdL.ofB h).name, kid_node h⟩
theorem bytesEqual_any (v u : Value) (a b : List UInt8) (w : World) (he : BytesAt w v a) (hf : BytesAt w u b) :
  Calls Tryd.prog 78 #[v, u] w fun e w' => e = .returned (.bool (decide (a = b))) ∧ Below w.heap.size w w' := by
 have HE := Lib.hid he
 have HF := Lib.hid hf
 clear he hf
 go_enter Tryd.func78, Tryd.ntmps78
 go_wp2_with (first | (with_reducible refine wpList_toStr HE.out _ rfl rfl rfl ?_) | (with_reducible refine wpList_toStr HF.out _ rfl rfl rfl ?_) | (with_reducible refine wpList_eqlS rfl rfl rfl rfl _ rfl ?_))
 go_ret
 exact ⟨rfl, Below.refl _ _⟩

def snC (N : Nat) : Prop := ∀ (t u : T) (_ : count t ≤ N) (_ : msz t ≤ 1048576) (_ : msz u ≤ 1048576) (v1 v2 : Value) (w : World) (_ : NodeAt w v1 t) (_ : NodeAt w v2 u),
  Calls Tryd.prog 16 #[v1, v2] w fun e w' => e = .returned (.bool (same t u)) ∧ Below w.heap.size w w'

set_option maxRecDepth 100000 in
set_option maxHeartbeats 4000000 in
theorem snKid_any {N : Nat} (ih : snC N) (a b : K) (hc : count a.2 ≤ N) (h1 : msz a.2 ≤ 1048576) (h2 : msz b.2 ≤ 1048576) (x y : KdV) (w : World) (hx1 : x.1 = a.1) (hx2 : NodeV w x.2 a.2) (hy1 : y.1 = b.1) (hy2 : NodeV w y.2 b.2) :
  Calls Tryd.prog 71 #[.agg (kdC x), .agg (kdC y)] w fun e w' => e = .returned (.bool (decide (a = b))) ∧ Below w.heap.size w w' := by
 have HIH := Lib.hid ih
 have HX := Lib.hid hx2
 have HY := Lib.hid hy2
 have HN := Lib.hid (And.intro hx1 hy1)
 clear ih hx2 hy2 hx1 hy1
 go_enter Tryd.func71, Tryd.ntmps71
 by_cases hn : a.1 = b.1
 ·have HS := Lib.hid (show decide (x.1 = y.1) = true by rw [HN.out.1, HN.out.2]; simpa using hn)
  have HR := Lib.hid (show decide (a = b) = same a.2 b.2 by
   rw [same_dec]
   obtain ⟨n, t⟩ := a; obtain ⟨m, u⟩ := b
   have hn : n = m := hn
   simp [hn])
  clear hn
  go_wp2_with (first | (refine wpList_box rfl 51 _ rfl (kdC x) rfl ?_; intro g2 w1 hb hx hg; have HB1 := Lib.hid hb; have HX1 := Lib.hid hx; clear hb hx hg) | (refine wpList_box rfl 51 _ rfl (kdC y) rfl ?_; intro g3 w2 hb hx hg; have HB2 := Lib.hid (HB1.out.below hx); have HC2 := Lib.hid hb; have HX2 := Lib.hid (belowThen HX1.out (Nat.le_refl _) hx); clear hb hx hg) | (with_reducible refine wpList_loadL (KdB.of HB2.out).1 rfl _ rfl rfl ?_) | (with_reducible refine wpList_loadL (KdB.of HC2.out).1 rfl _ rfl rfl ?_) | (with_reducible refine wpList_loadL (KdB.of HB2.out).2 rfl _ rfl rfl ?_) | (with_reducible refine wpList_loadL (KdB.of HC2.out).2 rfl _ rfl rfl ?_) | (with_reducible refine wpList_eqlS rfl rfl rfl rfl true HS.out ?_))
  refine (HIH.out a.2 b.2 hc h1 h2 (.agg (ndC x.2)) (.agg (ndC y.2)) w2 ⟨_, rfl, HX.out.below HX2.out⟩ ⟨_, rfl, HY.out.below HX2.out⟩).mono ?_
  rintro e w3 ⟨rfl, hx⟩
  have HX3 := Lib.hid (belowThen HX2.out (Nat.le_refl _) hx)
  clear hx
  go_wp2_with fail
  go_ret
  exact ⟨ret_bool HR.out.symm, HX3.out⟩
 ·have HS := Lib.hid (show decide (x.1 = y.1) = false by rw [HN.out.1, HN.out.2]; simpa using hn)
  have HR := Lib.hid (show decide (a = b) = false by simp; intro e; exact hn (by rw [e]))
  clear hn
  go_wp2_with (first | (refine wpList_box rfl 51 _ rfl (kdC x) rfl ?_; intro g2 w1 hb hx hg; have HB1 := Lib.hid hb; have HX1 := Lib.hid hx; clear hb hx hg) | (refine wpList_box rfl 51 _ rfl (kdC y) rfl ?_; intro g3 w2 hb hx hg; have HB2 := Lib.hid (HB1.out.below hx); have HC2 := Lib.hid hb; have HX2 := Lib.hid (belowThen HX1.out (Nat.le_refl _) hx); clear hb hx hg) | (with_reducible refine wpList_loadL (KdB.of HB2.out).1 rfl _ rfl rfl ?_) | (with_reducible refine wpList_loadL (KdB.of HC2.out).1 rfl _ rfl rfl ?_) | (with_reducible refine wpList_eqlS rfl rfl rfl rfl false HS.out ?_))
  go_ret
  exact ⟨ret_bool HR.out.symm, HX2.out⟩

set_option maxRecDepth 100000 in
set_option maxHeartbeats 8000000 in
theorem snKids_any {N : Nat} (ih : snC N) (l m : List K) (hc : ∀ x ∈ l, count x.2 ≤ N) (h1 : mszL l ≤ 1048576) (h2 : mszL m ≤ 1048576) (ks js : List KdV) (v1 v2 : Value) (w : World) (hs1 : SliceOf EK w v1 ks) (hk1 : KidsV w ks l) (hs2 : SliceOf EK w v2 js) (hk2 : KidsV w js m) :
  Calls Tryd.prog 45 #[v1, v2] w fun e w' => e = .returned (.bool (sameL l m)) ∧ Below w.heap.size w w' := by
 have hl1 := hk1.len
 have hl2 := hk2.len
 have hlen1 := kds_len hs1
 have hlen2 := kds_len hs2
 rw [hl1] at hlen1
 rw [hl2] at hlen2
 have hb1 := Nat.le_trans (len_mszL l) h1
 have hb2 := Nat.le_trans (len_mszL m) h2
 have HIH := Lib.hid ih
 have HS1 := Lib.hid hs1
 have HS2 := Lib.hid hs2
 have HK1 := Lib.hid hk1
 have HK2 := Lib.hid hk2
 have HC := Lib.hid hc
 clear ih hs1 hs2 hk1 hk2 hl1 hl2 hc
 by_cases hlen : l.length = m.length
 ·have hne : ((l.length : Int) != (m.length : Int)) = false := by simp [hlen]
  have HLEN := Lib.hid hlen
  clear hlen
  go_enter Tryd.func45, Tryd.ntmps45
  go_wp2_with fail
  go_loopw [5] (fun i wr => ∃ k : Nat, k ≤ l.length ∧ i = .int .i64 (k : Int) ∧ l.take k = m.take k ∧ Below w.heap.size w wr) (fun i _ => l.length - (intOf i).toNat)
  case atStart => exact ⟨0, by omega, rfl, rfl, Below.refl _ _⟩
  case round =>
   obtain ⟨w1, rfl⟩ : ∃ w1 : World, w1 = wr := ⟨_, rfl⟩
   obtain ⟨k, hk, rfl, htk, hw⟩ := hrel
   have HTK := Lib.hid htk
   have HW := Lib.hid hw
   clear htk hw
   by_cases hlt : k < l.length
   ·have hd : decide ((k : Int) < (l.length : Int)) = true := by simp; omega
    obtain ⟨a, hak⟩ : ∃ a, l[k]? = some a := ⟨_, List.getElem?_eq_getElem hlt⟩
    obtain ⟨b, hbk⟩ : ∃ b, m[k]? = some b := ⟨_, List.getElem?_eq_getElem (by rw [← HLEN.out]; exact hlt)⟩
    obtain ⟨x, hxk, hx1, hx2⟩ := HK1.out.at_ k a hak
    obtain ⟨y, hyk, hy1, hy2⟩ := HK2.out.at_ k b hbk
    obtain ⟨p, hadr, hle⟩ := kid_at (HS1.out.below HW.out) k x hxk
    obtain ⟨q, hadq, hlq⟩ := kid_at (HS2.out.below HW.out) k y hyk
    have HE := Lib.hid hle.all
    have HQ := Lib.hid hlq.all
    obtain ⟨r, hr⟩ : ∃ r, decide (a = b) = r := ⟨_, rfl⟩
    have HCALL := Lib.hid (fun z : Later w1 => (show Calls Tryd.prog 71 #[.agg (kdC x), .agg (kdC y)] z.w fun e w' => e = .returned (.bool r) ∧ Below z.w.heap.size z.w w' by
     have hZ := belowThen HW.out (Nat.le_refl _) z.h
     rw [← hr]; exact snKid_any HIH.out a b (HC.out a (List.mem_of_getElem? hak)) (by have := mem_mszL (List.mem_of_getElem? hak); omega) (by have := mem_mszL (List.mem_of_getElem? hbk); omega) x y z.w hx1 (hx2.below hZ) hy1 (hy2.below hZ)))
    have HRR := Lib.hid hr
    have HAK := Lib.hid hak
    have HBK := Lib.hid hbk
    clear hle hlq hxk hyk hx1 hx2 hy1 hy2 hr hak hbk
    go_wp2_with fail
    try simp only [Act.put, List.setIfInBounds_toArray, List.set_cons_succ, List.set_cons_zero]
    refine wp_region_later_lit (by kernel_rfl) (by kernel_rfl) ?_
    repeat (first | go_big_quiet_skip | ((first | (with_reducible refine wpQuiet_loadL HE.out rfl _ rfl rfl ?_) | (with_reducible refine wpQuiet_loadL HQ.out rfl _ rfl rfl ?_)); simp only [Act.put, List.setIfInBounds_toArray, List.set_cons_succ, List.set_cons_zero]) | go_big_quiet_step (first | (go_at_call 71; first | (with_reducible exact Calls.later (HCALL.out _)))))
    refine wpQuiet_nil ?_
    intro _ hw'
    obtain ⟨x4, rfl⟩ := hw'
    have HX4 := Lib.hid (belowThen HW.out (Nat.le_refl _) x4.h)
    cases r with
    | false =>
     have HF := Lib.hid (show sameL l m = false by
      rw [sameL_dec, decide_eq_false_iff_not]
      rintro rfl
      have h := HRR.out
      rw [decide_eq_false_iff_not] at h
      exact h (Option.some.inj (HAK.out.symm.trans HBK.out)))
     go_wp2_with fail
     go_ret
     exact ⟨ret_bool HF.out.symm, HX4.out⟩
    | true =>
     have HT := Lib.hid (take_snocE HAK.out HBK.out HTK.out (of_decide_eq_true HRR.out))
     go_wp2_with fail
     go_roundw
     case rel => exact ⟨k + 1, by omega, by go_num, HT.out, HX4.out⟩
     case measure => simp [intOf]; omega
   ·obtain rfl : k = l.length := by omega
    have hd : decide (((l.length : Nat) : Int) < ((l.length : Nat) : Int)) = false := by simp
    have HT := Lib.hid (show sameL l m = true by
     have h := HTK.out
     rw [List.take_length, HLEN.out, List.take_length] at h
     rw [sameL_dec, h]; simp)
    go_wp2_with fail
    go_ret
    exact ⟨ret_bool HT.out.symm, HW.out⟩
 ·have hne : ((l.length : Int) != (m.length : Int)) = true := by simp; omega
  have HF := Lib.hid (show sameL l m = false by
   rw [sameL_dec, decide_eq_false_iff_not]
   exact fun e => hlen (by rw [e]))
  clear hlen
  go_enter Tryd.func45, Tryd.ntmps45
  go_wp2_with fail
  go_ret
  exact ⟨ret_bool HF.out.symm, Below.refl _ _⟩

set_option maxRecDepth 100000 in
set_option maxHeartbeats 8000000 in
theorem sn_all : ∀ N, snC N := by
 intro N
 induction N with
 | zero => intro t u h; have := count_pos t; omega
 | succ N ih =>
 intro t u hc h1 h2 v1 v2 w hv1 hv2
 obtain ⟨x, rfl, hx⟩ := hv1
 obtain ⟨y, rfl, hy⟩ := hv2
 obtain ⟨k, a, l⟩ := t
 obtain ⟨j, b, m⟩ := u
 obtain ⟨hxk, hxb, ks, hxs, hxl⟩ := hx
 obtain ⟨hyk, hyb, js, hys, hyl⟩ := hy
 have HXB := Lib.hid hxb
 have HYB := Lib.hid hyb
 have HXS := Lib.hid hxs
 have HYS := Lib.hid hys
 have HXL := Lib.hid hxl
 have HYL := Lib.hid hyl
 have HIH := Lib.hid ih
 have HC := Lib.hid (show ∀ z ∈ l, count z.2 ≤ N from fun z hz => by
  have h3 := countL_mem hz
  simp only [count] at hc
  omega)
 have hab := Nat.le_trans (bytes_msz k a l) h1
 have hbb := Nat.le_trans (bytes_msz j b m) h2
 have hlm1 : mszL l ≤ 1048576 := by simp only [msz] at h1; omega
 have hlm2 : mszL m ≤ 1048576 := by simp only [msz] at h2; omega
 have HK := Lib.hid (And.intro hxk hyk)
 clear hxb hyb hxs hys hxl hyl ih hc hxk hyk
 go_enter Tryd.func16, Tryd.ntmps16
 by_cases hk : x.1 = y.1
 ·have hke : (x.1 == y.1) = true := by rw [hk]; simp
  have HKK := Lib.hid (show k = j by rw [← HK.out.1, ← HK.out.2, hk])
  clear hk
  go_wp2_with (first | (refine wpList_box rfl 26 _ rfl (ndC x) rfl ?_; intro g2 w1 hb hx hg; have HB1 := Lib.hid hb; have HX1 := Lib.hid hx; clear hb hx hg) | (refine wpList_box rfl 26 _ rfl (ndC y) rfl ?_; intro g3 w2 hb hx hg; have HB2 := Lib.hid (HB1.out.below hx); have HC2 := Lib.hid hb; have HX2 := Lib.hid (belowThen HX1.out (Nat.le_refl _) hx); clear hb hx hg) | (with_reducible refine wpList_loadL (NdL.of_blk HB2.out).kind rfl _ rfl rfl ?_) | (with_reducible refine wpList_loadL (NdL.of_blk HC2.out).kind rfl _ rfl rfl ?_) | (with_reducible refine wpList_loadL (NdL.of_blk HB2.out).bytes rfl _ rfl rfl ?_) | (with_reducible refine wpList_loadL (NdL.of_blk HC2.out).bytes rfl _ rfl rfl ?_))
  refine (sameBytes_any x.2.1.1 y.2.1.1 a b hab hbb w2 (HXB.out.below HX2.out) (HYB.out.below HX2.out)).mono ?_
  rintro e w3 ⟨rfl, hx⟩
  have HB3 := Lib.hid (HB2.out.below hx)
  have HC3 := Lib.hid (HC2.out.below hx)
  have HX3 := Lib.hid (belowThen HX2.out (Nat.le_refl _) hx)
  clear hx
  by_cases hab2 : a = b
  ·have hd : decide (a = b) = true := by simpa using hab2
   have HAB := Lib.hid hab2
   clear hab2
   rw [hd]
   go_wp2_with (first | (with_reducible refine wpList_loadL (NdL.of_blk HB3.out).kids rfl _ rfl rfl ?_) | (with_reducible refine wpList_loadL (NdL.of_blk HC3.out).kids rfl _ rfl rfl ?_))
   refine (snKids_any HIH.out l m HC.out hlm1 hlm2 ks js x.2.2.1 y.2.2.1 w3 (HXS.out.below HX3.out) (HXL.out.below HX3.out) (HYS.out.below HX3.out) (HYL.out.below HX3.out)).mono ?_
   rintro e w4 ⟨rfl, hx⟩
   have HX4 := Lib.hid (belowThen HX3.out (Nat.le_refl _) hx)
   have HR := Lib.hid (show same (.mk k a l) (.mk j b m) = sameL l m by simp [same, HKK.out, HAB.out])
   clear hx
   go_wp2_with fail
   go_ret
   exact ⟨ret_bool HR.out.symm, HX4.out⟩
  ·have hd : decide (a = b) = false := by simpa using hab2
   have HR := Lib.hid (show same (.mk k a l) (.mk j b m) = false by simp [same, hab2])
   clear hab2
   rw [hd]
   go_wp2_with fail
   go_ret
   exact ⟨ret_bool HR.out.symm, HX3.out⟩
 ·have hke : (x.1 == y.1) = false := by simpa using hk
  have HR := Lib.hid (show same (.mk k a l) (.mk j b m) = false by
   have : ¬ k = j := fun e => hk (by rw [HK.out.1, HK.out.2, e])
   simp [same, this])
  clear hk
  go_wp2_with (first | (refine wpList_box rfl 26 _ rfl (ndC x) rfl ?_; intro g2 w1 hb hx hg; have HB1 := Lib.hid hb; have HX1 := Lib.hid hx; clear hb hx hg) | (refine wpList_box rfl 26 _ rfl (ndC y) rfl ?_; intro g3 w2 hb hx hg; have HB2 := Lib.hid (HB1.out.below hx); have HC2 := Lib.hid hb; have HX2 := Lib.hid (belowThen HX1.out (Nat.le_refl _) hx); clear hb hx hg) | (with_reducible refine wpList_loadL (NdL.of_blk HB2.out).kind rfl _ rfl rfl ?_) | (with_reducible refine wpList_loadL (NdL.of_blk HC2.out).kind rfl _ rfl rfl ?_) | (with_reducible refine wpList_loadL (NdL.of_blk HB2.out).bytes rfl _ rfl rfl ?_) | (with_reducible refine wpList_loadL (NdL.of_blk HC2.out).bytes rfl _ rfl rfl ?_))
  go_ret
  exact ⟨ret_bool HR.out.symm, HX2.out⟩

def tsC (N : Nat) : Prop := ∀ (t u : T) (_ : count t ≤ N) (_ : msz t ≤ 1048576) (_ : msz u ≤ 1048576) (v1 v2 : Value) (w : World) (_ : NodeAt w v1 t) (_ : NodeAt w v2 u),
  Calls Tryd.prog 52 #[v1, v2] w fun e w' => e = .returned (.bool (same t u)) ∧ Below w.heap.size w w'

set_option maxRecDepth 100000 in
set_option maxHeartbeats 4000000 in
theorem tsKid_any {N : Nat} (ih : tsC N) (a b : K) (hc : count a.2 ≤ N) (h1 : msz a.2 ≤ 1048576) (h2 : msz b.2 ≤ 1048576) (x y : KdV) (w : World) (hx1 : x.1 = a.1) (hx2 : NodeV w x.2 a.2) (hy1 : y.1 = b.1) (hy2 : NodeV w y.2 b.2) :
  Calls Tryd.prog 80 #[.agg (kdC x), .agg (kdC y)] w fun e w' => e = .returned (.bool (decide (a = b))) ∧ Below w.heap.size w w' := by
 have HIH := Lib.hid ih
 have HX := Lib.hid hx2
 have HY := Lib.hid hy2
 have HN := Lib.hid (And.intro hx1 hy1)
 clear ih hx2 hy2 hx1 hy1
 go_enter Tryd.func80, Tryd.ntmps80
 by_cases hn : a.1 = b.1
 ·have HS := Lib.hid (show decide (x.1 = y.1) = true by rw [HN.out.1, HN.out.2]; simpa using hn)
  have HR := Lib.hid (show decide (a = b) = same a.2 b.2 by
   rw [same_dec]
   obtain ⟨n, t⟩ := a; obtain ⟨m, u⟩ := b
   have hn : n = m := hn
   simp [hn])
  clear hn
  go_wp2_with (first | (refine wpList_box rfl 51 _ rfl (kdC x) rfl ?_; intro g2 w1 hb hx hg; have HB1 := Lib.hid hb; have HX1 := Lib.hid hx; clear hb hx hg) | (refine wpList_box rfl 51 _ rfl (kdC y) rfl ?_; intro g3 w2 hb hx hg; have HB2 := Lib.hid (HB1.out.below hx); have HC2 := Lib.hid hb; have HX2 := Lib.hid (belowThen HX1.out (Nat.le_refl _) hx); clear hb hx hg) | (with_reducible refine wpList_loadL (KdB.of HB2.out).1 rfl _ rfl rfl ?_) | (with_reducible refine wpList_loadL (KdB.of HC2.out).1 rfl _ rfl rfl ?_) | (with_reducible refine wpList_loadL (KdB.of HB2.out).2 rfl _ rfl rfl ?_) | (with_reducible refine wpList_loadL (KdB.of HC2.out).2 rfl _ rfl rfl ?_) | (with_reducible refine wpList_eqlS rfl rfl rfl rfl true HS.out ?_))
  refine (HIH.out a.2 b.2 hc h1 h2 (.agg (ndC x.2)) (.agg (ndC y.2)) w2 ⟨_, rfl, HX.out.below HX2.out⟩ ⟨_, rfl, HY.out.below HX2.out⟩).mono ?_
  rintro e w3 ⟨rfl, hx⟩
  have HX3 := Lib.hid (belowThen HX2.out (Nat.le_refl _) hx)
  clear hx
  go_wp2_with fail
  go_ret
  exact ⟨ret_bool HR.out.symm, HX3.out⟩
 ·have HS := Lib.hid (show decide (x.1 = y.1) = false by rw [HN.out.1, HN.out.2]; simpa using hn)
  have HR := Lib.hid (show decide (a = b) = false by simp; intro e; exact hn (by rw [e]))
  clear hn
  go_wp2_with (first | (refine wpList_box rfl 51 _ rfl (kdC x) rfl ?_; intro g2 w1 hb hx hg; have HB1 := Lib.hid hb; have HX1 := Lib.hid hx; clear hb hx hg) | (refine wpList_box rfl 51 _ rfl (kdC y) rfl ?_; intro g3 w2 hb hx hg; have HB2 := Lib.hid (HB1.out.below hx); have HC2 := Lib.hid hb; have HX2 := Lib.hid (belowThen HX1.out (Nat.le_refl _) hx); clear hb hx hg) | (with_reducible refine wpList_loadL (KdB.of HB2.out).1 rfl _ rfl rfl ?_) | (with_reducible refine wpList_loadL (KdB.of HC2.out).1 rfl _ rfl rfl ?_) | (with_reducible refine wpList_eqlS rfl rfl rfl rfl false HS.out ?_))
  go_ret
  exact ⟨ret_bool HR.out.symm, HX2.out⟩

set_option maxRecDepth 100000 in
set_option maxHeartbeats 8000000 in
theorem tsKids_any {N : Nat} (ih : tsC N) (l m : List K) (hc : ∀ x ∈ l, count x.2 ≤ N) (h1 : mszL l ≤ 1048576) (h2 : mszL m ≤ 1048576) (ks js : List KdV) (v1 v2 : Value) (w : World) (hs1 : SliceOf EK w v1 ks) (hk1 : KidsV w ks l) (hs2 : SliceOf EK w v2 js) (hk2 : KidsV w js m) :
  Calls Tryd.prog 79 #[v1, v2, .func (.func 80) #[] #[]] w fun e w' => e = .returned (.bool (sameL l m)) ∧ Below w.heap.size w w' := by
 have hl1 := hk1.len
 have hl2 := hk2.len
 have hlen1 := kds_len hs1
 have hlen2 := kds_len hs2
 rw [hl1] at hlen1
 rw [hl2] at hlen2
 have hb1 := Nat.le_trans (len_mszL l) h1
 have hb2 := Nat.le_trans (len_mszL m) h2
 have HIH := Lib.hid ih
 have HS1 := Lib.hid hs1
 have HS2 := Lib.hid hs2
 have HK1 := Lib.hid hk1
 have HK2 := Lib.hid hk2
 have HC := Lib.hid hc
 clear ih hs1 hs2 hk1 hk2 hl1 hl2 hc
 by_cases hlen : l.length = m.length
 ·have hne : ((l.length : Int) != (m.length : Int)) = false := by simp [hlen]
  have HLEN := Lib.hid hlen
  clear hlen
  go_enter Tryd.func79, Tryd.ntmps79
  go_wp2_with fail
  go_loopw [17] (fun i wr => ∃ k : Nat, k ≤ l.length ∧ i = .int .i64 (k : Int) ∧ l.take k = m.take k ∧ Below w.heap.size w wr) (fun i _ => l.length - (intOf i).toNat)
  case atStart => exact ⟨0, by omega, rfl, rfl, Below.refl _ _⟩
  case round =>
   obtain ⟨w1, rfl⟩ : ∃ w1 : World, w1 = wr := ⟨_, rfl⟩
   obtain ⟨k, hk, rfl, htk, hw⟩ := hrel
   have HTK := Lib.hid htk
   have HW := Lib.hid hw
   clear htk hw
   by_cases hlt : k < l.length
   ·have hd : decide ((k : Int) < (l.length : Int)) = true := by simp; omega
    obtain ⟨a, hak⟩ : ∃ a, l[k]? = some a := ⟨_, List.getElem?_eq_getElem hlt⟩
    obtain ⟨b, hbk⟩ : ∃ b, m[k]? = some b := ⟨_, List.getElem?_eq_getElem (by rw [← HLEN.out]; exact hlt)⟩
    obtain ⟨x, hxk, hx1, hx2⟩ := HK1.out.at_ k a hak
    obtain ⟨y, hyk, hy1, hy2⟩ := HK2.out.at_ k b hbk
    obtain ⟨p, hadr, hle⟩ := kid_at (HS1.out.below HW.out) k x hxk
    obtain ⟨q, hadq, hlq⟩ := kid_at (HS2.out.below HW.out) k y hyk
    have HE := Lib.hid hle.all
    have HQ := Lib.hid hlq.all
    obtain ⟨r, hr⟩ : ∃ r, decide (a = b) = r := ⟨_, rfl⟩
    have HCALL := Lib.hid (fun z : Later w1 => (show Calls Tryd.prog 80 #[.agg (kdC x), .agg (kdC y)] z.w fun e w' => e = .returned (.bool r) ∧ Below z.w.heap.size z.w w' by
     have hZ := belowThen HW.out (Nat.le_refl _) z.h
     rw [← hr]; exact tsKid_any HIH.out a b (HC.out a (List.mem_of_getElem? hak)) (by have := mem_mszL (List.mem_of_getElem? hak); omega) (by have := mem_mszL (List.mem_of_getElem? hbk); omega) x y z.w hx1 (hx2.below hZ) hy1 (hy2.below hZ)))
    have HRR := Lib.hid hr
    have HAK := Lib.hid hak
    have HBK := Lib.hid hbk
    clear hle hlq hxk hyk hx1 hx2 hy1 hy2 hr hak hbk
    go_wp2_with (first | (with_reducible refine wpList_loadL HE.out rfl _ rfl rfl ?_) | (refine Agg.wpList_zero rfl 51 rfl (kdC kdZ) kd_zero ?_; intro g8 wz hb hx hg; have HKZ := Lib.hid hb; have HXZ := Lib.hid hx; have HEz := Lib.hid (HE.out.below hx); have HQz := Lib.hid (HQ.out.below hx); have HG8 := Lib.hid hg; clear hb hx hg) | (refine Agg.wpList_put rfl rfl 51 _ _ rfl g8 (kdC x) (kdC kdZ) rfl rfl HKZ.out (kd_info x) rfl (kdC_one x) ?_; intro w2 hb hx hs hk; have HX8 := Lib.hid (show Below w1.heap.size w1 w2 from HXZ.out.trans (hx.mono HG8.out)); have HK8 := Lib.hid hb; clear hb hx hs hk) | (with_reducible refine wpList_loadL (HQ.out.below HX8.out) rfl _ rfl rfl ?_) | (refine wpList_new rfl rfl rfl 51 9 25 rfl rfl rfl (by decide) (kdC kdZ) (kdC y) kd_zero rfl (kd_info y) (kdC_one y) rfl (by first | (simp; done) | simp [Act.put]) ?_; intro g9 w3 hb hx hg; have HK9 := Lib.hid hb; have HKa := Lib.hid (HK8.out.below hx); have HX9 := Lib.hid (belowThen HX8.out (Nat.le_refl _) hx); have HLx := Lib.hid (Blk.loads (P := Tryd.prog) HKa.out kd_under rfl (kd_info x)); have HLy := Lib.hid (Blk.loads (P := Tryd.prog) HK9.out kd_under rfl (kd_info y)); clear hb hx hg) | (with_reducible refine wpList_loadL HLx.out rfl _ rfl rfl ?_) | (with_reducible refine wpList_loadL HLy.out rfl _ rfl rfl ?_))
    have HCL := Lib.hid (fun z : Later w3 => HCALL.out ⟨z.w, belowThen HX9.out (Nat.le_refl _) z.h⟩)
    refine (HCL.out (Later.mk' w3)).mono ?_
    rintro e w4 ⟨rfl, hx⟩
    have HX4 := Lib.hid (belowThen HW.out (Nat.le_refl _) (belowThen HX9.out (Nat.le_refl _) hx))
    clear hx
    cases r with
    | false =>
     have HF := Lib.hid (show sameL l m = false by
      rw [sameL_dec, decide_eq_false_iff_not]
      rintro rfl
      have h := HRR.out
      rw [decide_eq_false_iff_not] at h
      exact h (Option.some.inj (HAK.out.symm.trans HBK.out)))
     go_wp2_with fail
     go_ret
     exact ⟨ret_bool HF.out.symm, HX4.out⟩
    | true =>
     have HT := Lib.hid (take_snocE HAK.out HBK.out HTK.out (of_decide_eq_true HRR.out))
     go_wp2_with fail
     go_roundw
     case rel => exact ⟨k + 1, by omega, by go_num, HT.out, HX4.out⟩
     case measure => simp [intOf]; omega
   ·obtain rfl : k = l.length := by omega
    have hd : decide (((l.length : Nat) : Int) < ((l.length : Nat) : Int)) = false := by simp
    have HT := Lib.hid (show sameL l m = true by
     have h := HTK.out
     rw [List.take_length, HLEN.out, List.take_length] at h
     rw [sameL_dec, h]; simp)
    go_wp2_with fail
    go_ret
    exact ⟨ret_bool HT.out.symm, HW.out⟩
 ·have hne : ((l.length : Int) != (m.length : Int)) = true := by simp; omega
  have HF := Lib.hid (show sameL l m = false by
   rw [sameL_dec, decide_eq_false_iff_not]
   exact fun e => hlen (by rw [e]))
  clear hlen
  go_enter Tryd.func79, Tryd.ntmps79
  go_wp2_with fail
  go_ret
  exact ⟨ret_bool HF.out.symm, Below.refl _ _⟩

set_option maxRecDepth 100000 in
set_option maxHeartbeats 8000000 in
theorem ts_all : ∀ N, tsC N := by
 intro N
 induction N with
 | zero => intro t u h; have := count_pos t; omega
 | succ N ih =>
 intro t u hc h1 h2 v1 v2 w hv1 hv2
 obtain ⟨x, rfl, hx⟩ := hv1
 obtain ⟨y, rfl, hy⟩ := hv2
 obtain ⟨k, a, l⟩ := t
 obtain ⟨j, b, m⟩ := u
 obtain ⟨hxk, hxb, ks, hxs, hxl⟩ := hx
 obtain ⟨hyk, hyb, js, hys, hyl⟩ := hy
 have HXB := Lib.hid hxb
 have HYB := Lib.hid hyb
 have HXS := Lib.hid hxs
 have HYS := Lib.hid hys
 have HXL := Lib.hid hxl
 have HYL := Lib.hid hyl
 have HIH := Lib.hid ih
 have HC := Lib.hid (show ∀ z ∈ l, count z.2 ≤ N from fun z hz => by
  have h3 := countL_mem hz
  simp only [count] at hc
  omega)
 have hab := Nat.le_trans (bytes_msz k a l) h1
 have hbb := Nat.le_trans (bytes_msz j b m) h2
 have hlm1 : mszL l ≤ 1048576 := by simp only [msz] at h1; omega
 have hlm2 : mszL m ≤ 1048576 := by simp only [msz] at h2; omega
 have HK := Lib.hid (And.intro hxk hyk)
 clear hxb hyb hxs hys hxl hyl ih hc hxk hyk
 go_enter Tryd.func52, Tryd.ntmps52
 by_cases hk : x.1 = y.1
 ·have hke : (x.1 == y.1) = true := by rw [hk]; simp
  have HKK := Lib.hid (show k = j by rw [← HK.out.1, ← HK.out.2, hk])
  clear hk
  go_wp2_with (first | (refine wpList_box rfl 26 _ rfl (ndC x) rfl ?_; intro g2 w1 hb hx hg; have HB1 := Lib.hid hb; have HX1 := Lib.hid hx; clear hb hx hg) | (refine wpList_box rfl 26 _ rfl (ndC y) rfl ?_; intro g3 w2 hb hx hg; have HB2 := Lib.hid (HB1.out.below hx); have HC2 := Lib.hid hb; have HX2 := Lib.hid (belowThen HX1.out (Nat.le_refl _) hx); clear hb hx hg) | (with_reducible refine wpList_loadL (NdL.of_blk HB2.out).kind rfl _ rfl rfl ?_) | (with_reducible refine wpList_loadL (NdL.of_blk HC2.out).kind rfl _ rfl rfl ?_) | (with_reducible refine wpList_loadL (NdL.of_blk HB2.out).bytes rfl _ rfl rfl ?_) | (with_reducible refine wpList_loadL (NdL.of_blk HC2.out).bytes rfl _ rfl rfl ?_))
  refine (bytesEqual_any x.2.1.1 y.2.1.1 a b w2 (HXB.out.below HX2.out) (HYB.out.below HX2.out)).mono ?_
  rintro e w3 ⟨rfl, hx⟩
  have HB3 := Lib.hid (HB2.out.below hx)
  have HC3 := Lib.hid (HC2.out.below hx)
  have HX3 := Lib.hid (belowThen HX2.out (Nat.le_refl _) hx)
  clear hx
  by_cases hab2 : a = b
  ·have hd : decide (a = b) = true := by simpa using hab2
   have HAB := Lib.hid hab2
   clear hab2
   rw [hd]
   go_wp2_with (first | (with_reducible refine wpList_loadL (NdL.of_blk HB3.out).kids rfl _ rfl rfl ?_) | (with_reducible refine wpList_loadL (NdL.of_blk HC3.out).kids rfl _ rfl rfl ?_))
   refine (tsKids_any HIH.out l m HC.out hlm1 hlm2 ks js x.2.2.1 y.2.2.1 w3 (HXS.out.below HX3.out) (HXL.out.below HX3.out) (HYS.out.below HX3.out) (HYL.out.below HX3.out)).mono ?_
   rintro e w4 ⟨rfl, hx⟩
   have HX4 := Lib.hid (belowThen HX3.out (Nat.le_refl _) hx)
   have HR := Lib.hid (show same (.mk k a l) (.mk j b m) = sameL l m by simp [same, HKK.out, HAB.out])
   clear hx
   go_wp2_with fail
   go_ret
   exact ⟨ret_bool HR.out.symm, HX4.out⟩
  ·have hd : decide (a = b) = false := by simpa using hab2
   have HR := Lib.hid (show same (.mk k a l) (.mk j b m) = false by simp [same, hab2])
   clear hab2
   rw [hd]
   go_wp2_with fail
   go_ret
   exact ⟨ret_bool HR.out.symm, HX3.out⟩
 ·have hke : (x.1 == y.1) = false := by simpa using hk
  have HR := Lib.hid (show same (.mk k a l) (.mk j b m) = false by
   have : ¬ k = j := fun e => hk (by rw [HK.out.1, HK.out.2, e])
   simp [same, this])
  clear hk
  go_wp2_with (first | (refine wpList_box rfl 26 _ rfl (ndC x) rfl ?_; intro g2 w1 hb hx hg; have HB1 := Lib.hid hb; have HX1 := Lib.hid hx; clear hb hx hg) | (refine wpList_box rfl 26 _ rfl (ndC y) rfl ?_; intro g3 w2 hb hx hg; have HB2 := Lib.hid (HB1.out.below hx); have HC2 := Lib.hid hb; have HX2 := Lib.hid (belowThen HX1.out (Nat.le_refl _) hx); clear hb hx hg) | (with_reducible refine wpList_loadL (NdL.of_blk HB2.out).kind rfl _ rfl rfl ?_) | (with_reducible refine wpList_loadL (NdL.of_blk HC2.out).kind rfl _ rfl rfl ?_) | (with_reducible refine wpList_loadL (NdL.of_blk HB2.out).bytes rfl _ rfl rfl ?_) | (with_reducible refine wpList_loadL (NdL.of_blk HC2.out).bytes rfl _ rfl rfl ?_))
  go_ret
  exact ⟨ret_bool HR.out.symm, HX2.out⟩

theorem sameNode_any (t u : T) (h1 : msz t ≤ 1048576) (h2 : msz u ≤ 1048576) (v1 v2 : Value) (w : World) (hv1 : NodeAt w v1 t) (hv2 : NodeAt w v2 u) :
  Calls Tryd.prog 16 #[v1, v2] w fun e w' => e = .returned (.bool (same t u)) ∧ Below w.heap.size w w' := sn_all (count t) t u (Nat.le_refl _) h1 h2 v1 v2 w hv1 hv2
theorem right_msz {t : T} (h : right t = true) : msz t ≤ 500000 := by
 have key : ∀ (N : Nat) (t : T), count t ≤ N → ok t = true → msz t + 25 ≤ 2100 * count t := by
  intro N
  induction N with
  | zero => intro t h; have := count_pos t; omega
  | succ N ih =>
   intro t hc hok
   obtain ⟨k, b, l⟩ := t
   have ha : alone (.mk k b l) = true := by simp only [ok, Bool.and_eq_true] at hok; exact hok.1
   have hk := kids_ok hok
   rw [show (T.mk k b l).kids = l from rfl] at hk
   rcases alone_cases ha with ⟨rfl, rfl, _, hnm⟩ | ⟨_, _, _, hb, rfl⟩
   ·have hL : ∀ (m : List K), (∀ x ∈ m, count x.2 ≤ N ∧ ok x.2 = true ∧ x.1.length ≤ 24) → mszL m ≤ 2100 * countL m := by
     intro m
     induction m with
     | nil => intro _; simp [mszL]
     | cons x m ihm =>
      intro hm
      obtain ⟨n, t⟩ := x
      have h1 := hm (n, t) (by simp)
      have h2 := ih t h1.1 h1.2.1
      have h3 := ihm (fun x hx => hm x (by simp [hx]))
      have h4 : n.length ≤ 24 := h1.2.2
      simp only [mszL, countL]; omega
    have := hL l (fun x hx => ⟨by have := countL_mem hx; simp only [count] at hc; omega, okL_mem hk hx, name_le (named_all l none hnm x hx)⟩)
    simp only [msz, count, List.length_nil]; omega
   ·simp only [msz, mszL, count, countL]; omega
 obtain ⟨h1, h2, _⟩ := look_parts h
 have := key (count t) t (Nat.le_refl _) h1
 omega
set_option maxRecDepth 100000 in
set_option maxHeartbeats 4000000 in
theorem equal_any (t u : T) (v1 v2 : Value) (w : World) (hv1 : NodeAt w v1 t) (hv2 : NodeAt w v2 u) :
  Calls Tryd.prog 24 #[v1, v2] w fun e w' => e = .returned (.bool (right t && (right u && same t u))) ∧ Below w.heap.size w w' := by
 obtain ⟨x, rfl, hx⟩ := hv1
 obtain ⟨y, rfl, hy⟩ := hv2
 have HX := Lib.hid hx
 have HY := Lib.hid hy
 clear hx hy
 go_enter Tryd.func24, Tryd.ntmps24
 go_wp2_with (first | (refine wpList_box rfl 26 _ rfl (ndC x) rfl ?_; intro g2 w1 hb hx hg; have HB1 := Lib.hid hb; have HX1 := Lib.hid hx; clear hb hx hg) | (refine wpList_box rfl 26 _ rfl (ndC y) rfl ?_; intro g3 w2 hb hx hg; have HB2 := Lib.hid (HB1.out.below hx); have HC2 := Lib.hid hb; have HX2 := Lib.hid (belowThen HX1.out (Nat.le_refl _) hx); clear hb hx hg) | (with_reducible refine wpList_loadL (NdL.of_blk HB2.out).all rfl _ rfl rfl ?_))
 refine (tright_any (.agg (ndC x)) t w2 ⟨x, rfl, HX.out.below HX2.out⟩).mono ?_
 rintro e w3 ⟨rfl, hx⟩
 have HB3 := Lib.hid (HB2.out.below hx)
 have HC3 := Lib.hid (HC2.out.below hx)
 have HX3 := Lib.hid (belowThen HX2.out (Nat.le_refl _) hx)
 clear hx
 cases hr : right t with
 | false =>
  have HRF := Lib.hid hr
  clear hr
  go_wp2_with fail
  go_ret
  exact ⟨by rw [HRF.out]; rfl, HX3.out⟩
 | true =>
  have HRT := Lib.hid hr
  clear hr
  go_wp2_with (first | (with_reducible refine wpList_loadL (NdL.of_blk HC3.out).all rfl _ rfl rfl ?_))
  refine (tright_any (.agg (ndC y)) u w3 ⟨y, rfl, HY.out.below HX3.out⟩).mono ?_
  rintro e w4 ⟨rfl, hx⟩
  have HB4 := Lib.hid (HB3.out.below hx)
  have HC4 := Lib.hid (HC3.out.below hx)
  have HX4 := Lib.hid (belowThen HX3.out (Nat.le_refl _) hx)
  clear hx
  cases hr : right u with
  | false =>
   have HRF := Lib.hid hr
   clear hr
   go_wp2_with fail
   go_ret
   exact ⟨by rw [HRT.out, HRF.out]; rfl, HX4.out⟩
  | true =>
   have h1 := right_msz HRT.out
   have h2 := right_msz hr
   have HRU := Lib.hid hr
   clear hr
   go_wp2_with (first | (with_reducible refine wpList_loadL (NdL.of_blk HB4.out).all rfl _ rfl rfl ?_) | (with_reducible refine wpList_loadL (NdL.of_blk HC4.out).all rfl _ rfl rfl ?_))
   refine (ts_all (count t) t u (Nat.le_refl _) (by omega) (by omega) (.agg (ndC x)) (.agg (ndC y)) w4 ⟨x, rfl, HX.out.below HX4.out⟩ ⟨y, rfl, HY.out.below HX4.out⟩).mono ?_
   rintro e w5 ⟨rfl, hx⟩
   have HX5 := Lib.hid (belowThen HX4.out (Nat.le_refl _) hx)
   clear hx
   go_wp2_with fail
   go_ret
   exact ⟨by rw [HRT.out, HRU.out]; rfl, HX5.out⟩
end Go.Proofs.YtfiadgdinhmgbaaDoor
/-! 'copy' into a row of the call's own, at elements of many cells. -/
namespace Go.Agg
open Go.RowKit
section
variable {P : Program} {α : Type} {E : Elem P α} {w : World} {base : Nat}
theorem Elem.flat_take (l : List α) (k : Nat) (hk : k ≤ l.length) : (E.flat l).take (k * E.n) = E.flat (l.take k) := by
 have h : E.flat l = E.flat (l.take k) ++ E.flat (l.drop k) := by rw [← E.flat_append, List.take_append_drop]
 rw [h, List.take_left' (by rw [E.flat_length, List.length_take, Nat.min_eq_left hk])]
theorem Elem.flat_drop (l : List α) (k : Nat) (hk : k ≤ l.length) : (E.flat l).drop (k * E.n) = E.flat (l.drop k) := by
 have h : E.flat l = E.flat (l.take k) ++ E.flat (l.drop k) := by rw [← E.flat_append, List.take_append_drop]
 rw [h, List.drop_left' (by rw [E.flat_length, List.length_take, Nat.min_eq_left hk])]
theorem run_copyE (w : World) (sT ty : TypeId) (g o dLen dCap : Nat) (a : Addr) (sLen sCap : Nat) (cur : Array Value) (t : TypeId) (cs : List Value)
  (hg : w.heap[g]? = some (.cells cur t (0, 0))) (hn : cs.length = Nat.min sLen dLen * E.n)
  (hsrc : ∀ j v, cs[j]? = some v → w.cell? (a.add j) = some v) (hfit : o + cs.length ≤ cur.size) (h1 : ∀ v ∈ cs, v.oneCell' = true) :
  (Builtin.copy_ #[E.st, sT] ty #[.slice (some ⟨g, o, none⟩) dLen dCap, .slice (some a) sLen sCap]).run P w =
   .ok (goInt (Nat.min sLen dLen : Nat)) (w.setRow g (cur.toList.take o ++ cs ++ cur.toList.drop (o + cs.length)).toArray) := by
 obtain ⟨i, hi, _, hs, _⟩ := E.info
 have hl := run_loadCells_list (P := P) w a cs hsrc
 have hst := run_storeCells_at P g o t cs 0 cur w hg (by simpa using hfit) h1
 simp [Builtin.copy_, run_underlying E.slice, Builtin.lenOf, Builtin.firstCells, sizeOf, typeInfo, hi, hs, ← hn, hl, hst]
theorem splice_take {β : Type} (C cs : List β) (o N : Nat) (h1 : o + cs.length ≤ N) (h2 : N ≤ C.length) : (C.take o ++ cs ++ C.drop (o + cs.length)).take N = (C.take N).take o ++ cs ++ (C.take N).drop (o + cs.length) := by
 rw [List.take_append, List.take_of_length_le (by simp; omega)]
 congr 1
 ·rw [List.take_take, Nat.min_eq_left (by omega)]
 ·rw [List.drop_take]; congr 1; simp; omega
theorem run_copy_put {g n c : Nat} {sv : Value} {l m : List α} (hown : Own E base w (.slice (some ⟨g, 0, none⟩) n c) l) (hs : SliceOf E w sv m) (hne : m ≠ []) (k dl dc : Nat) (hk : k + m.length ≤ l.length) (hdl : m.length ≤ dl) (ty : TypeId) :
  ∃ cur, (Builtin.copy_ #[E.st, E.st] ty #[.slice (some ⟨g, k * E.n, none⟩) dl dc, sv]).run P w = .ok (goInt (m.length : Nat)) (w.setRow g cur) ∧ Own E base (w.setRow g cur) (.slice (some ⟨g, 0, none⟩) n c) (l.take k ++ m ++ l.drop (k + m.length)) := by
 obtain ⟨hfl, ⟨h0, _⟩ | ⟨g', cap, cur, hv, hgb, hcur, hle, hmx, hsz, htk⟩⟩ := hown
 ·cases h0
 ·obtain ⟨rfl, rfl, rfl⟩ : g = g' ∧ n = l.length ∧ c = cap := by injection hv with e1 e2 e3; injection e1 with e1; injection e1 with e1; exact ⟨e1, e2, e3⟩
  rcases hs with ⟨p, c', rfl, rfl⟩ | ⟨p, sc, rfl, hp, hsc⟩
  ·exact absurd rfl hne
  ·have hml : (E.flat m).length = m.length * E.n := E.flat_length m
   have hkm : k * E.n + m.length * E.n ≤ l.length * E.n := by rw [← Nat.add_mul]; exact Nat.mul_le_mul_right _ hk
   have hlc : l.length * E.n ≤ c * E.n := Nat.mul_le_mul_right _ hle
   have hmd : Nat.min m.length dl = m.length := Nat.min_eq_left hdl
   refine ⟨_, (run_copyE w E.st ty g (k * E.n) dl dc p m.length sc cur E.ty (E.flat m) hcur (by rw [hml, hmd]) hsc (by rw [hml, hsz]; omega) (E.flat_one' m)).trans (by rw [hmd]), ?_⟩
   refine ⟨E.flat_length _, .inr ⟨g, c, _, by congr 1; simp; omega, hgb, setRow_heap _ _ _ _ _ _ hcur, by simp; omega, hmx, ?_, ?_⟩⟩
   ·simp [hml]
    rw [← hsz] at *; omega
   ·rw [show (l.take k ++ m ++ l.drop (k + m.length)).length = l.length by simp; omega, splice_take _ _ _ _ (by rw [hml]; exact hkm) (by rw [show cur.toList.length = cur.size from Array.length_toList, hsz]; exact hlc), htk, E.flat_append, E.flat_append, hml, ← Nat.add_mul, E.flat_take _ _ (by omega), E.flat_drop _ _ hk]
theorem run_copy_up {g n c : Nat} {l : List α} (hown : Own E base w (.slice (some ⟨g, 0, none⟩) n c) l) (hroom : n + 1 ≤ c) (k dl dc sl sc : Nat) (hk : k < n) (hdl : dl = n - k) (hsl : sl = n + 1 - k) (ty : TypeId) :
  ∃ cur, (Builtin.copy_ #[E.st, E.st] ty #[.slice (some ⟨g, (k + 1) * E.n, none⟩) dl dc, .slice (some ⟨g, k * E.n, none⟩) sl sc]).run P w = .ok (goInt ((n - k : Nat) : Nat)) (w.setRow g cur) ∧ Own E base (w.setRow g cur) (.slice (some ⟨g, 0, none⟩) (n + 1) c) (l.take (k + 1) ++ l.drop k) := by
 obtain ⟨hfl, ⟨h0, _⟩ | ⟨g', cap, cur, hv, hgb, hcur, hle, hmx, hsz, htk⟩⟩ := hown
 ·cases h0
 ·obtain ⟨rfl, rfl, rfl⟩ : g = g' ∧ n = l.length ∧ c = cap := by injection hv with e1 e2 e3; injection e1 with e1; injection e1 with e1; exact ⟨e1, e2, e3⟩
  subst hdl hsl
  have hml : (E.flat (l.drop k)).length = (l.length - k) * E.n := by rw [E.flat_length, List.length_drop]
  have hkn : (k + 1) * E.n + (l.length - k) * E.n = (l.length + 1) * E.n := by rw [← Nat.add_mul]; congr 1; omega
  have hlc : (l.length + 1) * E.n ≤ c * E.n := Nat.mul_le_mul_right _ hroom
  have hmn : Nat.min (l.length + 1 - k) (l.length - k) = l.length - k := Nat.min_eq_right (by omega)
  refine ⟨_, (run_copyE w E.st ty g ((k + 1) * E.n) (l.length - k) dc ⟨g, k * E.n, none⟩ (l.length + 1 - k) sc cur E.ty (E.flat (l.drop k)) hcur (by rw [hml, hmn]) ?_ (by rw [hml, hsz]; omega) (E.flat_one' _)).trans (by rw [hmn]), ?_⟩
  ·intro j u hj
   rw [add_plain, cell_of_row _ _ _ _ _ _ hcur]
   rw [← E.flat_drop _ _ (by omega), ← htk, List.getElem?_drop, List.getElem?_take] at hj
   split at hj
   ·simpa using hj
   ·cases hj
  ·have hl1 : (l.take (k + 1) ++ l.drop k).length = l.length + 1 := by simp; omega
   refine ⟨by rw [E.flat_length, hl1], .inr ⟨g, c, _, by rw [hl1], hgb, setRow_heap _ _ _ _ _ _ hcur, by omega, hmx, ?_, ?_⟩⟩
   ·simp [hml]; rw [← hsz] at hlc ⊢; omega
   ·rw [hl1, List.take_append_of_le_length (by simp [hml]; rw [← hsz] at hlc; omega), List.take_of_length_le (by simp [hml]; omega), E.flat_append, ← E.flat_take _ _ (by omega), ← htk, List.take_take, Nat.min_eq_left (Nat.mul_le_mul_right _ (by omega))]
end
end Go.Agg
