/- Comparison of strings, as operations. (Several texts in one.) -/
import Derived.Test.YtfiadgdinhmgbaaDoorWAE
import Derived.Test.YtfiadgdinhmgbaaDoorWAI
import Derived.Test.YtfiadgdinhmgbaaDoorWAF
import Derived.Test.YtfiadgdinhmgbaaDoorWAA
/-! A tree's archive (chapter 9), as a function; what archives are read to. No program in sight. -/
namespace Go.Tr
open Go.Proofs.YtfiadgdinhmgbaaDoor Go.Agg
mutual
def packB : T → List UInt8
  | .mk k b l => if k = 4 then encN 4 ++ (encN l.length ++ packL l) else encN k.toNat ++ encT b
def packL : List K → List UInt8
  | [] => []
  | (n, t) :: l => encT n ++ (packB t ++ packL l)
end
abbrev S := Option (List UInt8)
/-- the kids that stand there, each behind a name above the last one; what reads a node: from so many nodes left and what is left -/
def opnL (g : Nat → S → Option (T × Nat × S)) : Nat → List UInt8 → Nat → S → Option (List K × Nat × S)
  | 0, _, left, s => some ([], left, s)
  | c + 1, last, left, s => if Op.bytesLess last (sText 24 s).1 then
      match g left (sText 24 s).2 with
      | none => none
      | some (t, left', s2) => match opnL g c (sText 24 s).1 left' s2 with
        | none => none
        | some (l, left'', s3) => some (((sText 24 s).1, t) :: l, left'', s3)
    else none
/-- the node that stands there, as the program reads it -/
def opn : Nat → Nat → Nat → S → Option (T × Nat × S)
  | 0, _, _, _ => none
  | f + 1, d, left, s => if left = 0 ∨ 8 < d then none else
      if (sNum 4 s).1 = 4 then
        match opnL (opn f (d + 1)) (sNum 200 (sNum 4 s).2).1 [] (left - 1) (sNum 200 (sNum 4 s).2).2 with
        | none => none
        | some (l, left', s') => some (.mk 4 [] l, left', s')
      else some (.mk ((sNum 4 s).1 : Int) (sText 2048 (sNum 4 s).2).1 [], left - 1, (sText 2048 (sNum 4 s).2).2)
theorem name_le {n : List UInt8} (h : Pl.isName n = true) : n.length ≤ 24 := by
  simp only [Pl.isName, Bool.and_eq_true, decide_eq_true_eq] at h
  exact h.1.2
theorem less_ne {n : List UInt8} (h : n ≠ []) : Op.bytesLess [] n = true := by
  cases n with
  | nil => exact absurd rfl h
  | cons c n => rfl
/-- what a node is, where it is alone -/
theorem alone_cases {k : Int} {b : List UInt8} {l : List K} (h : alone (.mk k b l) = true) : (k = 4 ∧ b = [] ∧ l.length ≤ 200 ∧ named none l = true) ∨ (k ≠ 4 ∧ 1 ≤ k ∧ k ≤ 3 ∧ b.length ≤ 2048 ∧ l = []) := by
  simp only [alone, Bool.or_eq_true, Bool.and_eq_true, decide_eq_true_eq, List.isEmpty_iff] at h
  rcases h with (⟨⟨h1 | h1, h2⟩, h3⟩ | ⟨⟨⟨h1, h2⟩, h4⟩, h3⟩) | ⟨⟨⟨h1, h2⟩, h3⟩, h4⟩
  · exact .inr ⟨by omega, by omega, by omega, h2, h3⟩
  · exact .inr ⟨by omega, by omega, by omega, h2, h3⟩
  · exact .inr ⟨by omega, by omega, by omega, by omega, h3⟩
  · exact .inl ⟨h1, h2, h3, h4⟩
/-- kids read back, where nodes are -/
theorem opnL_put {g : Nat → S → Option (T × Nat × S)} : ∀ (l : List K) (b : Option (List UInt8)) (left : Nat) (y : List UInt8), named b l = true → countL l ≤ left →
    (∀ x ∈ l, ∀ left y, count x.2 ≤ left → g left (some (packB x.2 ++ y)) = some (x.2, left - count x.2, some y)) →
    opnL g l.length (b.getD []) left (some (packL l ++ y)) = some (l, left - countL l, some y)
  | [], b, left, y, _, _, _ => by simp [opnL, packL, countL]
  | (n, t) :: l, b, left, y, hn, hc, hg => by
    simp only [named, Bool.and_eq_true] at hn
    obtain ⟨⟨h1, h2⟩, h3⟩ := hn
    have hl := name_le h1
    have ht : sText 24 (some (packL ((n, t) :: l) ++ y)) = (n, some (packB t ++ (packL l ++ y))) := by
      rw [packL, List.append_assoc, List.append_assoc]
      exact sText_enc hl (by omega) _
    have hless : Op.bytesLess (b.getD []) n = true := by
      cases b with
      | none => exact less_ne (name_ne h1)
      | some b => exact h2
    simp only [countL] at hc ⊢
    have hg1 := hg (n, t) (by simp) left (packL l ++ y) (by show count t ≤ left; omega)
    have ih := opnL_put l (some n) (left - count t) y h3 (by omega) (fun x hx => hg x (by simp [hx]))
    simp only [List.length_cons, opnL, ht, hless, if_true, hg1]
    rw [show (some n : Option (List UInt8)).getD [] = n from rfl] at ih
    rw [ih]
    simp only [Nat.sub_sub]
/-- an archive is read to its tree -/
theorem opn_put : ∀ (f : Nat) (t : T) (d left : Nat) (y : List UInt8), ok t = true → count t ≤ left → d + deep t ≤ 9 → deep t ≤ f → opn f d left (some (packB t ++ y)) = some (t, left - count t, some y)
  | 0, t, d, left, y, _, _, _, h => by have := deep_pos t; omega
  | f + 1, .mk k b l, d, left, y, hok, hc, hd, hf => by
    have hp := count_pos (.mk k b l)
    have hdp := deep_pos (.mk k b l)
    have ha : alone (.mk k b l) = true := by simp only [ok, Bool.and_eq_true] at hok; exact hok.1
    have hk := kids_ok hok
    rw [show (T.mk k b l).kids = l from rfl] at hk
    unfold opn
    rw [if_neg (by omega)]
    rcases alone_cases ha with ⟨rfl, rfl, h200, hnm⟩ | ⟨h4, h1, h3, h2048, rfl⟩
    · have e1 : sNum 4 (some (packB (.mk 4 [] l) ++ y)) = (4, some (encN l.length ++ (packL l ++ y))) := by
        simp only [packB, if_true, List.append_assoc]
        exact sNum_enc (by omega) (by omega) _
      have e2 : sNum 200 (some (encN l.length ++ (packL l ++ y))) = (l.length, some (packL l ++ y)) := sNum_enc (by omega) h200 _
      simp only [e1, e2, if_true]
      simp only [count, deep] at hc hd hf ⊢
      have := opnL_put (g := opn f (d + 1)) l none (left - 1) y hnm (by omega) (fun x hx left y hcx => opn_put f x.2 (d + 1) left y (okL_mem hk hx) hcx (by have := deepL_mem hx; omega) (by have := deepL_mem hx; omega))
      rw [show (none : Option (List UInt8)).getD [] = [] from rfl] at this
      rw [this]
      simp only [Option.some.injEq, Prod.mk.injEq, true_and, and_true]
      omega
    · have e1 : sNum 4 (some (packB (.mk k b []) ++ y)) = (k.toNat, some (encT b ++ y)) := by
        simp only [packB, if_neg h4, List.append_assoc]
        exact sNum_enc (by omega) (by omega) _
      have e2 : sText 2048 (some (encT b ++ y)) = (b, some y) := sText_enc h2048 (by omega) _
      have hk4 : ¬ k.toNat = 4 := by omega
      simp only [e1, e2, if_neg hk4]
      simp only [count, countL, Option.some.injEq, Prod.mk.injEq, T.mk.injEq, and_true]
      omega
theorem opnL_some {g : Nat → S → Option (T × Nat × S)} (hg : ∀ left s t left' y, g left s = some (t, left', some y) → s = some (packB t ++ y)) (hn : ∀ left, ∀ r, g left none = some r → r.2.2 = none) : ∀ (c : Nat) (last : List UInt8) (left : Nat) (s : S) (l : List K) (left' : Nat) (y : List UInt8), opnL g c last left s = some (l, left', some y) → s = some (packL l ++ y) ∧ l.length = c
  | 0, last, left, s, l, left', y, h => by
    simp only [opnL, Option.some.injEq, Prod.mk.injEq] at h
    obtain ⟨rfl, _, rfl⟩ := h
    exact ⟨rfl, rfl⟩
  | c + 1, last, left, s, l, left', y, h => by
    simp only [opnL] at h
    split at h
    · split at h
      · cases h
      · rename_i t left2 s2 hgt
        split at h
        · cases h
        · rename_i l2 left3 s3 hl2
          simp only [Option.some.injEq, Prod.mk.injEq] at h
          obtain ⟨rfl, _, rfl⟩ := h
          obtain ⟨h1, h2⟩ := opnL_some hg hn c _ _ _ _ _ _ hl2
          subst h1
          have h3 := hg _ _ _ _ _ hgt
          have h4 := sText_some (most := 24) (s := s) (l := (sText 24 s).1) (y := packB t ++ (packL l2 ++ y)) (by rw [← h3])
          refine ⟨h4.1.trans ?_, by simp [h2]⟩
          rw [packL, List.append_assoc, List.append_assoc]
    · cases h
theorem opnL_none {g : Nat → S → Option (T × Nat × S)} (hn : ∀ left, ∀ r, g left none = some r → r.2.2 = none) : ∀ (c : Nat) (last : List UInt8) (left : Nat) (r : List K × Nat × S), opnL g c last left none = some r → r.2.2 = none
  | 0, last, left, r, h => by
    simp only [opnL, Option.some.injEq] at h
    rw [← h]
  | c + 1, last, left, r, h => by
    simp only [opnL] at h
    split at h
    · split at h
      · cases h
      · rename_i t left2 s2 hgt
        have h2 : s2 = none := hn left _ hgt
        subst h2
        split at h
        · cases h
        · rename_i l2 left3 s3 hl2
          have h3 : s3 = none := opnL_none hn c _ _ _ hl2
          subst h3
          rw [← Option.some.inj h]
    · cases h
theorem opn_none : ∀ (f d left : Nat) (r : T × Nat × S), opn f d left none = some r → r.2.2 = none
  | 0, d, left, r, h => by simp [opn] at h
  | f + 1, d, left, r, h => by
    have e1 : sNum 4 none = (0, none) := rfl
    have e2 : (sText 2048 none).2 = none := rfl
    simp only [opn, e1, e2] at h
    split at h
    · cases h
    · simp only [show ¬ (0 : Nat) = 4 by omega, if_false] at h
      rw [← Option.some.inj h]
/-- what is read is an archive of what it is read to -/
theorem opn_some : ∀ (f d left : Nat) (s : S) (t : T) (left' : Nat) (y : List UInt8), opn f d left s = some (t, left', some y) → s = some (packB t ++ y)
  | 0, d, left, s, t, left', y, h => by simp [opn] at h
  | f + 1, d, left, s, t, left', y, h => by
    simp only [opn] at h
    split at h
    · cases h
    · obtain ⟨k, s1, hk⟩ : ∃ k s1, sNum 4 s = (k, s1) := ⟨_, _, rfl⟩
      rw [hk] at h
      split at h
      · rename_i h4
        have h4 : k = 4 := h4
        subst h4
        obtain ⟨c, s2, hc⟩ : ∃ c s2, sNum 200 s1 = (c, s2) := ⟨_, _, rfl⟩
        simp only [hc] at h
        split at h
        · cases h
        · rename_i l left2 s3 hl
          simp only [Option.some.injEq, Prod.mk.injEq] at h
          obtain ⟨rfl, _, rfl⟩ := h
          obtain ⟨h1, h2⟩ := opnL_some (fun left s t left' y => opn_some f (d + 1) left s t left' y) (fun left r => opn_none f (d + 1) left r) c _ _ _ _ _ _ hl
          subst h1
          obtain ⟨h3, _, _⟩ := sNum_some hc
          subst h3
          obtain ⟨h5, _, _⟩ := sNum_some hk
          rw [h5]
          simp only [packB, if_true, List.append_assoc, h2]
      · rename_i h4
        simp only [Option.some.injEq, Prod.mk.injEq] at h
        obtain ⟨rfl, _, h6⟩ := h
        obtain ⟨b, s2, hb⟩ : ∃ b s2, sText 2048 s1 = (b, s2) := ⟨_, _, rfl⟩
        simp only [hb] at h6 ⊢
        subst h6
        obtain ⟨h3, _⟩ := sText_some hb
        subst h3
        obtain ⟨h5, _, _⟩ := sNum_some hk
        have h4 : ¬ k = 4 := h4
        have hk4 : ¬ (k : Int) = 4 := by omega
        rw [h5]
        simp only [packB, if_neg hk4, List.append_assoc, Int.toNat_natCast]
/-- the tree of an archive -/
def openT (b : List UInt8) : Option T := match opn 9 1 200 (some b) with
  | some (t, _, some []) => if right t then some t else none
  | _ => none
/-- .. is the right tree whose archive it is -/
theorem openT_iff (b : List UInt8) (t : T) : openT b = some t ↔ right t = true ∧ packB t = b := by
  constructor
  · intro h
    unfold openT at h
    split at h
    · rename_i t' left' ho
      split at h
      · rename_i hr
        obtain rfl := Option.some.inj h
        have := opn_some _ _ _ _ _ _ _ ho
        simp only [List.append_nil, Option.some.injEq] at this
        exact ⟨hr, this.symm⟩
      · cases h
    · cases h
  · rintro ⟨hr, rfl⟩
    have hr' := hr
    simp only [right, lookB, Bool.and_eq_true, decide_eq_true_eq] at hr'
    have := opn_put 9 t 1 200 [] hr'.1.1 (by omega) (by omega) (by omega)
    rw [List.append_nil] at this
    unfold openT
    rw [this]
    simp only [if_pos hr]
theorem packB_inj {t u : T} (ht : right t = true) (hu : right u = true) (h : packB t = packB u) : t = u := by
  have h1 := (openT_iff (packB t) t).2 ⟨ht, rfl⟩
  have h2 := (openT_iff (packB t) u).2 ⟨hu, h.symm⟩
  rw [h1] at h2
  exact Option.some.inj h2
end Go.Tr
/-! The nodes of a tree with their ways as bytes, in the walk's order. No program in sight. -/
namespace Go.Tr
mutual
def walkB (s : List UInt8) : T → List (List UInt8 × T)
  | .mk k b l => (s, .mk k b l) :: walkBL s l
def walkBL (s : List UInt8) : List K → List (List UInt8 × T)
  | [] => []
  | (n, t) :: l => walkB (under s n) t ++ walkBL s l
end
mutual
theorem walkB_ways : ∀ (t : T) (s : List UInt8), (walkB s t).map (·.1) = ways s t
  | .mk k b l, s => by simp only [walkB, ways, List.map_cons, walkBL_ways l s]
theorem walkBL_ways : ∀ (l : List K) (s : List UInt8), (walkBL s l).map (·.1) = waysL s l
  | [], s => rfl
  | (n, t) :: l, s => by simp only [walkBL, waysL, List.map_append, walkB_ways t, walkBL_ways l s]
end
mutual
theorem walkB_nodes : ∀ (t : T) (s : List UInt8) (ws : N), (walkB s t).map (·.2) = (walk ws t).map (·.2)
  | .mk k b l, s, ws => by simp only [walkB, walk, List.map_cons, walkBL_nodes l s ws]
theorem walkBL_nodes : ∀ (l : List K) (s : List UInt8) (ws : N), (walkBL s l).map (·.2) = (walkL ws l).map (·.2)
  | [], s, ws => rfl
  | (n, t) :: l, s, ws => by simp only [walkBL, walkL, List.map_append, walkB_nodes t (under s n) (ws ++ [n]), walkBL_nodes l s ws]
end
theorem walkB_length (t : T) (s : List UInt8) : (walkB s t).length = count t := by
  rw [← ways_length t s, ← walkB_ways t s, List.length_map]
theorem walkBL_length (l : List K) (s : List UInt8) : (walkBL s l).length = countL l := by
  rw [← waysL_length l s, ← walkBL_ways l s, List.length_map]
theorem walkBL_snoc {l : List K} {q : Nat} {z : K} (h : l[q]? = some z) (s : List UInt8) : walkBL s (l.drop q) = walkB (under s z.1) z.2 ++ walkBL s (l.drop (q + 1)) := by
  obtain ⟨hlt, he⟩ := List.getElem?_eq_some_iff.1 h
  rw [List.drop_eq_getElem_cons hlt, he]
  obtain ⟨n, t⟩ := z
  rfl
theorem under_length (s n : List UInt8) : (under s n).length ≤ s.length + 1 + n.length := by
  unfold under
  split
  · omega
  · simp; omega
theorem name_len {n : List UInt8} (h : Pl.isName n = true) : n.length ≤ 24 := by
  simp only [Pl.isName, Bool.and_eq_true, decide_eq_true_eq] at h
  exact h.1.2
mutual
theorem walkB_len : ∀ (t : T) (s : List UInt8), ok t = true → ∀ z ∈ walkB s t, z.1.length ≤ s.length + 30 * deep t
  | .mk k b l, s, h, z, hz => by
    have ha : alone (.mk k b l) = true := by simp only [ok, Bool.and_eq_true] at h; exact h.1
    have hn : ∀ x ∈ l, Pl.isName x.1 = true := by
      rcases alone_cases ha with ⟨_, _, _, hn⟩ | ⟨_, _, _, _, rfl⟩
      · exact named_all _ _ hn
      · intro x hx; cases hx
    have hk := kids_ok h
    simp only [walkB, List.mem_cons] at hz
    simp only [deep]
    rcases hz with rfl | hz
    · show s.length ≤ _; omega
    · have := walkBL_len l s hk hn z hz; omega
theorem walkBL_len : ∀ (l : List K) (s : List UInt8), okL l = true → (∀ x ∈ l, Pl.isName x.1 = true) → ∀ z ∈ walkBL s l, z.1.length ≤ s.length + 25 + 30 * deepL l
  | [], _, _, _, z, hz => by cases hz
  | (n, t) :: l, s, h, hn, z, hz => by
    simp only [okL, Bool.and_eq_true] at h
    simp only [walkBL, List.mem_append] at hz
    have h1 := name_len (hn (n, t) (by simp))
    have h1 : n.length ≤ 24 := h1
    have h2 := under_length s n
    have h3 := Nat.le_max_left (deep t) (deepL l)
    have h4 := Nat.le_max_right (deep t) (deepL l)
    simp only [deepL]
    rcases hz with hz | hz
    · have := walkB_len t (under s n) h.1 z hz; omega
    · have := walkBL_len l s h.2 (fun x hx => hn x (by simp [hx])) z hz; omega
end
theorem wysT_len {t : T} (h : right t = true) {s : List UInt8} (hs : s ∈ wysT t) : s.length ≤ 240 := by
  rw [← wysT_ways h, ← walkB_ways] at hs
  obtain ⟨z, hz, rfl⟩ := List.mem_map.1 hs
  have h1 := walkB_len t [] (right_ok h) z hz
  have h2 := right_deep h
  simp only [List.length_nil] at h1
  omega
theorem wysT_mem {t : T} (h : right t = true) {s : List UInt8} (hs : s ∈ wysT t ++ [[]]) : ∃ x ws, fdE t s = 0 ∧ fdT t s = x ∧ find t ws = some x ∧ s.length ≤ 240 ∧ s ∈ wysT t := by
  have h0 : ([] : List UInt8) ∈ wysT t := by
    obtain ⟨k, b, l⟩ := t
    simp [wysT, walk, joinB]
  have hs' : s ∈ wysT t := by
    rcases List.mem_append.1 hs with hs | hs
    · exact hs
    · rw [List.mem_singleton.1 hs]; exact h0
  obtain ⟨y, hy, rfl⟩ := List.mem_map.1 (show s ∈ (walk [] t).map fun x => joinB x.1 from hs')
  obtain ⟨i, hi⟩ := List.mem_iff_getElem?.1 hy
  obtain ⟨_, _, h1, h2, h3⟩ := walk_at h hi
  exact ⟨y.2, y.1, h2, h3, h1, wysT_len h hs', hs'⟩
end Go.Tr
/-! The digest that the document tells (chapter 2), as a function: plain Lean, no program in sight. -/
namespace Go.Sha
abbrev W := BitVec 32
/-- the eight words -/
structure St where
  (a b c d e f g h : W)
deriving DecidableEq
def rot (x : W) (k : Nat) : W := (x >>> k) ||| (x <<< (32 - k))
def s0 (x : W) : W := rot x 2 ^^^ rot x 13 ^^^ rot x 22
def s1 (x : W) : W := rot x 6 ^^^ rot x 11 ^^^ rot x 25
def t0 (x : W) : W := rot x 7 ^^^ rot x 18 ^^^ (x >>> 3)
def t1 (x : W) : W := rot x 17 ^^^ rot x 19 ^^^ (x >>> 10)
def ch (x y z : W) : W := z ^^^ (x &&& (y ^^^ z))
def maj (x y z : W) : W := (x &&& (y ||| z)) ||| (y &&& z)
theorem ch_eq (x y z : W) : (x &&& y) ||| (~~~x &&& z) = ch x y z := by
  unfold ch; ext i hi; simp; cases x[i] <;> cases y[i] <;> cases z[i] <;> rfl
theorem maj_eq (x y z : W) : ((x &&& y) ||| (x &&& z)) ||| (y &&& z) = maj x y z := by
  unfold maj; ext i hi; simp; cases x[i] <;> cases y[i] <;> cases z[i] <;> rfl
/-- one round -/
def round (k w : W) (x : St) : St :=
  let p := x.h + s1 x.e + ch x.e x.f x.g + k + w
  ⟨p + (s0 x.a + maj x.a x.b x.c), x.a, x.b, x.c, x.d + p, x.e, x.f, x.g⟩
def ks : List W := [
  0x428a2f98, 0x71374491, 0xb5c0fbcf, 0xe9b5dba5, 0x3956c25b, 0x59f111f1, 0x923f82a4, 0xab1c5ed5,
  0xd807aa98, 0x12835b01, 0x243185be, 0x550c7dc3, 0x72be5d74, 0x80deb1fe, 0x9bdc06a7, 0xc19bf174,
  0xe49b69c1, 0xefbe4786, 0x0fc19dc6, 0x240ca1cc, 0x2de92c6f, 0x4a7484aa, 0x5cb0a9dc, 0x76f988da,
  0x983e5152, 0xa831c66d, 0xb00327c8, 0xbf597fc7, 0xc6e00bf3, 0xd5a79147, 0x06ca6351, 0x14292967,
  0x27b70a85, 0x2e1b2138, 0x4d2c6dfc, 0x53380d13, 0x650a7354, 0x766a0abb, 0x81c2c92e, 0x92722c85,
  0xa2bfe8a1, 0xa81a664b, 0xc24b8b70, 0xc76c51a3, 0xd192e819, 0xd6990624, 0xf40e3585, 0x106aa070,
  0x19a4c116, 0x1e376c08, 0x2748774c, 0x34b0bcb5, 0x391c0cb3, 0x4ed8aa4a, 0x5b9cca4f, 0x682e6ff3,
  0x748f82ee, 0x78a5636f, 0x84c87814, 0x8cc70208, 0x90befffa, 0xa4506ceb, 0xbef9a3f7, 0xc67178f2]
theorem ks_length : ks.length = 64 := rfl
/-- four bytes as a word, the highest first -/
def word (b : List UInt8) (i : Nat) : W := BitVec.ofNat 32 (16777216 * (b.getD i 0).toNat + 65536 * (b.getD (i + 1) 0).toNat + 256 * (b.getD (i + 2) 0).toNat + (b.getD (i + 3) 0).toNat)
def nextW (w : List W) : W := t1 (w.getD (w.length - 2) 0) + w.getD (w.length - 7) 0 + t0 (w.getD (w.length - 15) 0) + w.getD (w.length - 16) 0
/-- the first t words of a block -/
def words (b : List UInt8) : Nat → List W
  | 0 => []
  | t + 1 => let w := words b t; w ++ [if t < 16 then word b (4 * t) else nextW w]
theorem words_length (b : List UInt8) (t : Nat) : (words b t).length = t := by
  induction t with
  | zero => rfl
  | succ t ih => simp [words, ih]
def rounds (b : List UInt8) : Nat → St → St
  | 0, x => x
  | t + 1, x => round (ks.getD t 0) ((words b 64).getD t 0) (rounds b t x)
def add (x y : St) : St := ⟨x.a + y.a, x.b + y.b, x.c + y.c, x.d + y.d, x.e + y.e, x.f + y.f, x.g + y.g, x.h + y.h⟩
/-- a block turns the words -/
def block (x : St) (b : List UInt8) : St := add x (rounds b 64 x)
def first : St := ⟨0x6a09e667, 0xbb67ae85, 0x3c6ef372, 0xa54ff53a, 0x510e527f, 0x9b05688c, 0x1f83d9ab, 0x5be0cd19⟩
/-- n blocks of bytes -/
def blocks (l : List UInt8) : Nat → St → St
  | 0, x => x
  | n + 1, x => block (blocks l n x) ((l.drop (64 * n)).take 64)
def tail (n : Nat) : List UInt8 := (128 : UInt8) :: (List.replicate ((119 - n % 64) % 64) 0 ++ (List.range 8).map fun i => UInt8.ofNat (8 * n / 256 ^ (7 - i)))
def padded (l : List UInt8) : List UInt8 := l ++ tail l.length
theorem tail_length (n : Nat) : (tail n).length = (119 - n % 64) % 64 + 9 := by simp [tail]
theorem padded_mod (l : List UInt8) : (padded l).length % 64 = 0 := by
  simp only [padded, List.length_append, tail_length]; omega
def St.list (x : St) : List W := [x.a, x.b, x.c, x.d, x.e, x.f, x.g, x.h]
def St.byte (x : St) (i : Nat) : UInt8 := UInt8.ofNat ((x.list.getD (i / 4) 0).toNat / 256 ^ (3 - i % 4))
def digest (l : List UInt8) : List UInt8 := (List.range 32).map (blocks (padded l) ((padded l).length / 64) first).byte
/-- a digest, folded -/
def fold (s : List UInt8) : List UInt8 := (List.range 20).map fun i => if i < 12 then s.getD i 0 ^^^ s.getD (i + 20) 0 else s.getD i 0
example : (digest []).take 4 = [0xe3, 0xb0, 0xc4, 0x42] := by decide +kernel
example : (digest [97, 98, 99]).take 4 = [0xba, 0x78, 0x16, 0xbf] := by decide +kernel
end Go.Sha
/-! Words of 32 bits as values: what the operations make of them. -/
namespace Go.Agg
open Go.RowKit Go.Sha
def vW (x : W) : Value := .int .u32 (x.toNat : Int)
theorem ofInt_vW (x : W) : BitVec.ofInt 32 (x.toNat : Int) = x := by
  rw [BitVec.ofInt_natCast, BitVec.ofNat_toNat, BitVec.setWidth_eq]
theorem wrap_u32W (x : W) : IntKind.u32.wrap ((x.toNat : Nat) : Int) = (x.toNat : Int) := by
  have := x.isLt
  simp only [IntKind.wrap, IntKind.signed, IntKind.bits, Bool.false_and, Bool.false_eq_true, if_false]
  omega
section
variable {P : Program} {w : World} {t : TypeId} {x y : W}
theorem run_xorW : (binOp .xor t (vW x) (vW y)).run P w = .ok (vW (x ^^^ y)) w := by
  have h : IntKind.u32.wrap (((BitVec.ofInt 32 (x.toNat : Int) ^^^ BitVec.ofInt 32 (y.toNat : Int)).toNat : Nat) : Int) = ((x ^^^ y).toNat : Int) := by rw [ofInt_vW, ofInt_vW]; exact wrap_u32W _
  simp only [binOp, vW, Op.intBits]
  exact congrArg (fun n => Result.ok (Value.int .u32 n) w) h
theorem run_andW : (binOp .and t (vW x) (vW y)).run P w = .ok (vW (x &&& y)) w := by
  have h : IntKind.u32.wrap (((BitVec.ofInt 32 (x.toNat : Int) &&& BitVec.ofInt 32 (y.toNat : Int)).toNat : Nat) : Int) = ((x &&& y).toNat : Int) := by rw [ofInt_vW, ofInt_vW]; exact wrap_u32W _
  simp only [binOp, vW, Op.intBits]
  exact congrArg (fun n => Result.ok (Value.int .u32 n) w) h
theorem run_orW : (binOp .or t (vW x) (vW y)).run P w = .ok (vW (x ||| y)) w := by
  have h : IntKind.u32.wrap (((BitVec.ofInt 32 (x.toNat : Int) ||| BitVec.ofInt 32 (y.toNat : Int)).toNat : Nat) : Int) = ((x ||| y).toNat : Int) := by rw [ofInt_vW, ofInt_vW]; exact wrap_u32W _
  simp only [binOp, vW, Op.intBits]
  exact congrArg (fun n => Result.ok (Value.int .u32 n) w) h
theorem run_addW : (binOp .add t (vW x) (vW y)).run P w = .ok (vW (x + y)) w := by
  have h : IntKind.u32.wrap ((x.toNat : Int) + (y.toNat : Int)) = ((x + y).toNat : Int) := by
    rw [BitVec.toNat_add]
    simp only [IntKind.wrap, IntKind.signed, IntKind.bits, Bool.false_and, Bool.false_eq_true, if_false]
    omega
  simp only [binOp, vW, Op.intArith]
  exact congrArg (fun n => Result.ok (Value.int .u32 n) w) h
theorem run_shlW (k : IntKind) (n : Nat) (hn : n < 32) : (binOp .shl t (vW x) (.int k (n : Int))).run P w = .ok (vW (x <<< n)) w := by
  have h : IntKind.u32.wrap ((x.toNat : Int) * 2 ^ (min ((n : Int).toNat) 32)) = ((x <<< n).toNat : Int) := by
    rw [BitVec.toNat_shiftLeft, Nat.shiftLeft_eq, show min ((n : Int).toNat) 32 = n by omega]
    simp only [IntKind.wrap, IntKind.signed, IntKind.bits, Bool.false_and, Bool.false_eq_true, if_false]
    have : ((x.toNat : Int) * 2 ^ n) = ((x.toNat * 2 ^ n : Nat) : Int) := by push_cast; rfl
    rw [this]
    omega
  simp only [binOp, vW, Op.shift, if_neg (show ¬ (n : Int) < 0 by omega)]
  exact congrArg (fun n => Result.ok (Value.int .u32 n) w) h
theorem run_shrW (k : IntKind) (n : Nat) (hn : n < 32) : (binOp .shr t (vW x) (.int k (n : Int))).run P w = .ok (vW (x >>> n)) w := by
  have h : ((x.toNat : Int).fdiv (2 ^ (min ((n : Int).toNat) 32))) = ((x >>> n).toNat : Int) := by
    rw [BitVec.toNat_ushiftRight, Nat.shiftRight_eq_div_pow, show min ((n : Int).toNat) 32 = n by omega]
    have : ((2 : Int) ^ n) = ((2 ^ n : Nat) : Int) := by push_cast; rfl
    rw [this, Int.fdiv_eq_ediv_of_nonneg _ (Int.natCast_nonneg _)]
    exact (Int.natCast_ediv _ _).symm
  simp only [binOp, vW, Op.shift, if_neg (show ¬ (n : Int) < 0 by omega)]
  exact congrArg (fun n => Result.ok (Value.int .u32 n) w) h
end
section
variable {P : Program} {o : Oper} {a : Act} {w : World} {t u : TypeId} {p q : Operand} {x y : W}
theorem exec_xorW (ho : o.op = .binOp .xor t p q u) (hx : a.eval p = vW x) (hy : a.eval q = vW y) : (execOp a.eval o).run P w = .ok (.value (vW (x ^^^ y))) w := by
  simp only [execOp, ho, hx, hy]
  simp [eqGuard, run_xorW]
theorem exec_andW (ho : o.op = .binOp .and t p q u) (hx : a.eval p = vW x) (hy : a.eval q = vW y) : (execOp a.eval o).run P w = .ok (.value (vW (x &&& y))) w := by
  simp only [execOp, ho, hx, hy]
  simp [eqGuard, run_andW]
theorem exec_orW (ho : o.op = .binOp .or t p q u) (hx : a.eval p = vW x) (hy : a.eval q = vW y) : (execOp a.eval o).run P w = .ok (.value (vW (x ||| y))) w := by
  simp only [execOp, ho, hx, hy]
  simp [eqGuard, run_orW]
theorem exec_addW (ho : o.op = .binOp .add t p q u) (hx : a.eval p = vW x) (hy : a.eval q = vW y) : (execOp a.eval o).run P w = .ok (.value (vW (x + y))) w := by
  simp only [execOp, ho, hx, hy]
  simp [eqGuard, run_addW]
theorem exec_shlW {k : IntKind} (n : Nat) (hn : n < 32) (ho : o.op = .binOp .shl t p q u) (hx : a.eval p = vW x) (hy : a.eval q = .int k (n : Int)) : (execOp a.eval o).run P w = .ok (.value (vW (x <<< n))) w := by
  simp only [execOp, ho, hx, hy]
  simp [eqGuard, run_shlW k n hn]
theorem exec_shrW {k : IntKind} (n : Nat) (hn : n < 32) (ho : o.op = .binOp .shr t p q u) (hx : a.eval p = vW x) (hy : a.eval q = .int k (n : Int)) : (execOp a.eval o).run P w = .ok (.value (vW (x >>> n))) w := by
  simp only [execOp, ho, hx, hy]
  simp [eqGuard, run_shrW k n hn]
end
end Go.Agg
/-! The digest, taken piece by piece: the plain law. -/
namespace Go.Sha
theorem blocks_append (l b : List UInt8) : ∀ (k : Nat) (x : St), 64 * k ≤ l.length → blocks (l ++ b) k x = blocks l k x
  | 0, _, _ => rfl
  | k + 1, x, h => by
    rw [blocks, blocks, blocks_append l b k x (by omega)]
    congr 1
    rw [List.drop_append_of_le_length (by omega), List.take_append_of_le_length (by rw [List.length_drop]; omega)]
/-- the words behind whole blocks, the bytes behind them -/
def sp (l : List UInt8) : St := blocks l (l.length / 64) first
def rst (l : List UInt8) : List UInt8 := l.drop (64 * (l.length / 64))
theorem rst_length (l : List UInt8) : (rst l).length = l.length % 64 := by rw [rst, List.length_drop]; omega
theorem sp_short {l b : List UInt8} (h : l.length % 64 + b.length < 64) : sp (l ++ b) = sp l ∧ rst (l ++ b) = rst l ++ b := by
  have e : (l ++ b).length / 64 = l.length / 64 := by rw [List.length_append]; omega
  refine ⟨by rw [sp, sp, e, blocks_append l b _ _ (by omega)], ?_⟩
  rw [rst, rst, e, List.drop_append_of_le_length (by omega)]
theorem sp_full {l b : List UInt8} (h : l.length % 64 + b.length = 64) : sp (l ++ b) = block (sp l) (rst l ++ b) ∧ rst (l ++ b) = [] := by
  have e : (l ++ b).length / 64 = l.length / 64 + 1 := by rw [List.length_append]; omega
  refine ⟨?_, ?_⟩
  · rw [sp, e, blocks, blocks_append l b _ _ (by omega), List.drop_append_of_le_length (by omega), List.take_of_length_le (by rw [List.length_append, List.length_drop]; omega)]
    rfl
  · rw [rst, e]
    exact List.drop_eq_nil_of_le (by rw [List.length_append]; omega)
theorem digest_sp (l : List UInt8) : digest l = (List.range 32).map (sp (padded l)).byte := rfl
theorem shaByte_at (x : St) (i : Nat) : x.byte i = UInt8.ofNat ((x.list.getD (i / 4) 0).toNat / 256 ^ (3 - i % 4)) := rfl
/-- a tag's, and parts', bytes as they are summed -/
def encL (n : Nat) : List UInt8 := if h : 128 ≤ n then UInt8.ofNat (n % 128 + 128) :: encL (n / 128) else [UInt8.ofNat n]
end Go.Sha
/-! Words out of bytes, turned and mixed; a digest folded: as the code has it. -/
namespace Go.Sha
/-- a word, right-turned by numbers, put together -/
def mixP (x : W) (ks : List Nat) : W := ks.foldl (fun o k => o ^^^ rot x k) 0
theorem mix_s0 (x : W) : mixP x [2, 13, 22] = s0 x := by simp [mixP, s0]
theorem mix_s1 (x : W) : mixP x [6, 11, 25] = s1 x := by simp [mixP, s1]
theorem mix_t0 (x : W) : mixP x [7, 18] ^^^ (x >>> 3) = t0 x := by simp [mixP, t0]
theorem mix_t1 (x : W) : mixP x [17, 19] ^^^ (x >>> 10) = t1 x := by simp [mixP, t1]
theorem mixP_snoc (x : W) (ks : List Nat) (k : Nat) : mixP x (ks ++ [k]) = mixP x ks ^^^ rot x k := by simp [mixP]
/-- a byte as a word -/
def wB (c : UInt8) : W := BitVec.ofNat 32 c.toNat
theorem wB_toNat (c : UInt8) : (wB c).toNat = c.toNat := by
  have := c.toNat_lt
  simp only [wB, BitVec.toNat_ofNat]
  omega
theorem shl_toNat (c : UInt8) (k : Nat) (hk : k ≤ 24) : (wB c <<< k).toNat = c.toNat * 2 ^ k := by
  have h := c.toNat_lt
  rw [BitVec.toNat_shiftLeft, wB_toNat, Nat.shiftLeft_eq]
  refine Nat.mod_eq_of_lt (Nat.lt_of_lt_of_le (Nat.mul_lt_mul_of_pos_right h (Nat.pow_pos (by omega))) ?_)
  calc 2 ^ 8 * 2 ^ k = 2 ^ (8 + k) := by rw [Nat.pow_add]
    _ ≤ 2 ^ 32 := Nat.pow_le_pow_right (by omega) (by omega)
theorem word_or (c0 c1 c2 c3 : UInt8) : (((wB c0 <<< 24) ||| (wB c1 <<< 16)) ||| (wB c2 <<< 8)) ||| wB c3 = BitVec.ofNat 32 (16777216 * c0.toNat + 65536 * c1.toNat + 256 * c2.toNat + c3.toNat) := by
  have h0 := c0.toNat_lt
  have h1 := c1.toNat_lt
  have h2 := c2.toNat_lt
  have h3 := c3.toNat_lt
  apply BitVec.eq_of_toNat_eq
  rw [BitVec.toNat_or, BitVec.toNat_or, BitVec.toNat_or, shl_toNat _ _ (by omega), shl_toNat _ _ (by omega), shl_toNat _ _ (by omega), wB_toNat, BitVec.toNat_ofNat]
  generalize c0.toNat = a at *
  generalize c1.toNat = b at *
  generalize c2.toNat = c at *
  generalize c3.toNat = d at *
  simp only [Nat.reducePow] at *
  have e1 : a * 16777216 ||| b * 65536 = a * 16777216 + b * 65536 := by
    have h := Nat.shiftLeft_add_eq_or_of_lt (i := 24) (b := b * 65536) (by simp only [Nat.reducePow]; omega) a
    simp only [Nat.shiftLeft_eq, Nat.reducePow] at h
    exact h.symm
  have e2 : (a * 16777216 + b * 65536) ||| c * 256 = a * 16777216 + b * 65536 + c * 256 := by
    have h := Nat.shiftLeft_add_eq_or_of_lt (i := 16) (b := c * 256) (by simp only [Nat.reducePow]; omega) (a * 256 + b)
    have e : (a * 256 + b) * 65536 = a * 16777216 + b * 65536 := by omega
    simp only [Nat.shiftLeft_eq, Nat.reducePow, e] at h
    exact h.symm
  have e3 : (a * 16777216 + b * 65536 + c * 256) ||| d = a * 16777216 + b * 65536 + c * 256 + d := by
    have h := Nat.shiftLeft_add_eq_or_of_lt (i := 8) (b := d) (by simp only [Nat.reducePow]; omega) (a * 65536 + b * 256 + c)
    have e : (a * 65536 + b * 256 + c) * 256 = a * 16777216 + b * 65536 + c * 256 := by omega
    simp only [Nat.shiftLeft_eq, Nat.reducePow, e] at h
    exact h.symm
  rw [e1, e2, e3]
  omega
/-- a digest folded, byte by byte -/
def foldG (s : List UInt8) : Nat → List UInt8
  | 0 => List.replicate 20 0
  | k + 1 => (foldG s k).set (k % 20) ((foldG s k).getD (k % 20) 0 ^^^ s.getD k 0)
theorem foldG_length (s : List UInt8) (k : Nat) : (foldG s k).length = 20 := by
  induction k with
  | zero => rfl
  | succ k ih => simp [foldG, ih]
theorem digest_length (l : List UInt8) : (digest l).length = 32 := by simp [digest]
/-- the folded digest of texts -/
def sumF (l : List UInt8) : List UInt8 := foldG (digest l) 32
theorem sumF_length (l : List UInt8) : (sumF l).length = 20 := foldG_length _ _
end Go.Sha
/-! Operations on natural numbers as ints, addresses of elements of an array, a byte made a word. -/
namespace Go.Agg
open Go.RowKit Go.Sha
section
variable {P : Program} {o : Oper} {a : Act} {w : World} {t u : TypeId} {x y : Operand} {m n : Nat}
theorem wrap_i64N (n : Nat) (h : n < 9223372036854775808) : IntKind.i64.wrap (n : Int) = (n : Int) := by rw [IntKind.wrap_i64]; omega
theorem exec_addI (h : m + n < 9223372036854775808) (ho : o.op = .binOp .add t x y u) (hx : a.eval x = .int .i64 (m : Int)) (hy : a.eval y = .int .i64 (n : Int)) : (execOp a.eval o).run P w = .ok (.value (.int .i64 ((m + n : Nat) : Int))) w := by
  have hc : (binOp .add t (.int .i64 (m : Int)) (.int .i64 (n : Int))).run P w = .ok (.int .i64 ((m + n : Nat) : Int)) w := by
    simp only [binOp, Op.intArith]
    refine congrArg (fun n => Result.ok (Value.int .i64 n) w) ?_
    rw [← Int.natCast_add]
    exact wrap_i64N _ h
  simp only [execOp, ho, hx, hy]
  simp [eqGuard, hc]
theorem exec_subI (h : n ≤ m) (hm : m < 9223372036854775808) (ho : o.op = .binOp .sub t x y u) (hx : a.eval x = .int .i64 (m : Int)) (hy : a.eval y = .int .i64 (n : Int)) : (execOp a.eval o).run P w = .ok (.value (.int .i64 ((m - n : Nat) : Int))) w := by
  have hc : (binOp .sub t (.int .i64 (m : Int)) (.int .i64 (n : Int))).run P w = .ok (.int .i64 ((m - n : Nat) : Int)) w := by
    simp only [binOp, Op.intArith]
    refine congrArg (fun n => Result.ok (Value.int .i64 n) w) ?_
    rw [← Int.natCast_sub h]
    exact wrap_i64N _ (by omega)
  simp only [execOp, ho, hx, hy]
  simp [eqGuard, hc]
theorem exec_mulI (h : m * n < 9223372036854775808) (ho : o.op = .binOp .mul t x y u) (hx : a.eval x = .int .i64 (m : Int)) (hy : a.eval y = .int .i64 (n : Int)) : (execOp a.eval o).run P w = .ok (.value (.int .i64 ((m * n : Nat) : Int))) w := by
  have hc : (binOp .mul t (.int .i64 (m : Int)) (.int .i64 (n : Int))).run P w = .ok (.int .i64 ((m * n : Nat) : Int)) w := by
    simp only [binOp, Op.intArith]
    refine congrArg (fun n => Result.ok (Value.int .i64 n) w) ?_
    rw [← Int.natCast_mul]
    exact wrap_i64N _ h
  simp only [execOp, ho, hx, hy]
  simp [eqGuard, hc]
theorem exec_idx {vx vy v : Value} (ho : o.op = .indexAddr t x y) (hx : a.eval x = vx) (hy : a.eval y = vy) (hr : (Instr.indexAt t vx vy).run P w = .ok v w) : (execOp a.eval o).run P w = .ok (.value v) w := by
  simp [execOp, ho, hx, hy, hr]
theorem run_idxArr {e : TypeId} {k : Nat} (ht : P.underlying t = some (.array k e)) (hs : (P.info? e).map (·.size) = some 1) (g b i : Nat) (h : i < k) : (Instr.indexAt t (.pointer (some ⟨g, b, none⟩)) (.int .i64 (i : Int))).run P w = .ok (.pointer (some ⟨g, b + i, none⟩)) w := by
  have hl : P.arrayLen t = k := by simp [Program.arrayLen, ht]
  have he : P.elem t = e := by simp [Program.elem, ht]
  have h0 : (0 : Int) ≤ (i : Int) := by omega
  have h1 : (i : Int) < (k : Int) := by omega
  cases hq : P.info? e with
  | none => simp [hq] at hs
  | some j =>
    have hj : j.size = 1 := by simpa [hq] using hs
    rw [run_indexAt_array w t _ _ _ (by rw [hl, he]; exact ht)]
    rw [hl, he]
    simp [h0, h1, sizeOf, typeInfo, hq, hj]
    first | rfl | simp [Addr.add]
end
end Go.Agg
/-! Comparison of strings, as operations. -/
namespace Go.Agg
open Go.RowKit
section
variable {P : Program} {ops : Array Oper} {rest : List Oper} {o : Oper} {a : Act} {w : World} {Q : Exit → Act → World → Prop} {t u : TypeId} {x y : Operand} {s r : List UInt8}
theorem exec_geqS (ho : o.op = .binOp .geq t x y u) (hx : a.eval x = .string ⟨s.toArray⟩) (hy : a.eval y = .string ⟨r.toArray⟩) : (execOp a.eval o).run P w = .ok (.value (.bool (!Op.bytesLess s r))) w := by
  simp only [execOp, ho, hx, hy]
  simp only [binOp, Op.stringOp, bytes_toList, eqGuard]
  first | rfl | simp
theorem exec_eqlS (ho : o.op = .binOp .eql t x y u) (hx : a.eval x = .string ⟨s.toArray⟩) (hy : a.eval y = .string ⟨r.toArray⟩) : (execOp a.eval o).run P w = .ok (.value (.bool (decide (s = r)))) w := by
  rw [← show (s == r) = decide (s = r) from by by_cases h : s = r <;> simp [h]]
  simp only [execOp, ho, hx, hy]
  simp only [binOp, Op.stringOp, bytes_toList, eqGuard]
  first | rfl | simp
theorem exec_neqS (ho : o.op = .binOp .neq t x y u) (hx : a.eval x = .string ⟨s.toArray⟩) (hy : a.eval y = .string ⟨r.toArray⟩) : (execOp a.eval o).run P w = .ok (.value (.bool (!decide (s = r)))) w := by
  rw [← show (s == r) = decide (s = r) from by by_cases h : s = r <;> simp [h]]
  simp only [execOp, ho, hx, hy]
  simp only [binOp, Op.stringOp, bytes_toList, eqGuard]
  first | rfl | simp
theorem wpQuiet_geqS {C : World → Prop} {Q : Act → Prop} (hw : Region.wanted o (yielded ops a.tmps) = true) (ho : o.op = .binOp .geq t x y u) (hx : a.eval x = .string ⟨s.toArray⟩) (hy : a.eval y = .string ⟨r.toArray⟩) (b : Bool) (hb : (!Op.bytesLess s r) = b)
    (h : wpQuiet P ops C Q rest (a.put o.dst (.bool b))) : wpQuiet P ops C Q (o :: rest) a := by
  subst hb
  exact wpQuiet_val hw _ (fun _ _ => exec_geqS ho hx hy) h
theorem wpQuiet_eqlS {C : World → Prop} {Q : Act → Prop} (hw : Region.wanted o (yielded ops a.tmps) = true) (ho : o.op = .binOp .eql t x y u) (hx : a.eval x = .string ⟨s.toArray⟩) (hy : a.eval y = .string ⟨r.toArray⟩) (b : Bool) (hb : decide (s = r) = b)
    (h : wpQuiet P ops C Q rest (a.put o.dst (.bool b))) : wpQuiet P ops C Q (o :: rest) a := by
  subst hb
  exact wpQuiet_val hw _ (fun _ _ => exec_eqlS ho hx hy) h
theorem wpQuiet_neqS {C : World → Prop} {Q : Act → Prop} (hw : Region.wanted o (yielded ops a.tmps) = true) (ho : o.op = .binOp .neq t x y u) (hx : a.eval x = .string ⟨s.toArray⟩) (hy : a.eval y = .string ⟨r.toArray⟩) (b : Bool) (hb : (!decide (s = r)) = b)
    (h : wpQuiet P ops C Q rest (a.put o.dst (.bool b))) : wpQuiet P ops C Q (o :: rest) a := by
  subst hb
  exact wpQuiet_val hw _ (fun _ _ => exec_neqS ho hx hy) h
theorem wpList_eqlS (hw : Region.wanted o (yielded ops a.tmps) = true) (ho : o.op = .binOp .eql t x y u) (hx : a.eval x = .string ⟨s.toArray⟩) (hy : a.eval y = .string ⟨r.toArray⟩) (b : Bool) (hb : decide (s = r) = b) (h : wpList P ops Q rest (a.put o.dst (.bool b)) w) : wpList P ops Q (o :: rest) a w := by
  subst hb
  exact wpList_valw hw (exec_eqlS ho hx hy) h
theorem wpList_neqS (hw : Region.wanted o (yielded ops a.tmps) = true) (ho : o.op = .binOp .neq t x y u) (hx : a.eval x = .string ⟨s.toArray⟩) (hy : a.eval y = .string ⟨r.toArray⟩) (b : Bool) (hb : (!decide (s = r)) = b) (h : wpList P ops Q rest (a.put o.dst (.bool b)) w) : wpList P ops Q (o :: rest) a w := by
  subst hb
  exact wpList_valw hw (exec_neqS ho hx hy) h
theorem wpList_geqS (hw : Region.wanted o (yielded ops a.tmps) = true) (ho : o.op = .binOp .geq t x y u) (hx : a.eval x = .string ⟨s.toArray⟩) (hy : a.eval y = .string ⟨r.toArray⟩) (b : Bool) (hb : (!Op.bytesLess s r) = b) (h : wpList P ops Q rest (a.put o.dst (.bool b)) w) : wpList P ops Q (o :: rest) a w := by
  subst hb
  exact wpList_valw hw (exec_geqS ho hx hy) h
end
end Go.Agg
