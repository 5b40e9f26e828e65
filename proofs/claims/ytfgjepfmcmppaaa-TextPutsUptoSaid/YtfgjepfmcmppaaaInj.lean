/- A text is of one derivation alone. -/
import Derived.Test.YtfgjepfmcmppaaaText
namespace Go.Proofs.Ytfgjepfmcmppaaa
open Pl
theorem cut_at {a b x y : List UInt8} {s : UInt8} (ha : s ∉ a) (hb : s ∉ b) (h : a ++ s :: x = b ++ s :: y) : a = b ∧ x = y := by
  induction a generalizing b with
  | nil =>
    cases b with
    | nil => exact ⟨rfl, by simpa using h⟩
    | cons c b =>
      simp only [List.nil_append, List.cons_append, List.cons.injEq] at h
      exact absurd (h.1 ▸ List.mem_cons_self) hb
  | cons c a ih =>
    cases b with
    | nil =>
      simp only [List.nil_append, List.cons_append, List.cons.injEq] at h
      exact absurd (h.1.symm ▸ List.mem_cons_self) ha
    | cons e b =>
      simp only [List.cons_append, List.cons.injEq] at h
      obtain ⟨rfl, h⟩ := h
      obtain ⟨rfl, h2⟩ := ih (fun hm => ha (List.mem_cons_of_mem _ hm)) (fun hm => hb (List.mem_cons_of_mem _ hm)) h
      exact ⟨rfl, h2⟩
theorem sgn_not : ∀ n, n < 256 → sgn (UInt8.ofNat n) = true → UInt8.ofNat n ≠ 10 ∧ UInt8.ofNat n ≠ 32 := by decide +kernel
theorem sgn_ne {c : UInt8} (h : sgn c = true) : c ≠ 10 ∧ c ≠ 32 := by
  have := sgn_not c.toNat c.toNat_lt (by simpa using h)
  simpa using this
theorem name_all {s : List UInt8} (h : isName s = true) : ∀ c ∈ s, sgn c = true := by
  simp only [isName, Bool.and_eq_true] at h
  simpa using h.1.1.1
theorem name_no10 {s : List UInt8} (h : isName s = true) : (10 : UInt8) ∉ s := fun hm => (sgn_ne (name_all h _ hm)).1 rfl
theorem name_no32 {s : List UInt8} (h : isName s = true) : (32 : UInt8) ∉ s := fun hm => (sgn_ne (name_all h _ hm)).2 rfl
theorem letter_sgn : ∀ n, n < 32 → sgn (letter n) = true := by decide
theorem letters_sgn (h : List UInt8) : ∀ c ∈ letters h, sgn c = true := by
  intro c hc
  simp only [letters, List.mem_map] at hc
  obtain ⟨n, hn, rfl⟩ := hc
  exact letter_sgn n (digs_lt 32 32 _ (by omega) n hn)
theorem letters_no10 (h : List UInt8) : (10 : UInt8) ∉ letters h := fun hm => (sgn_ne (letters_sgn h _ hm)).1 rfl
theorem pathS_of' {h n : List UInt8} (hn : isName n = true) : pathS h n = letters h ++ 45 :: n := by rw [pathS, if_pos hn]
theorem pathS_no10 {h n : List UInt8} (hn : isName n = true) : (10 : UInt8) ∉ pathS h n := by
  rw [pathS_of' hn]
  intro hm
  rcases List.mem_append.1 hm with h1 | h1
  · exact letters_no10 h h1
  · rcases List.mem_cons.1 h1 with h2 | h2
    · exact absurd h2 (by decide)
    · exact name_no10 hn h2
theorem pathS_inj {p q : P20} (hp : isName p.1.2 = true) (hq : isName q.1.2 = true) (h : pathS p.1.1 p.1.2 = pathS q.1.1 q.1.2) : p = q := by
  rw [pathS_of' hp, pathS_of' hq] at h
  obtain ⟨h1, h2⟩ := List.append_inj h (by rw [letters_length, letters_length])
  exact Subtype.ext (Prod.ext (letters_inj p.2 q.2 h1) (by simpa using h2))
theorem hexd_inj : ∀ a, a < 16 → ∀ b, b < 16 → hexd a = hexd b → a = b := by decide +kernel
theorem hexd_ne : ∀ a, a < 16 → hexd a ≠ 45 := by decide
theorem hex2_inj {c d : UInt8} (h : hex2 c = hex2 d) : c = d := by
  simp only [hex2, List.cons.injEq, and_true] at h
  have hc := c.toNat_lt
  have hd := d.toNat_lt
  have h1 := hexd_inj _ (by omega) _ (by omega) h.1
  have h2 := hexd_inj _ (by omega) _ (by omega) h.2
  exact UInt8.toNat_inj.1 (by omega)
theorem hexs_inj : ∀ {a b : List UInt8}, hexs a = hexs b → a = b
  | [], [], _ => rfl
  | [], d :: b, h => by simp [hexs, hex2] at h
  | c :: a, [], h => by simp [hexs, hex2] at h
  | c :: a, d :: b, h => by
    have h' : hex2 c ++ hexs a = hex2 d ++ hexs b := h
    obtain ⟨h1, h2⟩ := List.append_inj h' rfl
    rw [hex2_inj h1, hexs_inj h2]
theorem digs16_inj {a b : List UInt8} (h : digs16 a = digs16 b) : a = b := by
  have key : ∀ {a : List UInt8}, a ≠ [] → hexs a ≠ [45] := by
    intro a ha e
    have := congrArg List.length e
    rw [hexs_length] at this
    simp at this; omega
  unfold digs16 at h
  by_cases h1 : a = [] <;> by_cases h2 : b = []
  · rw [h1, h2]
  · rw [if_pos h1, if_neg h2] at h; exact absurd h.symm (key h2)
  · rw [if_neg h1, if_pos h2] at h; exact absurd h (key h1)
  · rw [if_neg h1, if_neg h2] at h; exact hexs_inj h
theorem hexd_no10 : ∀ a, a < 16 → hexd a ≠ 10 := by decide
theorem digs16_no10 (a : List UInt8) : (10 : UInt8) ∉ digs16 a := by
  unfold digs16
  split
  · decide
  · intro hm
    simp only [hexs, List.mem_flatMap, hex2, List.mem_cons, List.not_mem_nil, or_false] at hm
    obtain ⟨c, _, h | h⟩ := hm
    · have := c.toNat_lt; exact hexd_no10 _ (by omega) h.symm
    · exact hexd_no10 _ (Nat.mod_lt _ (by omega)) h.symm
/-- what an input must be, whatever stands ahead -/
def okNm (x : Nam) : Prop := isName x.1 = true ∧ (if x.2.2.2 then x.2.1 = zP else isName x.2.1.1.2 = true ∧ x.2.2.1 = zH)
theorem okNm_of {x : Nam} {b : List UInt8} (h : canNm x b = true) : okNm x := by
  simp only [canNm, Bool.and_eq_true] at h
  refine ⟨h.1.1, ?_⟩
  have h2 := h.2
  cases hi : x.2.2.2 <;> rw [hi] at h2 <;> simpa using h2
theorem okNm_all {b : List UInt8} {l : List Nam} (h : canAll b l = true) : ∀ x ∈ l, okNm x := by
  induction l generalizing b with
  | nil => simp
  | cons y l ih =>
    simp only [canAll, Bool.and_eq_true] at h
    intro x hx
    rcases List.mem_cons.1 hx with rfl | hx
    · exact okNm_of h.1
    · exact ih h.2 x hx
def bodyT (l : List Nam) (r : List UInt8) : List UInt8 := l.flatMap (fun x => lineT x ++ [10]) ++ (wRun ++ (digs16 r ++ [10]))
theorem bodyT_cons (x : Nam) (l : List Nam) (r : List UInt8) : bodyT (x :: l) r = lineT x ++ 10 :: bodyT l r := by simp [bodyT]
theorem lineT_yes {x : Nam} (h : x.2.2.2 = true) : lineT x = 99 :: 108 :: 97 :: 115 :: 115 :: 32 :: (x.1 ++ 32 :: letters x.2.2.1.1) := by simp [lineT, h, wClass]
theorem lineT_no {x : Nam} (h : x.2.2.2 = false) : lineT x = 115 :: 114 :: 99 :: 32 :: (x.1 ++ 32 :: pathS x.2.1.1.1 x.2.1.1.2) := by simp [lineT, h, wSrc]
theorem bodyT_nil (r : List UInt8) : bodyT [] r = 114 :: 117 :: 110 :: 32 :: (digs16 r ++ 10 :: []) := by simp [bodyT, wRun]
theorem nam_ext {x y : Nam} (h1 : x.1 = y.1) (h2 : x.2.1 = y.2.1) (h3 : x.2.2.1 = y.2.2.1) (h4 : x.2.2.2 = y.2.2.2) : x = y := Prod.ext h1 (Prod.ext h2 (Prod.ext h3 h4))
theorem bodyT_inj : ∀ {l m : List Nam} {r s : List UInt8}, (∀ x ∈ l, okNm x) → (∀ x ∈ m, okNm x) → bodyT l r = bodyT m s → l = m ∧ r = s
  | [], [], r, s, _, _, h => by
    rw [bodyT_nil, bodyT_nil] at h
    simp only [List.cons.injEq, true_and] at h
    exact ⟨rfl, digs16_inj (cut_at (digs16_no10 r) (digs16_no10 s) h).1⟩
  | [], y :: m, r, s, _, hm, h => by
    rw [bodyT_nil, bodyT_cons] at h
    cases hi : y.2.2.2 with
    | true => rw [lineT_yes hi] at h; simp at h
    | false => rw [lineT_no hi] at h; simp at h
  | x :: l, [], r, s, hl, _, h => by
    rw [bodyT_nil, bodyT_cons] at h
    cases hi : x.2.2.2 with
    | true => rw [lineT_yes hi] at h; simp at h
    | false => rw [lineT_no hi] at h; simp at h
  | x :: l, y :: m, r, s, hl, hm, h => by
    rw [bodyT_cons, bodyT_cons] at h
    have ox := hl x (by simp)
    have oy := hm y (by simp)
    have ih := @bodyT_inj l m r s (fun z hz => hl z (by simp [hz])) (fun z hz => hm z (by simp [hz]))
    cases hi : x.2.2.2 with
    | true =>
      cases hj : y.2.2.2 with
      | false => rw [lineT_yes hi, lineT_no hj] at h; simp at h
      | true =>
        rw [lineT_yes hi, lineT_yes hj] at h
        simp only [List.cons_append, List.cons.injEq, true_and, List.append_assoc] at h
        obtain ⟨e1, h⟩ := cut_at (name_no32 ox.1) (name_no32 oy.1) h
        obtain ⟨e2, h⟩ := cut_at (letters_no10 _) (letters_no10 _) h
        obtain ⟨e3, e4⟩ := ih h
        have sx := ox.2
        have sy := oy.2
        rw [hi, if_pos rfl] at sx
        rw [hj, if_pos rfl] at sy
        refine ⟨?_, e4⟩
        rw [e3, nam_ext e1 (sx.trans sy.symm) (Subtype.ext (letters_inj x.2.2.1.2 y.2.2.1.2 e2)) (hi.trans hj.symm)]
    | false =>
      cases hj : y.2.2.2 with
      | true => rw [lineT_no hi, lineT_yes hj] at h; simp at h
      | false =>
        have sx := ox.2
        have sy := oy.2
        rw [hi, if_neg (by simp)] at sx
        rw [hj, if_neg (by simp)] at sy
        rw [lineT_no hi, lineT_no hj] at h
        simp only [List.cons_append, List.cons.injEq, true_and, List.append_assoc] at h
        obtain ⟨e1, h⟩ := cut_at (name_no32 ox.1) (name_no32 oy.1) h
        obtain ⟨e2, h⟩ := cut_at (pathS_no10 sx.1) (pathS_no10 sy.1) h
        obtain ⟨e3, e4⟩ := ih h
        refine ⟨?_, e4⟩
        rw [e3, nam_ext e1 (pathS_inj sx.1 sy.1 e2) (sx.2.trans sy.2.symm) (hi.trans hj.symm)]
theorem textD_body (d : Drv) : textD d = 100 :: 114 :: 118 :: 32 :: (d.1 ++ 10 :: bodyT d.2.1 d.2.2) := by simp [textD, bodyT, wDrv]
theorem canDrv_split {d : Drv} (h : canDrv d = true) : isName d.1 = true ∧ canAll [] d.2.1 = true := by
  simp only [canDrv, Bool.and_eq_true] at h
  exact ⟨h.1.1.1, h.2⟩
theorem textD_inj {c d : Drv} (hc : canDrv c = true) (hd : canDrv d = true) (h : textD c = textD d) : c = d := by
  obtain ⟨c1, c2⟩ := canDrv_split hc
  obtain ⟨d1, d2⟩ := canDrv_split hd
  rw [textD_body, textD_body] at h
  simp only [List.cons.injEq, true_and] at h
  obtain ⟨e1, h⟩ := cut_at (name_no10 c1) (name_no10 d1) h
  obtain ⟨e2, e3⟩ := bodyT_inj (okNm_all c2) (okNm_all d2) h
  exact Prod.ext e1 (Prod.ext e2 e3)
theorem putE_zero {d : Drv} (h : putE d = 0) : canDrv d = true ∧ putB d = textD d := by
  unfold putE at h
  unfold putB
  split at h
  · rename_i hc
    split at h
    · rename_i hl; simp [hc, hl]
    · cases h
  · cases h
theorem put_same {c d : Drv} (hc : putE c = 0) (hd : putE d = 0) : decide (putB c = putB d) = decide (c = d) := by
  obtain ⟨c1, c2⟩ := putE_zero hc
  obtain ⟨d1, d2⟩ := putE_zero hd
  rw [c2, d2, decide_eq_decide]
  exact ⟨textD_inj c1 d1, fun e => by rw [e]⟩
end Go.Proofs.Ytfgjepfmcmppaaa
