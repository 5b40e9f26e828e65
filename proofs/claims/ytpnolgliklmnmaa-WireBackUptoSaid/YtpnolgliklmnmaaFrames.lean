/- Frames of bytes: the plain law. -/
namespace Go.Agg
/-- a number as bytes, seven bits each -/
def encN (n : Nat) : List UInt8 := if h : 128 ≤ n then UInt8.ofNat (n % 128 + 128) :: encN (n / 128) else [UInt8.ofNat n]
termination_by n
decreasing_by omega
theorem encN_lt {n : Nat} (h : n < 128) : encN n = [UInt8.ofNat n] := by rw [encN, dif_neg (by omega)]
theorem encN_ge {n : Nat} (h : 128 ≤ n) : encN n = UInt8.ofNat (n % 128 + 128) :: encN (n / 128) := by rw [encN, dif_pos h]
/-- how many bytes a frame's number has (0: some are missing, below 0: wrong), and what it is -/
def begGo : Nat → Nat → List UInt8 → Int × Nat
  | k, _, [] => if k = 3 then (-1, 0) else (0, 0)
  | k, n, c :: t => if k = 3 then (-1, 0) else
    if 65536 < n + c.toNat % 128 * 128 ^ k ∨ (c = 0 ∧ 0 < k) then (-1, 0) else
    if c.toNat < 128 then ((k : Int) + 1, n + c.toNat % 128 * 128 ^ k) else begGo (k + 1) (n + c.toNat % 128 * 128 ^ k) t
def beg (b : List UInt8) : Int × Nat := begGo 0 0 b
theorem begGo_append {x : List UInt8} : ∀ {k n : Nat} (y : List UInt8), (begGo k n x).1 ≠ 0 → begGo k n (x ++ y) = begGo k n x := by
  induction x with
  | nil =>
    intro k n y h
    by_cases hk : k = 3
    · cases y <;> simp [begGo, hk]
    · simp [begGo, hk] at h
  | cons c t ih =>
    intro k n y h
    simp only [List.cons_append, begGo] at h ⊢
    split
    · rfl
    · split
      · rfl
      · split
        · rfl
        · rename_i h1 h2 h3
          rw [if_neg h1, if_neg h2, if_neg h3] at h
          exact ih y h
theorem begGo_le {x : List UInt8} : ∀ {k n : Nat}, k ≤ 3 → (begGo k n x).1 ≤ k + x.length ∧ (0 ≤ (begGo k n x).1 → (begGo k n x).1 ≠ 0 → 1 ≤ (begGo k n x).1) ∧ (begGo k n x).1 ≤ 3 ∧ (begGo k n x).2 ≤ 65536 ∧ -1 ≤ (begGo k n x).1 := by
  induction x with
  | nil => intro k n hk; simp only [begGo]; split <;> simp <;> omega
  | cons c t ih =>
    intro k n hk
    simp only [begGo]
    split
    · simp; omega
    · split
      · simp; omega
      · split
        · simp; omega
        · have := ih (k := k + 1) (n := n + c.toNat % 128 * 128 ^ k) (by omega)
          simp only [List.length_cons]
          omega
theorem beg_le (x : List UInt8) : (beg x).1 ≤ x.length := by have := (begGo_le (x := x) (k := 0) (n := 0) (by omega)).1; simpa [beg] using this
theorem beg_most (x : List UInt8) : (beg x).2 ≤ 65536 := (begGo_le (x := x) (k := 0) (n := 0) (by omega)).2.2.2.1
theorem beg_three (x : List UInt8) : (beg x).1 ≤ 3 := (begGo_le (x := x) (k := 0) (n := 0) (by omega)).2.2.1
def frames (b : List UInt8) : Option (List (List UInt8) × List UInt8) :=
  if _h : (beg b).1 < 0 then none
  else if _h2 : (beg b).1 = 0 ∨ b.length < (beg b).1.toNat + (beg b).2 then some ([], b)
  else (frames (b.drop ((beg b).1.toNat + (beg b).2))).map fun x => ((b.drop (beg b).1.toNat).take (beg b).2 :: x.1, x.2)
termination_by b.length
decreasing_by simp only [List.length_drop]; omega
theorem frames_wrong {b : List UInt8} (h : (beg b).1 < 0) : frames b = none := by rw [frames, dif_pos h]
theorem frames_end {b : List UInt8} (h : ¬ (beg b).1 < 0) (h2 : (beg b).1 = 0 ∨ b.length < (beg b).1.toNat + (beg b).2) : frames b = some ([], b) := by rw [frames, dif_neg h, dif_pos h2]
theorem frames_step {b : List UInt8} (h : ¬ (beg b).1 < 0) (h2 : ¬ ((beg b).1 = 0 ∨ b.length < (beg b).1.toNat + (beg b).2)) :
    frames b = (frames (b.drop ((beg b).1.toNat + (beg b).2))).map fun x => ((b.drop (beg b).1.toNat).take (beg b).2 :: x.1, x.2) := by conv => lhs; rw [frames, dif_neg h, dif_neg h2]
/-- bytes that come in two parts -/
theorem frames_append : ∀ (n : Nat) (x y : List UInt8), x.length ≤ n → frames (x ++ y) = (frames x).bind fun p => (frames (p.2 ++ y)).map fun q => (p.1 ++ q.1, q.2) := by
  intro n
  induction n with
  | zero =>
    intro x y h
    obtain rfl : x = [] := List.length_eq_zero_iff.1 (by omega)
    have h0 : beg [] = (0, 0) := rfl
    rw [frames_end (b := []) (by rw [h0]; omega) (.inl (by rw [h0]))]
    simp
  | succ n ih =>
    intro x y h
    by_cases h1 : (beg x).1 < 0
    · have hb : beg (x ++ y) = beg x := begGo_append y (by unfold beg at h1; omega)
      rw [frames_wrong h1, frames_wrong (by rw [hb]; exact h1)]
      rfl
    · by_cases h2 : (beg x).1 = 0 ∨ x.length < (beg x).1.toNat + (beg x).2
      · rw [frames_end h1 h2]; simp
      · have hb : beg (x ++ y) = beg x := begGo_append y (by unfold beg at h1 h2; omega)
        have hl : (beg x).1.toNat + (beg x).2 ≤ x.length := by omega
        have hd : (x ++ y).drop ((beg x).1.toNat + (beg x).2) = x.drop ((beg x).1.toNat + (beg x).2) ++ y := List.drop_append_of_le_length hl
        have ht : ((x ++ y).drop (beg x).1.toNat).take (beg x).2 = (x.drop (beg x).1.toNat).take (beg x).2 := by
          rw [List.drop_append_of_le_length (by omega), List.take_append_of_le_length (by simp; omega)]
        rw [frames_step h1 h2, frames_step (by rw [hb]; exact h1) (by rw [hb]; simp only [List.length_append]; omega), hb, hd, ht, ih _ y (by simp only [List.length_drop]; omega)]
        cases frames (x.drop ((beg x).1.toNat + (beg x).2)) with
        | none => rfl
        | some p =>
          simp only [Option.map_some, Option.bind_some]
          cases frames (p.2 ++ y) <;> simp
theorem frames_two (b : List UInt8) (k : Nat) : frames b = (frames (b.take k)).bind fun p => (frames (p.2 ++ b.drop k)).map fun q => (p.1 ++ q.1, q.2) := by
  have := frames_append _ (b.take k) (b.drop k) (Nat.le_refl _)
  rwa [List.take_append_drop] at this
theorem toNat_of (n : Nat) (h : n < 256) : (UInt8.ofNat n).toNat = n := by simp; omega
theorem beg_enc {n : Nat} (h : n ≤ 65536) (y : List UInt8) : beg (encN n ++ y) = (((encN n).length : Int), n) := by
  have one : ∀ (k m v : Nat), k < 3 → v < 128 → (v = 0 → k = 0) → m + v * 128 ^ k ≤ 65536 → ∀ t, begGo k m (UInt8.ofNat v :: t) = ((k : Int) + 1, m + v * 128 ^ k) := by
    intro k m v hk hv h0 hm t
    have e := toNat_of v (by omega)
    have hz : UInt8.ofNat v = 0 → v = 0 := fun h => by have := congrArg UInt8.toNat h; rw [e] at this; simpa using this
    have h1 : ¬ (65536 < m + v * 128 ^ k ∨ (UInt8.ofNat v = 0 ∧ 0 < k)) := by
      rintro (h | ⟨h, h'⟩)
      · omega
      · have := h0 (hz h); omega
    simp only [begGo, e, Nat.mod_eq_of_lt hv]
    rw [if_neg (by omega), if_neg h1, if_pos hv]
  have more : ∀ (k m v : Nat), k < 3 → v < 128 → m + v * 128 ^ k ≤ 65536 → ∀ t, begGo k m (UInt8.ofNat (v + 128) :: t) = begGo (k + 1) (m + v * 128 ^ k) t := by
    intro k m v hk hv hm t
    have e := toNat_of (v + 128) (by omega)
    have hm2 : (v + 128) % 128 = v := by omega
    have hz : ¬ UInt8.ofNat (v + 128) = 0 := fun h => by have := congrArg UInt8.toNat h; rw [e] at this; simp at this
    have h1 : ¬ (65536 < m + v * 128 ^ k ∨ (UInt8.ofNat (v + 128) = 0 ∧ 0 < k)) := by
      rintro (h | ⟨h, h'⟩)
      · omega
      · exact hz h
    simp only [begGo, e, hm2]
    rw [if_neg (by omega), if_neg h1, if_neg (by omega)]
  unfold beg
  by_cases h1 : n < 128
  · rw [encN_lt h1, List.singleton_append, one 0 0 n (by omega) h1 (by omega) (by omega)]
    simp
  · rw [encN_ge (by omega), List.cons_append, more 0 0 (n % 128) (by omega) (by omega) (by omega)]
    by_cases h2 : n / 128 < 128
    · rw [encN_lt h2, List.singleton_append, one 1 _ (n / 128) (by omega) h2 (by omega) (by omega)]
      simp; omega
    · rw [encN_ge (by omega), List.cons_append, more 1 _ (n / 128 % 128) (by omega) (by omega) (by omega)]
      have h3 : n / 128 / 128 < 128 := by omega
      rw [encN_lt h3, List.singleton_append, one 2 _ (n / 128 / 128) (by omega) h3 (by omega) (by omega)]
      simp; omega
/-- frames that are told -/
def framed (l : List (List UInt8)) : List UInt8 := l.flatMap fun b => encN b.length ++ b
theorem frames_framed (l : List (List UInt8)) (h : ∀ b ∈ l, b.length ≤ 65536) : frames (framed l) = some (l, []) := by
  induction l with
  | nil =>
    have h0 : beg [] = (0, 0) := rfl
    exact frames_end (b := []) (by rw [h0]; omega) (.inl (by rw [h0]))
  | cons b l ih =>
    have hb : beg (framed (b :: l)) = (((encN b.length).length : Int), b.length) := by
      simp only [framed, List.flatMap_cons, List.append_assoc]
      exact beg_enc (h b (by simp)) _
    have hpos : 0 < (encN b.length).length := by
      rw [encN]; split <;> simp
    have hl : (framed (b :: l)).length = (encN b.length).length + b.length + (framed l).length := by simp [framed, Nat.add_assoc]
    rw [frames_step (by rw [hb]; omega) (by rw [hb, hl]; simp only [Int.toNat_natCast]; omega), hb]
    have e1 : (framed (b :: l)).drop ((encN b.length).length + b.length) = framed l := by
      simp only [framed, List.flatMap_cons]
      rw [← List.length_append, List.drop_left]
    have e2 : ((framed (b :: l)).drop (encN b.length).length).take b.length = b := by
      simp only [framed, List.flatMap_cons, List.append_assoc]
      rw [List.drop_left, List.take_left]
    simp only [Int.toNat_natCast, e1, e2, ih (fun c hc => h c (by simp [hc]))]
    rfl
end Go.Agg
