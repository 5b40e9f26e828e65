/- spencekit.mark, markByte; slices of slices of bytes (Several texts in one.) -/
import Derived.Test.YtniibcgomnjfgaaGreatChecked
import Derived.Test.YtniibcgomnjfgaaGreatVAA
import Derived.Test.YtniibcgomnjfgaaGreatVAB
import Derived.Lib.ConvBytes
import Derived.Laws.IdiomStrings
import Derived.Laws.BytesArg
import Derived.Test.YtniibcgomnjfgaaGreatVAC
import Derived.StillTailTactics
/-! Plain numbers and letters of chapter 3: no program in sight. -/
namespace Pl
/-! Numbers in base 256 and 32, lowest first. -/
def num (b : Nat) : List Nat → Nat
  | [] => 0
  | x :: l => x + b * num b l
def digs (b : Nat) : Nat → Nat → List Nat
  | 0, _ => []
  | n + 1, x => x % b :: digs b n (x / b)
theorem digs_length (b n x : Nat) : (digs b n x).length = n := by
  induction n generalizing x with
  | zero => rfl
  | succ n ih => simp [digs, ih]
theorem num_digs (b n x : Nat) (hb : 0 < b) (h : x < b ^ n) : num b (digs b n x) = x := by
  induction n generalizing x with
  | zero => simp [digs, num] at *; omega
  | succ n ih =>
    simp only [digs, num]
    rw [ih (x / b) (by rw [Nat.div_lt_iff_lt_mul hb, ← Nat.pow_succ]; exact h)]
    exact Nat.mod_add_div x b
theorem digs_num (b : Nat) (l : List Nat) (h : ∀ x ∈ l, x < b) : digs b l.length (num b l) = l := by
  induction l with
  | nil => rfl
  | cons x l ih =>
    have hx : x < b := h x (by simp)
    have hb : 0 < b := by omega
    simp only [List.length_cons, digs, num]
    rw [Nat.add_mul_mod_self_left, Nat.mod_eq_of_lt hx, Nat.add_mul_div_left _ _ hb, Nat.div_eq_of_lt hx, Nat.zero_add, ih (fun y hy => h y (by simp [hy]))]
theorem num_lt (b : Nat) (l : List Nat) (h : ∀ x ∈ l, x < b) : num b l < b ^ l.length := by
  induction l with
  | nil => simp [num]
  | cons x l ih =>
    have hx : x < b := h x (by simp)
    have := ih (fun y hy => h y (by simp [hy]))
    simp only [num, List.length_cons, Nat.pow_succ]
    have h1 : b * num b l + b ≤ b * b ^ l.length := by
      rw [← Nat.mul_succ]; exact Nat.mul_le_mul_left b this
    rw [Nat.mul_comm (b ^ l.length)]; omega
theorem num_append (b : Nat) (l m : List Nat) : num b (l ++ m) = num b l + b ^ l.length * num b m := by
  induction l with
  | nil => simp [num]
  | cons x l ih => simp [num, ih, Nat.pow_succ, Nat.mul_add, Nat.mul_assoc, Nat.mul_comm, Nat.add_assoc]
theorem digs_getElem? (b n x i : Nat) (h : i < n) : (digs b n x)[i]? = some (x / b ^ i % b) := by
  induction n generalizing x i with
  | zero => omega
  | succ n ih =>
    cases i with
    | zero => simp [digs]
    | succ i => simp only [digs, List.getElem?_cons_succ]; rw [ih _ _ (by omega), Nat.div_div_eq_div_mul, Nat.pow_succ']
theorem digs_lt (b n x : Nat) (hb : 0 < b) : ∀ y ∈ digs b n x, y < b := by
  induction n generalizing x with
  | zero => simp [digs]
  | succ n ih =>
    intro y hy
    simp only [digs, List.mem_cons] at hy
    rcases hy with rfl | hy
    · exact Nat.mod_lt _ hb
    · exact ih _ y hy

/-! The letters. -/
def alpha : List UInt8 := [48, 49, 50, 51, 52, 53, 54, 55, 56, 57, 97, 98, 99, 100, 102, 103, 104, 105, 106, 107, 108, 109, 110, 112, 113, 114, 115, 118, 119, 120, 121, 122]
def val (c : UInt8) : Option Nat := alpha.idxOf? c
def nats (l : List UInt8) : List Nat := l.map UInt8.toNat
def bytes (l : List Nat) : List UInt8 := l.map UInt8.ofNat
theorem bytes_nats (l : List UInt8) : bytes (nats l) = l := by
  simp [bytes, nats, Function.comp_def]
theorem nats_bytes (l : List Nat) (h : ∀ x ∈ l, x < 256) : nats (bytes l) = l := by
  simp only [bytes, nats, List.map_map]
  conv => rhs; rw [← List.map_id l]
  apply List.map_congr_left
  intro x hx
  simp [UInt8.toNat_ofNat', Nat.mod_eq_of_lt (h x hx)]
theorem nats_lt (l : List UInt8) : ∀ x ∈ nats l, x < 256 := by
  intro x hx
  simp only [nats, List.mem_map] at hx
  obtain ⟨c, _, rfl⟩ := hx
  exact c.toNat_lt
def letter (n : Nat) : UInt8 := alpha.getD n 0
theorem val_letter : ∀ n, n < 32 → val (letter n) = some n := by decide
theorem val_lt {c : UInt8} {n : Nat} (h : val c = some n) : n < 32 := by
  unfold val at h
  obtain ⟨hl, _⟩ := List.idxOf?_eq_some_iff.1 h
  simpa [alpha] using hl
theorem letter_val {c : UInt8} {n : Nat} (h : val c = some n) : letter n = c := by
  unfold val at h
  obtain ⟨hl, he, _⟩ := List.idxOf?_eq_some_iff.1 h
  simp [letter, List.getD, List.getElem?_eq_getElem hl, he]
/-- A hash's letters. -/
def letters (h : List UInt8) : List UInt8 := (digs 32 32 (num 256 (nats h))).map letter
/-- The hash of letters. -/
def hash (s : List UInt8) : Option (List UInt8) :=
  if s.length = 32 then (s.mapM val).map fun l => bytes (digs 256 20 (num 32 l)) else none
theorem letters_length (h : List UInt8) : (letters h).length = 32 := by simp [letters, digs_length]
theorem hash_length {s h : List UInt8} (e : hash s = some h) : h.length = 20 := by
  unfold hash at e
  split at e
  · simp only [Option.map_eq_some_iff] at e
    obtain ⟨l, _, rfl⟩ := e
    simp [bytes, digs_length]
  · cases e
theorem mapM_letter (l : List Nat) (h : ∀ x ∈ l, x < 32) : (l.map letter).mapM val = some l := by
  induction l with
  | nil => rfl
  | cons x l ih =>
    simp [List.mapM_cons, val_letter x (h x (by simp)), ih (fun y hy => h y (by simp [hy]))]
theorem mapM_val {s : List UInt8} {l : List Nat} (h : s.mapM val = some l) : l.map letter = s ∧ (∀ x ∈ l, x < 32) ∧ l.length = s.length := by
  induction s generalizing l with
  | nil => simp at h; subst h; simp
  | cons c s ih =>
    simp only [List.mapM_cons, Option.bind_eq_bind, Option.bind_eq_some_iff, Option.pure_def, Option.some.injEq] at h
    obtain ⟨n, hn, m, hm, rfl⟩ := h
    obtain ⟨h1, h2, h3⟩ := ih hm
    refine ⟨by simp [letter_val hn, h1], ?_, by simp [h3]⟩
    intro x hx
    rcases List.mem_cons.1 hx with rfl | hx
    · exact val_lt hn
    · exact h2 x hx
theorem hash_letters {h : List UInt8} (hl : h.length = 20) : hash (letters h) = some h := by
  unfold hash
  rw [if_pos (letters_length h)]
  have hn : num 256 (nats h) < 256 ^ 20 := by
    have := num_lt 256 (nats h) (nats_lt h)
    simpa [nats, hl] using this
  rw [letters, mapM_letter _ (digs_lt 32 32 _ (by omega))]
  simp only [Option.map_some, Option.some.injEq]
  rw [num_digs 32 32 _ (by omega) (by omega)]
  have := digs_num 256 (nats h) (nats_lt h)
  have hl' : (nats h).length = 20 := by simp [nats, hl]
  rw [hl'] at this
  rw [this, bytes_nats]
theorem letters_hash {s h : List UInt8} (e : hash s = some h) : letters h = s := by
  unfold hash at e
  split at e
  · rename_i hs
    simp only [Option.map_eq_some_iff] at e
    obtain ⟨l, hl, rfl⟩ := e
    obtain ⟨h1, h2, h3⟩ := mapM_val hl
    rw [letters, nats_bytes _ (digs_lt 256 20 _ (by omega))]
    have hn : num 32 l < 32 ^ 32 := by
      have := num_lt 32 l h2
      rwa [h3, hs] at this
    rw [num_digs 256 20 _ (by omega) (by omega)]
    have := digs_num 32 l h2
    rw [h3, hs] at this
    rw [this, h1]
  · cases e
theorem letters_inj {g h : List UInt8} (hg : g.length = 20) (hh : h.length = 20) (e : letters g = letters h) : g = h := by
  have := hash_letters hg
  rw [e, hash_letters hh] at this
  exact (Option.some.inj this).symm
end Pl
namespace Pl
/-- the number of the first k bytes -/
def numTo (h : List UInt8) (k : Nat) : Nat := num 256 (nats (h.take k))
theorem numTo_zero (h : List UInt8) : numTo h 0 = 0 := rfl
theorem numTo_succ (h : List UInt8) (k : Nat) (hk : k < h.length) : numTo h (k + 1) = numTo h k + 256 ^ k * (h[k]).toNat := by
  unfold numTo
  rw [List.take_succ_eq_append_getElem hk, nats, List.map_append, num_append]
  simp [num, nats, List.length_take, Nat.min_eq_left (Nat.le_of_lt hk)]
theorem numTo_lt (h : List UInt8) (k : Nat) (hk : k ≤ h.length) : numTo h k < 256 ^ k := by
  have := num_lt 256 (nats (h.take k)) (nats_lt _)
  simpa [numTo, nats, List.length_take, Nat.min_eq_left hk] using this
theorem numTo_all (h : List UInt8) (k : Nat) (hk : h.length ≤ k) : numTo h k = num 256 (nats h) := by simp [numTo, List.take_of_length_le hk]
theorem digs_add_mul (b n x y : Nat) : digs b n (x + b ^ n * y) = digs b n x := by
  induction n generalizing x with
  | zero => rfl
  | succ n ih =>
    rcases Nat.eq_zero_or_pos b with rfl | hb
    · simp
    simp only [digs]
    rw [Nat.pow_succ', Nat.mul_assoc, Nat.add_mul_mod_self_left, Nat.add_mul_div_left _ _ hb, ih]
theorem digs_succ_last (b n x : Nat) : digs b (n + 1) x = digs b n x ++ [x / b ^ n % b] := by
  induction n generalizing x with
  | zero => simp [digs]
  | succ n ih =>
    rw [digs, ih (x / b)]
    simp only [digs, List.cons_append, Nat.div_div_eq_div_mul, Nat.pow_succ']
theorem pow256 (k : Nat) : 256 ^ k = 2 ^ (8 * k) := by rw [Nat.pow_mul]
theorem pow32 (k : Nat) : 32 ^ k = 2 ^ (5 * k) := by rw [Nat.pow_mul]
/-- what is written when k bytes were taken and j letters written -/
def outTo (h : List UInt8) (k j : Nat) : List UInt8 := (digs 32 j (numTo h k)).map letter
def heldTo (h : List UInt8) (k j : Nat) : Nat := numTo h k / 32 ^ j
theorem heldTo_lt (h : List UInt8) (k j : Nat) (hk : k ≤ h.length) (hj : 5 * j ≤ 8 * k) : heldTo h k j < 2 ^ (8 * k - 5 * j) := by
  unfold heldTo
  rw [Nat.div_lt_iff_lt_mul (Nat.pow_pos (by omega)), pow32, ← Nat.pow_add, show 8 * k - 5 * j + 5 * j = 8 * k by omega, ← pow256]
  exact numTo_lt h k hk
theorem heldTo_byte (h : List UInt8) (k j : Nat) (hk : k < h.length) (hj : 5 * j ≤ 8 * k) : heldTo h (k + 1) j = heldTo h k j + 2 ^ (8 * k - 5 * j) * (h[k]).toNat := by
  unfold heldTo
  rw [numTo_succ h k hk, pow32, pow256, show 8 * k = 5 * j + (8 * k - 5 * j) by omega, Nat.pow_add, Nat.mul_assoc, Nat.add_mul_div_left _ _ (Nat.pow_pos (by omega))]
  rw [show 5 * j + (8 * k - 5 * j) - 5 * j = 8 * k - 5 * j by omega]
theorem outTo_byte (h : List UInt8) (k j : Nat) (hk : k < h.length) (hj : 5 * j ≤ 8 * k) : outTo h (k + 1) j = outTo h k j := by
  unfold outTo
  rw [numTo_succ h k hk, pow256, show 8 * k = 5 * j + (8 * k - 5 * j) by omega, Nat.pow_add, ← pow32, Nat.mul_assoc, digs_add_mul]
theorem outTo_letter (h : List UInt8) (k j : Nat) : outTo h k (j + 1) = outTo h k j ++ [letter (heldTo h k j % 32)] := by
  unfold outTo heldTo
  rw [digs_succ_last]; simp
theorem heldTo_letter (h : List UInt8) (k j : Nat) : heldTo h k (j + 1) = heldTo h k j / 32 := by
  unfold heldTo
  rw [Nat.div_div_eq_div_mul, Nat.pow_succ]
theorem outTo_length (h : List UInt8) (k j : Nat) : (outTo h k j).length = j := by simp [outTo, digs_length]
theorem outTo_end (h : List UInt8) (hl : h.length = 20) : outTo h 20 32 = letters h := by
  simp [outTo, letters, numTo_all h 20 (by omega)]
end Pl
namespace Pl
/-- signs that may stand in a name -/
def sgn (c : UInt8) : Bool := (97 ≤ c && c ≤ 122) || (65 ≤ c && c ≤ 90) || (48 ≤ c && c ≤ 57) || c == 46 || c == 95 || c == 43 || c == 45
/-- a name -/
def isName (s : List UInt8) : Bool := s.all sgn && (s.length != 0) && decide (s.length ≤ 24) && (s.getD 0 0 != 46)
/-- what base.sign asks of a rune below 128 -/
def signN (r : Nat) : Bool := (decide (65 ≤ r) && decide (97 ≤ r ||| 32) && decide (r ||| 32 ≤ 122)) || (decide (48 ≤ r) && decide (r ≤ 57)) || decide (0 ≤ (if r = 46 then 0 else if r = 95 then 1 else if r = 43 then 2 else if r = 45 then 3 else -1 : Int))
theorem signN_sgn : ∀ c : UInt8, c.toNat < 128 → signN c.toNat = sgn c := by
  intro c h
  have : ∀ n, n < 128 → signN n = sgn (UInt8.ofNat n) := by decide +kernel
  have := this c.toNat h
  rwa [UInt8.ofNat_toNat] at this
theorem sgn_small (c : UInt8) (h : sgn c = true) : c.toNat < 128 := by
  have : ∀ n, n < 256 → sgn (UInt8.ofNat n) = true → n < 128 := by decide +kernel
  have h2 := this c.toNat c.toNat_lt
  rw [UInt8.ofNat_toNat] at h2
  exact h2 h
end Pl
namespace Pl
/-! The hash of letters, as it is gathered. -/
/-- the number of the first k letters' values -/
def lnum (l : List Nat) : Nat := num 32 l
theorem lnum_snoc (l : List Nat) (n : Nat) : lnum (l ++ [n]) = lnum l + 32 ^ l.length * n := by simp [lnum, num_append, num]
theorem lnum_lt (l : List Nat) (h : ∀ x ∈ l, x < 32) : lnum l < 32 ^ l.length := num_lt 32 l h
/-- bytes told whole behind k letters, then noughts -/
def hashTo (M k : Nat) : List UInt8 := bytes (digs 256 (5 * k / 8) M) ++ List.replicate (20 - 5 * k / 8) 0
def heldB (M k : Nat) : Nat := M / 256 ^ (5 * k / 8)
theorem hashTo_length (M k : Nat) (hk : k ≤ 32) : (hashTo M k).length = 20 := by
  simp [hashTo, bytes, digs_length]; omega
theorem hashTo_0 (M : Nat) : hashTo M 0 = List.replicate 20 0 := rfl
theorem hashTo_32 (M : Nat) : hashTo M 32 = bytes (digs 256 20 M) := by simp [hashTo]
theorem heldB_lt (M k : Nat) (h : M < 32 ^ k) : heldB M k < 2 ^ (5 * k - 8 * (5 * k / 8)) := by
  unfold heldB
  rw [Nat.div_lt_iff_lt_mul (Nat.pow_pos (by omega)), pow256, ← Nat.pow_add, show 5 * k - 8 * (5 * k / 8) + 8 * (5 * k / 8) = 5 * k by omega, ← pow32]
  exact h
theorem pow32_split (k : Nat) : 32 ^ k = 256 ^ (5 * k / 8) * 2 ^ (5 * k - 8 * (5 * k / 8)) := by
  rw [pow32, pow256, ← Nat.pow_add, show 8 * (5 * k / 8) + (5 * k - 8 * (5 * k / 8)) = 5 * k by omega]
theorem held_letter (M k n : Nat) : (M + 32 ^ k * n) / 256 ^ (5 * k / 8) = heldB M k + 2 ^ (5 * k - 8 * (5 * k / 8)) * n := by
  unfold heldB
  rw [pow32_split, Nat.mul_assoc, Nat.add_mul_div_left _ _ (Nat.pow_pos (by omega))]
theorem digs_letter (M k n : Nat) : digs 256 (5 * k / 8) (M + 32 ^ k * n) = digs 256 (5 * k / 8) M := by
  rw [pow32_split, Nat.mul_assoc, digs_add_mul]
/-- a letter that ends no byte -/
theorem hashTo_stay (M k n : Nat) (h : 5 * (k + 1) / 8 = 5 * k / 8) : hashTo (M + 32 ^ k * n) (k + 1) = hashTo M k ∧ heldB (M + 32 ^ k * n) (k + 1) = heldB M k + 2 ^ (5 * k - 8 * (5 * k / 8)) * n := by
  unfold hashTo
  rw [h, digs_letter]
  refine ⟨rfl, ?_⟩
  unfold heldB
  rw [h]
  exact held_letter M k n
/-- a letter that ends a byte -/
theorem hashTo_byte (M k n : Nat) (hk : k < 32) (h : 5 * (k + 1) / 8 = 5 * k / 8 + 1) : hashTo (M + 32 ^ k * n) (k + 1) = (hashTo M k).set (5 * k / 8) (UInt8.ofNat (heldB M k + 2 ^ (5 * k - 8 * (5 * k / 8)) * n)) ∧
    heldB (M + 32 ^ k * n) (k + 1) = (heldB M k + 2 ^ (5 * k - 8 * (5 * k / 8)) * n) / 256 := by
  constructor
  · unfold hashTo
    have hl : (bytes (digs 256 (5 * k / 8) M)).length = 5 * k / 8 := by simp [bytes, digs_length]
    rw [h, digs_succ_last, digs_letter, held_letter, List.set_append_right _ _ (by omega), hl, Nat.sub_self]
    rw [show 20 - 5 * k / 8 = (20 - (5 * k / 8 + 1)) + 1 by omega, List.replicate_succ]
    have e : UInt8.ofNat ((heldB M k + 2 ^ (5 * k - 8 * (5 * k / 8)) * n) % 256) = UInt8.ofNat (heldB M k + 2 ^ (5 * k - 8 * (5 * k / 8)) * n) := by
      apply UInt8.toNat_inj.1; simp [UInt8.toNat_ofNat']
    simp only [bytes, List.map_append, List.map_cons, List.map_nil, e, List.set_cons_zero, List.append_assoc, List.cons_append, List.nil_append]
  · rw [← held_letter]
    unfold heldB
    rw [h, Nat.pow_succ, Nat.div_div_eq_div_mul]
end Pl
namespace Pl
/-- a number's twenty bytes -/
def hN (P : Nat) : List UInt8 := bytes (digs 256 20 P)
theorem hN_length (P : Nat) : (hN P).length = 20 := by simp [hN, bytes, digs_length]
theorem hN_at (P i : Nat) (hi : i < 20) : (hN P)[i]? = some (UInt8.ofNat (P / 256 ^ i % 256)) := by
  unfold hN bytes
  rw [List.getElem?_map, digs_getElem? _ _ _ _ hi]; rfl
theorem hN_zero : hN 0 = List.replicate 20 0 := by decide
theorem hN_bit (P t : Nat) (ht : t < 160) (hP : P < 2 ^ t) : hN (P + 2 ^ t) = (hN P).set (t / 8) (UInt8.ofNat (P / 256 ^ (t / 8) % 256 + 2 ^ (t % 8))) := by
  have hq : t / 8 < 20 := by omega
  have e2 : 2 ^ t = 256 ^ (t / 8) * 2 ^ (t % 8) := by rw [pow256, ← Nat.pow_add, Nat.div_add_mod]
  have hr : 2 ^ (t % 8) ≤ 2 ^ 7 := Nat.pow_le_pow_right (by omega) (by omega)
  have hlt : P / 256 ^ (t / 8) < 2 ^ (t % 8) := by
    rw [Nat.div_lt_iff_lt_mul (Nat.pow_pos (by omega)), Nat.mul_comm, ← e2]; exact hP
  apply List.ext_getElem?
  intro j
  rw [List.getElem?_set]
  by_cases hj : j < 20
  · rw [hN_at _ _ hj]
    by_cases h1 : t / 8 = j
    · subst h1
      simp only [if_true, hN_length, hq, Option.some.injEq]
      rw [e2, Nat.add_mul_div_left _ _ (Nat.pow_pos (by omega))]
      rw [Nat.mod_eq_of_lt (a := P / 256 ^ (t / 8)) (by omega), Nat.mod_eq_of_lt (by omega)]
    · rw [if_neg h1, hN_at _ _ hj]
      congr 2
      rcases Nat.lt_or_ge j (t / 8) with h | h
      · have : 256 ^ (t / 8) = 256 ^ j * (256 * 256 ^ (t / 8 - j - 1)) := by
          rw [← Nat.pow_succ', ← Nat.pow_add]; congr 1; omega
        rw [e2, this, Nat.mul_assoc, Nat.mul_assoc, Nat.add_mul_div_left _ _ (Nat.pow_pos (by omega)), Nat.add_mul_mod_self_left]
      · have h2 : 256 ^ j = 256 ^ (t / 8) * 256 ^ (j - t / 8) := by rw [← Nat.pow_add]; congr 1; omega
        have h3 : 256 ≤ 256 ^ (j - t / 8) := by
          have := Nat.pow_le_pow_right (n := 256) (by omega) (show 1 ≤ j - t / 8 by omega)
          simpa using this
        rw [e2, h2, ← Nat.div_div_eq_div_mul, ← Nat.div_div_eq_div_mul, Nat.add_mul_div_left _ _ (Nat.pow_pos (by omega)), Nat.div_eq_of_lt (a := P / 256 ^ (t / 8)) (by omega), Nat.div_eq_of_lt (by omega)]
  · rw [List.getElem?_eq_none (by rw [hN_length]; omega)]
    split
    · simp [hN_length]; omega
    · rw [List.getElem?_eq_none (by rw [hN_length]; omega)]
theorem mod_bit (n k : Nat) : n % 2 ^ (k + 1) = n % 2 ^ k + 2 ^ k * (n / 2 ^ k % 2) := by rw [Nat.pow_succ, Nat.mod_mul]
/-- the number behind i letters and k bits of one more -/
def bitNum (l : List Nat) (i n k : Nat) : Nat := lnum l + 32 ^ i * (n % 2 ^ k)
theorem bitNum_0 (l : List Nat) (i n : Nat) : bitNum l i n 0 = lnum l := by simp [bitNum, Nat.mod_one]
theorem bitNum_5 (l : List Nat) (n : Nat) (hn : n < 32) : bitNum l l.length n 5 = lnum (l ++ [n]) := by
  rw [lnum_snoc, bitNum, Nat.mod_eq_of_lt (by simpa using hn)]
theorem bitNum_lt (l : List Nat) (i n k : Nat) (hl : lnum l < 32 ^ i) : bitNum l i n k < 2 ^ (5 * i + k) := by
  unfold bitNum
  rw [pow32] at hl ⊢
  have h1 : n % 2 ^ k < 2 ^ k := Nat.mod_lt _ (Nat.pow_pos (by omega))
  rw [Nat.pow_add]
  have h2 : 2 ^ (5 * i) * (n % 2 ^ k) + 2 ^ (5 * i) ≤ 2 ^ (5 * i) * 2 ^ k := by
    rw [← Nat.mul_succ]; exact Nat.mul_le_mul_left _ h1
  omega
theorem bitNum_yes (l : List Nat) (i n k : Nat) (h : n / 2 ^ k % 2 = 1) : bitNum l i n (k + 1) = bitNum l i n k + 2 ^ (5 * i + k) := by
  unfold bitNum
  rw [mod_bit, h, pow32, Nat.pow_add, Nat.mul_add, Nat.mul_one]; omega
theorem bitNum_no (l : List Nat) (i n k : Nat) (h : n / 2 ^ k % 2 = 0) : bitNum l i n (k + 1) = bitNum l i n k := by
  unfold bitNum
  rw [mod_bit, h]; simp
end Pl
namespace Pl
/-- a text cut at the first such byte -/
def cut1 (c : UInt8) : List UInt8 → List UInt8 × List UInt8 × Bool
  | [] => ([], [], false)
  | b :: l => if b = c then ([], l, true) else (b :: (cut1 c l).1, (cut1 c l).2.1, (cut1 c l).2.2)
theorem cut1_yes (c : UInt8) (s : List UInt8) (h : (cut1 c s).2.2 = true) : s = (cut1 c s).1 ++ c :: (cut1 c s).2.1 ∧ c ∉ (cut1 c s).1 := by
  induction s with
  | nil => simp [cut1] at h
  | cons b l ih =>
    unfold cut1 at h ⊢
    by_cases e : b = c
    · simp [e]
    · simp only [e, if_false] at h ⊢
      obtain ⟨h1, h2⟩ := ih h
      refine ⟨by rw [List.cons_append, ← h1], ?_⟩
      simp only [List.mem_cons, not_or]
      exact ⟨fun h => e h.symm, h2⟩
theorem cut1_no (c : UInt8) (s : List UInt8) (h : (cut1 c s).2.2 = false) : c ∉ s ∧ (cut1 c s).1 = s ∧ (cut1 c s).2.1 = [] := by
  induction s with
  | nil => simp [cut1]
  | cons b l ih =>
    unfold cut1 at h ⊢
    by_cases e : b = c
    · simp [e] at h
    · simp only [e, if_false] at h ⊢
      obtain ⟨h1, h2, h3⟩ := ih h
      refine ⟨?_, by rw [h2], h3⟩
      simp only [List.mem_cons, not_or]
      exact ⟨fun h => e h.symm, h1⟩
theorem cut1_of (c : UInt8) (a b : List UInt8) (h : c ∉ a) : cut1 c (a ++ c :: b) = (a, b, true) := by
  induction a with
  | nil => simp [cut1]
  | cons x a ih =>
    simp only [List.mem_cons, not_or] at h
    simp [cut1, Ne.symm h.1, ih h.2]
/-- what Parse answers: the hash, the name, the error -/
def parse (s : List UInt8) : Option (List UInt8 × List UInt8) :=
  if (cut1 45 s).2.2 && isName (cut1 45 s).2.1 then (hash (cut1 45 s).1).map fun h => (h, (cut1 45 s).2.1) else none
theorem letters_no45 {s h : List UInt8} (e : hash s = some h) : (45 : UInt8) ∉ s := by
  intro hm
  unfold hash at e
  split at e
  · simp only [Option.map_eq_some_iff] at e
    obtain ⟨l, hl, _⟩ := e
    obtain ⟨h1, h2, _⟩ := mapM_val hl
    rw [← h1] at hm
    obtain ⟨n, hn, h45⟩ := List.mem_map.1 hm
    have : ∀ n, n < 32 → letter n ≠ 45 := by decide
    exact this n (h2 n hn) h45
  · cases e
theorem isName_pos {n : List UInt8} (h : isName n = true) : 1 ≤ n.length := by
  cases n with
  | nil => simp [isName] at h
  | cons c l => simp
theorem hash_len {s h : List UInt8} (e : hash s = some h) : s.length = 32 := by
  unfold hash at e
  split at e
  · assumption
  · cases e
/-- as spenceref03.Parse asks -/
theorem parse_ref (s : List UInt8) : parse s = if 34 ≤ s.length && (s[32]?.getD 0 == 45) && isName (s.drop 33) then (hash (s.take 32)).map fun h => (h, s.drop 33) else none := by
  by_cases hy : (cut1 45 s).2.2 = true
  · obtain ⟨h1, h2⟩ := cut1_yes 45 s hy
    generalize (cut1 45 s).1 = a at *
    generalize hb : (cut1 45 s).2.1 = b at *
    have hcut : cut1 45 s = (a, b, true) := by rw [h1]; exact cut1_of _ _ _ h2
    unfold parse
    rw [hcut]
    simp only [Bool.true_and]
    by_cases ha : a.length = 32
    · have e1 : s.drop 33 = b := by rw [h1, show a ++ 45 :: b = (a ++ [45]) ++ b by simp, List.drop_left' (by simp [ha])]
      have e2 : s.take 32 = a := by rw [h1, List.take_left' ha]
      have e3 : s[32]? = some 45 := by rw [h1, List.getElem?_append_right (by omega)]; simp [ha]
      rw [e1, e2, e3]
      have hl : s.length = 33 + b.length := by rw [h1]; simp [ha]; omega
      cases hn : isName b with
      | false => simp
      | true =>
        have := isName_pos hn
        simp [show 34 ≤ s.length by omega]
    · have hne : hash a = none := by unfold hash; rw [if_neg ha]
      rw [hne]
      simp only [Option.map_none]
      have : (if isName b = true then (none : Option (List UInt8 × List UInt8)) else none) = none := by split <;> rfl
      rw [this]
      symm
      split
      · rename_i hc
        simp only [Bool.and_eq_true, decide_eq_true_eq, beq_iff_eq] at hc
        cases ht : hash (s.take 32) with
        | none => rfl
        | some h =>
          exfalso
          have hno := letters_no45 ht
          rcases Nat.lt_or_ge a.length 32 with hlt | hge
          · apply hno
            rw [h1]
            rw [List.mem_take_iff_getElem]
            refine ⟨a.length, by simp; omega, by simp⟩
          · have hal : 32 < a.length := by omega
            have : s[32]? = a[32]? := by rw [h1, List.getElem?_append_left hal]
            rw [this, List.getElem?_eq_getElem hal] at hc
            apply h2
            rw [← hc.1.2]
            exact List.getElem_mem hal
      · rfl
  · have hy' : (cut1 45 s).2.2 = false := by simpa using hy
    obtain ⟨h1, h2, h3⟩ := cut1_no 45 s hy'
    unfold parse
    rw [hy']
    simp only [Bool.false_and, Bool.false_eq_true, if_false]
    symm
    split
    · rename_i hc
      simp only [Bool.and_eq_true, decide_eq_true_eq, beq_iff_eq] at hc
      exfalso
      apply h1
      have h32 : 32 < s.length := by omega
      have := hc.1.2
      rw [List.getElem?_eq_getElem h32] at this
      rw [← this]; exact List.getElem_mem h32
    · rfl
/-- a path that has a name is parsed from its text -/
theorem parse_text {h n : List UInt8} (hl : h.length = 20) (hn : isName n = true) : parse (letters h ++ 45 :: n) = some (h, n) := by
  have h45 := letters_no45 (hash_letters hl)
  unfold parse
  rw [cut1_of _ _ _ h45]
  simp [hn, hash_letters hl]
/-- whatever is parsed has just that text -/
theorem parse_some {s h n : List UInt8} (e : parse s = some (h, n)) : isName n = true ∧ h.length = 20 ∧ letters h ++ 45 :: n = s := by
  unfold parse at e
  split at e
  · rename_i hc
    simp only [Bool.and_eq_true] at hc
    simp only [Option.map_eq_some_iff, Prod.mk.injEq] at e
    obtain ⟨h', he, rfl, rfl⟩ := e
    exact ⟨hc.2, hash_length he, by rw [letters_hash he]; exact (cut1_yes 45 s hc.1).1.symm⟩
  · cases e
end Pl
/-! (of general use) base.Letters: the letters of any hash. -/
namespace Go.Proofs.YtniibcgomnjfgaaGreat
open Go.RowKit Pl
/-- a hash's cells -/
def hC (h : List UInt8) : Array Value := (Lib.byteCells h).toArray
theorem hC_size (h : List UInt8) : (hC h).size = h.length := by simp [hC, Lib.byteCells]
theorem hC_at (h : List UInt8) (k : Nat) (hl : h.length = 20) (hk : k < 20) (w : World) :
    (Instr.index 24 (.agg (hC h)) (.int .i64 (k : Int))).run Tryz.prog w = .ok (.int .u8 ((h.getD k 0).toNat : Int)) w := by
  refine Agg.run_index_agg w Tryz.underlying24 (by kernel_rfl) Tryz.isAgg5 hk ?_
  simp [Lib.byteCells, List.getD, List.getElem?_eq_getElem (show k < h.length by omega)]
theorem or_disjoint (a x m : Nat) (ha : a < 2 ^ m) (hx : x < 256) (hm : m < 5) : bits .or .u32 (a : Int) ((x : Int) % 4294967296 * 2 ^ m % 4294967296) = ((a + 2 ^ m * x : Nat) : Int) := by
  have h5 : 2 ^ m ≤ 2 ^ 4 := Nat.pow_le_pow_right (by omega) (by omega)
  have hp : 2 ^ m * x ≤ 2 ^ 4 * 255 := Nat.mul_le_mul h5 (by omega)
  have e : ((x : Int) % 4294967296 * 2 ^ m % 4294967296) = ((2 ^ m * x : Nat) : Int) := by
    rw [Int.emod_eq_of_lt (a := (x : Int)) (by omega) (by omega)]
    have : (x : Int) * 2 ^ m = ((2 ^ m * x : Nat) : Int) := by push_cast; exact Int.mul_comm _ _
    rw [this, Int.emod_eq_of_lt (by omega) (by omega)]
  rw [e, u32_or_nat _ _ (by omega) (by omega), Nat.or_comm, ← Nat.two_pow_add_eq_or_of_lt ha, Nat.add_comm]
theorem or_held (h : List UInt8) (k : Nat) (hl : h.length = 20) (hk : k < 20) :
    bits .or .u32 ((heldTo h k (8 * k / 5) : Nat) : Int) (((h[k]?.getD 0).toNat : Int) % 4294967296 * 2 ^ (8 * k - 5 * (8 * k / 5)) % 4294967296) = ((heldTo h (k + 1) (8 * k / 5) : Nat) : Int) := by
  rw [or_disjoint _ _ _ (heldTo_lt h k _ (by omega) (by omega)) (UInt8.toNat_lt _) (by omega), heldTo_byte h k _ (by omega) (by omega)]
  simp [List.getElem?_eq_getElem (show k < h.length by omega)]
/-- the lowest five bits, under a name -/
def lo5 (a : Nat) : Nat := a % 32
theorem lo5_lt (a : Nat) : lo5 a < 32 := Nat.mod_lt _ (by omega)
theorem and31 (a : Nat) (ha : a < 4294967296) : bits .and .u32 (a : Int) 31 = ((lo5 a : Nat) : Int) := by
  rw [show (31 : Int) = ((31 : Nat) : Int) from rfl, u32_and_nat a 31 ha (by omega), Nat.and_two_pow_sub_one_eq_mod a 5]; rfl
theorem letter_at (kd : IntKind) (n : Nat) (hn : n < 32) (w : World) :
    (Instr.index 9 (.string ⟨#[48, 49, 50, 51, 52, 53, 54, 55, 56, 57, 97, 98, 99, 100, 102, 103, 104, 105, 106, 107, 108, 109, 110, 112, 113, 114, 115, 118, 119, 120, 121, 122]⟩) (.int kd (n : Int))).run Tryz.prog w = .ok (.int .u8 ((letter n).toNat : Int)) w := by
  refine Agg.run_index_str (s := alpha) w Tryz.underlying9 ?_
  simp [letter, List.getD, List.getElem?_eq_getElem (show n < alpha.length from hn)]
/-- a new Builder, beyond B -/
theorem fresh_builder {T e : TypeId} {B : Nat} (w : World) (b : Nat) (hb : b = w.heap.size) (hB : B ≤ w.heap.size) : Lib.IsBuilderF T e B b [] (w.alloc (.cells #[.pointer none, .slice none 0 0] T)) := by
  subst hb
  refine .inl ⟨hB, .slice none 0 0, ?_, ?_, by simp [Value.ownBlock]⟩
  · exact heap_alloc_new _ _
  · exact World.ownsRowF_of (World.ownsRow_nil _ _ _ _)
end Go.Proofs.YtniibcgomnjfgaaGreat
/-! (of general use) Bytes and texts as elements. -/
namespace Go.Proofs.YtniibcgomnjfgaaGreat
open Go.RowKit Pl Go.Agg
theorem info_of {P : Program} {ty : TypeId} {z : Value} {n b : Nat} (hz : (P.info? ty).map (·.zero) = some (some z)) (hs : (P.info? ty).map (·.size) = some n) (hb : (P.info? ty).map (·.bytes) = some b) :
    ∃ i, P.info? ty = some i ∧ i.zero = some z ∧ i.size = n ∧ i.bytes = b := by
  cases hi : P.info? ty with
  | none => rw [hi] at hz; cases hz
  | some i =>
    rw [hi] at hz hs hb
    exact ⟨i, rfl, Option.some.inj hz, Option.some.inj hs, Option.some.inj hb⟩
theorem one_of {cs : Array Value} (h : cs.all (·.oneCell') = true) (v : Value) (hv : v ∈ cs.toList) : v.oneCell' = true := by
  rw [Array.all_eq_true_iff_forall_mem] at h
  exact h v (by simpa using hv)
/-- bytes -/
def EB : Elem Tryz.prog UInt8 where
  ty := 5
  st := 55
  n := 1
  bytes := 1
  val := fun c => .int .u8 (c.toNat : Int)
  zero := .int .u8 0
  pos := by omega
  small := by omega
  size := fun x => rfl
  one := fun x v hv => by
    obtain rfl : v = .int .u8 (x.toNat : Int) := by simpa [Value.cells] using hv
    rfl
  zsize := rfl
  slice := by kernel_rfl
  info := info_of (by kernel_rfl) (by kernel_rfl) (by kernel_rfl)
  load := fun w a x hp h => LoadsL.of_cell (by have := h 0 _ rfl; rwa [show a.add 0 = a from rfl] at this) Tryz.underlying5 rfl
abbrev BytesAt (w : World) (v : Value) (l : List UInt8) : Prop := SliceOf EB w v l
theorem bytes_len {w : World} {v : Value} {l : List UInt8} (h : BytesAt w v l) (W : World) : (Builtin.len_ #[55] 3 #[v]).run Tryz.prog W = .ok (.int .i64 (l.length : Int)) W := h.len W
theorem str_len' (s : List UInt8) (w : World) : (Builtin.len_ #[9] 3 #[.string ⟨s.toArray⟩]).run Tryz.prog w = .ok (.int .i64 (s.length : Int)) w := by
  rw [run_len_string w 9 3 _ Tryz.underlying9, Agg.bytes_size]; rfl
theorem byte_at {w : World} {v : Value} {l : List UInt8} (h : BytesAt w v l) (k : Nat) (x : UInt8) (hx : l[k]? = some x) :
    ∃ p : Addr, (∀ W, (Instr.indexAt 55 v (.int .i64 (k : Int))).run Tryz.prog W = .ok (.pointer (some p)) W) ∧ LoadsL Tryz.prog w 5 (some p) (.int .u8 (x.toNat : Int)) := by
  obtain ⟨p, h1, _, _, h4⟩ := h.at_ k x hx
  exact ⟨p, h1, h4⟩
end Go.Proofs.YtniibcgomnjfgaaGreat
/-! '[]byte(s)' and 'string(b)' -/
namespace Go.Proofs.YtniibcgomnjfgaaGreat
open Go.RowKit Pl Go.Agg
theorem bytes_below (w : World) (e : TypeId) (s : ByteArray) : Below w.heap.size w (Lib.bytesWorld w e s) :=
  ⟨rfl, rfl, rfl, by rw [Lib.bytesWorld_size]; omega, fun k hk => Lib.bytesWorld_at_old w e s k hk⟩
/-- a new row of bytes, as '[]byte(s)' makes it -/
def NewBytes (w w' : World) (v : Value) (s : List UInt8) : Prop :=
  ∃ cap fr, v = .slice (some ⟨w.heap.size, 0, none⟩) s.length cap ∧ s.length ≤ cap ∧ w'.heap[w.heap.size]? = some (.cells ((Lib.byteCells s).toArray ++ Array.replicate (cap - s.length) (.int .u8 0)) 5 fr) ∧ (fr.1 = cap ∧ fr.2 = cap + 1)
theorem NewBytes.slice {w w' : World} {v : Value} {s : List UInt8} (h : NewBytes w w' v s) : BytesAt w' v s := by
  obtain ⟨cap, fr, rfl, hc, hb, _⟩ := h
  refine .inr ⟨_, cap, rfl, Agg.heap_lt hb, fun j u hj => ?_⟩
  rw [add_plain, Nat.zero_add, cell_of_row _ _ _ _ _ _ hb]
  obtain ⟨k, a, i, h1, h2, rfl⟩ := Elem.flat_all EB s j u hj
  have hi : i = 0 := by have := (Array.getElem?_eq_some_iff.1 h2).1; have e : (EB.val a).cells.size = 1 := rfl; omega
  subst hi
  have hk := (List.getElem?_eq_some_iff.1 h1).1
  have hn : EB.n = 1 := rfl
  rw [hn, Nat.mul_one, Nat.add_zero, Array.getElem?_append_left (by simpa [Lib.byteCells] using hk)]
  have e2 : u = .int .u8 (a.toNat : Int) := by
    have : (EB.val a).cells[0]? = some (.int .u8 (a.toNat : Int)) := rfl
    rw [this] at h2
    exact (Option.some.inj h2).symm
  simp [Lib.byteCells, h1, e2]
theorem run_toBytes (w : World) (s : List UInt8) : ∃ v w', (convert 9 55 (.string ⟨s.toArray⟩)).run Tryz.prog w = .ok v w' ∧ NewBytes w w' v s ∧ Below w.heap.size w w' := by
  refine ⟨_, _, Lib.run_convert_string_bytes w 9 55 5 ⟨s.toArray⟩ Tryz.underlying9 (by kernel_rfl) Tryz.underlying5, ?_, bytes_below _ _ _⟩
  have hsz : (⟨s.toArray⟩ : ByteArray).size = s.length := Agg.bytes_size s
  have hge := grownCap_ge w s.length 0 5
  refine ⟨grownCap w s.length 0 5, (grownCap w s.length 0 5, grownCap w s.length 0 5 + 1), by rw [hsz], hge, ?_, rfl, rfl⟩
  rw [Lib.bytesWorld_at_new]
  have e : Lib.bytesCells w 5 ⟨s.toArray⟩ = (Lib.byteCells s).toArray ++ Array.replicate (grownCap w s.length 0 5 - s.length) (.int .u8 0) := by
    simp [Lib.bytesCells, hsz, Lib.byteCells]
  have e2 : ((Lib.byteCells s).toArray ++ Array.replicate (grownCap w s.length 0 5 - s.length) (Value.int .u8 0)).size = grownCap w s.length 0 5 := by
    simp [Lib.byteCells]; omega
  rw [e, e2]
theorem run_toStr {w : World} {v : Value} {s : List UInt8} (h : BytesAt w v s) : (convert 55 9 v).run Tryz.prog w = .ok (.string ⟨s.toArray⟩) w := by
  rcases h with ⟨p, c, rfl, rfl⟩ | ⟨p, cap, rfl, hp, h⟩
  · cases p with
    | none => exact run_convert_bytes_nil w 55 5 (by kernel_rfl) Tryz.underlying5 0 c 9 Tryz.underlying9
    | some p => exact run_convert_bytes_back w 55 9 5 p c [] (by kernel_rfl) Tryz.underlying5 Tryz.underlying9 (fun j hj => by simp at hj)
  · refine run_convert_bytes_back w 55 9 5 p cap s (by kernel_rfl) Tryz.underlying5 Tryz.underlying9 fun j hj => ?_
    have := h (j * 1 + 0) (.int .u8 (s[j].toNat : Int)) (EB.flat_get s j s[j] 0 _ (List.getElem?_eq_getElem hj) rfl)
    rwa [Nat.mul_one, Nat.add_zero] at this
section
variable {ops : Array Oper} {rest : List Oper} {o : Oper} {a : Act} {w : World} {Q : Exit → Act → World → Prop}
theorem wpList_toBytes (s : List UInt8) (x : Operand) (ho : o.op = .convert 9 55 x) (hw : Region.wanted o (yielded ops a.tmps) = true) (hx : a.eval x = .string ⟨s.toArray⟩)
    (h : ∀ v' w', NewBytes w w' v' s → Below w.heap.size w w' → wpList Tryz.prog ops Q rest (a.put o.dst v') w') : wpList Tryz.prog ops Q (o :: rest) a w := by
  obtain ⟨v', w', hr, h1, h2⟩ := run_toBytes w s
  refine wpList_valw hw ?_ (h v' w' h1 h2)
  simp [execOp, ho, hx, hr]
theorem wpList_toStr {v : Value} {s : List UInt8} (hs : BytesAt w v s) (x : Operand) (ho : o.op = .convert 55 9 x) (hw : Region.wanted o (yielded ops a.tmps) = true) (hx : a.eval x = v)
    (h : wpList Tryz.prog ops Q rest (a.put o.dst (.string ⟨s.toArray⟩)) w) : wpList Tryz.prog ops Q (o :: rest) a w := by
  subst hx
  refine wpList_valw hw ?_ h
  simp [execOp, ho, run_toStr hs]
end
end Go.Proofs.YtniibcgomnjfgaaGreat
/-! (of general use) spencekit.mark, markByte; slices of slices of bytes -/
namespace Go.Agg
open Go.RowKit
variable {P : Program}
theorem wpStill_loadL {w : World} {ops : Array Oper} {rest : List Oper} {o : Oper} {a : Act} {Q : Act → Prop} {ty : TypeId} {p : Option Addr} {v : Value} (h : LoadsL P w ty p v) (hw : Region.wanted o (yielded ops a.tmps) = true) (x : Operand) (ho : o.op = .load ty x) (hx : a.eval x = .pointer p)
    (hk : wpStill P ops w Q rest (a.put o.dst v)) : wpStill P ops w Q (o :: rest) a := wpStill_load hw ty x ho _ hx v h.now hk
theorem wpList_store {w w' : World} {ops : Array Oper} {rest : List Oper} {o : Oper} {a : Act} {Q : Exit → Act → World → Prop} (hg : o.guard = none) (hd : o.dst = none) (ty : TypeId) (x y : Operand) (ho : o.op = .store ty x y) (p v : Value) (hx : a.eval x = p) (hy : a.eval y = v)
    (hrun : (Instr.storeAt ty p v).run P w = .ok () w') (h : wpList P ops Q rest a w') : wpList P ops Q (o :: rest) a w := by
  refine wpList_skp hg hd ?_ h
  simp [execOp, ho, hx, hy, hrun]
end Go.Agg
namespace Go.Proofs.YtniibcgomnjfgaaGreat
open Go.RowKit Pl Go.Agg
/-- the mark of a place -/
def mkB (k i : Nat) : UInt8 := UInt8.ofNat ((1000003 * (k + 7) + i) * 11400714819323198485 % 18446744073709551616 / 72057594037927936)
theorem mkB_int (k i : Nat) : IntKind.u64.wrap ((1000003 * ((k : Int) + 7) + (i : Int)) * 11400714819323198485) / 72057594037927936 % 256 = ((mkB k i).toNat : Int) := by
  have e : (1000003 * ((k : Int) + 7) + (i : Int)) * 11400714819323198485 = (((1000003 * (k + 7) + i) * 11400714819323198485 : Nat) : Int) := by simp
  rw [e]
  unfold mkB
  generalize (1000003 * (k + 7) + i) * 11400714819323198485 = n
  rw [show IntKind.u64.wrap (n : Int) = ((n % 18446744073709551616 : Nat) : Int) by simp [IntKind.wrap, IntKind.signed, IntKind.bits]]
  simp only [UInt8.toNat_ofNat']
  omega
theorem ret_u8 {a b : Int} (h : a = b) : Ending.returned (.int .u8 a) = .returned (.int .u8 b) := by rw [h]
def marks (k n : Nat) : List UInt8 := (List.range n).map (mkB k)
theorem marks_length (k n : Nat) : (marks k n).length = n := by simp [marks]
theorem marks_succ (k n : Nat) : marks k (n + 1) = marks k n ++ [mkB k n] := by simp [marks, List.range_succ]
theorem marks_get (k n i : Nat) (h : i < n) : (marks k n)[i]? = some (mkB k i) := by simp [marks, h]
def EBB : Elem Tryz.prog SV where
  ty := 55
  st := 85
  n := 1
  bytes := 24
  val := fun v => v.1
  zero := .slice none 0 0
  pos := by omega
  small := by omega
  size := fun v => by rw [sv_cells]; rfl
  one := fun v u hu => by
    rw [sv_cells] at hu
    obtain rfl : u = v.1 := by simpa using hu
    exact sv_one v
  zsize := rfl
  slice := by kernel_rfl
  info := info_of (by kernel_rfl) (by kernel_rfl) (by kernel_rfl)
  load := fun w a v hp h => LoadsL.of_cell (by have := h 0 v.1 (by rw [sv_cells]; rfl); rwa [show a.add 0 = a from rfl] at this) (by kernel_rfl : Tryz.prog.underlying 55 = some (.slice 5)) rfl
abbrev BBAt (w : World) (v : Value) (l : List SV) : Prop := SliceOf EBB w v l
theorem bb_len {w : World} {v : Value} {l : List SV} (h : BBAt w v l) (W : World) : (Builtin.len_ #[85] 3 #[v]).run Tryz.prog W = .ok (.int .i64 (l.length : Int)) W := h.len W
theorem bb_at {w : World} {v : Value} {l : List SV} (h : BBAt w v l) (k : Nat) (x : SV) (hx : l[k]? = some x) :
    ∃ p : Addr, (∀ W, (Instr.indexAt 85 v (.int .i64 (k : Int))).run Tryz.prog W = .ok (.pointer (some p)) W) ∧ LoadsL Tryz.prog w 55 (some p) x.1 := by
  obtain ⟨p, h1, _, _, h4⟩ := h.at_ k x hx
  exact ⟨p, h1, h4⟩
theorem RoomN.blen {w : World} {v : Value} {l : List UInt8} (h : RoomN EB w v l) (W : World) : (Builtin.len_ #[55] 3 #[v]).run Tryz.prog W = .ok (.int .i64 (l.length : Int)) W := h.slice.len W
end Go.Proofs.YtniibcgomnjfgaaGreat
/-! spencekit.mark, markByte; slices of slices of bytes -/
namespace Go.Agg
open Go.RowKit
variable {P : Program}
end Go.Agg
namespace Go.Proofs.YtniibcgomnjfgaaGreat
open Go.RowKit Pl Go.Agg
theorem mark_any (k i : Nat) (hk : k ≤ 16777216) (hi : i ≤ 16777216) (w : World) : Calls Tryz.prog 62 #[.int .i64 (k : Int), .int .i64 (i : Int)] w fun e w' => e = .returned (.int .i64 ((1000003 * (k + 7) + i : Nat) : Int)) ∧ w = w' := by
  go_enter Tryz.func62, Tryz.ntmps62
  go_wp2_with fail
  go_ret
  exact ⟨by simp, rfl⟩
theorem markByte_any (k i : Nat) (hk : k ≤ 16777216) (hi : i ≤ 16777216) (w : World) : Calls Tryz.prog 117 #[.int .i64 (k : Int), .int .i64 (i : Int)] w fun e w' => e = .returned (.int .u8 ((mkB k i).toNat : Int)) ∧ w' = w := by
  go_enter Tryz.func117, Tryz.ntmps117
  go_wp2_with fail
  refine (mark_any k i hk hi _).mono ?_
  rintro e w1 ⟨rfl, rfl⟩
  go_wp2_with fail
  go_ret
  exact ⟨ret_u8 (mkB_int k i), rfl⟩
end Go.Proofs.YtniibcgomnjfgaaGreat
