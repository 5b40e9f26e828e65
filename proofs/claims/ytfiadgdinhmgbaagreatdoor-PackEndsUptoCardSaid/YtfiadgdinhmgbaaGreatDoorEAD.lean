/- Ways as bytes: split, joined. No program in sight. (Several texts in one.) -/
import Derived.WalkKit
/-! Plain numbers and letters of chapter 3: no program in sight. -/
namespace Pl
/-! Numbers in base 256 and 32, lowest first. -/
def num (b : Nat) : List Nat → Nat
 | [] => 0
 | x :: l => x + b * num b l
def digs (b : Nat) : Nat → Nat → List Nat
 | 0, _ => []
 | n + 1, x => x % b :: digs b n (x / b)
theorem digs_length (b n x : Nat) : (digs b n x).length = n := by
 induction n generalizing x with
 | zero => rfl
 | succ n ih => simp [digs, ih]
theorem num_digs (b n x : Nat) (hb : 0 < b) (h : x < b ^ n) : num b (digs b n x) = x := by
 induction n generalizing x with
 | zero => simp [digs, num] at *; omega
 | succ n ih =>
  simp only [digs, num]
  rw [ih (x / b) (by rw [Nat.div_lt_iff_lt_mul hb, ← Nat.pow_succ]; exact h)]
  exact Nat.mod_add_div x b
theorem digs_num (b : Nat) (l : List Nat) (h : ∀ x ∈ l, x < b) : digs b l.length (num b l) = l := by
 induction l with
 | nil => rfl
 | cons x l ih =>
  have hx : x < b := h x (by simp)
  have hb : 0 < b := by omega
  simp only [List.length_cons, digs, num]
  rw [Nat.add_mul_mod_self_left, Nat.mod_eq_of_lt hx, Nat.add_mul_div_left _ _ hb, Nat.div_eq_of_lt hx, Nat.zero_add, ih (fun y hy => h y (by simp [hy]))]
theorem num_lt (b : Nat) (l : List Nat) (h : ∀ x ∈ l, x < b) : num b l < b ^ l.length := by
 induction l with
 | nil => simp [num]
 | cons x l ih =>
  have hx : x < b := h x (by simp)
  have := ih (fun y hy => h y (by simp [hy]))
  simp only [num, List.length_cons, Nat.pow_succ]
  have h1 : b * num b l + b ≤ b * b ^ l.length := by
   rw [← Nat.mul_succ]; exact Nat.mul_le_mul_left b this
  rw [Nat.mul_comm (b ^ l.length)]; omega
theorem num_append (b : Nat) (l m : List Nat) : num b (l ++ m) = num b l + b ^ l.length * num b m := by
 induction l with
 | nil => simp [num]
 | cons x l ih => simp [num, ih, Nat.pow_succ, Nat.mul_add, Nat.mul_assoc, Nat.mul_comm, Nat.add_assoc]
theorem digs_getElem? (b n x i : Nat) (h : i < n) : (digs b n x)[i]? = some (x / b ^ i % b) := by
 induction n generalizing x i with
 | zero => omega
 | succ n ih =>
  cases i with
  | zero => simp [digs]
  | succ i => simp only [digs, List.getElem?_cons_succ]; rw [ih _ _ (by omega), Nat.div_div_eq_div_mul, Nat.pow_succ']
theorem digs_lt (b n x : Nat) (hb : 0 < b) : ∀ y ∈ digs b n x, y < b := by
 induction n generalizing x with
 | zero => simp [digs]
 | succ n ih =>
  intro y hy
  simp only [digs, List.mem_cons] at hy
  rcases hy with rfl | hy
  ·exact Nat.mod_lt _ hb
  ·exact ih _ y hy

/-! The letters. -/
def alpha : List UInt8 := [48, 49, 50, 51, 52, 53, 54, 55, 56, 57, 97, 98, 99, 100, 102, 103, 104, 105, 106, 107, 108, 109, 110, 112, 113, 114, 115, 118, 119, 120, 121, 122]
def val (c : UInt8) : Option Nat := alpha.idxOf? c
def nats (l : List UInt8) : List Nat := l.map UInt8.toNat
def bytes (l : List Nat) : List UInt8 := l.map UInt8.ofNat
theorem bytes_nats (l : List UInt8) : bytes (nats l) = l := by
 simp [bytes, nats, Function.comp_def]
theorem nats_bytes (l : List Nat) (h : ∀ x ∈ l, x < 256) : nats (bytes l) = l := by
 simp only [bytes, nats, List.map_map]
 conv => rhs; rw [← List.map_id l]
 apply List.map_congr_left
 intro x hx
 simp [UInt8.toNat_ofNat', Nat.mod_eq_of_lt (h x hx)]
theorem nats_lt (l : List UInt8) : ∀ x ∈ nats l, x < 256 := by
 intro x hx
 simp only [nats, List.mem_map] at hx
 obtain ⟨c, _, rfl⟩ := hx
 exact c.toNat_lt
def letter (n : Nat) : UInt8 := alpha.getD n 0
theorem val_letter : ∀ n, n < 32 → val (letter n) = some n := by decide
theorem val_lt {c : UInt8} {n : Nat} (h : val c = some n) : n < 32 := by
 unfold val at h
 obtain ⟨hl, _⟩ := List.idxOf?_eq_some_iff.1 h
 simpa [alpha] using hl
theorem letter_val {c : UInt8} {n : Nat} (h : val c = some n) : letter n = c := by
 unfold val at h
 obtain ⟨hl, he, _⟩ := List.idxOf?_eq_some_iff.1 h
 simp [letter, List.getD, List.getElem?_eq_getElem hl, he]
def letters (h : List UInt8) : List UInt8 := (digs 32 32 (num 256 (nats h))).map letter
def hash (s : List UInt8) : Option (List UInt8) :=
 if s.length = 32 then (s.mapM val).map fun l => bytes (digs 256 20 (num 32 l)) else none
theorem letters_length (h : List UInt8) : (letters h).length = 32 := by simp [letters, digs_length]
theorem hash_length {s h : List UInt8} (e : hash s = some h) : h.length = 20 := by
 unfold hash at e
 split at e
 ·simp only [Option.map_eq_some_iff] at e
  obtain ⟨l, _, rfl⟩ := e
  simp [bytes, digs_length]
 ·cases e
theorem mapM_letter (l : List Nat) (h : ∀ x ∈ l, x < 32) : (l.map letter).mapM val = some l := by
 induction l with
 | nil => rfl
 | cons x l ih =>
  simp [List.mapM_cons, val_letter x (h x (by simp)), ih (fun y hy => h y (by simp [hy]))]
theorem mapM_val {s : List UInt8} {l : List Nat} (h : s.mapM val = some l) : l.map letter = s ∧ (∀ x ∈ l, x < 32) ∧ l.length = s.length := by
 induction s generalizing l with
 | nil => simp at h; subst h; simp
 | cons c s ih =>
  simp only [List.mapM_cons, Option.bind_eq_bind, Option.bind_eq_some_iff, Option.pure_def, Option.some.injEq] at h
  obtain ⟨n, hn, m, hm, rfl⟩ := h
  obtain ⟨h1, h2, h3⟩ := ih hm
  refine ⟨by simp [letter_val hn, h1], ?_, by simp [h3]⟩
  intro x hx
  rcases List.mem_cons.1 hx with rfl | hx
  ·exact val_lt hn
  ·exact h2 x hx
theorem hash_letters {h : List UInt8} (hl : h.length = 20) : hash (letters h) = some h := by
 unfold hash
 rw [if_pos (letters_length h)]
 have hn : num 256 (nats h) < 256 ^ 20 := by
  have := num_lt 256 (nats h) (nats_lt h)
  simpa [nats, hl] using this
 rw [letters, mapM_letter _ (digs_lt 32 32 _ (by omega))]
 simp only [Option.map_some, Option.some.injEq]
 rw [num_digs 32 32 _ (by omega) (by omega)]
 have := digs_num 256 (nats h) (nats_lt h)
 have hl' : (nats h).length = 20 := by simp [nats, hl]
 rw [hl'] at this
 rw [this, bytes_nats]
theorem letters_hash {s h : List UInt8} (e : hash s = some h) : letters h = s := by
 unfold hash at e
 split at e
 ·rename_i hs
  simp only [Option.map_eq_some_iff] at e
  obtain ⟨l, hl, rfl⟩ := e
  obtain ⟨h1, h2, h3⟩ := mapM_val hl
  rw [letters, nats_bytes _ (digs_lt 256 20 _ (by omega))]
  have hn : num 32 l < 32 ^ 32 := by
   have := num_lt 32 l h2
   rwa [h3, hs] at this
  rw [num_digs 256 20 _ (by omega) (by omega)]
  have := digs_num 32 l h2
  rw [h3, hs] at this
  rw [this, h1]
 ·cases e
theorem letters_inj {g h : List UInt8} (hg : g.length = 20) (hh : h.length = 20) (e : letters g = letters h) : g = h := by
 have := hash_letters hg
 rw [e, hash_letters hh] at this
 exact (Option.some.inj this).symm
end Pl
namespace Pl
def numTo (h : List UInt8) (k : Nat) : Nat := num 256 (nats (h.take k))
theorem numTo_zero (h : List UInt8) : numTo h 0 = 0 := rfl
theorem numTo_succ (h : List UInt8) (k : Nat) (hk : k < h.length) : numTo h (k + 1) = numTo h k + 256 ^ k * (h[k]).toNat := by
 unfold numTo
 rw [List.take_succ_eq_append_getElem hk, nats, List.map_append, num_append]
 simp [num, nats, List.length_take, Nat.min_eq_left (Nat.le_of_lt hk)]
theorem numTo_lt (h : List UInt8) (k : Nat) (hk : k ≤ h.length) : numTo h k < 256 ^ k := by
 have := num_lt 256 (nats (h.take k)) (nats_lt _)
 simpa [numTo, nats, List.length_take, Nat.min_eq_left hk] using this
theorem numTo_all (h : List UInt8) (k : Nat) (hk : h.length ≤ k) : numTo h k = num 256 (nats h) := by simp [numTo, List.take_of_length_le hk]
theorem digs_add_mul (b n x y : Nat) : digs b n (x + b ^ n * y) = digs b n x := by
 induction n generalizing x with
 | zero => rfl
 | succ n ih =>
  rcases Nat.eq_zero_or_pos b with rfl | hb
  ·simp
  simp only [digs]
  rw [Nat.pow_succ', Nat.mul_assoc, Nat.add_mul_mod_self_left, Nat.add_mul_div_left _ _ hb, ih]
theorem digs_succ_last (b n x : Nat) : digs b (n + 1) x = digs b n x ++ [x / b ^ n % b] := by
 induction n generalizing x with
 | zero => simp [digs]
 | succ n ih =>
  rw [digs, ih (x / b)]
  simp only [digs, List.cons_append, Nat.div_div_eq_div_mul, Nat.pow_succ']
theorem pow256 (k : Nat) : 256 ^ k = 2 ^ (8 * k) := by rw [Nat.pow_mul]
theorem pow32 (k : Nat) : 32 ^ k = 2 ^ (5 * k) := by rw [Nat.pow_mul]
def outTo (h : List UInt8) (k j : Nat) : List UInt8 := (digs 32 j (numTo h k)).map letter
def heldTo (h : List UInt8) (k j : Nat) : Nat := numTo h k / 32 ^ j
theorem heldTo_lt (h : List UInt8) (k j : Nat) (hk : k ≤ h.length) (hj : 5 * j ≤ 8 * k) : heldTo h k j < 2 ^ (8 * k - 5 * j) := by
 unfold heldTo
 rw [Nat.div_lt_iff_lt_mul (Nat.pow_pos (by omega)), pow32, ← Nat.pow_add, show 8 * k - 5 * j + 5 * j = 8 * k by omega, ← pow256]
 exact numTo_lt h k hk
theorem heldTo_byte (h : List UInt8) (k j : Nat) (hk : k < h.length) (hj : 5 * j ≤ 8 * k) : heldTo h (k + 1) j = heldTo h k j + 2 ^ (8 * k - 5 * j) * (h[k]).toNat := by
 unfold heldTo
 rw [numTo_succ h k hk, pow32, pow256, show 8 * k = 5 * j + (8 * k - 5 * j) by omega, Nat.pow_add, Nat.mul_assoc, Nat.add_mul_div_left _ _ (Nat.pow_pos (by omega))]
 rw [show 5 * j + (8 * k - 5 * j) - 5 * j = 8 * k - 5 * j by omega]
theorem outTo_byte (h : List UInt8) (k j : Nat) (hk : k < h.length) (hj : 5 * j ≤ 8 * k) : outTo h (k + 1) j = outTo h k j := by
 unfold outTo
 rw [numTo_succ h k hk, pow256, show 8 * k = 5 * j + (8 * k - 5 * j) by omega, Nat.pow_add, ← pow32, Nat.mul_assoc, digs_add_mul]
theorem outTo_letter (h : List UInt8) (k j : Nat) : outTo h k (j + 1) = outTo h k j ++ [letter (heldTo h k j % 32)] := by
 unfold outTo heldTo
 rw [digs_succ_last]; simp
theorem heldTo_letter (h : List UInt8) (k j : Nat) : heldTo h k (j + 1) = heldTo h k j / 32 := by
 unfold heldTo
 rw [Nat.div_div_eq_div_mul, Nat.pow_succ]
theorem outTo_length (h : List UInt8) (k j : Nat) : (outTo h k j).length = j := by simp [outTo, digs_length]
theorem outTo_end (h : List UInt8) (hl : h.length = 20) : outTo h 20 32 = letters h := by
 simp [outTo, letters, numTo_all h 20 (by omega)]
end Pl
namespace Pl
def sgn (c : UInt8) : Bool := (97 ≤ c && c ≤ 122) || (65 ≤ c && c ≤ 90) || (48 ≤ c && c ≤ 57) || c == 46 || c == 95 || c == 43 || c == 45
def isName (s : List UInt8) : Bool := s.all sgn && (s.length != 0) && decide (s.length ≤ 24) && (s.getD 0 0 != 46)
def signN (r : Nat) : Bool := (decide (65 ≤ r) && decide (97 ≤ r ||| 32) && decide (r ||| 32 ≤ 122)) || (decide (48 ≤ r) && decide (r ≤ 57)) || decide (0 ≤ (if r = 46 then 0 else if r = 95 then 1 else if r = 43 then 2 else if r = 45 then 3 else -1 : Int))
theorem signN_sgn : ∀ c : UInt8, c.toNat < 128 → signN c.toNat = sgn c := by
 intro c h
 have : ∀ n, n < 128 → signN n = sgn (UInt8.ofNat n) := by decide +kernel
 have := this c.toNat h
 rwa [UInt8.ofNat_toNat] at this
theorem sgn_small (c : UInt8) (h : sgn c = true) : c.toNat < 128 := by
 have : ∀ n, n < 256 → sgn (UInt8.ofNat n) = true → n < 128 := by decide +kernel
 have h2 := this c.toNat c.toNat_lt
 rw [UInt8.ofNat_toNat] at h2
 exact h2 h
end Pl
namespace Pl
/-! The hash of letters, as it is gathered. -/
def lnum (l : List Nat) : Nat := num 32 l
theorem lnum_snoc (l : List Nat) (n : Nat) : lnum (l ++ [n]) = lnum l + 32 ^ l.length * n := by simp [lnum, num_append, num]
theorem lnum_lt (l : List Nat) (h : ∀ x ∈ l, x < 32) : lnum l < 32 ^ l.length := num_lt 32 l h
def hashTo (M k : Nat) : List UInt8 := bytes (digs 256 (5 * k / 8) M) ++ List.replicate (20 - 5 * k / 8) 0
def heldB (M k : Nat) : Nat := M / 256 ^ (5 * k / 8)
theorem hashTo_length (M k : Nat) (hk : k ≤ 32) : (hashTo M k).length = 20 := by
 simp [hashTo, bytes, digs_length]; omega
theorem hashTo_0 (M : Nat) : hashTo M 0 = List.replicate 20 0 := rfl
theorem hashTo_32 (M : Nat) : hashTo M 32 = bytes (digs 256 20 M) := by simp [hashTo]
theorem heldB_lt (M k : Nat) (h : M < 32 ^ k) : heldB M k < 2 ^ (5 * k - 8 * (5 * k / 8)) := by
 unfold heldB
 rw [Nat.div_lt_iff_lt_mul (Nat.pow_pos (by omega)), pow256, ← Nat.pow_add, show 5 * k - 8 * (5 * k / 8) + 8 * (5 * k / 8) = 5 * k by omega, ← pow32]
 exact h
theorem pow32_split (k : Nat) : 32 ^ k = 256 ^ (5 * k / 8) * 2 ^ (5 * k - 8 * (5 * k / 8)) := by
 rw [pow32, pow256, ← Nat.pow_add, show 8 * (5 * k / 8) + (5 * k - 8 * (5 * k / 8)) = 5 * k by omega]
theorem held_letter (M k n : Nat) : (M + 32 ^ k * n) / 256 ^ (5 * k / 8) = heldB M k + 2 ^ (5 * k - 8 * (5 * k / 8)) * n := by
 unfold heldB
 rw [pow32_split, Nat.mul_assoc, Nat.add_mul_div_left _ _ (Nat.pow_pos (by omega))]
theorem digs_letter (M k n : Nat) : digs 256 (5 * k / 8) (M + 32 ^ k * n) = digs 256 (5 * k / 8) M := by
 rw [pow32_split, Nat.mul_assoc, digs_add_mul]
theorem hashTo_stay (M k n : Nat) (h : 5 * (k + 1) / 8 = 5 * k / 8) : hashTo (M + 32 ^ k * n) (k + 1) = hashTo M k ∧ heldB (M + 32 ^ k * n) (k + 1) = heldB M k + 2 ^ (5 * k - 8 * (5 * k / 8)) * n := by
 unfold hashTo
 rw [h, digs_letter]
 refine ⟨rfl, ?_⟩
 unfold heldB
 rw [h]
 exact held_letter M k n
theorem hashTo_byte (M k n : Nat) (hk : k < 32) (h : 5 * (k + 1) / 8 = 5 * k / 8 + 1) : hashTo (M + 32 ^ k * n) (k + 1) = (hashTo M k).set (5 * k / 8) (UInt8.ofNat (heldB M k + 2 ^ (5 * k - 8 * (5 * k / 8)) * n)) ∧
  heldB (M + 32 ^ k * n) (k + 1) = (heldB M k + 2 ^ (5 * k - 8 * (5 * k / 8)) * n) / 256 := by
 constructor
 ·unfold hashTo
  have hl : (bytes (digs 256 (5 * k / 8) M)).length = 5 * k / 8 := by simp [bytes, digs_length]
  rw [h, digs_succ_last, digs_letter, held_letter, List.set_append_right _ _ (by omega), hl, Nat.sub_self]
  rw [show 20 - 5 * k / 8 = (20 - (5 * k / 8 + 1)) + 1 by omega, List.replicate_succ]
  have e : UInt8.ofNat ((heldB M k + 2 ^ (5 * k - 8 * (5 * k / 8)) * n) % 256) = UInt8.ofNat (heldB M k + 2 ^ (5 * k - 8 * (5 * k / 8)) * n) := by
   apply UInt8.toNat_inj.1; simp [UInt8.toNat_ofNat']
  simp only [bytes, List.map_append, List.map_cons, List.map_nil, e, List.set_cons_zero, List.append_assoc, List.cons_append, List.nil_append]
 ·rw [← held_letter]
  unfold heldB
  rw [h, Nat.pow_succ, Nat.div_div_eq_div_mul]
end Pl
namespace Pl
def hN (P : Nat) : List UInt8 := bytes (digs 256 20 P)
theorem hN_length (P : Nat) : (hN P).length = 20 := by simp [hN, bytes, digs_length]
theorem hN_at (P i : Nat) (hi : i < 20) : (hN P)[i]? = some (UInt8.ofNat (P / 256 ^ i % 256)) := by
 unfold hN bytes
 rw [List.getElem?_map, digs_getElem? _ _ _ _ hi]; rfl
theorem hN_zero : hN 0 = List.replicate 20 0 := by decide
theorem hN_bit (P t : Nat) (ht : t < 160) (hP : P < 2 ^ t) : hN (P + 2 ^ t) = (hN P).set (t / 8) (UInt8.ofNat (P / 256 ^ (t / 8) % 256 + 2 ^ (t % 8))) := by
 have hq : t / 8 < 20 := by omega
 have e2 : 2 ^ t = 256 ^ (t / 8) * 2 ^ (t % 8) := by rw [pow256, ← Nat.pow_add, Nat.div_add_mod]
 have hr : 2 ^ (t % 8) ≤ 2 ^ 7 := Nat.pow_le_pow_right (by omega) (by omega)
 have hlt : P / 256 ^ (t / 8) < 2 ^ (t % 8) := by
  rw [Nat.div_lt_iff_lt_mul (Nat.pow_pos (by omega)), Nat.mul_comm, ← e2]; exact hP
 apply List.ext_getElem?
 intro j
 rw [List.getElem?_set]
 by_cases hj : j < 20
 ·rw [hN_at _ _ hj]
  by_cases h1 : t / 8 = j
  ·subst h1
   simp only [if_true, hN_length, hq, Option.some.injEq]
   rw [e2, Nat.add_mul_div_left _ _ (Nat.pow_pos (by omega))]
   rw [Nat.mod_eq_of_lt (a := P / 256 ^ (t / 8)) (by omega), Nat.mod_eq_of_lt (by omega)]
  ·rw [if_neg h1, hN_at _ _ hj]
   congr 2
   rcases Nat.lt_or_ge j (t / 8) with h | h
   ·have : 256 ^ (t / 8) = 256 ^ j * (256 * 256 ^ (t / 8 - j - 1)) := by
     rw [← Nat.pow_succ', ← Nat.pow_add]; congr 1; omega
    rw [e2, this, Nat.mul_assoc, Nat.mul_assoc, Nat.add_mul_div_left _ _ (Nat.pow_pos (by omega)), Nat.add_mul_mod_self_left]
   ·have h2 : 256 ^ j = 256 ^ (t / 8) * 256 ^ (j - t / 8) := by rw [← Nat.pow_add]; congr 1; omega
    have h3 : 256 ≤ 256 ^ (j - t / 8) := by
     have := Nat.pow_le_pow_right (n := 256) (by omega) (show 1 ≤ j - t / 8 by omega)
     simpa using this
    rw [e2, h2, ← Nat.div_div_eq_div_mul, ← Nat.div_div_eq_div_mul, Nat.add_mul_div_left _ _ (Nat.pow_pos (by omega)), Nat.div_eq_of_lt (a := P / 256 ^ (t / 8)) (by omega), Nat.div_eq_of_lt (by omega)]
 ·rw [List.getElem?_eq_none (by rw [hN_length]; omega)]
  split
  ·simp [hN_length]; omega
  ·rw [List.getElem?_eq_none (by rw [hN_length]; omega)]
theorem mod_bit (n k : Nat) : n % 2 ^ (k + 1) = n % 2 ^ k + 2 ^ k * (n / 2 ^ k % 2) := by rw [Nat.pow_succ, Nat.mod_mul]
def bitNum (l : List Nat) (i n k : Nat) : Nat := lnum l + 32 ^ i * (n % 2 ^ k)
theorem bitNum_0 (l : List Nat) (i n : Nat) : bitNum l i n 0 = lnum l := by simp [bitNum, Nat.mod_one]
theorem bitNum_5 (l : List Nat) (n : Nat) (hn : n < 32) : bitNum l l.length n 5 = lnum (l ++ [n]) := by
 rw [lnum_snoc, bitNum, Nat.mod_eq_of_lt (by simpa using hn)]
theorem bitNum_lt (l : List Nat) (i n k : Nat) (hl : lnum l < 32 ^ i) : bitNum l i n k < 2 ^ (5 * i + k) := by
 unfold bitNum
 rw [pow32] at hl ⊢
 have h1 : n % 2 ^ k < 2 ^ k := Nat.mod_lt _ (Nat.pow_pos (by omega))
 rw [Nat.pow_add]
 have h2 : 2 ^ (5 * i) * (n % 2 ^ k) + 2 ^ (5 * i) ≤ 2 ^ (5 * i) * 2 ^ k := by
  rw [← Nat.mul_succ]; exact Nat.mul_le_mul_left _ h1
 omega
theorem bitNum_yes (l : List Nat) (i n k : Nat) (h : n / 2 ^ k % 2 = 1) : bitNum l i n (k + 1) = bitNum l i n k + 2 ^ (5 * i + k) := by
 unfold bitNum
 rw [mod_bit, h, pow32, Nat.pow_add, Nat.mul_add, Nat.mul_one]; omega
theorem bitNum_no (l : List Nat) (i n k : Nat) (h : n / 2 ^ k % 2 = 0) : bitNum l i n (k + 1) = bitNum l i n k := by
 unfold bitNum
 rw [mod_bit, h]; simp
end Pl
namespace Pl
def cut1 (c : UInt8) : List UInt8 → List UInt8 × List UInt8 × Bool
 | [] => ([], [], false)
 | b :: l => if b = c then ([], l, true) else (b :: (cut1 c l).1, (cut1 c l).2.1, (cut1 c l).2.2)
theorem cut1_yes (c : UInt8) (s : List UInt8) (h : (cut1 c s).2.2 = true) : s = (cut1 c s).1 ++ c :: (cut1 c s).2.1 ∧ c ∉ (cut1 c s).1 := by
 induction s with
 | nil => simp [cut1] at h
 | cons b l ih =>
  unfold cut1 at h ⊢
  by_cases e : b = c
  ·simp [e]
  ·simp only [e, if_false] at h ⊢
   obtain ⟨h1, h2⟩ := ih h
   refine ⟨by rw [List.cons_append, ← h1], ?_⟩
   simp only [List.mem_cons, not_or]
   exact ⟨fun h => e h.symm, h2⟩
theorem cut1_no (c : UInt8) (s : List UInt8) (h : (cut1 c s).2.2 = false) : c ∉ s ∧ (cut1 c s).1 = s ∧ (cut1 c s).2.1 = [] := by
 induction s with
 | nil => simp [cut1]
 | cons b l ih =>
  unfold cut1 at h ⊢
  by_cases e : b = c
  ·simp [e] at h
  ·simp only [e, if_false] at h ⊢
   obtain ⟨h1, h2, h3⟩ := ih h
   refine ⟨?_, by rw [h2], h3⟩
   simp only [List.mem_cons, not_or]
   exact ⟨fun h => e h.symm, h1⟩
theorem cut1_of (c : UInt8) (a b : List UInt8) (h : c ∉ a) : cut1 c (a ++ c :: b) = (a, b, true) := by
 induction a with
 | nil => simp [cut1]
 | cons x a ih =>
  simp only [List.mem_cons, not_or] at h
  simp [cut1, Ne.symm h.1, ih h.2]
def parse (s : List UInt8) : Option (List UInt8 × List UInt8) :=
 if (cut1 45 s).2.2 && isName (cut1 45 s).2.1 then (hash (cut1 45 s).1).map fun h => (h, (cut1 45 s).2.1) else none
theorem letters_no45 {s h : List UInt8} (e : hash s = some h) : (45 : UInt8) ∉ s := by
 intro hm
 unfold hash at e
 split at e
 ·simp only [Option.map_eq_some_iff] at e
  obtain ⟨l, hl, _⟩ := e
  obtain ⟨h1, h2, _⟩ := mapM_val hl
  rw [← h1] at hm
  obtain ⟨n, hn, h45⟩ := List.mem_map.1 hm
  have : ∀ n, n < 32 → letter n ≠ 45 := by decide
  exact this n (h2 n hn) h45
 ·cases e
theorem isName_pos {n : List UInt8} (h : isName n = true) : 1 ≤ n.length := by
 cases n with
 | nil => simp [isName] at h
 | cons c l => simp
theorem hash_len {s h : List UInt8} (e : hash s = some h) : s.length = 32 := by
 unfold hash at e
 split at e
 ·assumption
 ·cases e
theorem parse_ref (s : List UInt8) : parse s = if 34 ≤ s.length && (s[32]?.getD 0 == 45) && isName (s.drop 33) then (hash (s.take 32)).map fun h => (h, s.drop 33) else none := by
 by_cases hy : (cut1 45 s).2.2 = true
 ·obtain ⟨h1, h2⟩ := cut1_yes 45 s hy
  generalize (cut1 45 s).1 = a at *
  generalize hb : (cut1 45 s).2.1 = b at *
  have hcut : cut1 45 s = (a, b, true) := by rw [h1]; exact cut1_of _ _ _ h2
  unfold parse
  rw [hcut]
  simp only [Bool.true_and]
  by_cases ha : a.length = 32
  ·have e1 : s.drop 33 = b := by rw [h1, show a ++ 45 :: b = (a ++ [45]) ++ b by simp, List.drop_left' (by simp [ha])]
   have e2 : s.take 32 = a := by rw [h1, List.take_left' ha]
   have e3 : s[32]? = some 45 := by rw [h1, List.getElem?_append_right (by omega)]; simp [ha]
   rw [e1, e2, e3]
   have hl : s.length = 33 + b.length := by rw [h1]; simp [ha]; omega
   cases hn : isName b with
   | false => simp
   | true =>
    have := isName_pos hn
    simp [show 34 ≤ s.length by omega]
  ·have hne : hash a = none := by unfold hash; rw [if_neg ha]
   rw [hne]
   simp only [Option.map_none]
   have : (if isName b = true then (none : Option (List UInt8 × List UInt8)) else none) = none := by split <;> rfl
   rw [this]
   symm
   split
   ·rename_i hc
    simp only [Bool.and_eq_true, decide_eq_true_eq, beq_iff_eq] at hc
    cases ht : hash (s.take 32) with
    | none => rfl
    | some h =>
     exfalso
     have hno := letters_no45 ht
     rcases Nat.lt_or_ge a.length 32 with hlt | hge
     ·apply hno
      rw [h1]
      rw [List.mem_take_iff_getElem]
      refine ⟨a.length, by simp; omega, by simp⟩
     ·have hal : 32 < a.length := by omega
      have : s[32]? = a[32]? := by rw [h1, List.getElem?_append_left hal]
      rw [this, List.getElem?_eq_getElem hal] at hc
      apply h2
      rw [← hc.1.2]
      exact List.getElem_mem hal
   ·rfl
 ·have hy' : (cut1 45 s).2.2 = false := by simpa using hy
  obtain ⟨h1, h2, h3⟩ := cut1_no 45 s hy'
  unfold parse
  rw [hy']
  simp only [Bool.false_and, Bool.false_eq_true, if_false]
  symm
  split
  ·rename_i hc
   simp only [Bool.and_eq_true, decide_eq_true_eq, beq_iff_eq] at hc
   exfalso
   apply h1
   have h32 : 32 < s.length := by omega
   have := hc.1.2
   rw [List.getElem?_eq_getElem h32] at this
   rw [← this]; exact List.getElem_mem h32
  ·rfl
theorem parse_text {h n : List UInt8} (hl : h.length = 20) (hn : isName n = true) : parse (letters h ++ 45 :: n) = some (h, n) := by
 have h45 := letters_no45 (hash_letters hl)
 unfold parse
 rw [cut1_of _ _ _ h45]
 simp [hn, hash_letters hl]
theorem parse_some {s h n : List UInt8} (e : parse s = some (h, n)) : isName n = true ∧ h.length = 20 ∧ letters h ++ 45 :: n = s := by
 unfold parse at e
 split at e
 ·rename_i hc
  simp only [Bool.and_eq_true] at hc
  simp only [Option.map_eq_some_iff, Prod.mk.injEq] at e
  obtain ⟨h', he, rfl, rfl⟩ := e
  exact ⟨hc.2, hash_length he, by rw [letters_hash he]; exact (cut1_yes 45 s hc.1).1.symm⟩
 ·cases e
end Pl
/-! File trees (chapters 8, 9), as plain data: how many nodes, how deep, how many bytes; which are right; a node at a way. No program in sight. -/
namespace Go.Tr
inductive T where
 | mk (k : Int) (b : List UInt8) (l : List (List UInt8 × T))
abbrev K := List UInt8 × T
namespace T
def kind : T → Int | mk k _ _ => k
def bytes : T → List UInt8 | mk _ b _ => b
def kids : T → List K | mk _ _ l => l
end T
mutual
def count : T → Nat
 | .mk _ _ l => 1 + countL l
def countL : List K → Nat
 | [] => 0
 | (_, t) :: l => count t + countL l
end
mutual
def deep : T → Nat
 | .mk _ _ l => deepL l + 1
def deepL : List K → Nat
 | [] => 0
 | (_, t) :: l => max (deep t) (deepL l)
end
mutual
def size : T → Nat
 | .mk _ b l => b.length + sizeL l
def sizeL : List K → Nat
 | [] => 0
 | (_, t) :: l => size t + sizeL l
end
mutual
def same : T → T → Bool
 | .mk k b l, .mk k' b' l' => decide (k = k') && decide (b = b') && sameL l l'
def sameL : List K → List K → Bool
 | [], [] => true
 | (n, t) :: l, (n', t') :: l' => decide (n = n') && same t t' && sameL l l'
 | _, _ => false
end
mutual
theorem same_iff : ∀ a b : T, same a b = true ↔ a = b
 | .mk k b l, .mk k' b' l' => by
  simp only [same, Bool.and_eq_true, decide_eq_true_eq, sameL_iff l l', T.mk.injEq, and_assoc]
theorem sameL_iff : ∀ l l' : List K, sameL l l' = true ↔ l = l'
 | [], [] => by simp [sameL]
 | [], _ :: _ => by simp [sameL]
 | _ :: _, [] => by simp [sameL]
 | (n, t) :: l, (n', t') :: l' => by
  simp only [sameL, Bool.and_eq_true, decide_eq_true_eq, same_iff t t', sameL_iff l l', List.cons.injEq, Prod.mk.injEq]
end
def named (behind : Option (List UInt8)) : List K → Bool
 | [] => true
 | (n, _) :: l => Pl.isName n && (match behind with | none => true | some b => Op.bytesLess b n) && named (some n) l
def alone : T → Bool
 | .mk k b l => ((decide (k = 1) || decide (k = 2)) && decide (b.length ≤ 2048) && l.isEmpty) || (decide (k = 3) && decide (1 ≤ b.length) && decide (b.length ≤ 200) && l.isEmpty) || (decide (k = 4) && b.isEmpty && decide (l.length ≤ 200) && named none l)
mutual
def ok : T → Bool
 | .mk k b l => alone (.mk k b l) && okL l
def okL : List K → Bool
 | [] => true
 | (_, t) :: l => ok t && okL l
end
def lookB (t : T) (n d : Nat) : Bool := ok t && decide (n + count t ≤ 200) && decide (d + deep t ≤ 9)
def right (t : T) : Bool := lookB t 0 1
theorem count_pos (t : T) : 0 < count t := by cases t; simp [count]; omega
theorem deep_pos (t : T) : 0 < deep t := by cases t; simp [deep]
theorem countL_append (l m : List K) : countL (l ++ m) = countL l + countL m := by
 induction l with
 | nil => simp [countL]
 | cons x l ih => obtain ⟨n, t⟩ := x; simp only [List.cons_append, countL, ih]; omega
theorem deepL_append (l m : List K) : deepL (l ++ m) = max (deepL l) (deepL m) := by
 induction l with
 | nil => simp [deepL]
 | cons x l ih => obtain ⟨n, t⟩ := x; simp only [List.cons_append, deepL, ih]; omega
theorem sizeL_append (l m : List K) : sizeL (l ++ m) = sizeL l + sizeL m := by
 induction l with
 | nil => simp [sizeL]
 | cons x l ih => obtain ⟨n, t⟩ := x; simp only [List.cons_append, sizeL, ih]; omega
theorem okL_append (l m : List K) : okL (l ++ m) = (okL l && okL m) := by
 induction l with
 | nil => simp [okL]
 | cons x l ih => obtain ⟨n, t⟩ := x; simp only [List.cons_append, okL, ih, Bool.and_assoc]
theorem countL_mem {l : List K} {x : K} (h : x ∈ l) : count x.2 ≤ countL l := by
 induction l with
 | nil => cases h
 | cons y l ih =>
  obtain ⟨n, t⟩ := y
  rcases List.mem_cons.1 h with rfl | h
  ·simp only [countL]; omega
  ·have := ih h; simp only [countL]; omega
theorem deepL_mem {l : List K} {x : K} (h : x ∈ l) : deep x.2 ≤ deepL l := by
 induction l with
 | nil => cases h
 | cons y l ih =>
  obtain ⟨n, t⟩ := y
  rcases List.mem_cons.1 h with rfl | h
  ·simp only [deepL]; omega
  ·have := ih h; simp only [deepL]; omega
theorem okL_mem {l : List K} (hl : okL l = true) {x : K} (h : x ∈ l) : ok x.2 = true := by
 induction l with
 | nil => cases h
 | cons y l ih =>
  obtain ⟨n, t⟩ := y
  simp only [okL, Bool.and_eq_true] at hl
  rcases List.mem_cons.1 h with rfl | h
  ·exact hl.1
  ·exact ih hl.2 h
theorem take_succ' {l : List K} {k : Nat} {x : K} (h : l[k]? = some x) : l.take (k + 1) = l.take k ++ [x] := by rw [List.take_add_one, h]; rfl
theorem countL_take {l : List K} {k : Nat} : countL (l.take k) ≤ countL l := by
 conv => rhs; rw [← List.take_append_drop k l, countL_append]
 omega
theorem deepL_take {l : List K} {k : Nat} : deepL (l.take k) ≤ deepL l := by
 conv => rhs; rw [← List.take_append_drop k l, deepL_append]
 omega
theorem okL_take {l : List K} {k : Nat} (h : okL l = true) : okL (l.take k) = true := by
 rw [← List.take_append_drop k l, okL_append, Bool.and_eq_true] at h
 exact h.1
theorem look_kid {t : T} {n d k : Nat} {x : K} (hx : t.kids[k]? = some x) (h : lookB x.2 (n + 1 + countL (t.kids.take k)) (d + 1) = false) : lookB t n d = false := by
 obtain ⟨kd, b, l⟩ := t
 have hx : l[k]? = some x := hx
 have hm := List.mem_of_getElem? hx
 cases hl : lookB (.mk kd b l) n d with
 | false => rfl
 | true =>
  exfalso
  simp only [lookB, Bool.and_eq_true, decide_eq_true_eq] at hl
  simp only [ok, count, deep, Bool.and_eq_true] at hl
  have h1 := okL_mem hl.1.1.2 hm
  have h2 := deepL_mem hm
  have h3 : countL (l.take k) + count x.2 ≤ countL l := by
   have := countL_take (l := l) (k := k + 1)
   rw [take_succ' hx, countL_append] at this
   obtain ⟨nm, t⟩ := x
   simp only [countL] at this
   simpa using this
  have : lookB x.2 (n + 1 + countL (l.take k)) (d + 1) = true := by
   simp only [lookB, Bool.and_eq_true, decide_eq_true_eq]
   exact ⟨⟨h1, by omega⟩, by omega⟩
  rw [show (T.mk kd b l).kids = l from rfl] at h
  rw [h] at this
  cases this
theorem look_all {t : T} {n d : Nat} (ha : alone t = true) (hn : n + 1 + countL t.kids ≤ 200) (hd : d + deepL t.kids + 1 ≤ 9) (hk : okL t.kids = true) : lookB t n d = true := by
 obtain ⟨kd, b, l⟩ := t
 simp only [lookB, Bool.and_eq_true, decide_eq_true_eq]
 simp only [ok, count, deep, Bool.and_eq_true]
 exact ⟨⟨⟨ha, hk⟩, by have : countL (T.mk kd b l).kids = countL l := rfl; omega⟩, by have : deepL (T.mk kd b l).kids = deepL l := rfl; omega⟩
/-! a node at names -/
def place (l : List K) (n : List UInt8) : Option T := (l.find? fun x => decide (x.1 = n)).map (·.2)
def find (t : T) : List (List UInt8) → Option T
 | [] => some t
 | n :: ns => match place t.kids n with
  | none => none
  | some x => find x ns
def under (way n : List UInt8) : List UInt8 := if way = [] then n else way ++ (47 :: n)
mutual
def ways (way : List UInt8) : T → List (List UInt8)
 | .mk _ _ l => way :: waysL way l
def waysL (way : List UInt8) : List K → List (List UInt8)
 | [] => []
 | (n, t) :: l => ways (under way n) t ++ waysL way l
end
mutual
theorem ways_length : ∀ (t : T) (w : List UInt8), (ways w t).length = count t
 | .mk k b l, w => by simp only [ways, List.length_cons, count, waysL_length l w]; omega
theorem waysL_length : ∀ (l : List K) (w : List UInt8), (waysL w l).length = countL l
 | [], w => by simp [waysL, countL]
 | (n, t) :: l, w => by simp only [waysL, List.length_append, countL, ways_length t, waysL_length l]
end
end Go.Tr
/-! The names of kids in order; a tree's nodes, their ways. No program in sight. -/
namespace Go.Tr
theorem bytesLess_asymm : ∀ (a b : List UInt8), Op.bytesLess a b = true → Op.bytesLess b a = false
 | [], [], h => by simp [Op.bytesLess] at h
 | [], _ :: _, _ => by simp [Op.bytesLess]
 | _ :: _, [], h => by simp [Op.bytesLess] at h
 | x :: a, y :: b, h => by
  simp only [Op.bytesLess, Bool.or_eq_true, Bool.and_eq_true, decide_eq_true_eq, beq_iff_eq] at h
  simp only [Op.bytesLess, Bool.or_eq_false_iff, decide_eq_false_iff_not, Bool.and_eq_false_iff, beq_eq_false_iff_ne]
  rcases h with h | ⟨rfl, h⟩
  ·exact ⟨fun h' => absurd (UInt8.lt_trans h h') (UInt8.lt_irrefl _), .inl (fun e => by subst e; exact UInt8.lt_irrefl _ h)⟩
  ·exact ⟨UInt8.lt_irrefl _, .inr (bytesLess_asymm a b h)⟩
theorem bytesLess_irrefl (a : List UInt8) : Op.bytesLess a a = false := by
 cases h : Op.bytesLess a a with
 | false => rfl
 | true => exact absurd (bytesLess_asymm a a h) (by rw [h]; simp)
theorem bytesLess_total : ∀ (a b : List UInt8), a ≠ b → Op.bytesLess a b = false → Op.bytesLess b a = true
 | [], [], h, _ => absurd rfl h
 | [], _ :: _, _, h => by simp [Op.bytesLess] at h
 | _ :: _, [], _, _ => by simp [Op.bytesLess]
 | x :: a, y :: b, hne, h => by
  simp only [Op.bytesLess, Bool.or_eq_false_iff, decide_eq_false_iff_not, Bool.and_eq_false_iff, beq_eq_false_iff_ne] at h
  simp only [Op.bytesLess, Bool.or_eq_true, Bool.and_eq_true, decide_eq_true_eq, beq_iff_eq]
  by_cases e : x = y
  ·subst e
   refine .inr ⟨rfl, bytesLess_total a b (fun e => hne (by rw [e])) ?_⟩
   exact h.2.resolve_left (fun h' => h' rfl)
  ·exact .inl (UInt8.lt_of_le_of_ne (UInt8.not_lt.1 h.1) (Ne.symm e))
theorem bytesLess_trans : ∀ (a b c : List UInt8), Op.bytesLess a b = true → Op.bytesLess b c = true → Op.bytesLess a c = true
 | [], [], _, h, _ => by simp [Op.bytesLess] at h
 | [], _ :: _, [], _, h => by simp [Op.bytesLess] at h
 | [], _ :: _, _ :: _, _, _ => by simp [Op.bytesLess]
 | _ :: _, [], _, h, _ => by simp [Op.bytesLess] at h
 | _ :: _, _ :: _, [], _, h => by simp [Op.bytesLess] at h
 | x :: a, y :: b, z :: c, h1, h2 => by
  simp only [Op.bytesLess, Bool.or_eq_true, Bool.and_eq_true, decide_eq_true_eq, beq_iff_eq] at h1 h2 ⊢
  rcases h1 with h1 | ⟨rfl, h1⟩
  ·rcases h2 with h2 | ⟨rfl, h2⟩
   ·exact .inl (UInt8.lt_trans h1 h2)
   ·exact .inl h1
  ·rcases h2 with h2 | ⟨rfl, h2⟩
   ·exact .inl h2
   ·exact .inr ⟨rfl, bytesLess_trans a b c h1 h2⟩

theorem named_all : ∀ (l : List K) (b : Option (List UInt8)), named b l = true → ∀ x ∈ l, Pl.isName x.1 = true
 | [], _, _ => by simp
 | (n, t) :: l, b, h => by
  simp only [named, Bool.and_eq_true] at h
  intro x hx
  rcases List.mem_cons.1 hx with rfl | hx
  ·exact h.1.1
  ·exact named_all l _ h.2 x hx
theorem named_less : ∀ (l : List K) (b : List UInt8), named (some b) l = true → ∀ x ∈ l, Op.bytesLess b x.1 = true
 | [], _, _ => by simp
 | (n, t) :: l, b, h => by
  simp only [named, Bool.and_eq_true] at h
  intro x hx
  rcases List.mem_cons.1 hx with rfl | hx
  ·exact h.1.2
  ·exact bytesLess_trans _ _ _ h.1.2 (named_less l n h.2 x hx)
theorem named_pair : ∀ (l : List K) (b : Option (List UInt8)), named b l = true → l.Pairwise fun x y => Op.bytesLess x.1 y.1 = true
 | [], _, _ => List.Pairwise.nil
 | (n, t) :: l, b, h => by
  simp only [named, Bool.and_eq_true] at h
  exact List.Pairwise.cons (named_less l n h.2) (named_pair l _ h.2)
theorem place_mem : ∀ (l : List K), (l.Pairwise fun x y => Op.bytesLess x.1 y.1 = true) → ∀ x ∈ l, place l x.1 = some x.2
 | [], _, x, h => by cases h
 | y :: l, hp, x, h => by
  obtain ⟨h1, h2⟩ := List.pairwise_cons.1 hp
  rcases List.mem_cons.1 h with rfl | h
  ·simp [place]
  ·have hne : ¬ y.1 = x.1 := fun e => by have := h1 x h; rw [e, bytesLess_irrefl] at this; cases this
   have := place_mem l h2 x h
   simp only [place, List.find?_cons, decide_eq_false hne] at this ⊢
   exact this
theorem place_some {l : List K} {n : List UInt8} {t : T} (h : place l n = some t) : (n, t) ∈ l := by
 simp only [place, Option.map_eq_some_iff] at h
 obtain ⟨x, h1, rfl⟩ := h
 have h2 := List.mem_of_find?_eq_some h1
 have h3 := List.find?_some h1
 simp only [decide_eq_true_eq] at h3
 subst h3
 exact h2
theorem place_none {l : List K} {n : List UInt8} (h : place l n = none) : ∀ x ∈ l, x.1 ≠ n := by
 simp only [place, Option.map_eq_none_iff, List.find?_eq_none, decide_eq_true_eq] at h
 exact h
theorem kids_pair {t : T} (h : ok t = true) : t.kids.Pairwise fun x y => Op.bytesLess x.1 y.1 = true := by
 obtain ⟨k, b, l⟩ := t
 simp only [ok, Bool.and_eq_true] at h
 have h := h.1
 simp only [alone, Bool.or_eq_true, Bool.and_eq_true] at h
 rcases h with (h | h) | h
 ·have : l = [] := by simpa using h.2
  subst this; exact List.Pairwise.nil
 ·have : l = [] := by simpa using h.2
  subst this; exact List.Pairwise.nil
 ·exact named_pair l _ h.2
theorem kids_names {t : T} (h : ok t = true) : ∀ x ∈ t.kids, Pl.isName x.1 = true := by
 obtain ⟨k, b, l⟩ := t
 simp only [ok, Bool.and_eq_true] at h
 have h := h.1
 simp only [alone, Bool.or_eq_true, Bool.and_eq_true] at h
 rcases h with (h | h) | h
 ·have : l = [] := by simpa using h.2
  subst this; intro x hx; cases hx
 ·have : l = [] := by simpa using h.2
  subst this; intro x hx; cases hx
 ·exact named_all l _ h.2
theorem kids_ok {t : T} (h : ok t = true) : okL t.kids = true := by
 obtain ⟨k, b, l⟩ := t
 simp only [ok, Bool.and_eq_true] at h
 exact h.2
/-! the nodes of a tree, by names, as they are gone through -/
abbrev N := List (List UInt8)
mutual
def walk (ws : N) : T → List (N × T)
 | .mk k b l => (ws, .mk k b l) :: walkL ws l
def walkL (ws : N) : List K → List (N × T)
 | [] => []
 | (n, t) :: l => walk (ws ++ [n]) t ++ walkL ws l
end
theorem find_append : ∀ (ns ms : N) (t : T), find t (ns ++ ms) = (find t ns).bind fun x => find x ms
 | [], ms, t => rfl
 | n :: ns, ms, t => by
  simp only [List.cons_append, find]
  cases place t.kids n with
  | none => rfl
  | some x => exact find_append ns ms x
mutual
theorem walk_find : ∀ (t : T) (ws : N), ok t = true → ∀ x ∈ walk ws t, ∃ ns, x.1 = ws ++ ns ∧ find t ns = some x.2 ∧ (ns = [] → x.2 = t)
 | .mk k b l, ws, h, x, hx => by
  simp only [walk, List.mem_cons] at hx
  rcases hx with rfl | hx
  ·exact ⟨[], by simp, rfl, fun _ => rfl⟩
  ·obtain ⟨n, t, ns, hm, h1, h2⟩ := walkL_find l ws (kids_ok h) x hx
   refine ⟨n :: ns, h1, ?_, fun e => by cases e⟩
   have hp := place_mem l (kids_pair h) _ hm
   simp only [find]
   rw [show (T.mk k b l).kids = l from rfl, hp]
   exact h2
theorem walkL_find : ∀ (l : List K) (ws : N), okL l = true → ∀ x ∈ walkL ws l, ∃ n t ns, (n, t) ∈ l ∧ x.1 = ws ++ n :: ns ∧ find t ns = some x.2
 | [], ws, h, x, hx => by simp [walkL] at hx
 | (n, t) :: l, ws, h, x, hx => by
  simp only [okL, Bool.and_eq_true] at h
  simp only [walkL, List.mem_append] at hx
  rcases hx with hx | hx
  ·obtain ⟨ns, h1, h2, _⟩ := walk_find t (ws ++ [n]) h.1 x hx
   exact ⟨n, t, ns, by simp, by rw [h1]; simp, h2⟩
  ·obtain ⟨n', t', ns, hm, h1, h2⟩ := walkL_find l ws h.2 x hx
   exact ⟨n', t', ns, by simp [hm], h1, h2⟩
end
mutual
theorem find_walk : ∀ (t : T) (ws : N) (ns : N) (x : T), find t ns = some x → (ws ++ ns, x) ∈ walk ws t
 | .mk k b l, ws, [], x, h => by
  simp only [find, Option.some.injEq] at h
  subst h
  simp [walk]
 | .mk k b l, ws, n :: ns, x, h => by
  simp only [find] at h
  cases hp : place (T.mk k b l).kids n with
  | none => rw [hp] at h; cases h
  | some y =>
   rw [hp] at h
   simp only [walk, List.mem_cons]
   exact .inr (findL_walk l ws n ns y x (place_some hp) h)
theorem findL_walk : ∀ (l : List K) (ws : N) (n : List UInt8) (ns : N) (y x : T), (n, y) ∈ l → find y ns = some x → (ws ++ n :: ns, x) ∈ walkL ws l
 | [], ws, n, ns, y, x, h, _ => by cases h
 | (n', t) :: l, ws, n, ns, y, x, h, hf => by
  simp only [walkL, List.mem_append]
  rcases List.mem_cons.1 h with h | h
  ·injection h with h1 h2
   subst h1 h2
   have := find_walk y (ws ++ [n]) ns x hf
   exact .inl (by simpa using this)
  ·exact .inr (findL_walk l ws n ns y x h hf)
end
mutual
theorem walk_length : ∀ (t : T) (ws : N), (walk ws t).length = count t
 | .mk k b l, ws => by simp only [walk, List.length_cons, count, walkL_length l ws]; omega
theorem walkL_length : ∀ (l : List K) (ws : N), (walkL ws l).length = countL l
 | [], ws => by simp [walkL, countL]
 | (n, t) :: l, ws => by simp only [walkL, List.length_append, countL, walk_length t, walkL_length l]
end
mutual
theorem walk_size : ∀ (t : T) (ws : N), ((walk ws t).map fun x => x.2.bytes.length).sum = size t
 | .mk k b l, ws => by simp only [walk, List.map_cons, List.sum_cons, size, walkL_size l ws]; rfl
theorem walkL_size : ∀ (l : List K) (ws : N), ((walkL ws l).map fun x => x.2.bytes.length).sum = sizeL l
 | [], ws => by simp [walkL, sizeL]
 | (n, t) :: l, ws => by simp only [walkL, List.map_append, List.sum_append, sizeL, walk_size t, walkL_size l]
end
theorem find_ok : ∀ (ns : N) (t x : T), ok t = true → find t ns = some x → ok x = true ∧ count x ≤ count t ∧ deep x + ns.length ≤ deep t
 | [], t, x, h, hf => by
  simp only [find, Option.some.injEq] at hf
  subst hf
  exact ⟨h, Nat.le_refl _, by simp⟩
 | n :: ns, t, x, h, hf => by
  simp only [find] at hf
  cases hp : place t.kids n with
  | none => rw [hp] at hf; cases hf
  | some y =>
   rw [hp] at hf
   have hm := place_some hp
   obtain ⟨h1, h2, h3⟩ := find_ok ns y x (okL_mem (kids_ok h) hm) hf
   have h4 : count y ≤ countL t.kids := countL_mem hm
   have h5 : deep y ≤ deepL t.kids := deepL_mem hm
   obtain ⟨k, b, l⟩ := t
   simp only [count, deep, List.length_cons]
   refine ⟨h1, ?_, ?_⟩
   ·have : countL (T.mk k b l).kids = countL l := rfl
    omega
   ·have : deepL (T.mk k b l).kids = deepL l := rfl
    omega
theorem find_right {t x : T} {ns : N} (h : right t = true) (hf : find t ns = some x) : right x = true := by
 simp only [right, lookB, Bool.and_eq_true, decide_eq_true_eq] at h ⊢
 obtain ⟨h1, h2, h3⟩ := find_ok ns t x h.1.1 hf
 exact ⟨⟨h1, by omega⟩, by omega⟩
end Go.Tr
/-! Ways as bytes: split, joined. No program in sight. -/
namespace Go.Tr
def splitB : List UInt8 → N
 | [] => [[]]
 | c :: s => if c = 47 then [] :: splitB s else match splitB s with
  | [] => [[c]]
  | h :: t => (c :: h) :: t
def wayN (s : List UInt8) : Option N := if s = [] then some [] else if (splitB s).all Pl.isName then some (splitB s) else none
def joinB : N → List UInt8
 | [] => []
 | [n] => n
 | n :: m :: ns => n ++ (47 :: joinB (m :: ns))
theorem splitB_ne (s : List UInt8) : splitB s ≠ [] := by
 cases s with
 | nil => simp [splitB]
 | cons c s =>
  unfold splitB
  split
  ·simp
  ·cases splitB s <;> simp
theorem splitB_name : ∀ (n : List UInt8), (47 : UInt8) ∉ n → splitB n = [n]
 | [], _ => rfl
 | c :: n, h => by
  have hc : ¬ c = 47 := fun e => h (by simp [e])
  simp only [splitB, if_neg hc]
  rw [splitB_name n (fun hm => h (by simp [hm]))]
theorem splitB_cons : ∀ (n s : List UInt8), (47 : UInt8) ∉ n → splitB (n ++ (47 :: s)) = n :: splitB s
 | [], s, _ => by simp [splitB]
 | c :: n, s, h => by
  have hc : ¬ c = 47 := fun e => h (by simp [e])
  simp only [List.cons_append, splitB, if_neg hc]
  rw [splitB_cons n s (fun hm => h (by simp [hm]))]
theorem join_split : ∀ (s : List UInt8), joinB (splitB s) = s
 | [] => rfl
 | c :: s => by
  have ih := join_split s
  unfold splitB
  split
  ·rename_i h
   cases hs : splitB s with
   | nil => exact absurd hs (splitB_ne s)
   | cons a l => rw [hs] at ih; simp only [joinB, ih, h, List.nil_append]
  ·cases hs : splitB s with
   | nil => exact absurd hs (splitB_ne s)
   | cons a l =>
    rw [hs] at ih
    cases l with
    | nil => simp only [joinB] at ih ⊢; rw [ih]
    | cons b l => simp only [joinB, List.cons_append] at ih ⊢; rw [ih]
theorem split_join : ∀ (ns : N), ns ≠ [] → (∀ n ∈ ns, (47 : UInt8) ∉ n) → splitB (joinB ns) = ns
 | [], h, _ => absurd rfl h
 | [n], _, h => splitB_name n (h n (by simp))
 | n :: m :: ns, _, h => by
  rw [joinB, splitB_cons n _ (h n (by simp)), split_join (m :: ns) (by simp) (fun x hx => h x (by simp [hx]))]
theorem name_slash {n : List UInt8} (h : Pl.isName n = true) : (47 : UInt8) ∉ n := by
 intro hm
 simp only [Pl.isName, Bool.and_eq_true, List.all_eq_true] at h
 have := h.1.1.1 47 hm
 exact absurd this (by decide)
theorem name_ne {n : List UInt8} (h : Pl.isName n = true) : n ≠ [] := by
 rintro rfl
 exact absurd h (by decide)
theorem joinB_ne : ∀ (ns : N), ns ≠ [] → (∀ n ∈ ns, n ≠ []) → joinB ns ≠ []
 | [], h, _ => absurd rfl h
 | [n], _, h => h n (by simp)
 | n :: m :: ns, _, _ => by simp [joinB]
theorem wayN_join (ns : N) (h : ∀ n ∈ ns, Pl.isName n = true) : wayN (joinB ns) = some ns := by
 cases ns with
 | nil => rfl
 | cons n ns =>
  have hs := split_join (n :: ns) (by simp) (fun x hx => name_slash (h x hx))
  have hj := joinB_ne (n :: ns) (by simp) (fun x hx => name_ne (h x hx))
  unfold wayN
  rw [if_neg hj, hs, if_pos (by rw [List.all_eq_true]; exact h)]
theorem wayN_some {s : List UInt8} {ns : N} (h : wayN s = some ns) : joinB ns = s ∧ (∀ n ∈ ns, Pl.isName n = true) ∧ (s = [] ↔ ns = []) := by
 unfold wayN at h
 split at h
 ·rename_i hs
  injection h with h
  subst h hs
  exact ⟨rfl, by simp, by simp⟩
 ·split at h
  ·rename_i hs ha
   injection h with h
   subst h
   exact ⟨join_split s, by rwa [List.all_eq_true] at ha, fun e => absurd e hs, fun e => absurd e (splitB_ne s)⟩
  ·cases h
theorem joinB_inj {ns ms : N} (hn : ∀ n ∈ ns, Pl.isName n = true) (hm : ∀ n ∈ ms, Pl.isName n = true) (h : joinB ns = joinB ms) : ns = ms := by
 have h1 := wayN_join ns hn
 have h2 := wayN_join ms hm
 rw [h, h2] at h1
 exact (Option.some.inj h1).symm
theorem joinB_snoc (ns : N) (n : List UInt8) (hns : ∀ n ∈ ns, n ≠ []) : joinB (ns ++ [n]) = under (joinB ns) n := by
 induction ns with
 | nil => rfl
 | cons m ns ih =>
  have hj := joinB_ne (m :: ns) (by simp) hns
  unfold under
  rw [if_neg hj]
  cases ns with
  | nil => simp [joinB]
  | cons k ns =>
   have ih := ih (fun x hx => hns x (by simp [hx]))
   have hj2 := joinB_ne (k :: ns) (by simp) (fun x hx => hns x (by simp [hx]))
   unfold under at ih
   rw [if_neg hj2] at ih
   simp only [List.cons_append, joinB] at ih ⊢
   rw [ih]
   simp
theorem joinB_append : ∀ (ns ms : N), ns ≠ [] → ms ≠ [] → joinB (ns ++ ms) = joinB ns ++ (47 :: joinB ms)
 | [], _, h, _ => absurd rfl h
 | [n], [], _, h => absurd rfl h
 | [n], m :: ms, _, _ => by simp [joinB]
 | n :: k :: ns, ms, _, h => by
  have := joinB_append (k :: ns) ms (by simp) h
  simp only [List.cons_append, joinB] at this ⊢
  rw [this]
  simp
mutual
theorem ways_walk : ∀ (t : T) (ws : N), ok t = true → (∀ n ∈ ws, n ≠ []) → ways (joinB ws) t = (walk ws t).map fun x => joinB x.1
 | .mk k b l, ws, h, hw => by
  simp only [ways, walk, List.map_cons]
  rw [waysL_walk l ws (kids_ok h) (fun x hx => name_ne (kids_names h x hx)) hw]
theorem waysL_walk : ∀ (l : List K) (ws : N), okL l = true → (∀ x ∈ l, x.1 ≠ []) → (∀ n ∈ ws, n ≠ []) → waysL (joinB ws) l = (walkL ws l).map fun x => joinB x.1
 | [], ws, _, _, _ => rfl
 | (n, t) :: l, ws, h, hn, hw => by
  simp only [okL, Bool.and_eq_true] at h
  simp only [waysL, walkL, List.map_append]
  rw [← joinB_snoc ws n hw, ways_walk t (ws ++ [n]) h.1 (fun m hm => by
   rcases List.mem_append.1 hm with hm | hm
   ·exact hw m hm
   ·simp only [List.mem_singleton] at hm; subst hm; exact hn (m, t) (by simp)), waysL_walk l ws h.2 (fun x hx => hn x (by simp [hx])) hw]
end
mutual
theorem walk_names : ∀ (t : T) (ws : N), ok t = true → (∀ n ∈ ws, Pl.isName n = true) → ∀ x ∈ walk ws t, ∀ n ∈ x.1, Pl.isName n = true
 | .mk k b l, ws, h, hw, x, hx => by
  simp only [walk, List.mem_cons] at hx
  rcases hx with rfl | hx
  ·exact hw
  ·exact walkL_names l ws (kids_ok h) (kids_names h) hw x hx
theorem walkL_names : ∀ (l : List K) (ws : N), okL l = true → (∀ x ∈ l, Pl.isName x.1 = true) → (∀ n ∈ ws, Pl.isName n = true) → ∀ x ∈ walkL ws l, ∀ n ∈ x.1, Pl.isName n = true
 | [], ws, _, _, _, x, hx => by simp [walkL] at hx
 | (n, t) :: l, ws, h, hn, hw, x, hx => by
  simp only [okL, Bool.and_eq_true] at h
  simp only [walkL, List.mem_append] at hx
  rcases hx with hx | hx
  ·exact walk_names t (ws ++ [n]) h.1 (fun m hm => by
    rcases List.mem_append.1 hm with hm | hm
    ·exact hw m hm
    ·simp only [List.mem_singleton] at hm; subst hm; exact hn (m, t) (by simp)) x hx
  ·exact walkL_names l ws h.2 (fun x hx => hn x (by simp [hx])) hw x hx
end
mutual
theorem walk_nodup : ∀ (t : T) (ws : N), ok t = true → ((walk ws t).map (·.1)).Nodup
 | .mk k b l, ws, h => by
  simp only [walk, List.map_cons, List.nodup_cons]
  refine ⟨fun hm => ?_, walkL_nodup l ws (kids_ok h) (kids_pair h)⟩
  obtain ⟨x, hx, e⟩ := List.mem_map.1 hm
  obtain ⟨n, t, ns, _, h1, _⟩ := walkL_find l ws (kids_ok h) x hx
  rw [h1] at e
  have := congrArg List.length e
  simp at this
theorem walkL_nodup : ∀ (l : List K) (ws : N), okL l = true → (l.Pairwise fun x y => Op.bytesLess x.1 y.1 = true) → ((walkL ws l).map (·.1)).Nodup
 | [], ws, _, _ => by simp [walkL]
 | (n, t) :: l, ws, h, hp => by
  simp only [okL, Bool.and_eq_true] at h
  obtain ⟨h1, h2⟩ := List.pairwise_cons.1 hp
  simp only [walkL, List.map_append, List.nodup_append]
  refine ⟨walk_nodup t (ws ++ [n]) h.1, walkL_nodup l ws h.2 h2, fun a ha b hb e => ?_⟩
  subst e
  obtain ⟨x, hx, e1⟩ := List.mem_map.1 ha
  obtain ⟨y, hy, e2⟩ := List.mem_map.1 hb
  obtain ⟨ns, h3, _⟩ := walk_find t (ws ++ [n]) h.1 x hx
  obtain ⟨n', t', ns', hm, h4, _⟩ := walkL_find l ws h.2 y hy
  rw [← e1, h3] at e2
  rw [h4, List.append_assoc] at e2
  have e3 := List.append_cancel_left e2
  simp only [List.cons_append, List.nil_append, List.cons.injEq] at e3
  have := h1 (n', t') hm
  rw [e3.1, bytesLess_irrefl] at this
  cases this
end
end Go.Tr
