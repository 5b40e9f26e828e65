/- (of general use) Path: a path's text (base and spenceref03). (Several texts in one.) -/
import Derived.Test.YtnlilmiakddlaaaChecked
import Derived.Test.YtnlilmiakddlaaaBAA
import Derived.BigQuiet
import Derived.Deep.QuietTactic
import Derived.Test.YtnlilmiakddlaaaShelf
import Derived.BigGuardPart
import GoSem.Instr.MapUpdate
/-! Plain numbers and letters of chapter 3: no program in sight. -/
namespace Pl
/-! Numbers in base 256 and 32, lowest first. -/
def num (b : Nat) : List Nat → Nat
  | [] => 0
  | x :: l => x + b * num b l
def digs (b : Nat) : Nat → Nat → List Nat
  | 0, _ => []
  | n + 1, x => x % b :: digs b n (x / b)
theorem digs_length (b n x : Nat) : (digs b n x).length = n := by
  induction n generalizing x with
  | zero => rfl
  | succ n ih => simp [digs, ih]
theorem num_digs (b n x : Nat) (hb : 0 < b) (h : x < b ^ n) : num b (digs b n x) = x := by
  induction n generalizing x with
  | zero => simp [digs, num] at *; omega
  | succ n ih =>
    simp only [digs, num]
    rw [ih (x / b) (by rw [Nat.div_lt_iff_lt_mul hb, ← Nat.pow_succ]; exact h)]
    exact Nat.mod_add_div x b
theorem digs_num (b : Nat) (l : List Nat) (h : ∀ x ∈ l, x < b) : digs b l.length (num b l) = l := by
  induction l with
  | nil => rfl
  | cons x l ih =>
    have hx : x < b := h x (by simp)
    have hb : 0 < b := by omega
    simp only [List.length_cons, digs, num]
    rw [Nat.add_mul_mod_self_left, Nat.mod_eq_of_lt hx, Nat.add_mul_div_left _ _ hb, Nat.div_eq_of_lt hx, Nat.zero_add, ih (fun y hy => h y (by simp [hy]))]
theorem num_lt (b : Nat) (l : List Nat) (h : ∀ x ∈ l, x < b) : num b l < b ^ l.length := by
  induction l with
  | nil => simp [num]
  | cons x l ih =>
    have hx : x < b := h x (by simp)
    have := ih (fun y hy => h y (by simp [hy]))
    simp only [num, List.length_cons, Nat.pow_succ]
    have h1 : b * num b l + b ≤ b * b ^ l.length := by
      rw [← Nat.mul_succ]; exact Nat.mul_le_mul_left b this
    rw [Nat.mul_comm (b ^ l.length)]; omega
theorem num_append (b : Nat) (l m : List Nat) : num b (l ++ m) = num b l + b ^ l.length * num b m := by
  induction l with
  | nil => simp [num]
  | cons x l ih => simp [num, ih, Nat.pow_succ, Nat.mul_add, Nat.mul_assoc, Nat.mul_comm, Nat.add_assoc]
theorem digs_getElem? (b n x i : Nat) (h : i < n) : (digs b n x)[i]? = some (x / b ^ i % b) := by
  induction n generalizing x i with
  | zero => omega
  | succ n ih =>
    cases i with
    | zero => simp [digs]
    | succ i => simp only [digs, List.getElem?_cons_succ]; rw [ih _ _ (by omega), Nat.div_div_eq_div_mul, Nat.pow_succ']
theorem digs_lt (b n x : Nat) (hb : 0 < b) : ∀ y ∈ digs b n x, y < b := by
  induction n generalizing x with
  | zero => simp [digs]
  | succ n ih =>
    intro y hy
    simp only [digs, List.mem_cons] at hy
    rcases hy with rfl | hy
    · exact Nat.mod_lt _ hb
    · exact ih _ y hy

/-! The letters. -/
def alpha : List UInt8 := [48, 49, 50, 51, 52, 53, 54, 55, 56, 57, 97, 98, 99, 100, 102, 103, 104, 105, 106, 107, 108, 109, 110, 112, 113, 114, 115, 118, 119, 120, 121, 122]
def val (c : UInt8) : Option Nat := alpha.idxOf? c
def nats (l : List UInt8) : List Nat := l.map UInt8.toNat
def bytes (l : List Nat) : List UInt8 := l.map UInt8.ofNat
theorem bytes_nats (l : List UInt8) : bytes (nats l) = l := by
  simp [bytes, nats, Function.comp_def]
theorem nats_bytes (l : List Nat) (h : ∀ x ∈ l, x < 256) : nats (bytes l) = l := by
  simp only [bytes, nats, List.map_map]
  conv => rhs; rw [← List.map_id l]
  apply List.map_congr_left
  intro x hx
  simp [UInt8.toNat_ofNat', Nat.mod_eq_of_lt (h x hx)]
theorem nats_lt (l : List UInt8) : ∀ x ∈ nats l, x < 256 := by
  intro x hx
  simp only [nats, List.mem_map] at hx
  obtain ⟨c, _, rfl⟩ := hx
  exact c.toNat_lt
def letter (n : Nat) : UInt8 := alpha.getD n 0
theorem val_letter : ∀ n, n < 32 → val (letter n) = some n := by decide
theorem val_lt {c : UInt8} {n : Nat} (h : val c = some n) : n < 32 := by
  unfold val at h
  obtain ⟨hl, _⟩ := List.idxOf?_eq_some_iff.1 h
  simpa [alpha] using hl
theorem letter_val {c : UInt8} {n : Nat} (h : val c = some n) : letter n = c := by
  unfold val at h
  obtain ⟨hl, he, _⟩ := List.idxOf?_eq_some_iff.1 h
  simp [letter, List.getD, List.getElem?_eq_getElem hl, he]
/-- A hash's letters. -/
def letters (h : List UInt8) : List UInt8 := (digs 32 32 (num 256 (nats h))).map letter
/-- The hash of letters. -/
def hash (s : List UInt8) : Option (List UInt8) :=
  if s.length = 32 then (s.mapM val).map fun l => bytes (digs 256 20 (num 32 l)) else none
theorem letters_length (h : List UInt8) : (letters h).length = 32 := by simp [letters, digs_length]
theorem hash_length {s h : List UInt8} (e : hash s = some h) : h.length = 20 := by
  unfold hash at e
  split at e
  · simp only [Option.map_eq_some_iff] at e
    obtain ⟨l, _, rfl⟩ := e
    simp [bytes, digs_length]
  · cases e
theorem mapM_letter (l : List Nat) (h : ∀ x ∈ l, x < 32) : (l.map letter).mapM val = some l := by
  induction l with
  | nil => rfl
  | cons x l ih =>
    simp [List.mapM_cons, val_letter x (h x (by simp)), ih (fun y hy => h y (by simp [hy]))]
theorem mapM_val {s : List UInt8} {l : List Nat} (h : s.mapM val = some l) : l.map letter = s ∧ (∀ x ∈ l, x < 32) ∧ l.length = s.length := by
  induction s generalizing l with
  | nil => simp at h; subst h; simp
  | cons c s ih =>
    simp only [List.mapM_cons, Option.bind_eq_bind, Option.bind_eq_some_iff, Option.pure_def, Option.some.injEq] at h
    obtain ⟨n, hn, m, hm, rfl⟩ := h
    obtain ⟨h1, h2, h3⟩ := ih hm
    refine ⟨by simp [letter_val hn, h1], ?_, by simp [h3]⟩
    intro x hx
    rcases List.mem_cons.1 hx with rfl | hx
    · exact val_lt hn
    · exact h2 x hx
theorem hash_letters {h : List UInt8} (hl : h.length = 20) : hash (letters h) = some h := by
  unfold hash
  rw [if_pos (letters_length h)]
  have hn : num 256 (nats h) < 256 ^ 20 := by
    have := num_lt 256 (nats h) (nats_lt h)
    simpa [nats, hl] using this
  rw [letters, mapM_letter _ (digs_lt 32 32 _ (by omega))]
  simp only [Option.map_some, Option.some.injEq]
  rw [num_digs 32 32 _ (by omega) (by omega)]
  have := digs_num 256 (nats h) (nats_lt h)
  have hl' : (nats h).length = 20 := by simp [nats, hl]
  rw [hl'] at this
  rw [this, bytes_nats]
theorem letters_hash {s h : List UInt8} (e : hash s = some h) : letters h = s := by
  unfold hash at e
  split at e
  · rename_i hs
    simp only [Option.map_eq_some_iff] at e
    obtain ⟨l, hl, rfl⟩ := e
    obtain ⟨h1, h2, h3⟩ := mapM_val hl
    rw [letters, nats_bytes _ (digs_lt 256 20 _ (by omega))]
    have hn : num 32 l < 32 ^ 32 := by
      have := num_lt 32 l h2
      rwa [h3, hs] at this
    rw [num_digs 256 20 _ (by omega) (by omega)]
    have := digs_num 32 l h2
    rw [h3, hs] at this
    rw [this, h1]
  · cases e
theorem letters_inj {g h : List UInt8} (hg : g.length = 20) (hh : h.length = 20) (e : letters g = letters h) : g = h := by
  have := hash_letters hg
  rw [e, hash_letters hh] at this
  exact (Option.some.inj this).symm
end Pl
namespace Pl
/-- the number of the first k bytes -/
def numTo (h : List UInt8) (k : Nat) : Nat := num 256 (nats (h.take k))
theorem numTo_zero (h : List UInt8) : numTo h 0 = 0 := rfl
theorem numTo_succ (h : List UInt8) (k : Nat) (hk : k < h.length) : numTo h (k + 1) = numTo h k + 256 ^ k * (h[k]).toNat := by
  unfold numTo
  rw [List.take_succ_eq_append_getElem hk, nats, List.map_append, num_append]
  simp [num, nats, List.length_take, Nat.min_eq_left (Nat.le_of_lt hk)]
theorem numTo_lt (h : List UInt8) (k : Nat) (hk : k ≤ h.length) : numTo h k < 256 ^ k := by
  have := num_lt 256 (nats (h.take k)) (nats_lt _)
  simpa [numTo, nats, List.length_take, Nat.min_eq_left hk] using this
theorem numTo_all (h : List UInt8) (k : Nat) (hk : h.length ≤ k) : numTo h k = num 256 (nats h) := by simp [numTo, List.take_of_length_le hk]
theorem digs_add_mul (b n x y : Nat) : digs b n (x + b ^ n * y) = digs b n x := by
  induction n generalizing x with
  | zero => rfl
  | succ n ih =>
    rcases Nat.eq_zero_or_pos b with rfl | hb
    · simp
    simp only [digs]
    rw [Nat.pow_succ', Nat.mul_assoc, Nat.add_mul_mod_self_left, Nat.add_mul_div_left _ _ hb, ih]
theorem digs_succ_last (b n x : Nat) : digs b (n + 1) x = digs b n x ++ [x / b ^ n % b] := by
  induction n generalizing x with
  | zero => simp [digs]
  | succ n ih =>
    rw [digs, ih (x / b)]
    simp only [digs, List.cons_append, Nat.div_div_eq_div_mul, Nat.pow_succ']
theorem pow256 (k : Nat) : 256 ^ k = 2 ^ (8 * k) := by rw [Nat.pow_mul]
theorem pow32 (k : Nat) : 32 ^ k = 2 ^ (5 * k) := by rw [Nat.pow_mul]
/-- what is written when k bytes were taken and j letters written -/
def outTo (h : List UInt8) (k j : Nat) : List UInt8 := (digs 32 j (numTo h k)).map letter
def heldTo (h : List UInt8) (k j : Nat) : Nat := numTo h k / 32 ^ j
theorem heldTo_lt (h : List UInt8) (k j : Nat) (hk : k ≤ h.length) (hj : 5 * j ≤ 8 * k) : heldTo h k j < 2 ^ (8 * k - 5 * j) := by
  unfold heldTo
  rw [Nat.div_lt_iff_lt_mul (Nat.pow_pos (by omega)), pow32, ← Nat.pow_add, show 8 * k - 5 * j + 5 * j = 8 * k by omega, ← pow256]
  exact numTo_lt h k hk
theorem heldTo_byte (h : List UInt8) (k j : Nat) (hk : k < h.length) (hj : 5 * j ≤ 8 * k) : heldTo h (k + 1) j = heldTo h k j + 2 ^ (8 * k - 5 * j) * (h[k]).toNat := by
  unfold heldTo
  rw [numTo_succ h k hk, pow32, pow256, show 8 * k = 5 * j + (8 * k - 5 * j) by omega, Nat.pow_add, Nat.mul_assoc, Nat.add_mul_div_left _ _ (Nat.pow_pos (by omega))]
  rw [show 5 * j + (8 * k - 5 * j) - 5 * j = 8 * k - 5 * j by omega]
theorem outTo_byte (h : List UInt8) (k j : Nat) (hk : k < h.length) (hj : 5 * j ≤ 8 * k) : outTo h (k + 1) j = outTo h k j := by
  unfold outTo
  rw [numTo_succ h k hk, pow256, show 8 * k = 5 * j + (8 * k - 5 * j) by omega, Nat.pow_add, ← pow32, Nat.mul_assoc, digs_add_mul]
theorem outTo_letter (h : List UInt8) (k j : Nat) : outTo h k (j + 1) = outTo h k j ++ [letter (heldTo h k j % 32)] := by
  unfold outTo heldTo
  rw [digs_succ_last]; simp
theorem heldTo_letter (h : List UInt8) (k j : Nat) : heldTo h k (j + 1) = heldTo h k j / 32 := by
  unfold heldTo
  rw [Nat.div_div_eq_div_mul, Nat.pow_succ]
theorem outTo_length (h : List UInt8) (k j : Nat) : (outTo h k j).length = j := by simp [outTo, digs_length]
theorem outTo_end (h : List UInt8) (hl : h.length = 20) : outTo h 20 32 = letters h := by
  simp [outTo, letters, numTo_all h 20 (by omega)]
end Pl
namespace Pl
/-- signs that may stand in a name -/
def sgn (c : UInt8) : Bool := (97 ≤ c && c ≤ 122) || (65 ≤ c && c ≤ 90) || (48 ≤ c && c ≤ 57) || c == 46 || c == 95 || c == 43 || c == 45
/-- a name -/
def isName (s : List UInt8) : Bool := s.all sgn && (s.length != 0) && decide (s.length ≤ 24) && (s.getD 0 0 != 46)
/-- what base.sign asks of a rune below 128 -/
def signN (r : Nat) : Bool := (decide (65 ≤ r) && decide (97 ≤ r ||| 32) && decide (r ||| 32 ≤ 122)) || (decide (48 ≤ r) && decide (r ≤ 57)) || decide (0 ≤ (if r = 46 then 0 else if r = 95 then 1 else if r = 43 then 2 else if r = 45 then 3 else -1 : Int))
theorem signN_sgn : ∀ c : UInt8, c.toNat < 128 → signN c.toNat = sgn c := by
  intro c h
  have : ∀ n, n < 128 → signN n = sgn (UInt8.ofNat n) := by decide +kernel
  have := this c.toNat h
  rwa [UInt8.ofNat_toNat] at this
theorem sgn_small (c : UInt8) (h : sgn c = true) : c.toNat < 128 := by
  have : ∀ n, n < 256 → sgn (UInt8.ofNat n) = true → n < 128 := by decide +kernel
  have h2 := this c.toNat c.toNat_lt
  rw [UInt8.ofNat_toNat] at h2
  exact h2 h
end Pl
namespace Pl
/-! The hash of letters, as it is gathered. -/
/-- the number of the first k letters' values -/
def lnum (l : List Nat) : Nat := num 32 l
theorem lnum_snoc (l : List Nat) (n : Nat) : lnum (l ++ [n]) = lnum l + 32 ^ l.length * n := by simp [lnum, num_append, num]
theorem lnum_lt (l : List Nat) (h : ∀ x ∈ l, x < 32) : lnum l < 32 ^ l.length := num_lt 32 l h
/-- bytes told whole behind k letters, then noughts -/
def hashTo (M k : Nat) : List UInt8 := bytes (digs 256 (5 * k / 8) M) ++ List.replicate (20 - 5 * k / 8) 0
def heldB (M k : Nat) : Nat := M / 256 ^ (5 * k / 8)
theorem hashTo_length (M k : Nat) (hk : k ≤ 32) : (hashTo M k).length = 20 := by
  simp [hashTo, bytes, digs_length]; omega
theorem hashTo_0 (M : Nat) : hashTo M 0 = List.replicate 20 0 := rfl
theorem hashTo_32 (M : Nat) : hashTo M 32 = bytes (digs 256 20 M) := by simp [hashTo]
theorem heldB_lt (M k : Nat) (h : M < 32 ^ k) : heldB M k < 2 ^ (5 * k - 8 * (5 * k / 8)) := by
  unfold heldB
  rw [Nat.div_lt_iff_lt_mul (Nat.pow_pos (by omega)), pow256, ← Nat.pow_add, show 5 * k - 8 * (5 * k / 8) + 8 * (5 * k / 8) = 5 * k by omega, ← pow32]
  exact h
theorem pow32_split (k : Nat) : 32 ^ k = 256 ^ (5 * k / 8) * 2 ^ (5 * k - 8 * (5 * k / 8)) := by
  rw [pow32, pow256, ← Nat.pow_add, show 8 * (5 * k / 8) + (5 * k - 8 * (5 * k / 8)) = 5 * k by omega]
theorem held_letter (M k n : Nat) : (M + 32 ^ k * n) / 256 ^ (5 * k / 8) = heldB M k + 2 ^ (5 * k - 8 * (5 * k / 8)) * n := by
  unfold heldB
  rw [pow32_split, Nat.mul_assoc, Nat.add_mul_div_left _ _ (Nat.pow_pos (by omega))]
theorem digs_letter (M k n : Nat) : digs 256 (5 * k / 8) (M + 32 ^ k * n) = digs 256 (5 * k / 8) M := by
  rw [pow32_split, Nat.mul_assoc, digs_add_mul]
/-- a letter that ends no byte -/
theorem hashTo_stay (M k n : Nat) (h : 5 * (k + 1) / 8 = 5 * k / 8) : hashTo (M + 32 ^ k * n) (k + 1) = hashTo M k ∧ heldB (M + 32 ^ k * n) (k + 1) = heldB M k + 2 ^ (5 * k - 8 * (5 * k / 8)) * n := by
  unfold hashTo
  rw [h, digs_letter]
  refine ⟨rfl, ?_⟩
  unfold heldB
  rw [h]
  exact held_letter M k n
/-- a letter that ends a byte -/
theorem hashTo_byte (M k n : Nat) (hk : k < 32) (h : 5 * (k + 1) / 8 = 5 * k / 8 + 1) : hashTo (M + 32 ^ k * n) (k + 1) = (hashTo M k).set (5 * k / 8) (UInt8.ofNat (heldB M k + 2 ^ (5 * k - 8 * (5 * k / 8)) * n)) ∧
    heldB (M + 32 ^ k * n) (k + 1) = (heldB M k + 2 ^ (5 * k - 8 * (5 * k / 8)) * n) / 256 := by
  constructor
  · unfold hashTo
    have hl : (bytes (digs 256 (5 * k / 8) M)).length = 5 * k / 8 := by simp [bytes, digs_length]
    rw [h, digs_succ_last, digs_letter, held_letter, List.set_append_right _ _ (by omega), hl, Nat.sub_self]
    rw [show 20 - 5 * k / 8 = (20 - (5 * k / 8 + 1)) + 1 by omega, List.replicate_succ]
    have e : UInt8.ofNat ((heldB M k + 2 ^ (5 * k - 8 * (5 * k / 8)) * n) % 256) = UInt8.ofNat (heldB M k + 2 ^ (5 * k - 8 * (5 * k / 8)) * n) := by
      apply UInt8.toNat_inj.1; simp [UInt8.toNat_ofNat']
    simp only [bytes, List.map_append, List.map_cons, List.map_nil, e, List.set_cons_zero, List.append_assoc, List.cons_append, List.nil_append]
  · rw [← held_letter]
    unfold heldB
    rw [h, Nat.pow_succ, Nat.div_div_eq_div_mul]
end Pl
namespace Pl
/-- a number's twenty bytes -/
def hN (P : Nat) : List UInt8 := bytes (digs 256 20 P)
theorem hN_length (P : Nat) : (hN P).length = 20 := by simp [hN, bytes, digs_length]
theorem hN_at (P i : Nat) (hi : i < 20) : (hN P)[i]? = some (UInt8.ofNat (P / 256 ^ i % 256)) := by
  unfold hN bytes
  rw [List.getElem?_map, digs_getElem? _ _ _ _ hi]; rfl
theorem hN_zero : hN 0 = List.replicate 20 0 := by decide
theorem hN_bit (P t : Nat) (ht : t < 160) (hP : P < 2 ^ t) : hN (P + 2 ^ t) = (hN P).set (t / 8) (UInt8.ofNat (P / 256 ^ (t / 8) % 256 + 2 ^ (t % 8))) := by
  have hq : t / 8 < 20 := by omega
  have e2 : 2 ^ t = 256 ^ (t / 8) * 2 ^ (t % 8) := by rw [pow256, ← Nat.pow_add, Nat.div_add_mod]
  have hr : 2 ^ (t % 8) ≤ 2 ^ 7 := Nat.pow_le_pow_right (by omega) (by omega)
  have hlt : P / 256 ^ (t / 8) < 2 ^ (t % 8) := by
    rw [Nat.div_lt_iff_lt_mul (Nat.pow_pos (by omega)), Nat.mul_comm, ← e2]; exact hP
  apply List.ext_getElem?
  intro j
  rw [List.getElem?_set]
  by_cases hj : j < 20
  · rw [hN_at _ _ hj]
    by_cases h1 : t / 8 = j
    · subst h1
      simp only [if_true, hN_length, hq, Option.some.injEq]
      rw [e2, Nat.add_mul_div_left _ _ (Nat.pow_pos (by omega))]
      rw [Nat.mod_eq_of_lt (a := P / 256 ^ (t / 8)) (by omega), Nat.mod_eq_of_lt (by omega)]
    · rw [if_neg h1, hN_at _ _ hj]
      congr 2
      rcases Nat.lt_or_ge j (t / 8) with h | h
      · have : 256 ^ (t / 8) = 256 ^ j * (256 * 256 ^ (t / 8 - j - 1)) := by
          rw [← Nat.pow_succ', ← Nat.pow_add]; congr 1; omega
        rw [e2, this, Nat.mul_assoc, Nat.mul_assoc, Nat.add_mul_div_left _ _ (Nat.pow_pos (by omega)), Nat.add_mul_mod_self_left]
      · have h2 : 256 ^ j = 256 ^ (t / 8) * 256 ^ (j - t / 8) := by rw [← Nat.pow_add]; congr 1; omega
        have h3 : 256 ≤ 256 ^ (j - t / 8) := by
          have := Nat.pow_le_pow_right (n := 256) (by omega) (show 1 ≤ j - t / 8 by omega)
          simpa using this
        rw [e2, h2, ← Nat.div_div_eq_div_mul, ← Nat.div_div_eq_div_mul, Nat.add_mul_div_left _ _ (Nat.pow_pos (by omega)), Nat.div_eq_of_lt (a := P / 256 ^ (t / 8)) (by omega), Nat.div_eq_of_lt (by omega)]
  · rw [List.getElem?_eq_none (by rw [hN_length]; omega)]
    split
    · simp [hN_length]; omega
    · rw [List.getElem?_eq_none (by rw [hN_length]; omega)]
theorem mod_bit (n k : Nat) : n % 2 ^ (k + 1) = n % 2 ^ k + 2 ^ k * (n / 2 ^ k % 2) := by rw [Nat.pow_succ, Nat.mod_mul]
/-- the number behind i letters and k bits of one more -/
def bitNum (l : List Nat) (i n k : Nat) : Nat := lnum l + 32 ^ i * (n % 2 ^ k)
theorem bitNum_0 (l : List Nat) (i n : Nat) : bitNum l i n 0 = lnum l := by simp [bitNum, Nat.mod_one]
theorem bitNum_5 (l : List Nat) (n : Nat) (hn : n < 32) : bitNum l l.length n 5 = lnum (l ++ [n]) := by
  rw [lnum_snoc, bitNum, Nat.mod_eq_of_lt (by simpa using hn)]
theorem bitNum_lt (l : List Nat) (i n k : Nat) (hl : lnum l < 32 ^ i) : bitNum l i n k < 2 ^ (5 * i + k) := by
  unfold bitNum
  rw [pow32] at hl ⊢
  have h1 : n % 2 ^ k < 2 ^ k := Nat.mod_lt _ (Nat.pow_pos (by omega))
  rw [Nat.pow_add]
  have h2 : 2 ^ (5 * i) * (n % 2 ^ k) + 2 ^ (5 * i) ≤ 2 ^ (5 * i) * 2 ^ k := by
    rw [← Nat.mul_succ]; exact Nat.mul_le_mul_left _ h1
  omega
theorem bitNum_yes (l : List Nat) (i n k : Nat) (h : n / 2 ^ k % 2 = 1) : bitNum l i n (k + 1) = bitNum l i n k + 2 ^ (5 * i + k) := by
  unfold bitNum
  rw [mod_bit, h, pow32, Nat.pow_add, Nat.mul_add, Nat.mul_one]; omega
theorem bitNum_no (l : List Nat) (i n k : Nat) (h : n / 2 ^ k % 2 = 0) : bitNum l i n (k + 1) = bitNum l i n k := by
  unfold bitNum
  rw [mod_bit, h]; simp
end Pl
namespace Pl
/-- a text cut at the first such byte -/
def cut1 (c : UInt8) : List UInt8 → List UInt8 × List UInt8 × Bool
  | [] => ([], [], false)
  | b :: l => if b = c then ([], l, true) else (b :: (cut1 c l).1, (cut1 c l).2.1, (cut1 c l).2.2)
theorem cut1_yes (c : UInt8) (s : List UInt8) (h : (cut1 c s).2.2 = true) : s = (cut1 c s).1 ++ c :: (cut1 c s).2.1 ∧ c ∉ (cut1 c s).1 := by
  induction s with
  | nil => simp [cut1] at h
  | cons b l ih =>
    unfold cut1 at h ⊢
    by_cases e : b = c
    · simp [e]
    · simp only [e, if_false] at h ⊢
      obtain ⟨h1, h2⟩ := ih h
      refine ⟨by rw [List.cons_append, ← h1], ?_⟩
      simp only [List.mem_cons, not_or]
      exact ⟨fun h => e h.symm, h2⟩
theorem cut1_no (c : UInt8) (s : List UInt8) (h : (cut1 c s).2.2 = false) : c ∉ s ∧ (cut1 c s).1 = s ∧ (cut1 c s).2.1 = [] := by
  induction s with
  | nil => simp [cut1]
  | cons b l ih =>
    unfold cut1 at h ⊢
    by_cases e : b = c
    · simp [e] at h
    · simp only [e, if_false] at h ⊢
      obtain ⟨h1, h2, h3⟩ := ih h
      refine ⟨?_, by rw [h2], h3⟩
      simp only [List.mem_cons, not_or]
      exact ⟨fun h => e h.symm, h1⟩
theorem cut1_of (c : UInt8) (a b : List UInt8) (h : c ∉ a) : cut1 c (a ++ c :: b) = (a, b, true) := by
  induction a with
  | nil => simp [cut1]
  | cons x a ih =>
    simp only [List.mem_cons, not_or] at h
    simp [cut1, Ne.symm h.1, ih h.2]
/-- what Parse answers: the hash, the name, the error -/
def parse (s : List UInt8) : Option (List UInt8 × List UInt8) :=
  if (cut1 45 s).2.2 && isName (cut1 45 s).2.1 then (hash (cut1 45 s).1).map fun h => (h, (cut1 45 s).2.1) else none
theorem letters_no45 {s h : List UInt8} (e : hash s = some h) : (45 : UInt8) ∉ s := by
  intro hm
  unfold hash at e
  split at e
  · simp only [Option.map_eq_some_iff] at e
    obtain ⟨l, hl, _⟩ := e
    obtain ⟨h1, h2, _⟩ := mapM_val hl
    rw [← h1] at hm
    obtain ⟨n, hn, h45⟩ := List.mem_map.1 hm
    have : ∀ n, n < 32 → letter n ≠ 45 := by decide
    exact this n (h2 n hn) h45
  · cases e
theorem isName_pos {n : List UInt8} (h : isName n = true) : 1 ≤ n.length := by
  cases n with
  | nil => simp [isName] at h
  | cons c l => simp
theorem hash_len {s h : List UInt8} (e : hash s = some h) : s.length = 32 := by
  unfold hash at e
  split at e
  · assumption
  · cases e
/-- as spenceref03.Parse asks -/
theorem parse_ref (s : List UInt8) : parse s = if 34 ≤ s.length && (s[32]?.getD 0 == 45) && isName (s.drop 33) then (hash (s.take 32)).map fun h => (h, s.drop 33) else none := by
  by_cases hy : (cut1 45 s).2.2 = true
  · obtain ⟨h1, h2⟩ := cut1_yes 45 s hy
    generalize (cut1 45 s).1 = a at *
    generalize hb : (cut1 45 s).2.1 = b at *
    have hcut : cut1 45 s = (a, b, true) := by rw [h1]; exact cut1_of _ _ _ h2
    unfold parse
    rw [hcut]
    simp only [Bool.true_and]
    by_cases ha : a.length = 32
    · have e1 : s.drop 33 = b := by rw [h1, show a ++ 45 :: b = (a ++ [45]) ++ b by simp, List.drop_left' (by simp [ha])]
      have e2 : s.take 32 = a := by rw [h1, List.take_left' ha]
      have e3 : s[32]? = some 45 := by rw [h1, List.getElem?_append_right (by omega)]; simp [ha]
      rw [e1, e2, e3]
      have hl : s.length = 33 + b.length := by rw [h1]; simp [ha]; omega
      cases hn : isName b with
      | false => simp
      | true =>
        have := isName_pos hn
        simp [show 34 ≤ s.length by omega]
    · have hne : hash a = none := by unfold hash; rw [if_neg ha]
      rw [hne]
      simp only [Option.map_none]
      have : (if isName b = true then (none : Option (List UInt8 × List UInt8)) else none) = none := by split <;> rfl
      rw [this]
      symm
      split
      · rename_i hc
        simp only [Bool.and_eq_true, decide_eq_true_eq, beq_iff_eq] at hc
        cases ht : hash (s.take 32) with
        | none => rfl
        | some h =>
          exfalso
          have hno := letters_no45 ht
          rcases Nat.lt_or_ge a.length 32 with hlt | hge
          · apply hno
            rw [h1]
            rw [List.mem_take_iff_getElem]
            refine ⟨a.length, by simp; omega, by simp⟩
          · have hal : 32 < a.length := by omega
            have : s[32]? = a[32]? := by rw [h1, List.getElem?_append_left hal]
            rw [this, List.getElem?_eq_getElem hal] at hc
            apply h2
            rw [← hc.1.2]
            exact List.getElem_mem hal
      · rfl
  · have hy' : (cut1 45 s).2.2 = false := by simpa using hy
    obtain ⟨h1, h2, h3⟩ := cut1_no 45 s hy'
    unfold parse
    rw [hy']
    simp only [Bool.false_and, Bool.false_eq_true, if_false]
    symm
    split
    · rename_i hc
      simp only [Bool.and_eq_true, decide_eq_true_eq, beq_iff_eq] at hc
      exfalso
      apply h1
      have h32 : 32 < s.length := by omega
      have := hc.1.2
      rw [List.getElem?_eq_getElem h32] at this
      rw [← this]; exact List.getElem_mem h32
    · rfl
/-- a path that has a name is parsed from its text -/
theorem parse_text {h n : List UInt8} (hl : h.length = 20) (hn : isName n = true) : parse (letters h ++ 45 :: n) = some (h, n) := by
  have h45 := letters_no45 (hash_letters hl)
  unfold parse
  rw [cut1_of _ _ _ h45]
  simp [hn, hash_letters hl]
/-- whatever is parsed has just that text -/
theorem parse_some {s h n : List UInt8} (e : parse s = some (h, n)) : isName n = true ∧ h.length = 20 ∧ letters h ++ 45 :: n = s := by
  unfold parse at e
  split at e
  · rename_i hc
    simp only [Bool.and_eq_true] at hc
    simp only [Option.map_eq_some_iff, Prod.mk.injEq] at e
    obtain ⟨h', he, rfl, rfl⟩ := e
    exact ⟨hc.2, hash_length he, by rw [letters_hash he]; exact (cut1_yes 45 s hc.1).1.symm⟩
  · cases e
end Pl
/-! (of general use) base.Letters: the letters of any hash. -/
namespace Go.Proofs.Ytnlilmiakddlaaa
open Go.RowKit Pl
/-- a hash's cells -/
def hC (h : List UInt8) : Array Value := (Lib.byteCells h).toArray
theorem hC_size (h : List UInt8) : (hC h).size = h.length := by simp [hC, Lib.byteCells]
theorem hC_at (h : List UInt8) (k : Nat) (hl : h.length = 20) (hk : k < 20) (w : World) :
    (Instr.index 38 (.agg (hC h)) (.int .i64 (k : Int))).run Try.prog w = .ok (.int .u8 ((h.getD k 0).toNat : Int)) w := by
  refine Agg.run_index_agg w Try.underlying38 (by kernel_rfl) Try.isAgg5 hk ?_
  simp [Lib.byteCells, List.getD, List.getElem?_eq_getElem (show k < h.length by omega)]
theorem or_disjoint (a x m : Nat) (ha : a < 2 ^ m) (hx : x < 256) (hm : m < 5) : bits .or .u32 (a : Int) ((x : Int) % 4294967296 * 2 ^ m % 4294967296) = ((a + 2 ^ m * x : Nat) : Int) := by
  have h5 : 2 ^ m ≤ 2 ^ 4 := Nat.pow_le_pow_right (by omega) (by omega)
  have hp : 2 ^ m * x ≤ 2 ^ 4 * 255 := Nat.mul_le_mul h5 (by omega)
  have e : ((x : Int) % 4294967296 * 2 ^ m % 4294967296) = ((2 ^ m * x : Nat) : Int) := by
    rw [Int.emod_eq_of_lt (a := (x : Int)) (by omega) (by omega)]
    have : (x : Int) * 2 ^ m = ((2 ^ m * x : Nat) : Int) := by push_cast; exact Int.mul_comm _ _
    rw [this, Int.emod_eq_of_lt (by omega) (by omega)]
  rw [e, u32_or_nat _ _ (by omega) (by omega), Nat.or_comm, ← Nat.two_pow_add_eq_or_of_lt ha, Nat.add_comm]
theorem or_held (h : List UInt8) (k : Nat) (hl : h.length = 20) (hk : k < 20) :
    bits .or .u32 ((heldTo h k (8 * k / 5) : Nat) : Int) (((h[k]?.getD 0).toNat : Int) % 4294967296 * 2 ^ (8 * k - 5 * (8 * k / 5)) % 4294967296) = ((heldTo h (k + 1) (8 * k / 5) : Nat) : Int) := by
  rw [or_disjoint _ _ _ (heldTo_lt h k _ (by omega) (by omega)) (UInt8.toNat_lt _) (by omega), heldTo_byte h k _ (by omega) (by omega)]
  simp [List.getElem?_eq_getElem (show k < h.length by omega)]
/-- the lowest five bits, under a name -/
def lo5 (a : Nat) : Nat := a % 32
theorem lo5_lt (a : Nat) : lo5 a < 32 := Nat.mod_lt _ (by omega)
theorem and31 (a : Nat) (ha : a < 4294967296) : bits .and .u32 (a : Int) 31 = ((lo5 a : Nat) : Int) := by
  rw [show (31 : Int) = ((31 : Nat) : Int) from rfl, u32_and_nat a 31 ha (by omega), Nat.and_two_pow_sub_one_eq_mod a 5]; rfl
theorem letter_at (kd : IntKind) (n : Nat) (hn : n < 32) (w : World) :
    (Instr.index 9 (.string ⟨#[48, 49, 50, 51, 52, 53, 54, 55, 56, 57, 97, 98, 99, 100, 102, 103, 104, 105, 106, 107, 108, 109, 110, 112, 113, 114, 115, 118, 119, 120, 121, 122]⟩) (.int kd (n : Int))).run Try.prog w = .ok (.int .u8 ((letter n).toNat : Int)) w := by
  refine Agg.run_index_str (s := alpha) w Try.underlying9 ?_
  simp [letter, List.getD, List.getElem?_eq_getElem (show n < alpha.length from hn)]
/-- a new Builder, beyond B -/
theorem fresh_builder {T e : TypeId} {B : Nat} (w : World) (b : Nat) (hb : b = w.heap.size) (hB : B ≤ w.heap.size) : Lib.IsBuilderF T e B b [] (w.alloc (.cells #[.pointer none, .slice none 0 0] T)) := by
  subst hb
  refine .inl ⟨hB, .slice none 0 0, ?_, ?_, by simp [Value.ownBlock]⟩
  · exact heap_alloc_new _ _
  · exact World.ownsRowF_of (World.ownsRow_nil _ _ _ _)
end Go.Proofs.Ytnlilmiakddlaaa
/-! Small facts about numbers. -/
namespace Go.Proofs.Ytnlilmiakddlaaa
open Go.RowKit Pl
theorem ret_num {k : IntKind} {a b : Int} (h : a = b) : Ending.returned (.int k a) = .returned (.int k b) := by rw [h]
/-- 'within', under a name -/
def wi (c lo hi : Int) : Bool := decide (lo ≤ c) && decide (c ≤ hi)
theorem u8_lt (c : UInt8) : (c.toNat : Int) < 256 := by have := c.toNat_lt; omega
end Go.Proofs.Ytnlilmiakddlaaa
/-! base.sign: whether a rune may stand in a name. -/
namespace Go.Proofs.Ytnlilmiakddlaaa
open Go.RowKit Pl
theorem ret_bool {a b : Bool} (h : a = b) : Ending.returned (.bool a) = .returned (.bool b) := by rw [h]
/-- 'small', under a name -/
def smallN (r : Nat) : Nat := r ||| 32
theorem small_eq (r : Nat) (h : r < 128) : bits .or .i32 (r : Int) 32 = ((smallN r : Nat) : Int) := by
  unfold smallN
  have : ∀ r : Nat, r < 128 → bits .or .i32 (r : Int) 32 = ((r ||| 32 : Nat) : Int) := by decide +kernel
  exact this r h
theorem index_eq (r : Nat) (h : r < 128) : Lib.indexByte [46, 95, 43, 45] (r : Int).toNat.toUInt8 = (if r = 46 then 0 else if r = 95 then 1 else if r = 43 then 2 else if r = 45 then 3 else -1 : Int) := by
  have : ∀ r : Nat, r < 128 → Lib.indexByte [46, 95, 43, 45] (r : Int).toNat.toUInt8 = (if r = 46 then 0 else if r = 95 then 1 else if r = 43 then 2 else if r = 45 then 3 else -1 : Int) := by decide +kernel
  exact this r h
/-- the place in the four, under a name -/
def placeN (r : Nat) : Int := if r = 46 then 0 else if r = 95 then 1 else if r = 43 then 2 else if r = 45 then 3 else -1
theorem index_any (r : Int) (h0 : 0 ≤ r) (h : r < 128) (w : World) : Calls Try.prog 31 #[.string ⟨#[46, 95, 43, 45]⟩, .int .u8 r] w fun e w' => e = .returned (.int .i64 (placeN r.toNat)) ∧ w = w' := by
  obtain ⟨n, rfl⟩ := Int.eq_ofNat_of_zero_le h0
  refine (Try.strings_IndexByte _ _ _).mono ?_
  rintro e w' ⟨rfl, rfl⟩
  refine ⟨ret_num ?_, rfl⟩
  exact index_eq n (by omega)
theorem signN_eq (r : Nat) : signN r = ((decide (65 ≤ r) && decide (97 ≤ smallN r) && decide (smallN r ≤ 122)) || (decide (48 ≤ r) && decide (r ≤ 57)) || decide (0 ≤ placeN r)) := rfl
set_option maxRecDepth 100000 in
set_option maxHeartbeats 1000000 in
theorem sign_low (r : Nat) (h : r < 128) (w : World) :
    Calls Try.prog 24 #[.int .i32 (r : Int)] w fun e w' => e = .returned (.bool (signN r)) ∧ w = w' := by
  have hs := small_eq r h
  have h' : (r : Int) < 128 := by omega
  go_enter Try.func24, Try.ntmps24
  go_wp2_with (go_at_call 31; refine (index_any _ (by omega) (by omega) _).mono ?_; rintro e w' ⟨rfl, rfl⟩)
  all_goals go_ret
  all_goals refine ⟨?_, rfl⟩
  all_goals exact ret_bool (by rw [signN_eq, Bool.eq_iff_iff]; simp only [Bool.or_eq_true, Bool.and_eq_true, decide_eq_true_eq, true_iff]; omega)
set_option maxRecDepth 100000 in
theorem sign_high (r : Int) (h : 128 ≤ r) (w : World) :
    Calls Try.prog 24 #[.int .i32 r] w fun e w' => e = .returned (.bool false) ∧ w = w' := by
  have hd : decide (r < 128) = false := by simp; omega
  go_enter Try.func24, Try.ntmps24
  go_wp2_with fail
  go_ret
  exact ⟨rfl, rfl⟩
/-- base.sign at any rune -/
def signR (r : Int) : Bool := if r < 128 then signN r.toNat else false
theorem sign_any (r : Int) (h : 0 ≤ r) (w : World) :
    Calls Try.prog 24 #[.int .i32 r] w fun e w' => e = .returned (.bool (signR r)) ∧ w = w' := by
  unfold signR
  by_cases h3 : r < 128
  · rw [if_pos h3]
    obtain ⟨n, rfl⟩ := Int.eq_ofNat_of_zero_le h
    exact sign_low n (by omega) w
  · rw [if_neg h3]
    exact sign_high r (by omega) w
end Go.Proofs.Ytnlilmiakddlaaa
/-! base.Name and spenceref03.Name: whether a text is a name. -/
namespace Go.Proofs.Ytnlilmiakddlaaa
open Go.RowKit Pl
theorem isName_bad (s : List UInt8) (k : Nat) (hk : k < s.length) (h : sgn s[k] = false) : isName s = false := by
  have : s.all sgn = false := by
    rw [List.all_eq_false]; exact ⟨s[k], List.getElem_mem hk, by simp [h]⟩
  simp [isName, this]
theorem isName_good (s : List UInt8) (h : ∀ k (hk : k < s.length), sgn s[k] = true) : isName s = ((s.length != 0) && decide (s.length ≤ 24) && (s.getD 0 0 != 46)) := by
  have : s.all sgn = true := by
    rw [List.all_eq_true]; intro x hx; obtain ⟨k, hk, rfl⟩ := List.getElem_of_mem hx; exact h k hk
  simp [isName, this]
/-- the range over the text: its next sign -/
theorem next_low (w : World) (s : List UInt8) (k : Nat) (ty : TypeId) (hk : k < s.length) (ha : s[k].toNat < 128) :
    (Instr.next (.pointer (some ⟨w.heap.size, 0, none⟩)) true ty).run Try.prog (w.iter ⟨s.toArray⟩ k) = .ok (.tuple #[.bool true, .int .i64 (k : Int), .int .i32 (s[k].toNat : Int)]) (w.iter ⟨s.toArray⟩ (k + 1)) := by
  have hs : k < (⟨s.toArray⟩ : ByteArray).size := by rw [Agg.bytes_size]; exact hk
  have he : (⟨s.toArray⟩ : ByteArray)[k]'hs = s[k] := by simp [ByteArray.getElem_eq_getElem_data]
  have := run_next_ascii (P := Try.prog) w ⟨s.toArray⟩ k ty hs (by rw [he]; exact ha)
  rw [he] at this
  exact this
theorem next_high (w : World) (s : List UInt8) (k : Nat) (ty : TypeId) (hk : k < s.length) (ha : 128 ≤ s[k].toNat) :
    ∃ (r : Int) (k' : Nat), 128 ≤ r ∧ k < k' ∧ (Instr.next (.pointer (some ⟨w.heap.size, 0, none⟩)) true ty).run Try.prog (w.iter ⟨s.toArray⟩ k) = .ok (.tuple #[.bool true, .int .i64 (k : Int), .int .i32 r]) (w.iter ⟨s.toArray⟩ k') := by
  have hs : k < (⟨s.toArray⟩ : ByteArray).size := by rw [Agg.bytes_size]; exact hk
  have he : (⟨s.toArray⟩ : ByteArray)[k]'hs = s[k] := by simp [ByteArray.getElem_eq_getElem_data]
  obtain ⟨h1, h2⟩ := decode_high ⟨s.toArray⟩ k hs (by rw [he]; exact ha)
  exact ⟨_, _, by exact_mod_cast h1, by omega, run_next_any (P := Try.prog) w ⟨s.toArray⟩ k ty hs⟩
theorem next_end (w : World) (s : List UInt8) (ty : TypeId) :
    (Instr.next (.pointer (some ⟨w.heap.size, 0, none⟩)) true ty).run Try.prog (w.iter ⟨s.toArray⟩ s.length) = .ok (.tuple #[.bool false]) (w.iter ⟨s.toArray⟩ s.length) :=
  run_next_end (P := Try.prog) w ⟨s.toArray⟩ s.length ty (by rw [Agg.bytes_size]; omega)
theorem signR_byte (c : UInt8) (hc : c.toNat < 128) : signR (c.toNat : Int) = sgn c := by
  unfold signR
  rw [if_pos (by omega)]
  exact signN_sgn c hc
theorem below_iter (w : World) (s : ByteArray) (k : Nat) : Below w.heap.size w (w.iter s k) := (Below.refl _ _).alloc (Nat.le_refl _) _
set_option maxRecDepth 100000 in
set_option maxHeartbeats 1000000 in
theorem name_any (s : List UInt8) (w : World) :
    Calls Try.prog 15 #[.string ⟨s.toArray⟩] w fun e w' => e = .returned (.bool (isName s)) ∧ Below w.heap.size w w' := by
  go_enter Try.func15, Try.ntmps15
  go_wp2_with fail
  go_loopw [4] (fun _ wr => ∃ k : Nat, k ≤ s.length ∧ wr = w.iter ⟨s.toArray⟩ k ∧ ∀ j (hj : j < s.length), j < k → sgn s[j] = true) (fun _ wr => s.length - wr.iterPos w.heap.size)
  case atStart => exact ⟨0, by omega, rfl, by intros; omega⟩
  case round =>
    obtain ⟨k, hk, rfl, hg⟩ := hrel
    have HG := Lib.hid hg
    clear hg
    by_cases hlt : k < s.length
    · by_cases hc : s[k].toNat < 128
      · have hn := next_low w s k 0 hlt hc
        cases hsg : sgn s[k] with
        | true =>
          go_wp2_with (go_at_call 24; refine (sign_any _ (by omega) _).mono ?_; rintro e w' ⟨rfl, rfl⟩; rw [signR_byte _ hc, hsg])
          go_roundw
          case rel => exact ⟨k + 1, by omega, rfl, fun j hj h => by
            rcases Nat.lt_or_ge j k with h' | h'
            · exact HG.out j hj h'
            · obtain rfl : j = k := by omega
              exact hsg⟩
          case measure => simp; omega
        | false =>
          go_wp2_with (go_at_call 24; refine (sign_any _ (by omega) _).mono ?_; rintro e w' ⟨rfl, rfl⟩; rw [signR_byte _ hc, hsg])
          go_ret
          exact ⟨ret_bool (isName_bad s k hlt hsg).symm, below_iter _ _ _⟩
      · obtain ⟨r, k', hr, hk', hn⟩ := next_high w s k 0 hlt (by omega)
        have hsg : sgn s[k] = false := by
          cases h : sgn s[k] with
          | true => exact absurd (sgn_small _ h) hc
          | false => rfl
        have HS := Lib.hid hsg
        clear hsg
        go_wp2_with (go_at_call 24; refine (sign_high _ hr _).mono ?_; rintro e w' ⟨rfl, rfl⟩)
        go_ret
        exact ⟨ret_bool (isName_bad s k hlt HS.out).symm, below_iter _ _ _⟩
    · obtain rfl : k = s.length := by omega
      have hn := next_end w s 0
      have hgood := isName_good s (fun j hj => HG.out j hj hj)
      have HI := Lib.hid hgood
      clear hgood
      cases s with
      | nil =>
        simp only [List.length_nil] at hn
        go_wp2_with fail
        go_ret
        exact ⟨ret_bool (by rw [HI.out]; rfl), below_iter _ _ _⟩
      | cons c l =>
        have hix : ∀ w, (Instr.index 9 (.string ⟨(c :: l).toArray⟩) (.int .i64 0)).run Try.prog w = .ok (.int .u8 (c.toNat : Int)) w := fun w => Agg.run_index_str (i := 0) w Try.underlying9 rfl
        simp only [List.length_cons] at hn
        go_wp2_with fail
        all_goals go_ret
        all_goals refine ⟨ret_bool ?_, below_iter _ _ _⟩
        all_goals rw [HI.out]
        · have h24 : (l.length : Int) + 1 ≤ 24 := by assumption
          have e : (((c.toNat : Int)) != 46) = (c != 46) := by
            rw [Bool.eq_iff_iff]; simp only [bne_iff_ne, ne_eq]; rw [← UInt8.toNat_inj]; simp; omega
          simp [e, show l.length + 1 ≤ 24 by omega]
        · have h24 : 24 < (l.length : Int) + 1 := by assumption
          simp [show ¬ l.length + 1 ≤ 24 by omega]
end Go.Proofs.Ytnlilmiakddlaaa
/-! Maps that a call makes, over any program and any key: what a map's block holds, its look-up and its store. -/
namespace Go.Mp
open Go.RowKit Go.Instr
section
variable {P : Program} {α β : Type} [DecidableEq α]
/-- a map's block holds these keys and values, in the order in which they came -/
def MapIs (w : World) (b : Nat) (κ : α → Value) (ν : β → Value) (m : List (α × β)) : Prop :=
  ∃ es clock, w.heap[b]? = some (.map es clock) ∧ es.toList.map (fun e => (e.key, e.val)) = m.map (fun p => (κ p.1, ν p.2))
/-- what a key's type must be -/
structure KeyEq (P : Program) (K : TypeId) (κ : α → Value) : Prop where
  check : ∀ empty a w, (checkKey empty 10000 K (κ a)).run P w = .ok () w
  desc : ∃ d, P.underlying K = some d ∧ ((∀ a b, sameNow d (κ a) (κ b) = some (decide (a = b))) ∨ ((∀ a b, sameNow d (κ a) (κ b) = none) ∧ ∀ a b w, (Op.equal K (κ a) (κ b)).run P w = .ok (decide (a = b)) w))
  bits : ∀ a, sameBits 10000 (κ a) (κ a) = true
def mget (m : List (α × β)) (a : α) : Option β := (m.find? (fun p => decide (a = p.1))).map (·.2)
def mput (m : List (α × β)) (a : α) (v : β) : List (α × β) := match m with
  | [] => [(a, v)]
  | p :: r => if a = p.1 then (a, v) :: r else p :: mput r a v
theorem mget_mput (m : List (α × β)) (a c : α) (v : β) : mget (mput m a v) c = if c = a then some v else mget m c := by
  induction m with
  | nil => by_cases h : c = a <;> simp [mput, mget, h]
  | cons p r ih =>
    unfold mput
    by_cases h : a = p.1
    · rw [if_pos h]
      by_cases h2 : c = a
      · simp [mget, h2]
      · have : ¬ c = p.1 := fun e => h2 (e.trans h.symm)
        simp [mget, h2, this]
    · rw [if_neg h]
      by_cases h2 : c = p.1
      · have h3 : ¬ c = a := fun e => h (e.symm.trans h2)
        have h4 : ¬ p.1 = a := fun e => h e.symm
        simp [mget, h2, h4]
      · simp only [mget, List.find?_cons, h2, decide_false] at ih ⊢
        exact ih
def pairs (es : List MapEntry) : List (Value × Value) := es.map (fun e => (e.key, e.val))
/-- the place of a key among entries -/
def place (m : List (α × β)) (a : α) (i : Nat) : Option (Nat × β) := match m with
  | [] => none
  | p :: r => if a = p.1 then some (i, p.2) else place r a (i + 1)
theorem findNow_eq {d : TypeDesc} {κ : α → Value} {ν : β → Value} (h : ∀ a b, sameNow d (κ a) (κ b) = some (decide (a = b))) (a : α) :
    ∀ (m : List (α × β)) (es : List MapEntry) (i : Nat), es.map (fun e => (e.key, e.val)) = m.map (fun p => (κ p.1, ν p.2)) →
      findNow d (κ a) es i = some ((place m a i).map fun x => (x.1, ν x.2))
  | [], [], i, _ => rfl
  | [], e :: es, i, he => by simp at he
  | p :: m, [], i, he => by simp at he
  | p :: m, e :: es, i, he => by
    simp only [List.map_cons, List.cons.injEq, Prod.mk.injEq] at he
    obtain ⟨⟨hk, hv⟩, hr⟩ := he
    unfold findNow place
    rw [hk, h a p.1]
    by_cases e' : a = p.1
    · simp [e', hv]
    · simp only [e', decide_false, if_false]
      exact findNow_eq h a m es (i + 1) hr
theorem findAsking_eq {K : TypeId} {κ : α → Value} {ν : β → Value} (h : ∀ a b w, (Op.equal K (κ a) (κ b)).run P w = .ok (decide (a = b)) w) (a : α) :
    ∀ (m : List (α × β)) (es : List MapEntry) (i : Nat) (w : World), es.map (fun e => (e.key, e.val)) = m.map (fun p => (κ p.1, ν p.2)) →
      (findAsking K (κ a) es i).run P w = .ok ((place m a i).map fun x => (x.1, ν x.2)) w
  | [], [], i, w, _ => rfl
  | [], e :: es, i, w, he => by simp at he
  | p :: m, [], i, w, he => by simp at he
  | p :: m, e :: es, i, w, he => by
    simp only [List.map_cons, List.cons.injEq, Prod.mk.injEq] at he
    obtain ⟨⟨hk, hv⟩, hr⟩ := he
    unfold findAsking place
    rw [Sem.run_bind, hk, h a p.1 w]
    by_cases e' : a = p.1
    · simp [e', hv, Result.andThen, Sem.run_pure]
    · simp only [e', decide_false, if_false, Result.andThen, Bool.false_eq_true]
      exact findAsking_eq h a m es (i + 1) w hr
theorem findKey_eq {K : TypeId} {κ : α → Value} {ν : β → Value} (hK : KeyEq P K κ) (a : α) (m : List (α × β)) (es : List MapEntry) (w : World) (he : es.map (fun e => (e.key, e.val)) = m.map (fun p => (κ p.1, ν p.2))) :
    (findKey K (κ a) es).run P w = .ok ((place m a 0).map fun x => (x.1, ν x.2)) w := by
  obtain ⟨d, hd, h⟩ := hK.desc
  unfold findKey
  rw [Sem.run_bind, run_underlying hd w]
  simp only [Result.andThen]
  rcases h with h | ⟨h1, h2⟩
  · rw [findNow_eq h a m es 0 he]
    rfl
  · cases hn : findNow d (κ a) es 0 with
    | none => exact findAsking_eq h2 a m es 0 w he
    | some r =>
      -- only where there is no entry
      cases es with
      | nil => cases m with
        | nil => simp [findNow] at hn; subst hn; rfl
        | cons p m => simp at he
      | cons e es => cases m with
        | nil => simp at he
        | cons p m =>
          simp only [List.map_cons, List.cons.injEq, Prod.mk.injEq] at he
          simp [findNow, he.1.1, h1 a p.1] at hn
theorem place_get (m : List (α × β)) (a : α) (i : Nat) : (place m a i).map (·.2) = mget m a := by
  induction m generalizing i with
  | nil => rfl
  | cons p r ih =>
    unfold place
    by_cases e : a = p.1
    · simp [mget, e]
    · rw [if_neg e, ih]; simp [mget, e]
/-- the world with another map in block b -/
def setMap (w : World) (b : Nat) (es : Array MapEntry) (c : Nat) : World := { w with heap := w.heap.setIfInBounds b (.map es c) }
theorem setMap_same {w : World} {b : Nat} {es : Array MapEntry} {c : Nat} (h : b < w.heap.size) : (setMap w b es c).heap[b]? = some (.map es c) := by simp [setMap, h]
theorem setMap_other {w : World} {b k : Nat} {es : Array MapEntry} {c : Nat} (h : k ≠ b) : (setMap w b es c).heap[k]? = w.heap[k]? := by simp [setMap, Ne.symm h]
theorem setMap_size {w : World} {b : Nat} {es : Array MapEntry} {c : Nat} : (setMap w b es c).heap.size = w.heap.size := by simp [setMap]
theorem below_setMap {B b : Nat} {a w : World} {es : Array MapEntry} {c : Nat} (h : Below B a w) (hb : B ≤ b) : Below B a (setMap w b es c) :=
  h.trans ⟨rfl, rfl, rfl, by rw [setMap_size]; exact Nat.le_refl _, fun k hk => setMap_other (by omega)⟩
/-- w' is w but for block b -/
def ButMap (b : Nat) (w w' : World) : Prop := ∃ es c, w' = setMap w b es c
theorem ButMap.other {b k : Nat} {w w' : World} (h : ButMap b w w') (hk : k ≠ b) : w'.heap[k]? = w.heap[k]? := by obtain ⟨es, c, rfl⟩ := h; exact setMap_other hk
theorem ButMap.size {b : Nat} {w w' : World} (h : ButMap b w w') : w'.heap.size = w.heap.size := by obtain ⟨es, c, rfl⟩ := h; exact setMap_size
theorem ButMap.below {B b : Nat} {a w w' : World} (h : ButMap b w w') (hw : Below B a w) (hb : B ≤ b) : Below B a w' := by obtain ⟨es, c, rfl⟩ := h; exact below_setMap hw hb
omit [DecidableEq α] in
theorem MapIs.empty (w : World) (κ : α → Value) (ν : β → Value) : MapIs (w.alloc (.map #[] 0)) w.heap.size κ ν [] := ⟨#[], 0, heap_alloc_new _ _, rfl⟩
omit [DecidableEq α] in
theorem MapIs.keep {w w' : World} {b : Nat} {κ : α → Value} {ν : β → Value} {m : List (α × β)} (h : MapIs w b κ ν m) (hk : w'.heap[b]? = w.heap[b]?) : MapIs w' b κ ν m := by
  obtain ⟨es, c, hb, he⟩ := h
  exact ⟨es, c, hk.trans hb, he⟩
omit [DecidableEq α] in
theorem MapIs.lt {w : World} {b : Nat} {κ : α → Value} {ν : β → Value} {m : List (α × β)} (h : MapIs w b κ ν m) : b < w.heap.size := by
  obtain ⟨es, c, hb, _⟩ := h; exact Agg.heap_lt hb
/-- 'v, ok := m[k]' -/
theorem run_lookup_ok {t K E : TypeId} {w : World} {b : Nat} {κ : α → Value} {ν : β → Value} {m : List (α × β)} {z : Value} (ht : P.underlying t = some (.map K E)) (hK : KeyEq P K κ) (hz : ∀ w, (zeroValue E).run P w = .ok z w)
    (h : MapIs w b κ ν m) (a : α) :
    (lookup t (.map (some b)) (κ a) true).run P w = .ok (.tuple #[(match mget m a with | some v => ν v | none => z), .bool (mget m a).isSome]) w := by
  obtain ⟨es, c, hb, he⟩ := h
  unfold lookup
  rw [Sem.run_bind, run_underlying ht w]
  simp only [Result.andThen, Sem.run_bind, getObj, Sem.run, hb, Sem.run_pure, hK.check, findKey_eq hK a m es.toList w he]
  have hg := place_get m a 0
  cases hp : place m a 0 with
  | none =>
    rw [hp] at hg
    simp [← hg, hz, Result.andThen]
  | some x =>
    rw [hp] at hg
    simp [← hg]
theorem place_mput (m : List (α × β)) (a : α) (v : β) (κ : α → Value) (ν : β → Value) : ∀ (es : List MapEntry) (i : Nat), es.map (fun e => (e.key, e.val)) = m.map (fun p => (κ p.1, ν p.2)) →
    (∀ j x, place m a i = some (j, x) → i ≤ j ∧ ∃ e, es[j - i]? = some e ∧ e.key = κ a ∧ (es.modify (j - i) (fun e => { e with key := κ a, val := ν v })).map (fun e => (e.key, e.val)) = (mput m a v).map (fun p => (κ p.1, ν p.2))) ∧
    (place m a i = none → (mput m a v) = m ++ [(a, v)]) := by
  induction m with
  | nil => intro es i he; exact ⟨fun j x h => by simp [place] at h, fun _ => rfl⟩
  | cons p r ih =>
    intro es i he
    cases es with
    | nil => simp at he
    | cons e es =>
      simp only [List.map_cons, List.cons.injEq, Prod.mk.injEq] at he
      obtain ⟨⟨hk, hv⟩, hr⟩ := he
      obtain ⟨h1, h2⟩ := ih es (i + 1) hr
      unfold place mput
      by_cases e' : a = p.1
      · simp only [e', if_true]
        refine ⟨fun j x h => ?_, fun h => by simp at h⟩
        simp only [Option.some.injEq, Prod.mk.injEq] at h
        obtain ⟨rfl, rfl⟩ := h
        exact ⟨Nat.le_refl _, e, by simp, by rw [hk], by simp [hr]⟩
      · simp only [e', if_false]
        refine ⟨fun j x h => ?_, fun h => by rw [h2 h]; rfl⟩
        obtain ⟨hle, e2, h3, h4, h5⟩ := h1 j x h
        refine ⟨by omega, e2, ?_, h4, ?_⟩
        · rw [show j - i = (j - (i + 1)) + 1 by omega]; exact h3
        · rw [show j - i = (j - (i + 1)) + 1 by omega]; simp [hk, hv, h5]
/-- 'm[k] = v' -/
theorem run_mapUpdate {t K E : TypeId} {w : World} {b : Nat} {κ : α → Value} {ν : β → Value} {m : List (α × β)} (ht : P.underlying t = some (.map K E)) (hK : KeyEq P K κ)
    (h : MapIs w b κ ν m) (a : α) (v : β) :
    ∃ w', (mapUpdate t (.map (some b)) (κ a) (ν v)).run P w = .ok () w' ∧ MapIs w' b κ ν (mput m a v) ∧ ButMap b w w' := by
  obtain ⟨es, c, hb, he⟩ := h
  have hlt := Agg.heap_lt hb
  obtain ⟨h1, h2⟩ := place_mput m a v κ ν es.toList 0 he
  cases hp : place m a 0 with
  | none =>
    refine ⟨setMap w b (es.push { key := κ a, val := ν v, born := c }) (c + 1), ?_, ⟨_, _, setMap_same hlt, ?_⟩, _, _, rfl⟩
    · unfold mapUpdate
      rw [Sem.run_bind, run_underlying ht w]
      simp only [Result.andThen, Sem.run_bind, getObj, Sem.run, hb, hK.check, findKey_eq hK a m es.toList w he, hp]
      simp [setObj, Sem.run, hb, setMap]
    · rw [h2 hp]; simp [he]
  | some x =>
    obtain ⟨_, e, h3, h4, h5⟩ := h1 x.1 x.2 hp
    simp only [Nat.sub_zero] at h3 h5
    refine ⟨setMap w b (es.modify x.1 fun e => { e with key := κ a, val := ν v }) c, ?_, ⟨_, _, setMap_same hlt, ?_⟩, _, _, rfl⟩
    · unfold mapUpdate
      rw [Sem.run_bind, run_underlying ht w]
      simp only [Result.andThen, Sem.run_bind, getObj, Sem.run, hb, hK.check, findKey_eq hK a m es.toList w he, hp]
      have h3' : es[x.1]? = some e := by simpa using h3
      simp [setObj, Sem.run, hb, setMap, h3', h4, keyThatStays, hK.bits]
    · rw [Array.toList_modify]; exact h5
/-! At a list of operations. -/
variable {ops : Array Oper} {rest : List Oper} {o : Oper} {a : Act} {w : World} {Q : Exit → Act → World → Prop}
theorem wpList_lookup_ok (hg : o.guard = none) (mo xo : Operand) (t K E : TypeId) (hop : o.op = Op.lookup t mo xo true) (ht : P.underlying t = some (.map K E)) {κ : α → Value} {ν : β → Value} {z : Value}
    (hK : KeyEq P K κ) (hz : ∀ w, (zeroValue E).run P w = .ok z w) {b : Nat} {m : List (α × β)} (hm : a.eval mo = .map (some b)) (h : MapIs w b κ ν m) (x : α) (hx : a.eval xo = κ x)
    (hk : wpList P ops Q rest (a.put o.dst (.tuple #[(match mget m x with | some v => ν v | none => z), .bool (mget m x).isSome])) w) : wpList P ops Q (o :: rest) a w := by
  refine wpList_plain hg fun K' hK' => ?_
  unfold Oper.wp
  simp [execOp, hop, hm, hx, run_lookup_ok ht hK hz h x, Result.andThen]
  exact hK' _ _ hk
theorem wpList_lookup_hit (hg : o.guard = none) (mo xo : Operand) (t K E : TypeId) (hop : o.op = Op.lookup t mo xo true) (ht : P.underlying t = some (.map K E)) {κ : α → Value} {ν : β → Value} {z : Value}
    (hK : KeyEq P K κ) (hz : ∀ w, (zeroValue E).run P w = .ok z w) {b : Nat} {m : List (α × β)} (hm : a.eval mo = .map (some b)) (h : MapIs w b κ ν m) (x : α) (hx : a.eval xo = κ x) (v : β) (hv : mget m x = some v)
    (hk : wpList P ops Q rest (a.put o.dst (.tuple #[ν v, .bool true])) w) : wpList P ops Q (o :: rest) a w :=
  wpList_lookup_ok hg mo xo t K E hop ht hK hz hm h x hx (by rw [hv]; exact hk)
theorem wpList_lookup_miss (hg : o.guard = none) (mo xo : Operand) (t K E : TypeId) (hop : o.op = Op.lookup t mo xo true) (ht : P.underlying t = some (.map K E)) {κ : α → Value} {ν : β → Value} {z : Value}
    (hK : KeyEq P K κ) (hz : ∀ w, (zeroValue E).run P w = .ok z w) {b : Nat} {m : List (α × β)} (hm : a.eval mo = .map (some b)) (h : MapIs w b κ ν m) (x : α) (hx : a.eval xo = κ x) (hv : mget m x = none)
    (hk : wpList P ops Q rest (a.put o.dst (.tuple #[z, .bool false])) w) : wpList P ops Q (o :: rest) a w :=
  wpList_lookup_ok hg mo xo t K E hop ht hK hz hm h x hx (by rw [hv]; exact hk)
theorem wpList_mapUpdate (hg : o.guard = none) (hd : o.dst = none) (mo xo vo : Operand) (t K E : TypeId) (hop : o.op = Op.mapUpdate t mo xo vo) (ht : P.underlying t = some (.map K E)) {κ : α → Value} {ν : β → Value}
    (hK : KeyEq P K κ) {b : Nat} {m : List (α × β)} (hm : a.eval mo = .map (some b)) (h : MapIs w b κ ν m) (x : α) (hx : a.eval xo = κ x) (v : β) (hv : a.eval vo = ν v)
    (hk : ∀ w', MapIs w' b κ ν (mput m x v) → ButMap b w w' → wpList P ops Q rest a w') : wpList P ops Q (o :: rest) a w := by
  refine wpList_plain hg fun K' hK' => ?_
  obtain ⟨w', hr, h1, h2⟩ := run_mapUpdate ht hK h x v
  unfold Oper.wp
  simp [execOp, hop, hm, hx, hv, hr, Result.andThen]
  rw [Oper.upon_skip, hd]
  exact hK' _ _ (hk w' h1 h2)
/-- integer keys -/
theorem int_key {K : TypeId} {k : IntKind} (h : P.underlying K = some (.int k)) : KeyEq P K (fun n : Int => .int k n) where
  check := fun empty a w => by
    unfold checkKey
    rw [Sem.run_bind, run_underlying h w]
    simp [Result.andThen]
  desc := ⟨_, h, .inl fun a b => by simp [sameNow]; rw [Bool.eq_iff_iff]; simp⟩
  bits := fun a => by simp [sameBits]
end
end Go.Mp
/-! (of general use) base.values and base.Hash: the hash of letters. -/
namespace Go.Proofs.Ytnlilmiakddlaaa
open Go.RowKit Pl Go.Mp
/-- a range over a text in block b, in whatever world -/
theorem nextAt_low (w : World) (b : Nat) (s : List UInt8) (k : Nat) (ty : TypeId) (hb : w.heap[b]? = some (.stringIter ⟨s.toArray⟩ k)) (hk : k < s.length) (ha : s[k].toNat < 128) :
    (Instr.next (.pointer (some ⟨b, 0, none⟩)) true ty).run Try.prog w = .ok (.tuple #[.bool true, .int .i64 (k : Int), .int .i32 (s[k].toNat : Int)]) (w.iterAt b ⟨s.toArray⟩ (k + 1)) := by
  have hs : k < (⟨s.toArray⟩ : ByteArray).size := by rw [Agg.bytes_size]; exact hk
  have he : (⟨s.toArray⟩ : ByteArray)[k]'hs = s[k] := by simp [ByteArray.getElem_eq_getElem_data]
  have := Lib.run_next_ascii_at (P := Try.prog) w b ⟨s.toArray⟩ k ty hb hs (by rw [he]; exact ha)
  rw [he] at this
  exact this
theorem nextAt_high (w : World) (b : Nat) (s : List UInt8) (k : Nat) (ty : TypeId) (hb : w.heap[b]? = some (.stringIter ⟨s.toArray⟩ k)) (hk : k < s.length) (ha : 128 ≤ s[k].toNat) :
    ∃ (r : Int) (k' : Nat), 128 ≤ r ∧ r ≤ 2147483647 ∧ k < k' ∧ (Instr.next (.pointer (some ⟨b, 0, none⟩)) true ty).run Try.prog w = .ok (.tuple #[.bool true, .int .i64 (k : Int), .int .i32 r]) (w.iterAt b ⟨s.toArray⟩ k') := by
  have hs : k < (⟨s.toArray⟩ : ByteArray).size := by rw [Agg.bytes_size]; exact hk
  have he : (⟨s.toArray⟩ : ByteArray)[k]'hs = s[k] := by simp [ByteArray.getElem_eq_getElem_data]
  obtain ⟨h1, h2⟩ := decode_high ⟨s.toArray⟩ k hs (by rw [he]; exact ha)
  have h3 := decode_le ⟨s.toArray⟩ k
  exact ⟨_, _, by omega, by omega, by omega, Lib.run_next_any_at (P := Try.prog) w b ⟨s.toArray⟩ k ty hb hs⟩
theorem nextAt_end (w : World) (b : Nat) (s : List UInt8) (ty : TypeId) (hb : w.heap[b]? = some (.stringIter ⟨s.toArray⟩ s.length)) :
    (Instr.next (.pointer (some ⟨b, 0, none⟩)) true ty).run Try.prog w = .ok (.tuple #[.bool false]) w :=
  Lib.run_next_end_at (P := Try.prog) w b ⟨s.toArray⟩ s.length ty hb (by rw [Agg.bytes_size]; omega)
/-- runes, numbers as values -/
def rK (n : Int) : Value := .int .i32 n
def nV (n : Nat) : Value := .int .u32 (n : Int)
def vals (k : Nat) : List (Int × Nat) := (List.range k).map fun i => (((letter i).toNat : Int), i)
theorem vals_step : ∀ k, k < 32 → mput (vals k) ((letter k).toNat : Int) k = vals (k + 1) := by decide +kernel
theorem vals_get : ∀ n : Nat, n < 256 → mget (vals 32) (n : Int) = val (UInt8.ofNat n) := by decide +kernel
theorem vals_high (r : Int) (h : 128 ≤ r) : mget (vals 32) r = none := by
  have hk : ∀ p ∈ vals 32, p.1 < 128 := by decide +kernel
  simp only [mget, Option.map_eq_none_iff, List.find?_eq_none, decide_eq_true_eq]
  intro p hp e
  have := hk p hp
  omega
theorem keyR : KeyEq Try.prog 21 rK := int_key Try.underlying21
/-- twenty noughts -/
def z20 : List UInt8 := List.replicate 20 0
theorem z20_zero : (Try.prog.info? 38).map (·.zero) = some (some (.agg (hC z20))) := by kernel_rfl
theorem z20_length : z20.length = 20 := rfl
theorem hC_info (h : List UInt8) (hl : h.length = 20) : (Try.prog.info? 38).map (·.size) = some (hC h).size := by rw [hC_size, hl]; kernel_rfl
theorem hC_one (h : List UInt8) : (hC h).all (·.oneCell') = true := by simp [hC, Lib.byteCells, Value.oneCell']
/-- what base.Hash answers -/
def hashH (s : List UInt8) : List UInt8 := (Pl.hash s).getD z20
def hashE (s : List UInt8) : Int := if (Pl.hash s).isSome then 0 else 4
theorem val_low {c : UInt8} {n : Nat} (h : val c = some n) : c.toNat < 128 := by
  have h1 : ∀ n, n < 32 → (letter n).toNat < 128 := by decide
  have := h1 n (val_lt h)
  rwa [letter_val h] at this
theorem mapM_take {s : List UInt8} (k : Nat) (hk : k < s.length) {l : List Nat} {n : Nat} (hl : (s.take k).mapM val = some l) (hn : val s[k] = some n) : (s.take (k + 1)).mapM val = some (l ++ [n]) := by
  rw [List.take_succ_eq_append_getElem hk, List.mapM_append, hl]
  simp [hn]
theorem mapM_none {s : List UInt8} (k : Nat) (hk : k < s.length) (hn : val s[k] = none) : s.mapM val = none := by
  have : s = s.take k ++ s[k] :: s.drop (k + 1) := by simp
  rw [this, List.mapM_append, List.mapM_cons]
  simp [hn]
theorem zero99 (w : World) : (zeroValue 81).run Try.prog w = .ok (.int .u32 0) w := by kernel_rfl
theorem hC_get (h : List UInt8) (i : Nat) (hi : i < h.length) : (hC h)[i]? = some (.int .u8 (h[i].toNat : Int)) := by simp [hC, Lib.byteCells, hi]
theorem hC_set (h : List UInt8) (i : Nat) (c : UInt8) : (hC h).setIfInBounds i (.int .u8 (c.toNat : Int)) = hC (h.set i c) := by
  apply Array.ext'
  simp [hC, Lib.byteCells, List.map_set]
theorem build_zero (w : World) : (Instr.build 38 #[]).run Try.prog w = .ok (.agg (hC z20)) w := by kernel_rfl
theorem or_disjoint8 (a x m : Nat) (ha : a < 2 ^ m) (hx : x < 32) (hm : m < 8) : bits .or .u32 (a : Int) ((x : Int) * 2 ^ m % 4294967296) = ((a + 2 ^ m * x : Nat) : Int) := by
  have h5 : 2 ^ m ≤ 2 ^ 7 := Nat.pow_le_pow_right (by omega) (by omega)
  have hp : 2 ^ m * x ≤ 2 ^ 7 * 31 := Nat.mul_le_mul h5 (by omega)
  have e : ((x : Int) * 2 ^ m % 4294967296) = ((2 ^ m * x : Nat) : Int) := by
    have : (x : Int) * 2 ^ m = ((2 ^ m * x : Nat) : Int) := by push_cast; exact Int.mul_comm _ _
    rw [this, Int.emod_eq_of_lt (by omega) (by omega)]
  rw [e, u32_or_nat _ _ (by omega) (by omega), Nat.or_comm, ← Nat.two_pow_add_eq_or_of_lt ha, Nat.add_comm]
/-- what lies behind k letters -/
def HashIs (B M I : Nat) (s : List UInt8) (k : Nat) (l : List Nat) (w0 wr : World) : Prop :=
  k ≤ 32 ∧ (s.take k).mapM val = some l ∧ wr.heap[I]? = some (.stringIter ⟨s.toArray⟩ k) ∧ MapIs wr M rK nV (vals 32) ∧ wr.heap[B]? = some (.cells (hC (hashTo (lnum l) k)) 38 (0, 0)) ∧ Below B w0 wr
end Go.Proofs.Ytnlilmiakddlaaa
/-! (of general use) Path: a path's text (base and spenceref03). -/
namespace Go.Proofs.Ytnlilmiakddlaaa
open Go.RowKit Pl Go.Mp Go.Agg
/-- a path's cells -/
def pC (h n : List UInt8) : Array Value := hC h ++ #[.string ⟨n.toArray⟩]
theorem pC_size (h n : List UInt8) : (pC h n).size = h.length + 1 := by simp [pC, hC_size]
theorem pC_name (h n : List UInt8) (hl : h.length = 20) : (pC h n)[20]? = some (.string ⟨n.toArray⟩) := by
  rw [pC, Array.getElem?_append, if_neg (by rw [hC_size]; omega), hC_size, hl]; rfl
theorem pC_hash (h n : List UInt8) (j : Nat) (v : Value) (hv : (hC h)[j]? = some v) : (pC h n)[0 + j]? = some v := by
  have hlt : j < (hC h).size := (Array.getElem?_eq_some_iff.1 hv).1
  rw [Nat.zero_add, pC, Array.getElem?_append, if_pos hlt]; exact hv
theorem isName_le {n : List UInt8} (h : isName n = true) : n.length ≤ 24 := by
  simp only [isName, Bool.and_eq_true, decide_eq_true_eq] at h
  exact h.1.2
/-- a path's text, or none; the error -/
def pathS (h n : List UInt8) : List UInt8 := if isName n then letters h ++ 45 :: n else []
def pathE (n : List UInt8) : Int := if isName n then 0 else 2
theorem ret_pair {a b : ByteArray} {k : IntKind} {x y : Int} (h : a = b) (h2 : x = y) : Ending.returned (.tuple #[.string a, .int k x]) = .returned (.tuple #[.string b, .int k y]) := by rw [h, h2]
theorem text_eq (h n : List UInt8) (hn : isName n = true) : ({ data := (letters h).toArray } : ByteArray) ++ { data := #[45] } ++ { data := n.toArray } = ⟨(pathS h n).toArray⟩ := by
  have : ({ data := #[45] } : ByteArray) = ⟨[45].toArray⟩ := rfl
  rw [this, Agg.bytes_append, Agg.bytes_append, pathS, if_pos hn]
  simp
end Go.Proofs.Ytnlilmiakddlaaa
