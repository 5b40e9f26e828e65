/- spenceref03: bit, Letters, value, within. -/
import Derived.Test.YtfgjepfmcmppaaaLetters
import Derived.BigQuiet
import Derived.Deep.QuietTactic
namespace Go.Proofs.Ytfgjepfmcmppaaa
open Go.RowKit Pl
theorem ret_num {k : IntKind} {a b : Int} (h : a = b) : Ending.returned (.int k a) = .returned (.int k b) := by rw [h]
/-- 'within', under a name -/
def wi (c lo hi : Int) : Bool := decide (lo ≤ c) && decide (c ≤ hi)
theorem within_any (c lo hi : Int) (w : World) :
    Calls Try.prog 58 #[.int .u8 c, .int .u8 lo, .int .u8 hi] w fun e w' => e = .returned (.bool (wi c lo hi)) ∧ w = w' := by
  by_cases h : lo ≤ c
  · go_enter Try.func58, Try.ntmps58
    go_wp2_with fail
    go_ret
    exact ⟨by simp [wi, h], rfl⟩
  · have hd : decide (lo ≤ c) = false := by simp; omega
    go_enter Try.func58, Try.ntmps58
    go_wp2_with fail
    go_ret
    exact ⟨by simp [wi, hd], rfl⟩
/-- bit i of a hash, as a number -/
def bitAt (h : List UInt8) (i : Nat) : Nat := num 256 (nats h) / 2 ^ i % 2
theorem bitAt_eq (h : List UInt8) (i : Nat) (hi : i / 8 < h.length) : bitAt h i = (h[i / 8]?.getD 0).toNat / 2 ^ (i % 8) % 2 := by
  have hd := digs_num 256 (nats h) (nats_lt h)
  have hq := digs_getElem? 256 (nats h).length (num 256 (nats h)) (i / 8) (by simpa [nats] using hi)
  rw [hd] at hq
  have hn : (nats h)[i / 8]? = some (h[i / 8]?.getD 0).toNat := by simp [nats, List.getElem?_eq_getElem hi]
  rw [hn] at hq
  have hx := Option.some.inj hq
  unfold bitAt
  have e : num 256 (nats h) / 2 ^ i = num 256 (nats h) / 256 ^ (i / 8) / 2 ^ (i % 8) := by
    rw [pow256, Nat.div_div_eq_div_mul, ← Nat.pow_add, Nat.div_add_mod]
  rw [e, hx]
  generalize num 256 (nats h) / 256 ^ (i / 8) = y
  have hr : i % 8 < 8 := Nat.mod_lt _ (by omega)
  generalize i % 8 = r at hr
  have : r = 0 ∨ r = 1 ∨ r = 2 ∨ r = 3 ∨ r = 4 ∨ r = 5 ∨ r = 6 ∨ r = 7 := by omega
  rcases this with rfl | rfl | rfl | rfl | rfl | rfl | rfl | rfl <;> omega
theorem u8_lt (c : UInt8) : (c.toNat : Int) < 256 := by have := c.toNat_lt; omega
set_option maxHeartbeats 400000 in
theorem bit_any (h : List UInt8) (hl : h.length = 20) (i : Nat) (hi : i < 160) (w : World) :
    Calls Try.prog 56 #[.agg (hC h), .int .i64 (i : Int)] w fun e w' => e = .returned (.int .i64 (bitAt h i : Nat)) ∧ Below w.heap.size w w' := by
  have hc : (w.alloc (.cells (hC h) 38)).cell? ⟨w.heap.size, i / 8, none⟩ = some (.int .u8 ((h[i / 8]?.getD 0).toNat : Int)) := by
    rw [cell_of_row _ _ _ _ _ _ (heap_alloc_new _ _)]
    simp [hC, Lib.byteCells, List.getElem?_eq_getElem (show i / 8 < h.length by omega)]
  have he := bitAt_eq h i (by omega)
  have HE := Lib.hid he
  clear he hl
  have hb := u8_lt (h[i / 8]?.getD 0)
  go_enter Try.func56, Try.ntmps56
  go_wp2_with fail
  go_ret
  refine ⟨ret_num ?_, (Below.refl _ _).alloc (Nat.le_refl _) _⟩
  rw [HE.out]
  have e : ((h[i / 8]?.getD 0).toNat : Int) / 2 ^ (i % 8) = (((h[i / 8]?.getD 0).toNat / 2 ^ (i % 8) : Nat) : Int) := by simp
  rw [e, Int.tmod_eq_emod_of_nonneg (Int.natCast_nonneg _)]
  simp
/-- a letter's value, or -1 -/
def valI (c : UInt8) : Int := match val c with | some n => (n : Int) | none => -1
theorem value_any (c : UInt8) (w : World) :
    Calls Try.prog 52 #[.int .u8 (c.toNat : Int)] w fun e w' => e = .returned (.int .i64 (valI c)) ∧ w = w' := by
  go_enter Try.func52, Try.ntmps52
  go_wp2_with fail
  go_loop [3] (fun i => ∃ k : Nat, k ≤ 32 ∧ i = .int .i64 k ∧ ∀ j, j < k → letter j ≠ c) (fun i => 32 - (intOf i).toNat)
  case atStart => exact ⟨0, by omega, rfl, by intros; omega⟩
  case round =>
    obtain ⟨k, hk, rfl, hn⟩ := hrel
    have HN := Lib.hid hn
    clear hn
    by_cases hlt : k < 32
    · have hla := letter_at .i64 k hlt
      by_cases hc : letter k = c
      · have hd : ((((letter k).toNat : Int)) == (c.toNat : Int)) = true := by simp [hc]
        go_wp2_with fail
        go_ret
        exact ⟨ret_num (by unfold valI; rw [← hc, val_letter k hlt]), rfl⟩
      · have hd : ((((letter k).toNat : Int)) == (c.toNat : Int)) = false := by
          simp only [beq_eq_false_iff_ne, ne_eq]; intro h; apply hc; exact UInt8.toNat_inj.1 (by omega)
        go_wp2_with fail
        go_round
        case rel => exact ⟨k + 1, by omega, by go_num, fun j hj => by
          rcases Nat.lt_or_ge j k with h | h
          · exact HN.out j h
          · obtain rfl : j = k := by omega
            exact hc⟩
        case measure => simp [intOf]; omega
    · obtain rfl : k = 32 := by omega
      have hnone : val c = none := by
        cases hv : val c with
        | none => rfl
        | some n => exact absurd (letter_val hv) (HN.out n (val_lt hv))
      go_wp2_with fail
      go_ret
      exact ⟨ret_num (by unfold valI; rw [hnone]), rfl⟩
theorem bit_int (h : List UInt8) (hl : h.length = 20) (i : Int) (h0 : 0 ≤ i) (hi : i < 160) (w : World) :
    Calls Try.prog 56 #[.agg (hC h), .int .i64 i] w fun e w' => e = .returned (.int .i64 (bitAt h i.toNat : Nat)) ∧ Below w.heap.size w w' := by
  obtain ⟨n, rfl⟩ := Int.eq_ofNat_of_zero_le h0
  exact bit_any h hl n (by omega) w
/-- the higher bits of letter i, from t on -/
def part (h : List UInt8) (i t : Nat) : Nat := num 256 (nats h) / 2 ^ (5 * i + t) % 2 ^ (5 - t)
theorem part_lt (h : List UInt8) (i t : Nat) : part h i t < 32 :=
  Nat.lt_of_lt_of_le (Nat.mod_lt _ (Nat.pow_pos (by omega))) (Nat.pow_le_pow_right (n := 2) (by omega) (by omega : 5 - t ≤ 5))
theorem part_5 (h : List UInt8) (i : Nat) : part h i 5 = 0 := by simp [part, Nat.mod_one]
theorem part_0 (h : List UInt8) (i : Nat) : part h i 0 = num 256 (nats h) / 32 ^ i % 32 := by simp [part, pow32]
theorem part_step (h : List UInt8) (i t : Nat) (ht : t < 5) : part h i t = 2 * part h i (t + 1) + bitAt h (5 * i + t) := by
  unfold part bitAt
  rw [show 5 - t = (5 - (t + 1)) + 1 by omega, Nat.pow_succ', Nat.mod_mul, Nat.div_div_eq_div_mul, ← Nat.pow_succ, show (5 * i + t).succ = 5 * i + (t + 1) by omega]
  omega
theorem bitAt_lt (h : List UInt8) (i : Nat) : bitAt h i < 2 := Nat.mod_lt _ (by omega)
theorem refLetters_step (h : List UInt8) (k : Nat) (hk : k < 32) : ({ data := (List.take k (letters h)).toArray } : ByteArray) ++
    ByteArray.extract ⟨#[48, 49, 50, 51, 52, 53, 54, 55, 56, 57, 97, 98, 99, 100, 102, 103, 104, 105, 106, 107, 108, 109, 110, 112, 113, 114, 115, 118, 119, 120, 121, 122]⟩ (part h k 0) (part h k 0 + 1) = { data := (List.take (k + 1) (letters h)).toArray } := by
  show ({ data := (List.take k (letters h)).toArray } : ByteArray) ++ ByteArray.extract ⟨alpha.toArray⟩ (part h k 0) (part h k 0 + 1) = { data := (List.take (k + 1) (letters h)).toArray }
  have hp := part_lt h k 0
  have hl : k < (letters h).length := by rw [letters_length]; exact hk
  rw [Agg.bytes_extract, Agg.bytes_append, List.take_succ_eq_append_getElem hl]
  congr 3
  have ha : part h k 0 < alpha.length := hp
  rw [List.take_succ_eq_append_getElem ha, List.drop_append_of_le_length (by simp; omega), List.drop_eq_nil_of_le (by simp; omega), List.nil_append]
  congr 1
  have : (letters h)[k]? = some (letter (part h k 0)) := by
    unfold letters
    rw [List.getElem?_map, digs_getElem? _ _ _ _ hk, part_0]; rfl
  rw [List.getElem?_eq_getElem hl] at this
  rw [Option.some.inj this]
  simp [letter, List.getD, List.getElem?_eq_getElem ha]
set_option maxHeartbeats 400000 in
theorem refLetters_any (h : List UInt8) (hl : h.length = 20) (w : World) :
    Calls Try.prog 30 #[.agg (hC h)] w fun e w' => e = .returned (.string ⟨(letters h).toArray⟩) ∧ Below w.heap.size w w' := by
  have HL := Lib.hid hl
  clear hl
  go_enter Try.func30, Try.ntmps30
  go_wp2_with fail
  go_loopw [3, 4] (fun o i wr => ∃ k : Nat, k ≤ 32 ∧ i = .int .i64 k ∧ o = .string ⟨((letters h).take k).toArray⟩ ∧ wr.heap[w.heap.size]? = some (.cells (hC h) 38 (0, 0)) ∧ Below w.heap.size w wr)
    (fun _ i _ => 32 - (intOf i).toNat)
  case atStart => exact ⟨0, by omega, rfl, rfl, heap_alloc_new _ _, (Below.refl _ _).alloc (Nat.le_refl _) _⟩
  case round =>
    obtain ⟨k, hk, rfl, rfl, hb, hw⟩ := hrel
    by_cases hlt : k < 32
    · have hd : decide ((k : Int) < 32) = true := by simp; omega
      go_wp2_with fail
      go_loopw [5, 6] (fun n i wr => ∃ t : Nat, t ≤ 5 ∧ i = .int .i64 ((t : Int) - 1) ∧ n = .int .i64 (part h k t : Nat) ∧ wr.heap[w.heap.size]? = some (.cells (hC h) 38 (0, 0)) ∧ Below w.heap.size w wr)
        (fun _ i _ => (intOf i + 1).toNat)
      case atStart => exact ⟨5, by omega, rfl, by rw [part_5]; rfl, hb, hw⟩
      case round =>
        obtain ⟨t, ht, rfl, rfl, hb, hw⟩ := hrel
        have hp := part_lt h k t
        by_cases h1 : 1 ≤ t
        · go_wp2_with (first | (with_reducible refine wpList_load_row rfl 38 _ rfl w.heap.size rfl 38 (hC h) (0, 0) (.array 20 5) hb Try.underlying38 rfl ?hs ?_))
          case hs => rw [hC_size, HL.out]; kernel_rfl
          go_wp2_with fail
          refine (bit_int h HL.out _ (by omega) (by omega) _).mono ?_
          rintro e w' ⟨rfl, hw'⟩
          have hbl := bitAt_lt h (5 * k + (t - 1))
          go_wp2_with fail
          go_roundw
          case rel => exact ⟨t - 1, by omega, by go_num, by rw [part_step h k (t - 1) (by omega), show t - 1 + 1 = t by omega]; go_num, Agg.keep' hw' hb, hw.trans (hw'.mono hw.size)⟩
          case measure => simp [intOf]; omega
        · obtain rfl : t = 0 := by omega
          go_wp2_with fail
          go_roundw
          case rel =>
            refine ⟨k + 1, by omega, by go_num, ?_, hb, hw⟩
            exact congrArg Value.string (refLetters_step h k hlt)
          case measure => simp [intOf]; omega
    · obtain rfl : k = 32 := by omega
      go_wp2_with fail
      go_ret
      exact ⟨by rw [List.take_of_length_le (by rw [letters_length]; omega)]; rfl, hw⟩
end Go.Proofs.Ytfgjepfmcmppaaa
