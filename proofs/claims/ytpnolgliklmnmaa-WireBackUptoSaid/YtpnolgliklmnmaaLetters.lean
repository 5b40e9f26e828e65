/- base.Letters: the letters of any hash. -/
import Derived.Test.YtpnolgliklmnmaaShelf
import Derived.Test.YtpnolgliklmnmaaAgg
import Derived.Test.YtpnolgliklmnmaaPlainA
namespace Go.Proofs.Ytpnolgliklmnmaa
open Go.RowKit Pl
/-- a hash's cells -/
def hC (h : List UInt8) : Array Value := (Lib.byteCells h).toArray
theorem hC_size (h : List UInt8) : (hC h).size = h.length := by simp [hC, Lib.byteCells]
theorem hC_at (h : List UInt8) (k : Nat) (hl : h.length = 20) (hk : k < 20) (w : World) :
    (Instr.index 42 (.agg (hC h)) (.int .i64 (k : Int))).run Try.prog w = .ok (.int .u8 ((h.getD k 0).toNat : Int)) w := by
  refine Agg.run_index_agg w Try.underlying42 (by kernel_rfl) Try.isAgg5 hk ?_
  simp [Lib.byteCells, List.getD, List.getElem?_eq_getElem (show k < h.length by omega)]
theorem or_disjoint (a x m : Nat) (ha : a < 2 ^ m) (hx : x < 256) (hm : m < 5) : bits .or .u32 (a : Int) ((x : Int) % 4294967296 * 2 ^ m % 4294967296) = ((a + 2 ^ m * x : Nat) : Int) := by
  have h5 : 2 ^ m ≤ 2 ^ 4 := Nat.pow_le_pow_right (by omega) (by omega)
  have hp : 2 ^ m * x ≤ 2 ^ 4 * 255 := Nat.mul_le_mul h5 (by omega)
  have e : ((x : Int) % 4294967296 * 2 ^ m % 4294967296) = ((2 ^ m * x : Nat) : Int) := by
    rw [Int.emod_eq_of_lt (a := (x : Int)) (by omega) (by omega)]
    have : (x : Int) * 2 ^ m = ((2 ^ m * x : Nat) : Int) := by push_cast; exact Int.mul_comm _ _
    rw [this, Int.emod_eq_of_lt (by omega) (by omega)]
  rw [e, u32_or_nat _ _ (by omega) (by omega), Nat.or_comm, ← Nat.two_pow_add_eq_or_of_lt ha, Nat.add_comm]
theorem or_held (h : List UInt8) (k : Nat) (hl : h.length = 20) (hk : k < 20) :
    bits .or .u32 ((heldTo h k (8 * k / 5) : Nat) : Int) (((h[k]?.getD 0).toNat : Int) % 4294967296 * 2 ^ (8 * k - 5 * (8 * k / 5)) % 4294967296) = ((heldTo h (k + 1) (8 * k / 5) : Nat) : Int) := by
  rw [or_disjoint _ _ _ (heldTo_lt h k _ (by omega) (by omega)) (UInt8.toNat_lt _) (by omega), heldTo_byte h k _ (by omega) (by omega)]
  simp [List.getElem?_eq_getElem (show k < h.length by omega)]
/-- the lowest five bits, under a name -/
def lo5 (a : Nat) : Nat := a % 32
theorem lo5_lt (a : Nat) : lo5 a < 32 := Nat.mod_lt _ (by omega)
theorem and31 (a : Nat) (ha : a < 4294967296) : bits .and .u32 (a : Int) 31 = ((lo5 a : Nat) : Int) := by
  rw [show (31 : Int) = ((31 : Nat) : Int) from rfl, u32_and_nat a 31 ha (by omega), Nat.and_two_pow_sub_one_eq_mod a 5]; rfl
theorem letter_at (kd : IntKind) (n : Nat) (hn : n < 32) (w : World) :
    (Instr.index 9 (.string ⟨#[48, 49, 50, 51, 52, 53, 54, 55, 56, 57, 97, 98, 99, 100, 102, 103, 104, 105, 106, 107, 108, 109, 110, 112, 113, 114, 115, 118, 119, 120, 121, 122]⟩) (.int kd (n : Int))).run Try.prog w = .ok (.int .u8 ((letter n).toNat : Int)) w := by
  refine Agg.run_index_str (s := alpha) w Try.underlying9 ?_
  simp [letter, List.getD, List.getElem?_eq_getElem (show n < alpha.length from hn)]
/-- a new Builder, beyond B -/
theorem fresh_builder {T e : TypeId} {B : Nat} (w : World) (b : Nat) (hb : b = w.heap.size) (hB : B ≤ w.heap.size) : Lib.IsBuilderF T e B b [] (w.alloc (.cells #[.pointer none, .slice none 0 0] T)) := by
  subst hb
  refine .inl ⟨hB, .slice none 0 0, ?_, ?_, by simp [Value.ownBlock]⟩
  · exact heap_alloc_new _ _
  · exact World.ownsRowF_of (World.ownsRow_nil _ _ _ _)
set_option maxHeartbeats 400000 in
theorem letters_any (h : List UInt8) (hl : h.length = 20) (w : World) :
    Calls Try.prog 101 #[.agg (hC h)] w fun e w' => e = .returned (.string ⟨(letters h).toArray⟩) ∧ Below w.heap.size w w' := by
  have HL := Lib.hid hl
  have hix := fun k hk w => hC_at h k hl hk w
  clear hl
  go_enter Try.func101, Try.ntmps101
  go_wp2_with (first | (with_reducible refine wpList_load_row rfl 42 _ rfl w.heap.size rfl 42 (hC h) (0, 0) (.array 20 5) ?hg Try.underlying42 rfl ?hs ?_))
  case hg => exact heap_alloc2_old _ _ _
  case hs => rw [hC_size, HL.out]; kernel_rfl
  go_wp2_with fail
  go_loopw [4, 5, 9] (fun c m i wr => ∃ k : Nat, k ≤ 20 ∧ i = .int .i64 k ∧ c = .int .u32 (heldTo h k (8 * k / 5) : Nat) ∧ m = .int .u32 ((8 * k - 5 * (8 * k / 5) : Nat) : Int) ∧
      Lib.IsBuilderF 251 5 (w.heap.size) (w.heap.size + 1) (Lib.byteCells (outTo h k (8 * k / 5))) wr ∧ Below w.heap.size w wr)
    (fun _ _ i _ => 20 - (intOf i).toNat)
  case atStart =>
    refine ⟨0, by omega, rfl, by simp [heldTo, numTo_zero], rfl, ?_, ((Below.refl _ _).alloc (Nat.le_refl _) _).alloc (by simp) _⟩
    exact fresh_builder (w.alloc (.cells (hC h) 42)) (w.heap.size + 1) (by simp) (by simp)
  case round =>
    obtain ⟨k, hk, rfl, rfl, rfl, hB, hw⟩ := hrel
    by_cases hlt : k < 20
    · have hd : decide ((k : Int) < 20) = true := by simp; omega
      go_wp2_with fail
      rw [or_held h k HL.out hlt]
      have hmm : 8 * k - 5 * (8 * k / 5) < 5 := by omega
      go_loopw [4, 5] (fun c m wr => ∃ j : Nat, 5 * j ≤ 8 * (k + 1) ∧ 8 * (k + 1) < 5 * j + 14 ∧ c = .int .u32 (heldTo h (k + 1) j : Nat) ∧ m = .int .u32 ((8 * (k + 1) - 5 * j : Nat) : Int) ∧
        Lib.IsBuilderF 251 5 (w.heap.size) (w.heap.size + 1) (Lib.byteCells (outTo h (k + 1) j)) wr ∧ Below w.heap.size w wr)
        (fun _ m _ => (intOf m).toNat)
      case atStart => exact ⟨8 * k / 5, by omega, by omega, rfl, by rw [show 8 * (k + 1) - 5 * (8 * k / 5) = 8 * k - 5 * (8 * k / 5) + 8 by omega]; go_num, by rw [outTo_byte h k _ (by rw [HL.out]; exact hlt) (by omega)]; exact hB, hw⟩
      case round =>
        obtain ⟨j, hj, hj2, rfl, rfl, hB, hw⟩ := hrel
        by_cases hge : 5 ≤ 8 * (k + 1) - 5 * j
        · have hlt2 : heldTo h (k + 1) j < 4294967296 := by
            have h1 := heldTo_lt h (k + 1) j (by rw [HL.out]; omega) hj
            have h2 : 2 ^ (8 * (k + 1) - 5 * j) ≤ 2 ^ 13 := Nat.pow_le_pow_right (by omega) (by omega)
            omega
          have e31 := and31 _ hlt2
          have hla := letter_at .u32 (lo5 (heldTo h (k + 1) j)) (lo5_lt _)
          go_wp2_with fail
          refine (Try.Builder_WriteByte_k _ _ _ _ _ hB (by simp only [Lib.byteCells, List.length_map, outTo_length]; omega) hw.size).mono ?_
          rintro e w' ⟨rfl, hB', hw', _⟩
          have hB2 : Lib.IsBuilderF 251 5 w.heap.size (w.heap.size + 1) (Lib.byteCells (outTo h (k + 1) (j + 1))) w' := by
            rw [outTo_letter]
            have := hB'
            simp only [Lib.byteCells, List.map_append, List.map_cons, List.map_nil] at this ⊢
            exact .inr this
          clear hB'
          go_wp2_with fail
          go_roundw
          case rel => exact ⟨j + 1, by omega, by omega, by rw [heldTo_letter]; go_num, by rw [show 8 * (k + 1) - 5 * (j + 1) = 8 * (k + 1) - 5 * j - 5 by omega]; go_num, hB2, hw.trans hw'⟩
          case measure => simp [intOf]; omega
        · go_wp2_with fail
          go_roundw
          case rel =>
            have hj : j = 8 * (k + 1) / 5 := by omega
            subst hj
            exact ⟨k + 1, by omega, by go_num, rfl, rfl, hB, hw⟩
          case measure => simp [intOf]; omega
    · obtain rfl : k = 20 := by omega
      go_wp2_with fail
      refine (Try.Builder_String_any_k _ _ _ _ hB hw.size).mono ?_
      rintro e w' ⟨rfl, hB', hw', _⟩
      go_wp2_with fail
      go_ret
      exact ⟨by rw [outTo_end h HL.out]; rfl, hw.trans hw'⟩
end Go.Proofs.Ytpnolgliklmnmaa
