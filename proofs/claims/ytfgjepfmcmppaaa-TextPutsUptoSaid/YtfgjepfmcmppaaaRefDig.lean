/- spenceref17.digits -/
import Derived.Test.YtfgjepfmcmppaaaShown
import Derived.Test.YtfgjepfmcmppaaaSign
namespace Go.Proofs.Ytfgjepfmcmppaaa
open Go.RowKit Pl Go.Agg
theorem hexA_cut : ∀ n, n < 16 → (hexA.take (n + 1)).drop n = [hexd n] := by decide
theorem hexA_len : (⟨#[48, 49, 50, 51, 52, 53, 54, 55, 56, 57, 97, 98, 99, 100, 101, 102]⟩ : ByteArray).size = 16 := rfl
theorem hexA_slice (n : Nat) (hn : n < 16) (W : World) : (Instr.slice 9 (.string ⟨#[48, 49, 50, 51, 52, 53, 54, 55, 56, 57, 97, 98, 99, 100, 101, 102]⟩) (some (.int .u8 (n : Int))) (some (.int .u8 ((n : Int) + 1))) none).run Try.prog W = .ok (.string ⟨[hexd n].toArray⟩) W := by
  have h := Agg.bytes_extract hexA n (n + 1)
  rw [hexA_cut n hn] at h
  rw [run_slice_string_if W 9 _ .u8 .u8 (n : Int) ((n : Int) + 1) Try.underlying9, if_pos ⟨by omega, by rw [hexA_len]; omega⟩, if_pos ⟨by omega, by omega⟩]
  have e1 : (n : Int).toNat = n := by omega
  have e2 : ((n : Int) + 1).toNat = n + 1 := by omega
  rw [e1, e2, ← h]
  rfl
theorem cat3 (a b c : List UInt8) : ((⟨a.toArray⟩ : ByteArray) ++ ⟨b.toArray⟩) ++ ⟨c.toArray⟩ = ⟨(a ++ b ++ c).toArray⟩ := by rw [bytes_append, bytes_append]
theorem strB {a b : ByteArray} (h : a = b) : Value.string a = .string b := by rw [h]
set_option maxRecDepth 100000 in
set_option maxHeartbeats 2000000 in
theorem refDigits_any (v : Value) (b : List UInt8) (hl : b.length ≤ 1048576) (w : World) (hb : BytesAt w v b) :
    Calls Try.prog 44 #[v] w fun e w' => e = .returned (.string ⟨(digs16 b).toArray⟩) ∧ Below w.heap.size w w' := by
  have hlb := bytes_len hb
  have HB := Lib.hid hb
  clear hb
  go_enter Try.func44, Try.ntmps44
  go_wp2_with fail
  go_loopw [4, 5] (fun out i wr => ∃ k : Nat, k ≤ b.length ∧ i = .int .i64 k ∧ out = .string ⟨(hexs (b.take k)).toArray⟩ ∧ Below w.heap.size w wr) (fun _ i _ => b.length - (intOf i).toNat)
  case atStart => exact ⟨0, by omega, rfl, rfl, Below.refl _ _⟩
  case round =>
    obtain ⟨w2, rfl⟩ : ∃ w2 : World, w2 = wr := ⟨_, rfl⟩
    obtain ⟨k, hk, rfl, rfl, hw⟩ := hrel
    by_cases hlt : k < b.length
    · obtain ⟨c, hck⟩ : ∃ c, b[k]? = some c := ⟨_, List.getElem?_eq_getElem hlt⟩
      obtain ⟨p, hadr, hld⟩ := byte_at (HB.out.below hw) k c hck
      have HL := Lib.hid hld
      have HS := Lib.hid (hexs_succ hck)
      have hc0 := c.toNat_lt
      have hhl := hexs_length (b.take k)
      have hkl : (b.take k).length ≤ k := List.length_take_le _ _
      have hs1 := hexA_slice (c.toNat / 16) (by omega)
      have hs2 := hexA_slice (c.toNat % 16) (by omega)
      have hcc : ((c.toNat / 16 : Nat) : Int) = (c.toNat : Int) / 16 := by omega
      have hcd : ((c.toNat % 16 : Nat) : Int) = (c.toNat : Int) % 16 := by omega
      rw [hcc] at hs1
      rw [hcd] at hs2
      have hhb : (hexs (b.take k)).length ≤ 2097152 := by omega
      clear hld hck hcc hcd
      go_wp2_with fail
      try simp only [Act.put, List.setIfInBounds_toArray, List.set_cons_succ, List.set_cons_zero]
      refine Agg.wp_region_later_lit (by kernel_rfl) (by kernel_rfl) ?_
      repeat (first | go_big_quiet_skip | ((first | (with_reducible refine Agg.wpQuiet_loadL HL.out (by kernel_rfl) _ rfl rfl ?_)); simp only [Act.put, List.setIfInBounds_toArray, List.set_cons_succ, List.set_cons_zero]) | go_big_quiet_step (fail))
      refine wpQuiet_nil ?_
      intro _ hw'
      obtain ⟨x1, rfl⟩ := hw'
      go_wp2_with fail
      go_roundw
      case rel => exact ⟨k + 1, by omega, by go_num, by rw [HS.out]; exact strB (by rw [show hex2 c = [hexd (c.toNat / 16)] ++ [hexd (c.toNat % 16)] from rfl, ← List.append_assoc]; exact cat3 _ _ _), Agg.belowThen hw (Nat.le_refl _) x1.h⟩
      case measure => simp [intOf]; omega
    · obtain rfl : k = b.length := by omega
      rw [List.take_length]
      have hta := Agg.bytes_toList (hexs b)
      have hhl := hexs_length b
      by_cases h0 : b = []
      · have HD : Hid (digs16 b = [45]) := Lib.hid (by rw [digs16, if_pos h0])
        have hq : (hexs b).isEmpty = true := by rw [h0]; rfl
        have hq2 : (hexs b == []) = true := by rw [h0]; rfl
        clear h0
        go_wp2_with fail
        go_ret
        exact ⟨ret_str HD.out.symm, hw⟩
      · have HD : Hid (digs16 b = hexs b) := Lib.hid (by rw [digs16, if_neg h0])
        have h1 : hexs b ≠ [] := by
          intro e
          rw [e] at hhl
          have h5 := List.length_pos_iff.2 h0
          simp only [List.length_nil] at hhl
          omega
        have hq : (hexs b).isEmpty = false := by cases h : hexs b <;> simp_all
        have hq2 : (hexs b == []) = false := by simpa using h1
        clear h0 h1
        go_wp2_with fail
        go_ret
        exact ⟨ret_str HD.out.symm, hw⟩
end Go.Proofs.Ytfgjepfmcmppaaa
