/- base.Name and spenceref03.Name: whether a text is a name. -/
import Derived.Test.YtpnolgliklmnmaaSign
namespace Go.Proofs.Ytpnolgliklmnmaa
open Go.RowKit Pl
theorem isName_bad (s : List UInt8) (k : Nat) (hk : k < s.length) (h : sgn s[k] = false) : isName s = false := by
  have : s.all sgn = false := by
    rw [List.all_eq_false]; exact ⟨s[k], List.getElem_mem hk, by simp [h]⟩
  simp [isName, this]
theorem isName_good (s : List UInt8) (h : ∀ k (hk : k < s.length), sgn s[k] = true) : isName s = ((s.length != 0) && decide (s.length ≤ 24) && (s.getD 0 0 != 46)) := by
  have : s.all sgn = true := by
    rw [List.all_eq_true]; intro x hx; obtain ⟨k, hk, rfl⟩ := List.getElem_of_mem hx; exact h k hk
  simp [isName, this]
/-- the range over the text: its next sign -/
theorem next_low (w : World) (s : List UInt8) (k : Nat) (ty : TypeId) (hk : k < s.length) (ha : s[k].toNat < 128) :
    (Instr.next (.pointer (some ⟨w.heap.size, 0, none⟩)) true ty).run Try.prog (w.iter ⟨s.toArray⟩ k) = .ok (.tuple #[.bool true, .int .i64 (k : Int), .int .i32 (s[k].toNat : Int)]) (w.iter ⟨s.toArray⟩ (k + 1)) := by
  have hs : k < (⟨s.toArray⟩ : ByteArray).size := by rw [Agg.bytes_size]; exact hk
  have he : (⟨s.toArray⟩ : ByteArray)[k]'hs = s[k] := by simp [ByteArray.getElem_eq_getElem_data]
  have := run_next_ascii (P := Try.prog) w ⟨s.toArray⟩ k ty hs (by rw [he]; exact ha)
  rw [he] at this
  exact this
theorem next_high (w : World) (s : List UInt8) (k : Nat) (ty : TypeId) (hk : k < s.length) (ha : 128 ≤ s[k].toNat) :
    ∃ (r : Int) (k' : Nat), 128 ≤ r ∧ k < k' ∧ (Instr.next (.pointer (some ⟨w.heap.size, 0, none⟩)) true ty).run Try.prog (w.iter ⟨s.toArray⟩ k) = .ok (.tuple #[.bool true, .int .i64 (k : Int), .int .i32 r]) (w.iter ⟨s.toArray⟩ k') := by
  have hs : k < (⟨s.toArray⟩ : ByteArray).size := by rw [Agg.bytes_size]; exact hk
  have he : (⟨s.toArray⟩ : ByteArray)[k]'hs = s[k] := by simp [ByteArray.getElem_eq_getElem_data]
  obtain ⟨h1, h2⟩ := decode_high ⟨s.toArray⟩ k hs (by rw [he]; exact ha)
  exact ⟨_, _, by exact_mod_cast h1, by omega, run_next_any (P := Try.prog) w ⟨s.toArray⟩ k ty hs⟩
theorem next_end (w : World) (s : List UInt8) (ty : TypeId) :
    (Instr.next (.pointer (some ⟨w.heap.size, 0, none⟩)) true ty).run Try.prog (w.iter ⟨s.toArray⟩ s.length) = .ok (.tuple #[.bool false]) (w.iter ⟨s.toArray⟩ s.length) :=
  run_next_end (P := Try.prog) w ⟨s.toArray⟩ s.length ty (by rw [Agg.bytes_size]; omega)
theorem signR_byte (c : UInt8) (hc : c.toNat < 128) : signR (c.toNat : Int) = sgn c := by
  unfold signR
  rw [if_pos (by omega)]
  exact signN_sgn c hc
theorem below_iter (w : World) (s : ByteArray) (k : Nat) : Below w.heap.size w (w.iter s k) := (Below.refl _ _).alloc (Nat.le_refl _) _
set_option maxRecDepth 100000 in
set_option maxHeartbeats 1000000 in
theorem name_any (s : List UInt8) (w : World) :
    Calls Try.prog 51 #[.string ⟨s.toArray⟩] w fun e w' => e = .returned (.bool (isName s)) ∧ Below w.heap.size w w' := by
  go_enter Try.func51, Try.ntmps51
  go_wp2_with fail
  go_loopw [4] (fun _ wr => ∃ k : Nat, k ≤ s.length ∧ wr = w.iter ⟨s.toArray⟩ k ∧ ∀ j (hj : j < s.length), j < k → sgn s[j] = true) (fun _ wr => s.length - wr.iterPos w.heap.size)
  case atStart => exact ⟨0, by omega, rfl, by intros; omega⟩
  case round =>
    obtain ⟨k, hk, rfl, hg⟩ := hrel
    have HG := Lib.hid hg
    clear hg
    by_cases hlt : k < s.length
    · by_cases hc : s[k].toNat < 128
      · have hn := next_low w s k 0 hlt hc
        cases hsg : sgn s[k] with
        | true =>
          go_wp2_with (go_at_call 93; refine (sign_any _ (by omega) _).mono ?_; rintro e w' ⟨rfl, rfl⟩; rw [signR_byte _ hc, hsg])
          go_roundw
          case rel => exact ⟨k + 1, by omega, rfl, fun j hj h => by
            rcases Nat.lt_or_ge j k with h' | h'
            · exact HG.out j hj h'
            · obtain rfl : j = k := by omega
              exact hsg⟩
          case measure => simp; omega
        | false =>
          go_wp2_with (go_at_call 93; refine (sign_any _ (by omega) _).mono ?_; rintro e w' ⟨rfl, rfl⟩; rw [signR_byte _ hc, hsg])
          go_ret
          exact ⟨ret_bool (isName_bad s k hlt hsg).symm, below_iter _ _ _⟩
      · obtain ⟨r, k', hr, hk', hn⟩ := next_high w s k 0 hlt (by omega)
        have hsg : sgn s[k] = false := by
          cases h : sgn s[k] with
          | true => exact absurd (sgn_small _ h) hc
          | false => rfl
        have HS := Lib.hid hsg
        clear hsg
        go_wp2_with (go_at_call 93; refine (sign_high _ hr _).mono ?_; rintro e w' ⟨rfl, rfl⟩)
        go_ret
        exact ⟨ret_bool (isName_bad s k hlt HS.out).symm, below_iter _ _ _⟩
    · obtain rfl : k = s.length := by omega
      have hn := next_end w s 0
      have hgood := isName_good s (fun j hj => HG.out j hj hj)
      have HI := Lib.hid hgood
      clear hgood
      cases s with
      | nil =>
        simp only [List.length_nil] at hn
        go_wp2_with fail
        go_ret
        exact ⟨ret_bool (by rw [HI.out]; rfl), below_iter _ _ _⟩
      | cons c l =>
        have hix : ∀ w, (Instr.index 9 (.string ⟨(c :: l).toArray⟩) (.int .i64 0)).run Try.prog w = .ok (.int .u8 (c.toNat : Int)) w := fun w => Agg.run_index_str (i := 0) w Try.underlying9 rfl
        simp only [List.length_cons] at hn
        go_wp2_with fail
        all_goals go_ret
        all_goals refine ⟨ret_bool ?_, below_iter _ _ _⟩
        all_goals rw [HI.out]
        · have h24 : (l.length : Int) + 1 ≤ 24 := by assumption
          have e : (((c.toNat : Int)) != 46) = (c != 46) := by
            rw [Bool.eq_iff_iff]; simp only [bne_iff_ne, ne_eq]; rw [← UInt8.toNat_inj]; simp; omega
          simp [e, show l.length + 1 ≤ 24 by omega]
        · have h24 : 24 < (l.length : Int) + 1 := by assumption
          simp [show ¬ l.length + 1 ≤ 24 by omega]
end Go.Proofs.Ytpnolgliklmnmaa
