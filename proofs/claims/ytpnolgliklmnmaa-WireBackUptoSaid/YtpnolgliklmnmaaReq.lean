/- wire.parts, has, most, named. -/
import Derived.Test.YtpnolgliklmnmaaWake
import Derived.Test.YtpnolgliklmnmaaParse
namespace Go.Proofs.Ytpnolgliklmnmaa
open Go.RowKit Pl Go.Agg
def partsN (k : Int) : Nat := if k = 1 then 34 else if k = 2 then 32 else if k = 3 then 16 else if k = 4 then 1 else if k = 5 then 6 else if k = 6 then 2 else if k = 9 then 36 else if k = 10 then 8 else 0
theorem partsN_lt (k : Int) : partsN k < 64 := by
  unfold partsN
  repeat' split
  all_goals omega
set_option maxRecDepth 100000 in
set_option maxHeartbeats 1000000 in
theorem parts_any (k : Int) (w : World) : Calls Try.prog 45 #[.int .i64 k] w fun e w' => e = .returned (.int .u8 (partsN k : Int)) ∧ w' = w := by
  unfold partsN
  by_cases h1 : k = 1
  · subst h1
    go_enter Try.func45, Try.ntmps45
    go_wp2_with fail
    go_ret
    exact ⟨rfl, rfl⟩
  · have q1 : (k == 1) = false := by simp [h1]
    by_cases h2 : k = 2
    · subst h2
      go_enter Try.func45, Try.ntmps45
      go_wp2_with fail
      go_ret
      exact ⟨rfl, rfl⟩
    · have q2 : (k == 2) = false := by simp [h2]
      by_cases h3 : k = 3
      · subst h3
        go_enter Try.func45, Try.ntmps45
        go_wp2_with fail
        go_ret
        exact ⟨rfl, rfl⟩
      · have q3 : (k == 3) = false := by simp [h3]
        by_cases h4 : k = 4
        · subst h4
          go_enter Try.func45, Try.ntmps45
          go_wp2_with fail
          go_ret
          exact ⟨rfl, rfl⟩
        · have q4 : (k == 4) = false := by simp [h4]
          by_cases h5 : k = 5
          · subst h5
            go_enter Try.func45, Try.ntmps45
            go_wp2_with fail
            go_ret
            exact ⟨rfl, rfl⟩
          · have q5 : (k == 5) = false := by simp [h5]
            by_cases h6 : k = 6
            · subst h6
              go_enter Try.func45, Try.ntmps45
              go_wp2_with fail
              go_ret
              exact ⟨rfl, rfl⟩
            · have q6 : (k == 6) = false := by simp [h6]
              by_cases h9 : k = 9
              · subst h9
                go_enter Try.func45, Try.ntmps45
                go_wp2_with fail
                go_ret
                exact ⟨rfl, rfl⟩
              · have q9 : (k == 9) = false := by simp [h9]
                by_cases h10 : k = 10
                · subst h10
                  go_enter Try.func45, Try.ntmps45
                  go_wp2_with fail
                  go_ret
                  exact ⟨rfl, rfl⟩
                · have q10 : (k == 10) = false := by simp [h10]
                  rw [if_neg h1, if_neg h2, if_neg h3, if_neg h4, if_neg h5, if_neg h6, if_neg h9, if_neg h10]
                  clear h1 h2 h3 h4 h5 h6 h9 h10
                  go_enter Try.func45, Try.ntmps45
                  go_wp2_with fail
                  go_ret
                  exact ⟨rfl, rfl⟩
def hasN (p c : Nat) : Bool := p &&& c != 0
set_option maxRecDepth 100000 in
theorem has_any (p c : Nat) (hp : p < 256) (hc : c < 256) (w : World) : Calls Try.prog 47 #[.int .u8 (p : Int), .int .u8 (c : Int)] w fun e w' => e = .returned (.bool (hasN p c)) ∧ w' = w := by
  have hb := u8_and_nat p c hp hc
  obtain ⟨x, hx⟩ : ∃ x, p &&& c = x := ⟨_, rfl⟩
  rw [hx] at hb
  have hr : hasN p c = ((x : Int) != 0) := by
    unfold hasN
    rw [hx, Bool.eq_iff_iff]
    simp
  have HR := Lib.hid hr
  clear hx hr
  go_enter Try.func47, Try.ntmps47
  go_wp2_with fail
  go_ret
  exact ⟨by rw [HR.out]; rfl, rfl⟩
def mostN (k : Int) : Nat := if k = 2 then 2000 else if hasN (partsN k) 32 then 4096 else 0
set_option maxRecDepth 100000 in
theorem most_any (k : Int) (w : World) : Calls Try.prog 53 #[.int .i64 k] w fun e w' => e = .returned (.int .i64 (mostN k : Int)) ∧ w' = w := by
  unfold mostN
  by_cases h2 : k = 2
  · subst h2
    go_enter Try.func53, Try.ntmps53
    go_wp2_with fail
    go_ret
    exact ⟨rfl, rfl⟩
  · have q2 : (k == 2) = false := by simp [h2]
    rw [if_neg h2]
    clear h2
    cases hh : hasN (partsN k) 32 with
    | true =>
      have HH := Lib.hid (fun W => (show Calls Try.prog 47 #[.int .u8 (partsN k : Int), .int .u8 32] W fun e w' => e = .returned (.bool true) ∧ w' = W by
        have := has_any (partsN k) 32 (by have := partsN_lt k; omega) (by omega) W
        rw [hh] at this
        exact this))
      clear hh
      simp only [if_true]
      go_enter Try.func53, Try.ntmps53
      go_wp2_with fail
      refine (parts_any k w).mono ?_
      rintro e w1 ⟨rfl, rfl⟩
      go_wp2_with fail
      refine (HH.out w1).mono ?_
      rintro e w2 ⟨rfl, rfl⟩
      go_wp2_with fail
      go_ret
      exact ⟨rfl, rfl⟩
    | false =>
      have HH := Lib.hid (fun W => (show Calls Try.prog 47 #[.int .u8 (partsN k : Int), .int .u8 32] W fun e w' => e = .returned (.bool false) ∧ w' = W by
        have := has_any (partsN k) 32 (by have := partsN_lt k; omega) (by omega) W
        rw [hh] at this
        exact this))
      clear hh
      simp only [Bool.false_eq_true, if_false]
      go_enter Try.func53, Try.ntmps53
      go_wp2_with fail
      refine (parts_any k w).mono ?_
      rintro e w1 ⟨rfl, rfl⟩
      go_wp2_with fail
      refine (HH.out w1).mono ?_
      rintro e w2 ⟨rfl, rfl⟩
      go_wp2_with fail
      go_ret
      exact ⟨rfl, rfl⟩
end Go.Proofs.Ytpnolgliklmnmaa
