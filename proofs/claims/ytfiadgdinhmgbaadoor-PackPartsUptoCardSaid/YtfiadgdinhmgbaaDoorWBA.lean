/- spencekit.Pick. -/
import Derived.Test.YtfiadgdinhmgbaaDoorWAA
import Derived.Test.YtfiadgdinhmgbaaDoorWAF
namespace Go.Proofs.YtfiadgdinhmgbaaDoor
open Go.RowKit Pl Go.Agg
/-! Pick -/
theorem tmod_gt (x : Int) (n : Nat) (_h : 1 ≤ n) : -(n : Int) < x.tmod n := by
  rcases Int.le_total 0 x with h0 | h0
  · have := Int.tmod_nonneg (n : Int) h0; omega
  · have := Int.tmod_lt_of_pos (-x) (show (0 : Int) < n by omega)
    rw [Int.neg_tmod] at this; omega
set_option maxRecDepth 100000 in
set_option maxHeartbeats 1000000 in
theorem pick_any (x : Int) (n : Nat) (h1 : 1 ≤ n) (hn : n ≤ 1073741824) (w : World) :
    Calls Tryd.prog 22 #[.int .i64 x, .int .i64 (n : Int)] w fun e w' => (∃ k : Nat, k < n ∧ e = .returned (.int .i64 (k : Int))) ∧ w' = w := by
  have hm1 := Int.tmod_lt_of_pos x (show (0 : Int) < (n : Int) by omega)
  have hm2 := tmod_gt x n h1
  have hI : ¬ (n : Int) < 1 := by omega
  have hne : ¬ (n : Int) = 0 := by omega
  obtain ⟨r, hr⟩ : ∃ r, x.tmod (n : Int) = r := ⟨_, rfl⟩
  rw [hr] at hm1 hm2
  go_enter Tryd.func22, Tryd.ntmps22
  by_cases h0 : r < 0
  · obtain ⟨k, hk⟩ : ∃ k : Nat, r + n = (k : Int) := ⟨(r + n).toNat, by omega⟩
    go_wp2_with fail
    go_ret
    exact ⟨⟨k, by omega, by go_num⟩, rfl⟩
  · obtain ⟨k, rfl⟩ : ∃ k : Nat, r = (k : Int) := ⟨r.toNat, by omega⟩
    go_wp2_with fail
    go_ret
    exact ⟨⟨k, by omega, rfl⟩, rfl⟩
end Go.Proofs.YtfiadgdinhmgbaaDoor
