/- spencelaw03.awake: true, in whatever world. -/
import Derived.Test.YtfgjepfmcmppaaaRefHash
import Derived.Test.YtfgjepfmcmppaaaAgg2
import Derived.BigGuardPart
namespace Go.Proofs.Ytfgjepfmcmppaaa
open Go.RowKit Pl Go.Agg
def a33 : List UInt8 := 33 :: List.replicate 19 0
theorem a33_text : letters a33 = [49, 49, 48, 48, 48, 48, 48, 48, 48, 48, 48, 48, 48, 48, 48, 48, 48, 48, 48, 48, 48, 48, 48, 48, 48, 48, 48, 48, 48, 48, 48, 48] := by kernel_rfl
theorem build_a33 (w : World) : (Instr.build 38 #[(0, .int .u8 33)]).run Try.prog w = .ok (.agg (hC a33)) w := by kernel_rfl
theorem awake_any (w : World) : Calls Try.prog 22 #[] w fun e w' => e = .returned (.bool true) ∧ Below w.heap.size w w' := by
  have hs : ∀ w, (Instr.slice 9 (.string ⟨(letters a33).toArray⟩) none (some (.int .i64 3)) none).run Try.prog w = .ok (.string ⟨#[49, 49, 48]⟩) w := fun w => by rw [a33_text]; kernel_rfl
  have hlen : ∀ w, (Builtin.len_ #[9] 3 #[.string ⟨(letters a33).toArray⟩]).run Try.prog w = .ok (.int .i64 32) w := fun w => by rw [a33_text]; kernel_rfl
  go_enter Try.func22, Try.ntmps22
  go_wp2_with (first | (with_reducible refine Agg.wpList_build rfl 38 _ rfl (.agg (hC a33)) #[(0, .int .u8 33)] (by kernel_rfl) (build_a33 _) ?_))
  refine (letters_any _ rfl _).mono ?_
  rintro e w1 ⟨rfl, hw1⟩
  go_wp2_with fail
  refine (name_any _ _).mono ?_
  rintro e w2 ⟨rfl, hw2⟩
  rw [show isName [97, 45, 98, 46, 99] = true by kernel_rfl]
  go_wp2_with fail
  refine (name_any _ _).mono ?_
  rintro e w3 ⟨rfl, hw3⟩
  rw [show isName [46, 97] = false by kernel_rfl]
  go_wp2_with fail
  go_ret
  exact ⟨rfl, Agg.belowThen (Agg.belowThen hw1 (Nat.le_refl _) hw2) (Nat.le_refl _) hw3⟩
end Go.Proofs.Ytfgjepfmcmppaaa
