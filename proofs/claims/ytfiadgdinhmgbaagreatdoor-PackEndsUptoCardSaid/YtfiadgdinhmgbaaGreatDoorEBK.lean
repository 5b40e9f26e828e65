/- Rows of slices and what they hold, as lists. (Several texts in one.) -/
import Derived.Test.YtfiadgdinhmgbaaGreatDoorEAJ
import Derived.Test.YtfiadgdinhmgbaaGreatDoorEAA
import Derived.Test.YtfiadgdinhmgbaaGreatDoorEAE
import Derived.Test.YtfiadgdinhmgbaaGreatDoorEBH
import Derived.Test.YtfiadgdinhmgbaaGreatDoorEAH
/-! spencekit.flatX of no rows. -/
namespace Go.Proofs.YtfiadgdinhmgbaaGreatDoor
open Go.RowKit Pl Go.Agg
theorem wpList_makeE {P : Program} {ops : Array Oper} {rest : List Oper} {o : Oper} {a : Act} {Q : Exit → Act → World → Prop} {w : World} (hg : o.guard = none) (t e : TypeId) (x y : Operand) (ho : o.op = .makeSlice t x y) (hx : a.eval x = .int .i64 0) (hy : a.eval y = .int .i64 0)
  (h1 : P.underlying t = some (.slice e)) (h2 : ((P.info? e).bind (·.zero)).isSome = true) (h : ∀ w', Below w.heap.size w w' → wpList P ops Q rest (a.put o.dst (.slice (some ⟨w.heap.size, 0, none⟩) 0 0)) w') : wpList P ops Q (o :: rest) a w := by
 obtain ⟨z, hz⟩ := Option.isSome_iff_exists.1 h2
 obtain ⟨i, hi, hz⟩ := Option.bind_eq_some_iff.1 hz
 have hr := run_make (P := P) w t e i z h1 hi hz .i64 .i64 0 0 (by omega) (by omega) (by omega) (by omega)
 refine wpList_val hg (v := .slice (some ⟨w.heap.size, 0, none⟩) 0 0) (w' := w.alloc (.cells (madeCells z.cells (0 * i.size)) e)) ?_ (h _ ((Below.refl _ _).alloc (Nat.le_refl _) _))
 simp [execOp, ho, hx, hy, hr]
set_option maxRecDepth 100000 in
set_option maxHeartbeats 1000000 in
theorem flatLimbs_nil (w : World) : Calls Tryz.prog 64 #[.slice none 0 0] w fun e w' => e = .returned (.bool true) ∧ Below w.heap.size w w' := by
 go_enter Tryz.func64, Tryz.ntmps64
 go_wp2_with fail
 go_loopw [3] (fun i wr => i = .int .i64 0 ∧ Below w.heap.size w wr) (fun _ _ => 0)
 case atStart => exact ⟨rfl, Below.refl _ _⟩
 case round =>
 obtain ⟨w1, rfl⟩ : ∃ w2 : World, w2 = wr := ⟨_, rfl⟩
 obtain ⟨rfl, h1⟩ := hrel
 go_wp2_with (first | (with_reducible refine wpList_makeE rfl 68 155 _ _ rfl rfl rfl (by kernel_rfl) (by kernel_rfl) ?_; intro w9 h9))
 go_loopw [6] (fun i wr => i = .int .i64 0 ∧ Below w.heap.size w wr) (fun _ _ => 0)
 case atStart => exact ⟨rfl, belowThen h1 (Nat.le_refl _) h9⟩
 case round =>
 obtain ⟨w2, rfl⟩ : ∃ w2 : World, w2 = wr := ⟨_, rfl⟩
 obtain ⟨rfl, h2⟩ := hrel
 go_wp2_with fail
 go_loopw [9] (fun i wr => i = .int .i64 0 ∧ Below w.heap.size w wr) (fun _ _ => 0)
 case atStart => exact ⟨rfl, h2⟩
 case round =>
 obtain ⟨w3, rfl⟩ : ∃ w2 : World, w2 = wr := ⟨_, rfl⟩
 obtain ⟨rfl, h3⟩ := hrel
 go_wp2_with fail
 go_loopw [11] (fun i wr => i = .int .i64 0 ∧ Below w.heap.size w wr) (fun _ _ => 0)
 case atStart => exact ⟨rfl, h3⟩
 case round =>
 obtain ⟨w4, rfl⟩ : ∃ w2 : World, w2 = wr := ⟨_, rfl⟩
 obtain ⟨rfl, h4⟩ := hrel
 go_wp2_with fail
 go_loopw [14] (fun i wr => i = .int .i64 0 ∧ Below w.heap.size w wr) (fun _ _ => 0)
 case atStart => exact ⟨rfl, h4⟩
 case round =>
 obtain ⟨w5, rfl⟩ : ∃ w2 : World, w2 = wr := ⟨_, rfl⟩
 obtain ⟨rfl, h5⟩ := hrel
 go_wp2_with fail
 go_ret
 exact ⟨rfl, h5⟩
set_option maxRecDepth 100000 in
set_option maxHeartbeats 1000000 in
theorem flatWords_nil (w : World) : Calls Tryz.prog 65 #[.slice none 0 0] w fun e w' => e = .returned (.bool true) ∧ Below w.heap.size w w' := by
 go_enter Tryz.func65, Tryz.ntmps65
 go_wp2_with fail
 go_loopw [3] (fun i wr => i = .int .i64 0 ∧ Below w.heap.size w wr) (fun _ _ => 0)
 case atStart => exact ⟨rfl, Below.refl _ _⟩
 case round =>
 obtain ⟨w1, rfl⟩ : ∃ w2 : World, w2 = wr := ⟨_, rfl⟩
 obtain ⟨rfl, h1⟩ := hrel
 go_wp2_with (first | (with_reducible refine wpList_makeE rfl 69 157 _ _ rfl rfl rfl (by kernel_rfl) (by kernel_rfl) ?_; intro w9 h9))
 go_loopw [6] (fun i wr => i = .int .i64 0 ∧ Below w.heap.size w wr) (fun _ _ => 0)
 case atStart => exact ⟨rfl, belowThen h1 (Nat.le_refl _) h9⟩
 case round =>
 obtain ⟨w2, rfl⟩ : ∃ w2 : World, w2 = wr := ⟨_, rfl⟩
 obtain ⟨rfl, h2⟩ := hrel
 go_wp2_with fail
 go_loopw [9] (fun i wr => i = .int .i64 0 ∧ Below w.heap.size w wr) (fun _ _ => 0)
 case atStart => exact ⟨rfl, h2⟩
 case round =>
 obtain ⟨w3, rfl⟩ : ∃ w2 : World, w2 = wr := ⟨_, rfl⟩
 obtain ⟨rfl, h3⟩ := hrel
 go_wp2_with fail
 go_loopw [11] (fun i wr => i = .int .i64 0 ∧ Below w.heap.size w wr) (fun _ _ => 0)
 case atStart => exact ⟨rfl, h3⟩
 case round =>
 obtain ⟨w4, rfl⟩ : ∃ w2 : World, w2 = wr := ⟨_, rfl⟩
 obtain ⟨rfl, h4⟩ := hrel
 go_wp2_with fail
 go_loopw [14] (fun i wr => i = .int .i64 0 ∧ Below w.heap.size w wr) (fun _ _ => 0)
 case atStart => exact ⟨rfl, h4⟩
 case round =>
 obtain ⟨w5, rfl⟩ : ∃ w2 : World, w2 = wr := ⟨_, rfl⟩
 obtain ⟨rfl, h5⟩ := hrel
 go_wp2_with fail
 go_ret
 exact ⟨rfl, h5⟩
set_option maxRecDepth 100000 in
set_option maxHeartbeats 1000000 in
theorem flatInts_nil (w : World) : Calls Tryz.prog 66 #[.slice none 0 0] w fun e w' => e = .returned (.bool true) ∧ Below w.heap.size w w' := by
 go_enter Tryz.func66, Tryz.ntmps66
 go_wp2_with fail
 go_loopw [3] (fun i wr => i = .int .i64 0 ∧ Below w.heap.size w wr) (fun _ _ => 0)
 case atStart => exact ⟨rfl, Below.refl _ _⟩
 case round =>
 obtain ⟨w1, rfl⟩ : ∃ w2 : World, w2 = wr := ⟨_, rfl⟩
 obtain ⟨rfl, h1⟩ := hrel
 go_wp2_with (first | (with_reducible refine wpList_makeE rfl 70 158 _ _ rfl rfl rfl (by kernel_rfl) (by kernel_rfl) ?_; intro w9 h9))
 go_loopw [6] (fun i wr => i = .int .i64 0 ∧ Below w.heap.size w wr) (fun _ _ => 0)
 case atStart => exact ⟨rfl, belowThen h1 (Nat.le_refl _) h9⟩
 case round =>
 obtain ⟨w2, rfl⟩ : ∃ w2 : World, w2 = wr := ⟨_, rfl⟩
 obtain ⟨rfl, h2⟩ := hrel
 go_wp2_with fail
 go_loopw [9] (fun i wr => i = .int .i64 0 ∧ Below w.heap.size w wr) (fun _ _ => 0)
 case atStart => exact ⟨rfl, h2⟩
 case round =>
 obtain ⟨w3, rfl⟩ : ∃ w2 : World, w2 = wr := ⟨_, rfl⟩
 obtain ⟨rfl, h3⟩ := hrel
 go_wp2_with fail
 go_loopw [11] (fun i wr => i = .int .i64 0 ∧ Below w.heap.size w wr) (fun _ _ => 0)
 case atStart => exact ⟨rfl, h3⟩
 case round =>
 obtain ⟨w4, rfl⟩ : ∃ w2 : World, w2 = wr := ⟨_, rfl⟩
 obtain ⟨rfl, h4⟩ := hrel
 go_wp2_with fail
 go_loopw [14] (fun i wr => i = .int .i64 0 ∧ Below w.heap.size w wr) (fun _ _ => 0)
 case atStart => exact ⟨rfl, h4⟩
 case round =>
 obtain ⟨w5, rfl⟩ : ∃ w2 : World, w2 = wr := ⟨_, rfl⟩
 obtain ⟨rfl, h5⟩ := hrel
 go_wp2_with fail
 go_ret
 exact ⟨rfl, h5⟩
set_option maxRecDepth 100000 in
set_option maxHeartbeats 1000000 in
theorem flatLongs_nil (w : World) : Calls Tryz.prog 67 #[.slice none 0 0] w fun e w' => e = .returned (.bool true) ∧ Below w.heap.size w w' := by
 go_enter Tryz.func67, Tryz.ntmps67
 go_wp2_with fail
 go_loopw [3] (fun i wr => i = .int .i64 0 ∧ Below w.heap.size w wr) (fun _ _ => 0)
 case atStart => exact ⟨rfl, Below.refl _ _⟩
 case round =>
 obtain ⟨w1, rfl⟩ : ∃ w2 : World, w2 = wr := ⟨_, rfl⟩
 obtain ⟨rfl, h1⟩ := hrel
 go_wp2_with (first | (with_reducible refine wpList_makeE rfl 71 159 _ _ rfl rfl rfl (by kernel_rfl) (by kernel_rfl) ?_; intro w9 h9))
 go_loopw [6] (fun i wr => i = .int .i64 0 ∧ Below w.heap.size w wr) (fun _ _ => 0)
 case atStart => exact ⟨rfl, belowThen h1 (Nat.le_refl _) h9⟩
 case round =>
 obtain ⟨w2, rfl⟩ : ∃ w2 : World, w2 = wr := ⟨_, rfl⟩
 obtain ⟨rfl, h2⟩ := hrel
 go_wp2_with fail
 go_loopw [9] (fun i wr => i = .int .i64 0 ∧ Below w.heap.size w wr) (fun _ _ => 0)
 case atStart => exact ⟨rfl, h2⟩
 case round =>
 obtain ⟨w3, rfl⟩ : ∃ w2 : World, w2 = wr := ⟨_, rfl⟩
 obtain ⟨rfl, h3⟩ := hrel
 go_wp2_with fail
 go_loopw [11] (fun i wr => i = .int .i64 0 ∧ Below w.heap.size w wr) (fun _ _ => 0)
 case atStart => exact ⟨rfl, h3⟩
 case round =>
 obtain ⟨w4, rfl⟩ : ∃ w2 : World, w2 = wr := ⟨_, rfl⟩
 obtain ⟨rfl, h4⟩ := hrel
 go_wp2_with fail
 go_loopw [14] (fun i wr => i = .int .i64 0 ∧ Below w.heap.size w wr) (fun _ _ => 0)
 case atStart => exact ⟨rfl, h4⟩
 case round =>
 obtain ⟨w5, rfl⟩ : ∃ w2 : World, w2 = wr := ⟨_, rfl⟩
 obtain ⟨rfl, h5⟩ := hrel
 go_wp2_with fail
 go_ret
 exact ⟨rfl, h5⟩
set_option maxRecDepth 100000 in
set_option maxHeartbeats 1000000 in
theorem flatTexts_nil (w : World) : Calls Tryz.prog 68 #[.slice none 0 0] w fun e w' => e = .returned (.bool true) ∧ Below w.heap.size w w' := by
 go_enter Tryz.func68, Tryz.ntmps68
 go_wp2_with fail
 go_loopw [3] (fun i wr => i = .int .i64 0 ∧ Below w.heap.size w wr) (fun _ _ => 0)
 case atStart => exact ⟨rfl, Below.refl _ _⟩
 case round =>
 obtain ⟨w1, rfl⟩ : ∃ w2 : World, w2 = wr := ⟨_, rfl⟩
 obtain ⟨rfl, h1⟩ := hrel
 go_wp2_with (first | (with_reducible refine wpList_makeE rfl 72 100 _ _ rfl rfl rfl (by kernel_rfl) (by kernel_rfl) ?_; intro w9 h9))
 go_loopw [6] (fun i wr => i = .int .i64 0 ∧ Below w.heap.size w wr) (fun _ _ => 0)
 case atStart => exact ⟨rfl, belowThen h1 (Nat.le_refl _) h9⟩
 case round =>
 obtain ⟨w2, rfl⟩ : ∃ w2 : World, w2 = wr := ⟨_, rfl⟩
 obtain ⟨rfl, h2⟩ := hrel
 go_wp2_with fail
 go_loopw [9] (fun i wr => i = .int .i64 0 ∧ Below w.heap.size w wr) (fun _ _ => 0)
 case atStart => exact ⟨rfl, h2⟩
 case round =>
 obtain ⟨w3, rfl⟩ : ∃ w2 : World, w2 = wr := ⟨_, rfl⟩
 obtain ⟨rfl, h3⟩ := hrel
 go_wp2_with fail
 go_loopw [11] (fun i wr => i = .int .i64 0 ∧ Below w.heap.size w wr) (fun _ _ => 0)
 case atStart => exact ⟨rfl, h3⟩
 case round =>
 obtain ⟨w4, rfl⟩ : ∃ w2 : World, w2 = wr := ⟨_, rfl⟩
 obtain ⟨rfl, h4⟩ := hrel
 go_wp2_with fail
 go_loopw [14] (fun i wr => i = .int .i64 0 ∧ Below w.heap.size w wr) (fun _ _ => 0)
 case atStart => exact ⟨rfl, h4⟩
 case round =>
 obtain ⟨w5, rfl⟩ : ∃ w2 : World, w2 = wr := ⟨_, rfl⟩
 obtain ⟨rfl, h5⟩ := hrel
 go_wp2_with fail
 go_ret
 exact ⟨rfl, h5⟩
set_option maxRecDepth 100000 in
set_option maxHeartbeats 1000000 in
theorem flatTruths_nil (w : World) : Calls Tryz.prog 70 #[.slice none 0 0] w fun e w' => e = .returned (.bool true) ∧ Below w.heap.size w w' := by
 go_enter Tryz.func70, Tryz.ntmps70
 go_wp2_with fail
 go_loopw [3] (fun i wr => i = .int .i64 0 ∧ Below w.heap.size w wr) (fun _ _ => 0)
 case atStart => exact ⟨rfl, Below.refl _ _⟩
 case round =>
 obtain ⟨w1, rfl⟩ : ∃ w2 : World, w2 = wr := ⟨_, rfl⟩
 obtain ⟨rfl, h1⟩ := hrel
 go_wp2_with (first | (with_reducible refine wpList_makeE rfl 73 160 _ _ rfl rfl rfl (by kernel_rfl) (by kernel_rfl) ?_; intro w9 h9))
 go_loopw [6] (fun i wr => i = .int .i64 0 ∧ Below w.heap.size w wr) (fun _ _ => 0)
 case atStart => exact ⟨rfl, belowThen h1 (Nat.le_refl _) h9⟩
 case round =>
 obtain ⟨w2, rfl⟩ : ∃ w2 : World, w2 = wr := ⟨_, rfl⟩
 obtain ⟨rfl, h2⟩ := hrel
 go_wp2_with fail
 go_loopw [9] (fun i wr => i = .int .i64 0 ∧ Below w.heap.size w wr) (fun _ _ => 0)
 case atStart => exact ⟨rfl, h2⟩
 case round =>
 obtain ⟨w3, rfl⟩ : ∃ w2 : World, w2 = wr := ⟨_, rfl⟩
 obtain ⟨rfl, h3⟩ := hrel
 go_wp2_with fail
 go_loopw [11] (fun i wr => i = .int .i64 0 ∧ Below w.heap.size w wr) (fun _ _ => 0)
 case atStart => exact ⟨rfl, h3⟩
 case round =>
 obtain ⟨w4, rfl⟩ : ∃ w2 : World, w2 = wr := ⟨_, rfl⟩
 obtain ⟨rfl, h4⟩ := hrel
 go_wp2_with fail
 go_loopw [14] (fun i wr => i = .int .i64 0 ∧ Below w.heap.size w wr) (fun _ _ => 0)
 case atStart => exact ⟨rfl, h4⟩
 case round =>
 obtain ⟨w5, rfl⟩ : ∃ w2 : World, w2 = wr := ⟨_, rfl⟩
 obtain ⟨rfl, h5⟩ := hrel
 go_wp2_with fail
 go_ret
 exact ⟨rfl, h5⟩
set_option maxRecDepth 100000 in
set_option maxHeartbeats 1000000 in
theorem flatPaths_nil (w : World) : Calls Tryz.prog 71 #[.slice none 0 0] w fun e w' => e = .returned (.bool true) ∧ Below w.heap.size w w' := by
 go_enter Tryz.func71, Tryz.ntmps71
 go_wp2_with fail
 go_loopw [3] (fun i wr => i = .int .i64 0 ∧ Below w.heap.size w wr) (fun _ _ => 0)
 case atStart => exact ⟨rfl, Below.refl _ _⟩
 case round =>
 obtain ⟨w1, rfl⟩ : ∃ w2 : World, w2 = wr := ⟨_, rfl⟩
 obtain ⟨rfl, h1⟩ := hrel
 go_wp2_with (first | (with_reducible refine wpList_makeE rfl 74 161 _ _ rfl rfl rfl (by kernel_rfl) (by kernel_rfl) ?_; intro w9 h9))
 go_loopw [6] (fun i wr => i = .int .i64 0 ∧ Below w.heap.size w wr) (fun _ _ => 0)
 case atStart => exact ⟨rfl, belowThen h1 (Nat.le_refl _) h9⟩
 case round =>
 obtain ⟨w2, rfl⟩ : ∃ w2 : World, w2 = wr := ⟨_, rfl⟩
 obtain ⟨rfl, h2⟩ := hrel
 go_wp2_with fail
 go_loopw [9] (fun i wr => i = .int .i64 0 ∧ Below w.heap.size w wr) (fun _ _ => 0)
 case atStart => exact ⟨rfl, h2⟩
 case round =>
 obtain ⟨w3, rfl⟩ : ∃ w2 : World, w2 = wr := ⟨_, rfl⟩
 obtain ⟨rfl, h3⟩ := hrel
 go_wp2_with fail
 go_loopw [11] (fun i wr => i = .int .i64 0 ∧ Below w.heap.size w wr) (fun _ _ => 0)
 case atStart => exact ⟨rfl, h3⟩
 case round =>
 obtain ⟨w4, rfl⟩ : ∃ w2 : World, w2 = wr := ⟨_, rfl⟩
 obtain ⟨rfl, h4⟩ := hrel
 go_wp2_with fail
 go_loopw [14] (fun i wr => i = .int .i64 0 ∧ Below w.heap.size w wr) (fun _ _ => 0)
 case atStart => exact ⟨rfl, h4⟩
 case round =>
 obtain ⟨w5, rfl⟩ : ∃ w2 : World, w2 = wr := ⟨_, rfl⟩
 obtain ⟨rfl, h5⟩ := hrel
 go_wp2_with fail
 go_ret
 exact ⟨rfl, h5⟩
set_option maxRecDepth 100000 in
set_option maxHeartbeats 1000000 in
theorem flatKids_nil (w : World) : Calls Tryz.prog 72 #[.slice none 0 0] w fun e w' => e = .returned (.bool true) ∧ Below w.heap.size w w' := by
 go_enter Tryz.func72, Tryz.ntmps72
 go_wp2_with fail
 go_loopw [3] (fun i wr => i = .int .i64 0 ∧ Below w.heap.size w wr) (fun _ _ => 0)
 case atStart => exact ⟨rfl, Below.refl _ _⟩
 case round =>
 obtain ⟨w1, rfl⟩ : ∃ w2 : World, w2 = wr := ⟨_, rfl⟩
 obtain ⟨rfl, h1⟩ := hrel
 go_wp2_with (first | (with_reducible refine wpList_makeE rfl 75 24 _ _ rfl rfl rfl (by kernel_rfl) (by kernel_rfl) ?_; intro w9 h9))
 go_loopw [6] (fun i wr => i = .int .i64 0 ∧ Below w.heap.size w wr) (fun _ _ => 0)
 case atStart => exact ⟨rfl, belowThen h1 (Nat.le_refl _) h9⟩
 case round =>
 obtain ⟨w2, rfl⟩ : ∃ w2 : World, w2 = wr := ⟨_, rfl⟩
 obtain ⟨rfl, h2⟩ := hrel
 go_wp2_with fail
 go_loopw [9] (fun i wr => i = .int .i64 0 ∧ Below w.heap.size w wr) (fun _ _ => 0)
 case atStart => exact ⟨rfl, h2⟩
 case round =>
 obtain ⟨w3, rfl⟩ : ∃ w2 : World, w2 = wr := ⟨_, rfl⟩
 obtain ⟨rfl, h3⟩ := hrel
 go_wp2_with fail
 go_loopw [11] (fun i wr => i = .int .i64 0 ∧ Below w.heap.size w wr) (fun _ _ => 0)
 case atStart => exact ⟨rfl, h3⟩
 case round =>
 obtain ⟨w4, rfl⟩ : ∃ w2 : World, w2 = wr := ⟨_, rfl⟩
 obtain ⟨rfl, h4⟩ := hrel
 go_wp2_with fail
 go_loopw [14] (fun i wr => i = .int .i64 0 ∧ Below w.heap.size w wr) (fun _ _ => 0)
 case atStart => exact ⟨rfl, h4⟩
 case round =>
 obtain ⟨w5, rfl⟩ : ∃ w2 : World, w2 = wr := ⟨_, rfl⟩
 obtain ⟨rfl, h5⟩ := hrel
 go_wp2_with fail
 go_ret
 exact ⟨rfl, h5⟩
set_option maxRecDepth 100000 in
set_option maxHeartbeats 1000000 in
theorem flatNodes_nil (w : World) : Calls Tryz.prog 73 #[.slice none 0 0] w fun e w' => e = .returned (.bool true) ∧ Below w.heap.size w w' := by
 go_enter Tryz.func73, Tryz.ntmps73
 go_wp2_with fail
 go_loopw [3] (fun i wr => i = .int .i64 0 ∧ Below w.heap.size w wr) (fun _ _ => 0)
 case atStart => exact ⟨rfl, Below.refl _ _⟩
 case round =>
 obtain ⟨w1, rfl⟩ : ∃ w2 : World, w2 = wr := ⟨_, rfl⟩
 obtain ⟨rfl, h1⟩ := hrel
 go_wp2_with (first | (with_reducible refine wpList_makeE rfl 76 167 _ _ rfl rfl rfl (by kernel_rfl) (by kernel_rfl) ?_; intro w9 h9))
 go_loopw [6] (fun i wr => i = .int .i64 0 ∧ Below w.heap.size w wr) (fun _ _ => 0)
 case atStart => exact ⟨rfl, belowThen h1 (Nat.le_refl _) h9⟩
 case round =>
 obtain ⟨w2, rfl⟩ : ∃ w2 : World, w2 = wr := ⟨_, rfl⟩
 obtain ⟨rfl, h2⟩ := hrel
 go_wp2_with fail
 go_loopw [9] (fun i wr => i = .int .i64 0 ∧ Below w.heap.size w wr) (fun _ _ => 0)
 case atStart => exact ⟨rfl, h2⟩
 case round =>
 obtain ⟨w3, rfl⟩ : ∃ w2 : World, w2 = wr := ⟨_, rfl⟩
 obtain ⟨rfl, h3⟩ := hrel
 go_wp2_with fail
 go_loopw [11] (fun i wr => i = .int .i64 0 ∧ Below w.heap.size w wr) (fun _ _ => 0)
 case atStart => exact ⟨rfl, h3⟩
 case round =>
 obtain ⟨w4, rfl⟩ : ∃ w2 : World, w2 = wr := ⟨_, rfl⟩
 obtain ⟨rfl, h4⟩ := hrel
 go_wp2_with fail
 go_loopw [14] (fun i wr => i = .int .i64 0 ∧ Below w.heap.size w wr) (fun _ _ => 0)
 case atStart => exact ⟨rfl, h4⟩
 case round =>
 obtain ⟨w5, rfl⟩ : ∃ w2 : World, w2 = wr := ⟨_, rfl⟩
 obtain ⟨rfl, h5⟩ := hrel
 go_wp2_with fail
 go_ret
 exact ⟨rfl, h5⟩
set_option maxRecDepth 100000 in
set_option maxHeartbeats 1000000 in
theorem flatLines_nil (w : World) : Calls Tryz.prog 74 #[.slice none 0 0] w fun e w' => e = .returned (.bool true) ∧ Below w.heap.size w w' := by
 go_enter Tryz.func74, Tryz.ntmps74
 go_wp2_with fail
 go_loopw [3] (fun i wr => i = .int .i64 0 ∧ Below w.heap.size w wr) (fun _ _ => 0)
 case atStart => exact ⟨rfl, Below.refl _ _⟩
 case round =>
 obtain ⟨w1, rfl⟩ : ∃ w2 : World, w2 = wr := ⟨_, rfl⟩
 obtain ⟨rfl, h1⟩ := hrel
 go_wp2_with (first | (with_reducible refine wpList_makeE rfl 77 169 _ _ rfl rfl rfl (by kernel_rfl) (by kernel_rfl) ?_; intro w9 h9))
 go_loopw [6] (fun i wr => i = .int .i64 0 ∧ Below w.heap.size w wr) (fun _ _ => 0)
 case atStart => exact ⟨rfl, belowThen h1 (Nat.le_refl _) h9⟩
 case round =>
 obtain ⟨w2, rfl⟩ : ∃ w2 : World, w2 = wr := ⟨_, rfl⟩
 obtain ⟨rfl, h2⟩ := hrel
 go_wp2_with fail
 go_loopw [9] (fun i wr => i = .int .i64 0 ∧ Below w.heap.size w wr) (fun _ _ => 0)
 case atStart => exact ⟨rfl, h2⟩
 case round =>
 obtain ⟨w3, rfl⟩ : ∃ w2 : World, w2 = wr := ⟨_, rfl⟩
 obtain ⟨rfl, h3⟩ := hrel
 go_wp2_with fail
 go_loopw [11] (fun i wr => i = .int .i64 0 ∧ Below w.heap.size w wr) (fun _ _ => 0)
 case atStart => exact ⟨rfl, h3⟩
 case round =>
 obtain ⟨w4, rfl⟩ : ∃ w2 : World, w2 = wr := ⟨_, rfl⟩
 obtain ⟨rfl, h4⟩ := hrel
 go_wp2_with fail
 go_loopw [14] (fun i wr => i = .int .i64 0 ∧ Below w.heap.size w wr) (fun _ _ => 0)
 case atStart => exact ⟨rfl, h4⟩
 case round =>
 obtain ⟨w5, rfl⟩ : ∃ w2 : World, w2 = wr := ⟨_, rfl⟩
 obtain ⟨rfl, h5⟩ := hrel
 go_wp2_with fail
 go_ret
 exact ⟨rfl, h5⟩
set_option maxRecDepth 100000 in
set_option maxHeartbeats 1000000 in
theorem flatChanges_nil (w : World) : Calls Tryz.prog 75 #[.slice none 0 0] w fun e w' => e = .returned (.bool true) ∧ Below w.heap.size w w' := by
 go_enter Tryz.func75, Tryz.ntmps75
 go_wp2_with fail
 go_loopw [3] (fun i wr => i = .int .i64 0 ∧ Below w.heap.size w wr) (fun _ _ => 0)
 case atStart => exact ⟨rfl, Below.refl _ _⟩
 case round =>
 obtain ⟨w1, rfl⟩ : ∃ w2 : World, w2 = wr := ⟨_, rfl⟩
 obtain ⟨rfl, h1⟩ := hrel
 go_wp2_with (first | (with_reducible refine wpList_makeE rfl 78 174 _ _ rfl rfl rfl (by kernel_rfl) (by kernel_rfl) ?_; intro w9 h9))
 go_loopw [6] (fun i wr => i = .int .i64 0 ∧ Below w.heap.size w wr) (fun _ _ => 0)
 case atStart => exact ⟨rfl, belowThen h1 (Nat.le_refl _) h9⟩
 case round =>
 obtain ⟨w2, rfl⟩ : ∃ w2 : World, w2 = wr := ⟨_, rfl⟩
 obtain ⟨rfl, h2⟩ := hrel
 go_wp2_with fail
 go_loopw [9] (fun i wr => i = .int .i64 0 ∧ Below w.heap.size w wr) (fun _ _ => 0)
 case atStart => exact ⟨rfl, h2⟩
 case round =>
 obtain ⟨w3, rfl⟩ : ∃ w2 : World, w2 = wr := ⟨_, rfl⟩
 obtain ⟨rfl, h3⟩ := hrel
 go_wp2_with fail
 go_loopw [11] (fun i wr => i = .int .i64 0 ∧ Below w.heap.size w wr) (fun _ _ => 0)
 case atStart => exact ⟨rfl, h3⟩
 case round =>
 obtain ⟨w4, rfl⟩ : ∃ w2 : World, w2 = wr := ⟨_, rfl⟩
 obtain ⟨rfl, h4⟩ := hrel
 go_wp2_with fail
 go_loopw [14] (fun i wr => i = .int .i64 0 ∧ Below w.heap.size w wr) (fun _ _ => 0)
 case atStart => exact ⟨rfl, h4⟩
 case round =>
 obtain ⟨w5, rfl⟩ : ∃ w2 : World, w2 = wr := ⟨_, rfl⟩
 obtain ⟨rfl, h5⟩ := hrel
 go_wp2_with fail
 go_ret
 exact ⟨rfl, h5⟩
set_option maxRecDepth 100000 in
set_option maxHeartbeats 1000000 in
theorem flatRuns_nil (w : World) : Calls Tryz.prog 76 #[.slice none 0 0] w fun e w' => e = .returned (.bool true) ∧ Below w.heap.size w w' := by
 go_enter Tryz.func76, Tryz.ntmps76
 go_wp2_with fail
 go_loopw [3] (fun i wr => i = .int .i64 0 ∧ Below w.heap.size w wr) (fun _ _ => 0)
 case atStart => exact ⟨rfl, Below.refl _ _⟩
 case round =>
 obtain ⟨w1, rfl⟩ : ∃ w2 : World, w2 = wr := ⟨_, rfl⟩
 obtain ⟨rfl, h1⟩ := hrel
 go_wp2_with (first | (with_reducible refine wpList_makeE rfl 79 179 _ _ rfl rfl rfl (by kernel_rfl) (by kernel_rfl) ?_; intro w9 h9))
 go_loopw [6] (fun i wr => i = .int .i64 0 ∧ Below w.heap.size w wr) (fun _ _ => 0)
 case atStart => exact ⟨rfl, belowThen h1 (Nat.le_refl _) h9⟩
 case round =>
 obtain ⟨w2, rfl⟩ : ∃ w2 : World, w2 = wr := ⟨_, rfl⟩
 obtain ⟨rfl, h2⟩ := hrel
 go_wp2_with fail
 go_loopw [9] (fun i wr => i = .int .i64 0 ∧ Below w.heap.size w wr) (fun _ _ => 0)
 case atStart => exact ⟨rfl, h2⟩
 case round =>
 obtain ⟨w3, rfl⟩ : ∃ w2 : World, w2 = wr := ⟨_, rfl⟩
 obtain ⟨rfl, h3⟩ := hrel
 go_wp2_with fail
 go_loopw [11] (fun i wr => i = .int .i64 0 ∧ Below w.heap.size w wr) (fun _ _ => 0)
 case atStart => exact ⟨rfl, h3⟩
 case round =>
 obtain ⟨w4, rfl⟩ : ∃ w2 : World, w2 = wr := ⟨_, rfl⟩
 obtain ⟨rfl, h4⟩ := hrel
 go_wp2_with fail
 go_loopw [14] (fun i wr => i = .int .i64 0 ∧ Below w.heap.size w wr) (fun _ _ => 0)
 case atStart => exact ⟨rfl, h4⟩
 case round =>
 obtain ⟨w5, rfl⟩ : ∃ w2 : World, w2 = wr := ⟨_, rfl⟩
 obtain ⟨rfl, h5⟩ := hrel
 go_wp2_with fail
 go_ret
 exact ⟨rfl, h5⟩
set_option maxRecDepth 100000 in
set_option maxHeartbeats 1000000 in
theorem flatObjects_nil (w : World) : Calls Tryz.prog 77 #[.slice none 0 0] w fun e w' => e = .returned (.bool true) ∧ Below w.heap.size w w' := by
 go_enter Tryz.func77, Tryz.ntmps77
 go_wp2_with fail
 go_loopw [3] (fun i wr => i = .int .i64 0 ∧ Below w.heap.size w wr) (fun _ _ => 0)
 case atStart => exact ⟨rfl, Below.refl _ _⟩
 case round =>
 obtain ⟨w1, rfl⟩ : ∃ w2 : World, w2 = wr := ⟨_, rfl⟩
 obtain ⟨rfl, h1⟩ := hrel
 go_wp2_with (first | (with_reducible refine wpList_makeE rfl 80 183 _ _ rfl rfl rfl (by kernel_rfl) (by kernel_rfl) ?_; intro w9 h9))
 go_loopw [6] (fun i wr => i = .int .i64 0 ∧ Below w.heap.size w wr) (fun _ _ => 0)
 case atStart => exact ⟨rfl, belowThen h1 (Nat.le_refl _) h9⟩
 case round =>
 obtain ⟨w2, rfl⟩ : ∃ w2 : World, w2 = wr := ⟨_, rfl⟩
 obtain ⟨rfl, h2⟩ := hrel
 go_wp2_with fail
 go_loopw [9] (fun i wr => i = .int .i64 0 ∧ Below w.heap.size w wr) (fun _ _ => 0)
 case atStart => exact ⟨rfl, h2⟩
 case round =>
 obtain ⟨w3, rfl⟩ : ∃ w2 : World, w2 = wr := ⟨_, rfl⟩
 obtain ⟨rfl, h3⟩ := hrel
 go_wp2_with fail
 go_loopw [11] (fun i wr => i = .int .i64 0 ∧ Below w.heap.size w wr) (fun _ _ => 0)
 case atStart => exact ⟨rfl, h3⟩
 case round =>
 obtain ⟨w4, rfl⟩ : ∃ w2 : World, w2 = wr := ⟨_, rfl⟩
 obtain ⟨rfl, h4⟩ := hrel
 go_wp2_with fail
 go_loopw [14] (fun i wr => i = .int .i64 0 ∧ Below w.heap.size w wr) (fun _ _ => 0)
 case atStart => exact ⟨rfl, h4⟩
 case round =>
 obtain ⟨w5, rfl⟩ : ∃ w2 : World, w2 = wr := ⟨_, rfl⟩
 obtain ⟨rfl, h5⟩ := hrel
 go_wp2_with fail
 go_ret
 exact ⟨rfl, h5⟩
set_option maxRecDepth 100000 in
set_option maxHeartbeats 1000000 in
theorem flatQuotas_nil (w : World) : Calls Tryz.prog 78 #[.slice none 0 0] w fun e w' => e = .returned (.bool true) ∧ Below w.heap.size w w' := by
 go_enter Tryz.func78, Tryz.ntmps78
 go_wp2_with fail
 go_loopw [3] (fun i wr => i = .int .i64 0 ∧ Below w.heap.size w wr) (fun _ _ => 0)
 case atStart => exact ⟨rfl, Below.refl _ _⟩
 case round =>
 obtain ⟨w1, rfl⟩ : ∃ w2 : World, w2 = wr := ⟨_, rfl⟩
 obtain ⟨rfl, h1⟩ := hrel
 go_wp2_with (first | (with_reducible refine wpList_makeE rfl 81 188 _ _ rfl rfl rfl (by kernel_rfl) (by kernel_rfl) ?_; intro w9 h9))
 go_loopw [6] (fun i wr => i = .int .i64 0 ∧ Below w.heap.size w wr) (fun _ _ => 0)
 case atStart => exact ⟨rfl, belowThen h1 (Nat.le_refl _) h9⟩
 case round =>
 obtain ⟨w2, rfl⟩ : ∃ w2 : World, w2 = wr := ⟨_, rfl⟩
 obtain ⟨rfl, h2⟩ := hrel
 go_wp2_with fail
 go_loopw [9] (fun i wr => i = .int .i64 0 ∧ Below w.heap.size w wr) (fun _ _ => 0)
 case atStart => exact ⟨rfl, h2⟩
 case round =>
 obtain ⟨w3, rfl⟩ : ∃ w2 : World, w2 = wr := ⟨_, rfl⟩
 obtain ⟨rfl, h3⟩ := hrel
 go_wp2_with fail
 go_loopw [11] (fun i wr => i = .int .i64 0 ∧ Below w.heap.size w wr) (fun _ _ => 0)
 case atStart => exact ⟨rfl, h3⟩
 case round =>
 obtain ⟨w4, rfl⟩ : ∃ w2 : World, w2 = wr := ⟨_, rfl⟩
 obtain ⟨rfl, h4⟩ := hrel
 go_wp2_with fail
 go_loopw [14] (fun i wr => i = .int .i64 0 ∧ Below w.heap.size w wr) (fun _ _ => 0)
 case atStart => exact ⟨rfl, h4⟩
 case round =>
 obtain ⟨w5, rfl⟩ : ∃ w2 : World, w2 = wr := ⟨_, rfl⟩
 obtain ⟨rfl, h5⟩ := hrel
 go_wp2_with fail
 go_ret
 exact ⟨rfl, h5⟩
set_option maxRecDepth 100000 in
set_option maxHeartbeats 1000000 in
theorem flatNameds_nil (w : World) : Calls Tryz.prog 79 #[.slice none 0 0] w fun e w' => e = .returned (.bool true) ∧ Below w.heap.size w w' := by
 go_enter Tryz.func79, Tryz.ntmps79
 go_wp2_with fail
 go_loopw [3] (fun i wr => i = .int .i64 0 ∧ Below w.heap.size w wr) (fun _ _ => 0)
 case atStart => exact ⟨rfl, Below.refl _ _⟩
 case round =>
 obtain ⟨w1, rfl⟩ : ∃ w2 : World, w2 = wr := ⟨_, rfl⟩
 obtain ⟨rfl, h1⟩ := hrel
 go_wp2_with (first | (with_reducible refine wpList_makeE rfl 82 192 _ _ rfl rfl rfl (by kernel_rfl) (by kernel_rfl) ?_; intro w9 h9))
 go_loopw [6] (fun i wr => i = .int .i64 0 ∧ Below w.heap.size w wr) (fun _ _ => 0)
 case atStart => exact ⟨rfl, belowThen h1 (Nat.le_refl _) h9⟩
 case round =>
 obtain ⟨w2, rfl⟩ : ∃ w2 : World, w2 = wr := ⟨_, rfl⟩
 obtain ⟨rfl, h2⟩ := hrel
 go_wp2_with fail
 go_loopw [9] (fun i wr => i = .int .i64 0 ∧ Below w.heap.size w wr) (fun _ _ => 0)
 case atStart => exact ⟨rfl, h2⟩
 case round =>
 obtain ⟨w3, rfl⟩ : ∃ w2 : World, w2 = wr := ⟨_, rfl⟩
 obtain ⟨rfl, h3⟩ := hrel
 go_wp2_with fail
 go_loopw [11] (fun i wr => i = .int .i64 0 ∧ Below w.heap.size w wr) (fun _ _ => 0)
 case atStart => exact ⟨rfl, h3⟩
 case round =>
 obtain ⟨w4, rfl⟩ : ∃ w2 : World, w2 = wr := ⟨_, rfl⟩
 obtain ⟨rfl, h4⟩ := hrel
 go_wp2_with fail
 go_loopw [14] (fun i wr => i = .int .i64 0 ∧ Below w.heap.size w wr) (fun _ _ => 0)
 case atStart => exact ⟨rfl, h4⟩
 case round =>
 obtain ⟨w5, rfl⟩ : ∃ w2 : World, w2 = wr := ⟨_, rfl⟩
 obtain ⟨rfl, h5⟩ := hrel
 go_wp2_with fail
 go_ret
 exact ⟨rfl, h5⟩
set_option maxRecDepth 100000 in
set_option maxHeartbeats 1000000 in
theorem flatDrvs_nil (w : World) : Calls Tryz.prog 80 #[.slice none 0 0] w fun e w' => e = .returned (.bool true) ∧ Below w.heap.size w w' := by
 go_enter Tryz.func80, Tryz.ntmps80
 go_wp2_with fail
 go_loopw [3] (fun i wr => i = .int .i64 0 ∧ Below w.heap.size w wr) (fun _ _ => 0)
 case atStart => exact ⟨rfl, Below.refl _ _⟩
 case round =>
 obtain ⟨w1, rfl⟩ : ∃ w2 : World, w2 = wr := ⟨_, rfl⟩
 obtain ⟨rfl, h1⟩ := hrel
 go_wp2_with (first | (with_reducible refine wpList_makeE rfl 83 198 _ _ rfl rfl rfl (by kernel_rfl) (by kernel_rfl) ?_; intro w9 h9))
 go_loopw [6] (fun i wr => i = .int .i64 0 ∧ Below w.heap.size w wr) (fun _ _ => 0)
 case atStart => exact ⟨rfl, belowThen h1 (Nat.le_refl _) h9⟩
 case round =>
 obtain ⟨w2, rfl⟩ : ∃ w2 : World, w2 = wr := ⟨_, rfl⟩
 obtain ⟨rfl, h2⟩ := hrel
 go_wp2_with fail
 go_loopw [9] (fun i wr => i = .int .i64 0 ∧ Below w.heap.size w wr) (fun _ _ => 0)
 case atStart => exact ⟨rfl, h2⟩
 case round =>
 obtain ⟨w3, rfl⟩ : ∃ w2 : World, w2 = wr := ⟨_, rfl⟩
 obtain ⟨rfl, h3⟩ := hrel
 go_wp2_with fail
 go_loopw [11] (fun i wr => i = .int .i64 0 ∧ Below w.heap.size w wr) (fun _ _ => 0)
 case atStart => exact ⟨rfl, h3⟩
 case round =>
 obtain ⟨w4, rfl⟩ : ∃ w2 : World, w2 = wr := ⟨_, rfl⟩
 obtain ⟨rfl, h4⟩ := hrel
 go_wp2_with fail
 go_loopw [14] (fun i wr => i = .int .i64 0 ∧ Below w.heap.size w wr) (fun _ _ => 0)
 case atStart => exact ⟨rfl, h4⟩
 case round =>
 obtain ⟨w5, rfl⟩ : ∃ w2 : World, w2 = wr := ⟨_, rfl⟩
 obtain ⟨rfl, h5⟩ := hrel
 go_wp2_with fail
 go_ret
 exact ⟨rfl, h5⟩
set_option maxRecDepth 100000 in
set_option maxHeartbeats 1000000 in
theorem flatMades_nil (w : World) : Calls Tryz.prog 81 #[.slice none 0 0] w fun e w' => e = .returned (.bool true) ∧ Below w.heap.size w w' := by
 go_enter Tryz.func81, Tryz.ntmps81
 go_wp2_with fail
 go_loopw [3] (fun i wr => i = .int .i64 0 ∧ Below w.heap.size w wr) (fun _ _ => 0)
 case atStart => exact ⟨rfl, Below.refl _ _⟩
 case round =>
 obtain ⟨w1, rfl⟩ : ∃ w2 : World, w2 = wr := ⟨_, rfl⟩
 obtain ⟨rfl, h1⟩ := hrel
 go_wp2_with (first | (with_reducible refine wpList_makeE rfl 84 203 _ _ rfl rfl rfl (by kernel_rfl) (by kernel_rfl) ?_; intro w9 h9))
 go_loopw [6] (fun i wr => i = .int .i64 0 ∧ Below w.heap.size w wr) (fun _ _ => 0)
 case atStart => exact ⟨rfl, belowThen h1 (Nat.le_refl _) h9⟩
 case round =>
 obtain ⟨w2, rfl⟩ : ∃ w2 : World, w2 = wr := ⟨_, rfl⟩
 obtain ⟨rfl, h2⟩ := hrel
 go_wp2_with fail
 go_loopw [9] (fun i wr => i = .int .i64 0 ∧ Below w.heap.size w wr) (fun _ _ => 0)
 case atStart => exact ⟨rfl, h2⟩
 case round =>
 obtain ⟨w3, rfl⟩ : ∃ w2 : World, w2 = wr := ⟨_, rfl⟩
 obtain ⟨rfl, h3⟩ := hrel
 go_wp2_with fail
 go_loopw [11] (fun i wr => i = .int .i64 0 ∧ Below w.heap.size w wr) (fun _ _ => 0)
 case atStart => exact ⟨rfl, h3⟩
 case round =>
 obtain ⟨w4, rfl⟩ : ∃ w2 : World, w2 = wr := ⟨_, rfl⟩
 obtain ⟨rfl, h4⟩ := hrel
 go_wp2_with fail
 go_loopw [14] (fun i wr => i = .int .i64 0 ∧ Below w.heap.size w wr) (fun _ _ => 0)
 case atStart => exact ⟨rfl, h4⟩
 case round =>
 obtain ⟨w5, rfl⟩ : ∃ w2 : World, w2 = wr := ⟨_, rfl⟩
 obtain ⟨rfl, h5⟩ := hrel
 go_wp2_with fail
 go_ret
 exact ⟨rfl, h5⟩
set_option maxRecDepth 100000 in
set_option maxHeartbeats 1000000 in
theorem flatBuilts_nil (w : World) : Calls Tryz.prog 82 #[.slice none 0 0] w fun e w' => e = .returned (.bool true) ∧ Below w.heap.size w w' := by
 go_enter Tryz.func82, Tryz.ntmps82
 go_wp2_with fail
 go_loopw [3] (fun i wr => i = .int .i64 0 ∧ Below w.heap.size w wr) (fun _ _ => 0)
 case atStart => exact ⟨rfl, Below.refl _ _⟩
 case round =>
 obtain ⟨w1, rfl⟩ : ∃ w2 : World, w2 = wr := ⟨_, rfl⟩
 obtain ⟨rfl, h1⟩ := hrel
 go_wp2_with (first | (with_reducible refine wpList_makeE rfl 85 207 _ _ rfl rfl rfl (by kernel_rfl) (by kernel_rfl) ?_; intro w9 h9))
 go_loopw [6] (fun i wr => i = .int .i64 0 ∧ Below w.heap.size w wr) (fun _ _ => 0)
 case atStart => exact ⟨rfl, belowThen h1 (Nat.le_refl _) h9⟩
 case round =>
 obtain ⟨w2, rfl⟩ : ∃ w2 : World, w2 = wr := ⟨_, rfl⟩
 obtain ⟨rfl, h2⟩ := hrel
 go_wp2_with fail
 go_loopw [9] (fun i wr => i = .int .i64 0 ∧ Below w.heap.size w wr) (fun _ _ => 0)
 case atStart => exact ⟨rfl, h2⟩
 case round =>
 obtain ⟨w3, rfl⟩ : ∃ w2 : World, w2 = wr := ⟨_, rfl⟩
 obtain ⟨rfl, h3⟩ := hrel
 go_wp2_with fail
 go_loopw [11] (fun i wr => i = .int .i64 0 ∧ Below w.heap.size w wr) (fun _ _ => 0)
 case atStart => exact ⟨rfl, h3⟩
 case round =>
 obtain ⟨w4, rfl⟩ : ∃ w2 : World, w2 = wr := ⟨_, rfl⟩
 obtain ⟨rfl, h4⟩ := hrel
 go_wp2_with fail
 go_loopw [14] (fun i wr => i = .int .i64 0 ∧ Below w.heap.size w wr) (fun _ _ => 0)
 case atStart => exact ⟨rfl, h4⟩
 case round =>
 obtain ⟨w5, rfl⟩ : ∃ w2 : World, w2 = wr := ⟨_, rfl⟩
 obtain ⟨rfl, h5⟩ := hrel
 go_wp2_with fail
 go_ret
 exact ⟨rfl, h5⟩
set_option maxRecDepth 100000 in
set_option maxHeartbeats 1000000 in
theorem flatRequests_nil (w : World) : Calls Tryz.prog 83 #[.slice none 0 0] w fun e w' => e = .returned (.bool true) ∧ Below w.heap.size w w' := by
 go_enter Tryz.func83, Tryz.ntmps83
 go_wp2_with fail
 go_loopw [3] (fun i wr => i = .int .i64 0 ∧ Below w.heap.size w wr) (fun _ _ => 0)
 case atStart => exact ⟨rfl, Below.refl _ _⟩
 case round =>
 obtain ⟨w1, rfl⟩ : ∃ w2 : World, w2 = wr := ⟨_, rfl⟩
 obtain ⟨rfl, h1⟩ := hrel
 go_wp2_with (first | (with_reducible refine wpList_makeE rfl 86 212 _ _ rfl rfl rfl (by kernel_rfl) (by kernel_rfl) ?_; intro w9 h9))
 go_loopw [6] (fun i wr => i = .int .i64 0 ∧ Below w.heap.size w wr) (fun _ _ => 0)
 case atStart => exact ⟨rfl, belowThen h1 (Nat.le_refl _) h9⟩
 case round =>
 obtain ⟨w2, rfl⟩ : ∃ w2 : World, w2 = wr := ⟨_, rfl⟩
 obtain ⟨rfl, h2⟩ := hrel
 go_wp2_with fail
 go_loopw [9] (fun i wr => i = .int .i64 0 ∧ Below w.heap.size w wr) (fun _ _ => 0)
 case atStart => exact ⟨rfl, h2⟩
 case round =>
 obtain ⟨w3, rfl⟩ : ∃ w2 : World, w2 = wr := ⟨_, rfl⟩
 obtain ⟨rfl, h3⟩ := hrel
 go_wp2_with fail
 go_loopw [11] (fun i wr => i = .int .i64 0 ∧ Below w.heap.size w wr) (fun _ _ => 0)
 case atStart => exact ⟨rfl, h3⟩
 case round =>
 obtain ⟨w4, rfl⟩ : ∃ w2 : World, w2 = wr := ⟨_, rfl⟩
 obtain ⟨rfl, h4⟩ := hrel
 go_wp2_with fail
 go_loopw [14] (fun i wr => i = .int .i64 0 ∧ Below w.heap.size w wr) (fun _ _ => 0)
 case atStart => exact ⟨rfl, h4⟩
 case round =>
 obtain ⟨w5, rfl⟩ : ∃ w2 : World, w2 = wr := ⟨_, rfl⟩
 obtain ⟨rfl, h5⟩ := hrel
 go_wp2_with fail
 go_ret
 exact ⟨rfl, h5⟩
set_option maxRecDepth 100000 in
set_option maxHeartbeats 1000000 in
theorem flatReplies_nil (w : World) : Calls Tryz.prog 84 #[.slice none 0 0] w fun e w' => e = .returned (.bool true) ∧ Below w.heap.size w w' := by
 go_enter Tryz.func84, Tryz.ntmps84
 go_wp2_with fail
 go_loopw [3] (fun i wr => i = .int .i64 0 ∧ Below w.heap.size w wr) (fun _ _ => 0)
 case atStart => exact ⟨rfl, Below.refl _ _⟩
 case round =>
 obtain ⟨w1, rfl⟩ : ∃ w2 : World, w2 = wr := ⟨_, rfl⟩
 obtain ⟨rfl, h1⟩ := hrel
 go_wp2_with (first | (with_reducible refine wpList_makeE rfl 87 218 _ _ rfl rfl rfl (by kernel_rfl) (by kernel_rfl) ?_; intro w9 h9))
 go_loopw [6] (fun i wr => i = .int .i64 0 ∧ Below w.heap.size w wr) (fun _ _ => 0)
 case atStart => exact ⟨rfl, belowThen h1 (Nat.le_refl _) h9⟩
 case round =>
 obtain ⟨w2, rfl⟩ : ∃ w2 : World, w2 = wr := ⟨_, rfl⟩
 obtain ⟨rfl, h2⟩ := hrel
 go_wp2_with fail
 go_loopw [9] (fun i wr => i = .int .i64 0 ∧ Below w.heap.size w wr) (fun _ _ => 0)
 case atStart => exact ⟨rfl, h2⟩
 case round =>
 obtain ⟨w3, rfl⟩ : ∃ w2 : World, w2 = wr := ⟨_, rfl⟩
 obtain ⟨rfl, h3⟩ := hrel
 go_wp2_with fail
 go_loopw [11] (fun i wr => i = .int .i64 0 ∧ Below w.heap.size w wr) (fun _ _ => 0)
 case atStart => exact ⟨rfl, h3⟩
 case round =>
 obtain ⟨w4, rfl⟩ : ∃ w2 : World, w2 = wr := ⟨_, rfl⟩
 obtain ⟨rfl, h4⟩ := hrel
 go_wp2_with fail
 go_loopw [14] (fun i wr => i = .int .i64 0 ∧ Below w.heap.size w wr) (fun _ _ => 0)
 case atStart => exact ⟨rfl, h4⟩
 case round =>
 obtain ⟨w5, rfl⟩ : ∃ w2 : World, w2 = wr := ⟨_, rfl⟩
 obtain ⟨rfl, h5⟩ := hrel
 go_wp2_with fail
 go_ret
 exact ⟨rfl, h5⟩
end Go.Proofs.YtfiadgdinhmgbaaGreatDoor
/-! A region that draws its order, whose operations read and call, in a class of worlds; over any program. -/
namespace Go.Agg
open Go.RowKit
variable {P : Program}
structure Cls (C : World → Prop) where
 w : World
 h : C w
theorem Calls.cls {C : World → Prop} {f : FuncId} {args : Array Value} {x : Cls C} {v : Value} (h : Calls P f args x.w fun e w' => e = .returned v ∧ C w') :
  Calls P f args x.w fun e w'' => e = .returned v ∧ ∃ y : Cls C, w'' = y.w := h.mono fun _ w' ⟨he, hw⟩ => ⟨he, ⟨w', hw⟩, rfl⟩
theorem Calls.clsB {C : World → Prop} {f : FuncId} {args : Array Value} {x : Cls C} {v : Value} (hC : ∀ w w', C w → Below w.heap.size w w' → C w') (h : Calls P f args x.w fun e w' => e = .returned v ∧ Below x.w.heap.size x.w w') :
  Calls P f args x.w fun e w'' => e = .returned v ∧ ∃ y : Cls C, w'' = y.w := h.mono fun _ w' ⟨he, hw⟩ => ⟨he, ⟨w', hC _ _ x.h hw⟩, rfl⟩
theorem wp_region_cls_lit {id : Nat} {Q : Exit → Act → World → Prop} {a : Act} {w : World} {l : List Oper} (C : World → Prop) (hm : P.follows .mixedOrders = true) (hB : Region.lexB .any l.toArray = true) (hC : C w.drew)
  (h : wpQuiet P l.toArray (fun w' => ∃ x : Cls C, w' = x.w) (fun a' => ∀ w', (∃ x : Cls C, w' = x.w) → Q .normal a' w') l a) : (Code.region id l.toArray true).wp P Q a w :=
 wp_region_quiet (C := fun w' => ∃ x : Cls C, w' = x.w) hm hB ⟨⟨_, hC⟩, rfl⟩ (by simpa using h)
end Go.Agg
/-! (*spencekit.bag).apart of rows of bytes alone. -/
namespace Go.Proofs.YtfiadgdinhmgbaaGreatDoor
open Go.RowKit Pl Go.Agg
def bagC (v0 : Value) : Array Value := #[.slice none 0 0, .slice none 0 0, .slice none 0 0, .slice none 0 0, .slice none 0 0, v0, .slice none 0 0, .slice none 0 0, .slice none 0 0, .slice none 0 0, .slice none 0 0, .slice none 0 0, .slice none 0 0, .slice none 0 0, .slice none 0 0, .slice none 0 0, .slice none 0 0, .slice none 0 0, .slice none 0 0, .slice none 0 0, .slice none 0 0]
def ApC (w : World) (vs : List SV) (f : Nat → List UInt8) (w' : World) : Prop := Only (SS vs) w w' ∧ ∃ f', RoomsOf EB w' vs f' ∧ ∀ j, (f' j).length = (f j).length
theorem ApC.below {w : World} {vs : List SV} {f : Nat → List UInt8} (a b : World) (h : ApC w vs f a) (hb : Below a.heap.size a b) : ApC w vs f b := by
 obtain ⟨h1, f', h2, h3⟩ := h
 exact ⟨h1.trans (Only.of_below (S := fun _ => False) hb) (fun _ _ h => h.elim), f', h2.below hb, h3⟩
set_option maxRecDepth 100000 in
set_option maxHeartbeats 2000000 in
theorem apart_any (g : Nat) (v0 : Value) (vs : List SV) (f : Nat → List UInt8) (w : World) (hg : Blk w g 89 (bagC v0)) (hgS : ¬ SS vs g) (he : BBAt w v0 vs) (hr : RoomsOf EB w vs f) (hd : Dist vs) (hsep : ∀ b, v0.ownBlock = some b → ¬ SS vs b) (hn : vs.length ≤ 4194304) (hf : ∀ j, (f j).length ≤ 8388608) :
  Calls Tryz.prog 42 #[.pointer (some ⟨g, 0, none⟩)] w fun e w' => e = .returned (.bool true) ∧ ApC w vs f w' := by
 have hld : ∀ (k : Nat) (v : Value) (ty : TypeId) (d : TypeDesc), (bagC v0)[k]? = some v → Tryz.prog.underlying ty = some d → (match d with | .struct _ | .array _ _ => true | _ => false) = false →
   ∀ w', ApC w vs f w' → LoadsL Tryz.prog w' ty (some ⟨g, k, none⟩) v := by
  intro k v ty d hk hu hd w' hx
  have hb : Blk w' g 89 (bagC v0) := (hx.1.block g hg.lt hgS).trans hg
  exact hb.one (P := Tryz.prog) k hk hu (by cases d <;> first | rfl | cases hd)
 have HLD := Lib.hid hld
 clear hld
 have HCC : Hid (∀ a b, ApC w vs f a → Below a.heap.size a b → ApC w vs f b) := Lib.hid ApC.below
 have HCB : Hid (∀ x : Cls (ApC w vs f), Calls Tryz.prog 69 #[v0] x.w fun e w' => e = .returned (.bool true) ∧ ApC w vs f w') := Lib.hid (fun x => by
  obtain ⟨x, h1, f', h2, h3⟩ := x
  refine (flatBytes_any v0 vs f' x (SliceOf.onlyS he h1 hsep) h2 hd hsep hn (fun j => by rw [h3]; exact hf j)).mono ?_
  rintro e w' ⟨rfl, h4, f2, h5, h6⟩
  exact ⟨rfl, h1.trans h4 (fun _ _ h => h), f2, h5, fun j => by rw [h6, h3]⟩)
 have h0 : ApC w vs f w := ⟨Only.refl _ _, f, hr, fun _ => rfl⟩
 have HC := Lib.hid h0
 clear h0 hr hd hsep hf he hg
 go_enter Tryz.func42, Tryz.ntmps42
 simp only [List.append_eq, List.cons_append, List.nil_append]
 have HL := Lib.hid (HLD.out 0 (.slice none 0 0) 68 _ rfl Tryz.underlying68 rfl _ HC.out)
 go_wp2_with (first | (with_reducible refine wpList_loadL HL.out rfl _ rfl rfl ?_))
 clear HL
 refine (flatLimbs_nil _).mono ?_
 rintro e w1 ⟨rfl, h1⟩
 have HC := Lib.hid (HCC.out _ _ HC.out h1)
 clear h1
 have HL := Lib.hid (HLD.out 1 (.slice none 0 0) 69 _ rfl Tryz.underlying69 rfl _ HC.out)
 go_wp2_with (first | (with_reducible refine wpList_loadL HL.out rfl _ rfl rfl ?_))
 clear HL
 refine (flatWords_nil _).mono ?_
 rintro e w2 ⟨rfl, h2⟩
 have HC := Lib.hid (HCC.out _ _ HC.out h2)
 clear h2
 have HL := Lib.hid (HLD.out 2 (.slice none 0 0) 70 _ rfl Tryz.underlying70 rfl _ HC.out)
 go_wp2_with (first | (with_reducible refine wpList_loadL HL.out rfl _ rfl rfl ?_))
 clear HL
 refine (flatInts_nil _).mono ?_
 rintro e w3 ⟨rfl, h3⟩
 have HC := Lib.hid (HCC.out _ _ HC.out h3)
 clear h3
 have HL := Lib.hid (HLD.out 3 (.slice none 0 0) 71 _ rfl Tryz.underlying71 rfl _ HC.out)
 go_wp2_with (first | (with_reducible refine wpList_loadL HL.out rfl _ rfl rfl ?_))
 clear HL
 refine (flatLongs_nil _).mono ?_
 rintro e w4 ⟨rfl, h4⟩
 have HC := Lib.hid (HCC.out _ _ HC.out h4)
 clear h4
 have HL := Lib.hid (HLD.out 4 (.slice none 0 0) 72 _ rfl Tryz.underlying72 rfl _ HC.out)
 go_wp2_with (first | (with_reducible refine wpList_loadL HL.out rfl _ rfl rfl ?_))
 clear HL
 refine (flatTexts_nil _).mono ?_
 rintro e w5 ⟨rfl, h5⟩
 have HC := Lib.hid (HCC.out _ _ HC.out h5)
 clear h5
 have HL := Lib.hid (HLD.out 5 (v0) 49 _ rfl Tryz.underlying49 rfl _ HC.out)
 go_wp2_with (first | (with_reducible refine wpList_loadL HL.out rfl _ rfl rfl ?_))
 clear HL
 refine (HCB.out ⟨_, HC.out⟩).mono ?_
 rintro e w6 ⟨rfl, h6⟩
 have HC := Lib.hid h6
 clear h6
 have HL := Lib.hid (HLD.out 6 (.slice none 0 0) 73 _ rfl Tryz.underlying73 rfl _ HC.out)
 go_wp2_with (first | (with_reducible refine wpList_loadL HL.out rfl _ rfl rfl ?_))
 clear HL
 refine (flatTruths_nil _).mono ?_
 rintro e w7 ⟨rfl, h7⟩
 have HC := Lib.hid (HCC.out _ _ HC.out h7)
 clear h7
 have HL := Lib.hid (HLD.out 7 (.slice none 0 0) 74 _ rfl Tryz.underlying74 rfl _ HC.out)
 go_wp2_with (first | (with_reducible refine wpList_loadL HL.out rfl _ rfl rfl ?_))
 clear HL
 refine (flatPaths_nil _).mono ?_
 rintro e w8 ⟨rfl, h8⟩
 have HC := Lib.hid (HCC.out _ _ HC.out h8)
 clear h8
 have HL := Lib.hid (HLD.out 8 (.slice none 0 0) 75 _ rfl Tryz.underlying75 rfl _ HC.out)
 go_wp2_with (first | (with_reducible refine wpList_loadL HL.out rfl _ rfl rfl ?_))
 clear HL
 refine (flatKids_nil _).mono ?_
 rintro e w9 ⟨rfl, h9⟩
 have HC := Lib.hid (HCC.out _ _ HC.out h9)
 clear h9
 have HL := Lib.hid (HLD.out 9 (.slice none 0 0) 76 _ rfl Tryz.underlying76 rfl _ HC.out)
 go_wp2_with (first | (with_reducible refine wpList_loadL HL.out rfl _ rfl rfl ?_))
 clear HL
 refine (flatNodes_nil _).mono ?_
 rintro e w10 ⟨rfl, h10⟩
 have HC := Lib.hid (HCC.out _ _ HC.out h10)
 clear h10
 have HL := Lib.hid (HLD.out 10 (.slice none 0 0) 77 _ rfl Tryz.underlying77 rfl _ HC.out)
 go_wp2_with (first | (with_reducible refine wpList_loadL HL.out rfl _ rfl rfl ?_))
 clear HL
 refine (flatLines_nil _).mono ?_
 rintro e w11 ⟨rfl, h11⟩
 have HC := Lib.hid (HCC.out _ _ HC.out h11)
 clear h11
 have HL := Lib.hid (HLD.out 11 (.slice none 0 0) 78 _ rfl Tryz.underlying78 rfl _ HC.out)
 go_wp2_with (first | (with_reducible refine wpList_loadL HL.out rfl _ rfl rfl ?_))
 clear HL
 refine (flatChanges_nil _).mono ?_
 rintro e w12 ⟨rfl, h12⟩
 have HC := Lib.hid (HCC.out _ _ HC.out h12)
 clear h12
 have HL := Lib.hid (HLD.out 12 (.slice none 0 0) 79 _ rfl Tryz.underlying79 rfl _ HC.out)
 go_wp2_with (first | (with_reducible refine wpList_loadL HL.out rfl _ rfl rfl ?_))
 clear HL
 refine (flatRuns_nil _).mono ?_
 rintro e w13 ⟨rfl, h13⟩
 have HC := Lib.hid (HCC.out _ _ HC.out h13)
 clear h13
 have HL := Lib.hid (HLD.out 13 (.slice none 0 0) 80 _ rfl Tryz.underlying80 rfl _ HC.out)
 go_wp2_with (first | (with_reducible refine wpList_loadL HL.out rfl _ rfl rfl ?_))
 clear HL
 refine (flatObjects_nil _).mono ?_
 rintro e w14 ⟨rfl, h14⟩
 have HC := Lib.hid (HCC.out _ _ HC.out h14)
 clear h14
 have HL := Lib.hid (HLD.out 14 (.slice none 0 0) 81 _ rfl Tryz.underlying81 rfl _ HC.out)
 go_wp2_with (first | (with_reducible refine wpList_loadL HL.out rfl _ rfl rfl ?_))
 clear HL
 refine (flatQuotas_nil _).mono ?_
 rintro e w15 ⟨rfl, h15⟩
 have HC := Lib.hid (HCC.out _ _ HC.out h15)
 clear h15
 have HL := Lib.hid (HLD.out 15 (.slice none 0 0) 82 _ rfl Tryz.underlying82 rfl _ HC.out)
 go_wp2_with (first | (with_reducible refine wpList_loadL HL.out rfl _ rfl rfl ?_))
 clear HL
 refine (flatNameds_nil _).mono ?_
 rintro e w16 ⟨rfl, h16⟩
 have HC := Lib.hid (HCC.out _ _ HC.out h16)
 clear h16
 have HL := Lib.hid (HLD.out 16 (.slice none 0 0) 83 _ rfl Tryz.underlying83 rfl _ HC.out)
 go_wp2_with (first | (with_reducible refine wpList_loadL HL.out rfl _ rfl rfl ?_))
 clear HL
 refine (flatDrvs_nil _).mono ?_
 rintro e w17 ⟨rfl, h17⟩
 have HC := Lib.hid (HCC.out _ _ HC.out h17)
 clear h17
 have HL := Lib.hid (HLD.out 17 (.slice none 0 0) 84 _ rfl Tryz.underlying84 rfl _ HC.out)
 go_wp2_with (first | (with_reducible refine wpList_loadL HL.out rfl _ rfl rfl ?_))
 clear HL
 refine (flatMades_nil _).mono ?_
 rintro e w18 ⟨rfl, h18⟩
 have HC := Lib.hid (HCC.out _ _ HC.out h18)
 clear h18
 have HL := Lib.hid (HLD.out 18 (.slice none 0 0) 85 _ rfl Tryz.underlying85 rfl _ HC.out)
 go_wp2_with (first | (with_reducible refine wpList_loadL HL.out rfl _ rfl rfl ?_))
 clear HL
 refine (flatBuilts_nil _).mono ?_
 rintro e w19 ⟨rfl, h19⟩
 have HC := Lib.hid (HCC.out _ _ HC.out h19)
 clear h19
 have HL := Lib.hid (HLD.out 19 (.slice none 0 0) 86 _ rfl Tryz.underlying86 rfl _ HC.out)
 go_wp2_with (first | (with_reducible refine wpList_loadL HL.out rfl _ rfl rfl ?_))
 clear HL
 refine (flatRequests_nil _).mono ?_
 rintro e w20 ⟨rfl, h20⟩
 have HC := Lib.hid (HCC.out _ _ HC.out h20)
 clear h20
 have HL := Lib.hid (HLD.out 20 (.slice none 0 0) 87 _ rfl Tryz.underlying87 rfl _ HC.out)
 go_wp2_with (first | (with_reducible refine wpList_loadL HL.out rfl _ rfl rfl ?_))
 clear HL
 refine (flatReplies_nil _).mono ?_
 rintro e w21 ⟨rfl, h21⟩
 have HC := Lib.hid (HCC.out _ _ HC.out h21)
 clear h21
 go_wp2_with fail
 go_ret
 exact ⟨rfl, HC.out⟩
end Go.Proofs.YtfiadgdinhmgbaaGreatDoor
/-! One cell of a block written; (*bag).putBytes. -/
namespace Go.Proofs.YtfiadgdinhmgbaaGreatDoor
open Go.RowKit Pl Go.Agg
theorem bag_put {w w1 : World} {g : Nat} {v0 v1 : Value} {l : List SV} (hg : Blk w g 89 (bagC v0)) (ho : Own EBB (g + 1) w1 v1 l) (hp : Pushed EBB (g + 1) w w1 v0) :
  ∃ w2, (Instr.storeAt 49 (.pointer (some ⟨g, 5, none⟩)) v1).run Tryz.prog w1 = .ok () w2 ∧ Blk w2 g 89 (bagC v1) ∧ Own EBB (g + 1) w2 v1 l ∧ Below g w w2 := by
 have h1 : Blk w1 g 89 (bagC v0) := hp.blk g _ _ _ (by decide) hg
 obtain ⟨p, c, rfl⟩ := ho.slice.form
 refine ⟨_, h1.run_put 5 (by simp [bagC]) _ rfl rfl (by kernel_rfl), h1.set 5 _, ho.keep fun k cur t fr hk hb => ?_, ?_⟩
 ·rw [Below.heap_setCell _ _ _ _ (by show k ≠ g; omega)]; exact hb
 ·have hb := hp.below g (by omega) (Nat.le_of_lt hg.lt)
  exact hb.setCell (Nat.le_refl _) _
set_option maxRecDepth 100000 in
set_option maxHeartbeats 1000000 in
theorem putBytes_any (g : Nat) (v0 : Value) (vs : List SV) (x : SV) (w : World) (hg : Blk w g 89 (bagC v0)) (ho : Own EBB (g + 1) w v0 vs) (hn : vs.length ≤ 4194304) :
  Calls Tryz.prog 41 #[.pointer (some ⟨g, 0, none⟩), x.1] w fun e w' => (∃ r, e = .returned r) ∧ ∃ v', Blk w' g 89 (bagC v') ∧ Own EBB (g + 1) w' v' (vs ++ [x]) ∧ Below g w w' := by
 have hl : LoadsL Tryz.prog w 49 (some ⟨g, 5, none⟩) v0 := hg.one (P := Tryz.prog) 5 rfl (by kernel_rfl : Tryz.prog.underlying 49 = some (.slice 23)) rfl
 have HL := Lib.hid hl
 have HG := Lib.hid hg
 have HO := Lib.hid ho
 have hlt := hg.lt
 have h63 : vs.length + 1 ≤ 1099511627776 / 8 := by omega
 have hbase : g + 1 ≤ w.heap.size := hlt
 clear hl hg ho
 go_enter Tryz.func41, Tryz.ntmps41
 go_wp2_with (first | (with_reducible refine wpList_loadL HL.out rfl _ rfl rfl ?_) | (refine wpList_push (E := EBB) (base := g + 1) rfl rfl 10 rfl _ rfl _ rfl x rfl (fun _ => rfl) (by simp) HO.out h63 (by decide) hbase ?_; intro u1 v1 w1 ho1 hp1; obtain ⟨w2, hrun, hfin⟩ := bag_put HG.out ho1 hp1; have HFIN := Lib.hid hfin; clear ho1 hp1 hfin) | (refine wpList_store rfl rfl 49 _ _ rfl (.pointer (some ⟨g, 5, none⟩)) _ rfl rfl hrun ?_))
 refine bodyPost_end (results_none rfl _ _ _) rfl ?_
 exact ⟨⟨_, rfl⟩, _, HFIN.out.1, HFIN.out.2.1, HFIN.out.2.2⟩
end Go.Proofs.YtfiadgdinhmgbaaGreatDoor
/-! spencekit.ApartBytes. -/
namespace Go.Proofs.YtfiadgdinhmgbaaGreatDoor
open Go.RowKit Pl Go.Agg
set_option maxRecDepth 100000 in
set_option maxHeartbeats 1000000 in
theorem apartBytes_any (v0 : Value) (vs : List SV) (f : Nat → List UInt8) (w : World) (he : BBAt w v0 vs) (hr : RoomsOf EB w vs f) (hd : Dist vs) (hn : vs.length ≤ 4194304) (hf : ∀ j, (f j).length ≤ 8388608) :
  Calls Tryz.prog 26 #[v0] w fun e w' => e = .returned (.bool true) ∧ Only (SS vs) w w' := by
 have hlv := fun W => bb_len he W
 have HE := Lib.hid he
 have HR := Lib.hid hr
 have HD := Lib.hid hd
 clear he hr hd
 have hbld : ∀ W, (Instr.build 89 #[]).run Tryz.prog W = .ok (.agg (bagC (.slice none 0 0))) W := fun W => by kernel_rfl
 have HBLD := Lib.hid hbld
 clear hbld
 go_enter Tryz.func26, Tryz.ntmps26
 go_wp2_with (first | (with_reducible refine wpList_build0 89 rfl rfl (.agg (bagC (.slice none 0 0))) HBLD.out ?_) | (with_reducible refine wpList_box rfl 89 _ rfl (bagC (.slice none 0 0)) rfl ?_; intro g w1 hb1 hx1 hlt1))
 go_loopw [4] (fun i wr => ∃ k : Nat, k ≤ vs.length ∧ i = .int .i64 k ∧ ∃ u, Blk wr g 89 (bagC u) ∧ Own EBB (g + 1) wr u (vs.take k) ∧ Below w.heap.size w wr) (fun i _ => vs.length - (intOf i).toNat)
 case atStart => exact ⟨0, by omega, rfl, _, hb1, Own.nil _ _ _, hx1⟩
 case round =>
  clear hb1 hx1
  obtain ⟨w2, rfl⟩ : ∃ w2 : World, w2 = wr := ⟨_, rfl⟩
  obtain ⟨k, hk, rfl, u, hb, ho, hw⟩ := hrel
  have HB := Lib.hid hb
  have HO := Lib.hid ho
  have HW := Lib.hid hw
  clear hb ho hw
  by_cases hlt : k < vs.length
  ·obtain ⟨v, hvk⟩ : ∃ v, vs[k]? = some v := ⟨_, List.getElem?_eq_getElem hlt⟩
   have HV := Lib.hid hvk
   obtain ⟨q, hadr, hld⟩ := bb_at (SliceOf.below HE.out HW.out) k v hvk
   have HL := Lib.hid hld
   have hkl : (vs.take k).length ≤ k := List.length_take_le _ _
   clear hvk hld
   go_wp2_with (first | (with_reducible refine wpList_loadL HL.out rfl _ rfl rfl ?_))
   refine (putBytes_any g u (vs.take k) v w2 HB.out HO.out (by omega)).mono ?_
   rintro e w3 ⟨⟨r, rfl⟩, u3, hb3, ho3, hw3⟩
   have ht : vs.take k ++ [v] = vs.take (k + 1) := by rw [List.take_add_one, HV.out]; rfl
   rw [ht] at ho3
   go_wp2_with fail
   go_roundw
   case rel => exact ⟨k + 1, by omega, by go_num, _, hb3, ho3, HW.out.trans (hw3.mono hlt1)⟩
   case measure => simp [intOf]; omega
  ·obtain rfl : k = vs.length := by omega
   have ho := HO.out
   rw [List.take_length] at ho
   have hss : ∀ b, SS vs b → b < w.heap.size := HR.out.lt
   have hsep : ∀ b, u.ownBlock = some b → ¬ SS vs b := fun b hb h => by
    have h1 := (ho.block b hb).1
    have h2 := hss b h
    omega
   have hgS : ¬ SS vs g := fun h => by have := hss g h; omega
   have HA := Lib.hid (apart_any g u vs f w2 HB.out hgS ho.slice (HR.out.below HW.out) HD.out hsep hn hf)
   clear ho hss hsep hgS
   go_wp2_with fail
   refine HA.out.mono ?_
   rintro e w3 ⟨rfl, h3, _⟩
   go_wp2_with fail
   go_ret
   exact ⟨rfl, (Only.of_below HW.out).trans h3 (fun _ _ h => h)⟩
end Go.Proofs.YtfiadgdinhmgbaaGreatDoor
/-! Rows of slices and what they hold, as lists. -/
namespace Go.Agg
open Go.RowKit
section
variable {P : Program} {α : Type} {E : Elem P α}
def Cross (vs us : List SV) : Prop := ∀ b, SS vs b → ¬ SS us b
theorem Dist.append {vs us : List SV} (h : Dist vs) (k : Dist us) (hc : Cross vs us) : Dist (vs ++ us) := by
 have one : ∀ (i : Nat) (u : SV), (vs ++ us)[i]? = some u → (i < vs.length ∧ vs[i]? = some u) ∨ (vs.length ≤ i ∧ us[i - vs.length]? = some u) := fun i u h => by
  by_cases hi : i < vs.length
  ·rw [List.getElem?_append_left hi] at h; exact .inl ⟨hi, h⟩
  ·rw [List.getElem?_append_right (by omega)] at h; exact .inr ⟨by omega, h⟩
 intro i j u v hi hj hij b hu hv
 rcases one i u hi with ⟨h1, h2⟩ | ⟨h1, h2⟩ <;> rcases one j v hj with ⟨h3, h4⟩ | ⟨h3, h4⟩
 ·exact h i j u v h2 h4 hij b hu hv
 ·exact hc b ⟨_, u, h2, hu⟩ ⟨_, v, h4, hv⟩
 ·exact hc b ⟨_, v, h4, hv⟩ ⟨_, u, h2, hu⟩
 ·exact k _ _ u v h2 h4 (by omega) b hu hv
theorem ss_append {vs us : List SV} {b : Nat} (h : SS (vs ++ us) b) : SS vs b ∨ SS us b := by
 obtain ⟨i, u, hi, hb⟩ := h
 by_cases hl : i < vs.length
 ·rw [List.getElem?_append_left hl] at hi; exact .inl ⟨i, u, hi, hb⟩
 ·rw [List.getElem?_append_right (by omega)] at hi; exact .inr ⟨_, u, hi, hb⟩
theorem dist_one (v : SV) : Dist [v] := by
 intro i j u w hi hj hij
 match i, j, hi, hj with
 | 0, 0, _, _ => exact absurd rfl hij
 | 0, n + 1, _, hj => simp at hj
 | n + 1, _, hi, _ => simp at hi
theorem ss_one {v : SV} {b : Nat} (h : SS [v] b) : v.1.ownBlock = some b := by
 obtain ⟨i, u, hi, hb⟩ := h
 match i, hi with
 | 0, hi =>
  obtain rfl : v = u := by simpa using hi
  exact hb
structure RoomsL (E : Elem P α) (w : World) (vs : List SV) (fs : List (List α)) : Prop where
 len : vs.length = fs.length
 row : ∀ (k : Nat) (v : SV) (l : List α), vs[k]? = some v → fs[k]? = some l → RoomN E w v.1 l
theorem RoomsL.of {w : World} {vs : List SV} {fs : List (List α)} (h : RoomsL E w vs fs) : RoomsOf E w vs fun k => (fs[k]?).getD [] := fun k v hk => by
 obtain ⟨l, hl⟩ : ∃ l, fs[k]? = some l := ⟨_, List.getElem?_eq_getElem (by rw [← h.len]; exact (List.getElem?_eq_some_iff.1 hk).1)⟩
 show RoomN E w v.1 ((fs[k]?).getD [])
 rw [hl]
 exact h.row k v l hk hl
theorem RoomsL.append {w : World} {vs us : List SV} {fs gs : List (List α)} (h : RoomsL E w vs fs) (k : RoomsL E w us gs) : RoomsL E w (vs ++ us) (fs ++ gs) := by
 have h1 := h.len
 refine ⟨by simp [h.len, k.len], fun i s l hs hl => ?_⟩
 by_cases hi : i < vs.length
 ·rw [List.getElem?_append_left hi] at hs
  rw [List.getElem?_append_left (by omega)] at hl
  exact h.row i s l hs hl
 ·rw [List.getElem?_append_right (by omega)] at hs hl
  rw [show i - fs.length = i - vs.length by omega] at hl
  exact k.row _ s l hs hl
theorem RoomsL.one {w : World} {v : SV} {l : List α} (h : RoomN E w v.1 l) : RoomsL E w [v] [l] := ⟨rfl, fun k u m hk hm => by
 match k, hk, hm with
 | 0, hk, hm =>
  obtain rfl : v = u := by simpa using hk
  obtain rfl : l = m := by simpa using hm
  exact h⟩
end
end Go.Agg
