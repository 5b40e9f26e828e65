/- spencekit.markText, markNamed. (Several texts in one.) -/
import Derived.Test.YtdebbmembkbniaaGreatTAC
import Derived.Test.YtdebbmembkbniaaGreatTAA
import Derived.Test.YtdebbmembkbniaaGreatTBN
import Derived.Test.YtdebbmembkbniaaGreatTAM
/-! spencekit.flatX of no rows. -/
namespace Go.Proofs.YtdebbmembkbniaaGreat
open Go.RowKit Pl Go.Agg
theorem wpList_makeE {P : Program} {ops : Array Oper} {rest : List Oper} {o : Oper} {a : Act} {Q : Exit → Act → World → Prop} {w : World} (hg : o.guard = none) (t e : TypeId) (x y : Operand) (ho : o.op = .makeSlice t x y) (hx : a.eval x = .int .i64 0) (hy : a.eval y = .int .i64 0)
  (h1 : P.underlying t = some (.slice e)) (h2 : ((P.info? e).bind (·.zero)).isSome = true) (h : ∀ w', Below w.heap.size w w' → wpList P ops Q rest (a.put o.dst (.slice (some ⟨w.heap.size, 0, none⟩) 0 0)) w') : wpList P ops Q (o :: rest) a w := by
 obtain ⟨z, hz⟩ := Option.isSome_iff_exists.1 h2
 obtain ⟨i, hi, hz⟩ := Option.bind_eq_some_iff.1 hz
 have hr := run_make (P := P) w t e i z h1 hi hz .i64 .i64 0 0 (by omega) (by omega) (by omega) (by omega)
 refine wpList_val hg (v := .slice (some ⟨w.heap.size, 0, none⟩) 0 0) (w' := w.alloc (.cells (madeCells z.cells (0 * i.size)) e)) ?_ (h _ ((Below.refl _ _).alloc (Nat.le_refl _) _))
 simp [execOp, ho, hx, hy, hr]
set_option maxRecDepth 100000 in
set_option maxHeartbeats 1000000 in
theorem flatLimbs_nil (w : World) : Calls Tryz.prog 91 #[.slice none 0 0] w fun e w' => e = .returned (.bool true) ∧ Below w.heap.size w w' := by
 go_enter Tryz.func91, Tryz.ntmps91
 go_wp2_with fail
 go_loopw [3] (fun i wr => i = .int .i64 0 ∧ Below w.heap.size w wr) (fun _ _ => 0)
 case atStart => exact ⟨rfl, Below.refl _ _⟩
 case round =>
 obtain ⟨w1, rfl⟩ : ∃ w2 : World, w2 = wr := ⟨_, rfl⟩
 obtain ⟨rfl, h1⟩ := hrel
 go_wp2_with (first | (with_reducible refine wpList_makeE rfl 115 212 _ _ rfl rfl rfl (by kernel_rfl) (by kernel_rfl) ?_; intro w9 h9))
 go_loopw [6] (fun i wr => i = .int .i64 0 ∧ Below w.heap.size w wr) (fun _ _ => 0)
 case atStart => exact ⟨rfl, belowThen h1 (Nat.le_refl _) h9⟩
 case round =>
 obtain ⟨w2, rfl⟩ : ∃ w2 : World, w2 = wr := ⟨_, rfl⟩
 obtain ⟨rfl, h2⟩ := hrel
 go_wp2_with fail
 go_loopw [9] (fun i wr => i = .int .i64 0 ∧ Below w.heap.size w wr) (fun _ _ => 0)
 case atStart => exact ⟨rfl, h2⟩
 case round =>
 obtain ⟨w3, rfl⟩ : ∃ w2 : World, w2 = wr := ⟨_, rfl⟩
 obtain ⟨rfl, h3⟩ := hrel
 go_wp2_with fail
 go_loopw [11] (fun i wr => i = .int .i64 0 ∧ Below w.heap.size w wr) (fun _ _ => 0)
 case atStart => exact ⟨rfl, h3⟩
 case round =>
 obtain ⟨w4, rfl⟩ : ∃ w2 : World, w2 = wr := ⟨_, rfl⟩
 obtain ⟨rfl, h4⟩ := hrel
 go_wp2_with fail
 go_loopw [14] (fun i wr => i = .int .i64 0 ∧ Below w.heap.size w wr) (fun _ _ => 0)
 case atStart => exact ⟨rfl, h4⟩
 case round =>
 obtain ⟨w5, rfl⟩ : ∃ w2 : World, w2 = wr := ⟨_, rfl⟩
 obtain ⟨rfl, h5⟩ := hrel
 go_wp2_with fail
 go_ret
 exact ⟨rfl, h5⟩
set_option maxRecDepth 100000 in
set_option maxHeartbeats 1000000 in
theorem flatWords_nil (w : World) : Calls Tryz.prog 92 #[.slice none 0 0] w fun e w' => e = .returned (.bool true) ∧ Below w.heap.size w w' := by
 go_enter Tryz.func92, Tryz.ntmps92
 go_wp2_with fail
 go_loopw [3] (fun i wr => i = .int .i64 0 ∧ Below w.heap.size w wr) (fun _ _ => 0)
 case atStart => exact ⟨rfl, Below.refl _ _⟩
 case round =>
 obtain ⟨w1, rfl⟩ : ∃ w2 : World, w2 = wr := ⟨_, rfl⟩
 obtain ⟨rfl, h1⟩ := hrel
 go_wp2_with (first | (with_reducible refine wpList_makeE rfl 116 213 _ _ rfl rfl rfl (by kernel_rfl) (by kernel_rfl) ?_; intro w9 h9))
 go_loopw [6] (fun i wr => i = .int .i64 0 ∧ Below w.heap.size w wr) (fun _ _ => 0)
 case atStart => exact ⟨rfl, belowThen h1 (Nat.le_refl _) h9⟩
 case round =>
 obtain ⟨w2, rfl⟩ : ∃ w2 : World, w2 = wr := ⟨_, rfl⟩
 obtain ⟨rfl, h2⟩ := hrel
 go_wp2_with fail
 go_loopw [9] (fun i wr => i = .int .i64 0 ∧ Below w.heap.size w wr) (fun _ _ => 0)
 case atStart => exact ⟨rfl, h2⟩
 case round =>
 obtain ⟨w3, rfl⟩ : ∃ w2 : World, w2 = wr := ⟨_, rfl⟩
 obtain ⟨rfl, h3⟩ := hrel
 go_wp2_with fail
 go_loopw [11] (fun i wr => i = .int .i64 0 ∧ Below w.heap.size w wr) (fun _ _ => 0)
 case atStart => exact ⟨rfl, h3⟩
 case round =>
 obtain ⟨w4, rfl⟩ : ∃ w2 : World, w2 = wr := ⟨_, rfl⟩
 obtain ⟨rfl, h4⟩ := hrel
 go_wp2_with fail
 go_loopw [14] (fun i wr => i = .int .i64 0 ∧ Below w.heap.size w wr) (fun _ _ => 0)
 case atStart => exact ⟨rfl, h4⟩
 case round =>
 obtain ⟨w5, rfl⟩ : ∃ w2 : World, w2 = wr := ⟨_, rfl⟩
 obtain ⟨rfl, h5⟩ := hrel
 go_wp2_with fail
 go_ret
 exact ⟨rfl, h5⟩
set_option maxRecDepth 100000 in
set_option maxHeartbeats 1000000 in
theorem flatInts_nil (w : World) : Calls Tryz.prog 93 #[.slice none 0 0] w fun e w' => e = .returned (.bool true) ∧ Below w.heap.size w w' := by
 go_enter Tryz.func93, Tryz.ntmps93
 go_wp2_with fail
 go_loopw [3] (fun i wr => i = .int .i64 0 ∧ Below w.heap.size w wr) (fun _ _ => 0)
 case atStart => exact ⟨rfl, Below.refl _ _⟩
 case round =>
 obtain ⟨w1, rfl⟩ : ∃ w2 : World, w2 = wr := ⟨_, rfl⟩
 obtain ⟨rfl, h1⟩ := hrel
 go_wp2_with (first | (with_reducible refine wpList_makeE rfl 117 155 _ _ rfl rfl rfl (by kernel_rfl) (by kernel_rfl) ?_; intro w9 h9))
 go_loopw [6] (fun i wr => i = .int .i64 0 ∧ Below w.heap.size w wr) (fun _ _ => 0)
 case atStart => exact ⟨rfl, belowThen h1 (Nat.le_refl _) h9⟩
 case round =>
 obtain ⟨w2, rfl⟩ : ∃ w2 : World, w2 = wr := ⟨_, rfl⟩
 obtain ⟨rfl, h2⟩ := hrel
 go_wp2_with fail
 go_loopw [9] (fun i wr => i = .int .i64 0 ∧ Below w.heap.size w wr) (fun _ _ => 0)
 case atStart => exact ⟨rfl, h2⟩
 case round =>
 obtain ⟨w3, rfl⟩ : ∃ w2 : World, w2 = wr := ⟨_, rfl⟩
 obtain ⟨rfl, h3⟩ := hrel
 go_wp2_with fail
 go_loopw [11] (fun i wr => i = .int .i64 0 ∧ Below w.heap.size w wr) (fun _ _ => 0)
 case atStart => exact ⟨rfl, h3⟩
 case round =>
 obtain ⟨w4, rfl⟩ : ∃ w2 : World, w2 = wr := ⟨_, rfl⟩
 obtain ⟨rfl, h4⟩ := hrel
 go_wp2_with fail
 go_loopw [14] (fun i wr => i = .int .i64 0 ∧ Below w.heap.size w wr) (fun _ _ => 0)
 case atStart => exact ⟨rfl, h4⟩
 case round =>
 obtain ⟨w5, rfl⟩ : ∃ w2 : World, w2 = wr := ⟨_, rfl⟩
 obtain ⟨rfl, h5⟩ := hrel
 go_wp2_with fail
 go_ret
 exact ⟨rfl, h5⟩
set_option maxRecDepth 100000 in
set_option maxHeartbeats 1000000 in
theorem flatLongs_nil (w : World) : Calls Tryz.prog 94 #[.slice none 0 0] w fun e w' => e = .returned (.bool true) ∧ Below w.heap.size w w' := by
 go_enter Tryz.func94, Tryz.ntmps94
 go_wp2_with fail
 go_loopw [3] (fun i wr => i = .int .i64 0 ∧ Below w.heap.size w wr) (fun _ _ => 0)
 case atStart => exact ⟨rfl, Below.refl _ _⟩
 case round =>
 obtain ⟨w1, rfl⟩ : ∃ w2 : World, w2 = wr := ⟨_, rfl⟩
 obtain ⟨rfl, h1⟩ := hrel
 go_wp2_with (first | (with_reducible refine wpList_makeE rfl 118 214 _ _ rfl rfl rfl (by kernel_rfl) (by kernel_rfl) ?_; intro w9 h9))
 go_loopw [6] (fun i wr => i = .int .i64 0 ∧ Below w.heap.size w wr) (fun _ _ => 0)
 case atStart => exact ⟨rfl, belowThen h1 (Nat.le_refl _) h9⟩
 case round =>
 obtain ⟨w2, rfl⟩ : ∃ w2 : World, w2 = wr := ⟨_, rfl⟩
 obtain ⟨rfl, h2⟩ := hrel
 go_wp2_with fail
 go_loopw [9] (fun i wr => i = .int .i64 0 ∧ Below w.heap.size w wr) (fun _ _ => 0)
 case atStart => exact ⟨rfl, h2⟩
 case round =>
 obtain ⟨w3, rfl⟩ : ∃ w2 : World, w2 = wr := ⟨_, rfl⟩
 obtain ⟨rfl, h3⟩ := hrel
 go_wp2_with fail
 go_loopw [11] (fun i wr => i = .int .i64 0 ∧ Below w.heap.size w wr) (fun _ _ => 0)
 case atStart => exact ⟨rfl, h3⟩
 case round =>
 obtain ⟨w4, rfl⟩ : ∃ w2 : World, w2 = wr := ⟨_, rfl⟩
 obtain ⟨rfl, h4⟩ := hrel
 go_wp2_with fail
 go_loopw [14] (fun i wr => i = .int .i64 0 ∧ Below w.heap.size w wr) (fun _ _ => 0)
 case atStart => exact ⟨rfl, h4⟩
 case round =>
 obtain ⟨w5, rfl⟩ : ∃ w2 : World, w2 = wr := ⟨_, rfl⟩
 obtain ⟨rfl, h5⟩ := hrel
 go_wp2_with fail
 go_ret
 exact ⟨rfl, h5⟩
set_option maxRecDepth 100000 in
set_option maxHeartbeats 1000000 in
theorem flatTexts_nil (w : World) : Calls Tryz.prog 95 #[.slice none 0 0] w fun e w' => e = .returned (.bool true) ∧ Below w.heap.size w w' := by
 go_enter Tryz.func95, Tryz.ntmps95
 go_wp2_with fail
 go_loopw [3] (fun i wr => i = .int .i64 0 ∧ Below w.heap.size w wr) (fun _ _ => 0)
 case atStart => exact ⟨rfl, Below.refl _ _⟩
 case round =>
 obtain ⟨w1, rfl⟩ : ∃ w2 : World, w2 = wr := ⟨_, rfl⟩
 obtain ⟨rfl, h1⟩ := hrel
 go_wp2_with (first | (with_reducible refine wpList_makeE rfl 119 68 _ _ rfl rfl rfl (by kernel_rfl) (by kernel_rfl) ?_; intro w9 h9))
 go_loopw [6] (fun i wr => i = .int .i64 0 ∧ Below w.heap.size w wr) (fun _ _ => 0)
 case atStart => exact ⟨rfl, belowThen h1 (Nat.le_refl _) h9⟩
 case round =>
 obtain ⟨w2, rfl⟩ : ∃ w2 : World, w2 = wr := ⟨_, rfl⟩
 obtain ⟨rfl, h2⟩ := hrel
 go_wp2_with fail
 go_loopw [9] (fun i wr => i = .int .i64 0 ∧ Below w.heap.size w wr) (fun _ _ => 0)
 case atStart => exact ⟨rfl, h2⟩
 case round =>
 obtain ⟨w3, rfl⟩ : ∃ w2 : World, w2 = wr := ⟨_, rfl⟩
 obtain ⟨rfl, h3⟩ := hrel
 go_wp2_with fail
 go_loopw [11] (fun i wr => i = .int .i64 0 ∧ Below w.heap.size w wr) (fun _ _ => 0)
 case atStart => exact ⟨rfl, h3⟩
 case round =>
 obtain ⟨w4, rfl⟩ : ∃ w2 : World, w2 = wr := ⟨_, rfl⟩
 obtain ⟨rfl, h4⟩ := hrel
 go_wp2_with fail
 go_loopw [14] (fun i wr => i = .int .i64 0 ∧ Below w.heap.size w wr) (fun _ _ => 0)
 case atStart => exact ⟨rfl, h4⟩
 case round =>
 obtain ⟨w5, rfl⟩ : ∃ w2 : World, w2 = wr := ⟨_, rfl⟩
 obtain ⟨rfl, h5⟩ := hrel
 go_wp2_with fail
 go_ret
 exact ⟨rfl, h5⟩
set_option maxRecDepth 100000 in
set_option maxHeartbeats 1000000 in
theorem flatTruths_nil (w : World) : Calls Tryz.prog 97 #[.slice none 0 0] w fun e w' => e = .returned (.bool true) ∧ Below w.heap.size w w' := by
 go_enter Tryz.func97, Tryz.ntmps97
 go_wp2_with fail
 go_loopw [3] (fun i wr => i = .int .i64 0 ∧ Below w.heap.size w wr) (fun _ _ => 0)
 case atStart => exact ⟨rfl, Below.refl _ _⟩
 case round =>
 obtain ⟨w1, rfl⟩ : ∃ w2 : World, w2 = wr := ⟨_, rfl⟩
 obtain ⟨rfl, h1⟩ := hrel
 go_wp2_with (first | (with_reducible refine wpList_makeE rfl 120 216 _ _ rfl rfl rfl (by kernel_rfl) (by kernel_rfl) ?_; intro w9 h9))
 go_loopw [6] (fun i wr => i = .int .i64 0 ∧ Below w.heap.size w wr) (fun _ _ => 0)
 case atStart => exact ⟨rfl, belowThen h1 (Nat.le_refl _) h9⟩
 case round =>
 obtain ⟨w2, rfl⟩ : ∃ w2 : World, w2 = wr := ⟨_, rfl⟩
 obtain ⟨rfl, h2⟩ := hrel
 go_wp2_with fail
 go_loopw [9] (fun i wr => i = .int .i64 0 ∧ Below w.heap.size w wr) (fun _ _ => 0)
 case atStart => exact ⟨rfl, h2⟩
 case round =>
 obtain ⟨w3, rfl⟩ : ∃ w2 : World, w2 = wr := ⟨_, rfl⟩
 obtain ⟨rfl, h3⟩ := hrel
 go_wp2_with fail
 go_loopw [11] (fun i wr => i = .int .i64 0 ∧ Below w.heap.size w wr) (fun _ _ => 0)
 case atStart => exact ⟨rfl, h3⟩
 case round =>
 obtain ⟨w4, rfl⟩ : ∃ w2 : World, w2 = wr := ⟨_, rfl⟩
 obtain ⟨rfl, h4⟩ := hrel
 go_wp2_with fail
 go_loopw [14] (fun i wr => i = .int .i64 0 ∧ Below w.heap.size w wr) (fun _ _ => 0)
 case atStart => exact ⟨rfl, h4⟩
 case round =>
 obtain ⟨w5, rfl⟩ : ∃ w2 : World, w2 = wr := ⟨_, rfl⟩
 obtain ⟨rfl, h5⟩ := hrel
 go_wp2_with fail
 go_ret
 exact ⟨rfl, h5⟩
set_option maxRecDepth 100000 in
set_option maxHeartbeats 1000000 in
theorem flatPaths_nil (w : World) : Calls Tryz.prog 98 #[.slice none 0 0] w fun e w' => e = .returned (.bool true) ∧ Below w.heap.size w w' := by
 go_enter Tryz.func98, Tryz.ntmps98
 go_wp2_with fail
 go_loopw [3] (fun i wr => i = .int .i64 0 ∧ Below w.heap.size w wr) (fun _ _ => 0)
 case atStart => exact ⟨rfl, Below.refl _ _⟩
 case round =>
 obtain ⟨w1, rfl⟩ : ∃ w2 : World, w2 = wr := ⟨_, rfl⟩
 obtain ⟨rfl, h1⟩ := hrel
 go_wp2_with (first | (with_reducible refine wpList_makeE rfl 60 55 _ _ rfl rfl rfl (by kernel_rfl) (by kernel_rfl) ?_; intro w9 h9))
 go_loopw [6] (fun i wr => i = .int .i64 0 ∧ Below w.heap.size w wr) (fun _ _ => 0)
 case atStart => exact ⟨rfl, belowThen h1 (Nat.le_refl _) h9⟩
 case round =>
 obtain ⟨w2, rfl⟩ : ∃ w2 : World, w2 = wr := ⟨_, rfl⟩
 obtain ⟨rfl, h2⟩ := hrel
 go_wp2_with fail
 go_loopw [9] (fun i wr => i = .int .i64 0 ∧ Below w.heap.size w wr) (fun _ _ => 0)
 case atStart => exact ⟨rfl, h2⟩
 case round =>
 obtain ⟨w3, rfl⟩ : ∃ w2 : World, w2 = wr := ⟨_, rfl⟩
 obtain ⟨rfl, h3⟩ := hrel
 go_wp2_with fail
 go_loopw [11] (fun i wr => i = .int .i64 0 ∧ Below w.heap.size w wr) (fun _ _ => 0)
 case atStart => exact ⟨rfl, h3⟩
 case round =>
 obtain ⟨w4, rfl⟩ : ∃ w2 : World, w2 = wr := ⟨_, rfl⟩
 obtain ⟨rfl, h4⟩ := hrel
 go_wp2_with fail
 go_loopw [14] (fun i wr => i = .int .i64 0 ∧ Below w.heap.size w wr) (fun _ _ => 0)
 case atStart => exact ⟨rfl, h4⟩
 case round =>
 obtain ⟨w5, rfl⟩ : ∃ w2 : World, w2 = wr := ⟨_, rfl⟩
 obtain ⟨rfl, h5⟩ := hrel
 go_wp2_with fail
 go_ret
 exact ⟨rfl, h5⟩
set_option maxRecDepth 100000 in
set_option maxHeartbeats 1000000 in
theorem flatKids_nil (w : World) : Calls Tryz.prog 99 #[.slice none 0 0] w fun e w' => e = .returned (.bool true) ∧ Below w.heap.size w w' := by
 go_enter Tryz.func99, Tryz.ntmps99
 go_wp2_with fail
 go_loopw [3] (fun i wr => i = .int .i64 0 ∧ Below w.heap.size w wr) (fun _ _ => 0)
 case atStart => exact ⟨rfl, Below.refl _ _⟩
 case round =>
 obtain ⟨w1, rfl⟩ : ∃ w2 : World, w2 = wr := ⟨_, rfl⟩
 obtain ⟨rfl, h1⟩ := hrel
 go_wp2_with (first | (with_reducible refine wpList_makeE rfl 121 218 _ _ rfl rfl rfl (by kernel_rfl) (by kernel_rfl) ?_; intro w9 h9))
 go_loopw [6] (fun i wr => i = .int .i64 0 ∧ Below w.heap.size w wr) (fun _ _ => 0)
 case atStart => exact ⟨rfl, belowThen h1 (Nat.le_refl _) h9⟩
 case round =>
 obtain ⟨w2, rfl⟩ : ∃ w2 : World, w2 = wr := ⟨_, rfl⟩
 obtain ⟨rfl, h2⟩ := hrel
 go_wp2_with fail
 go_loopw [9] (fun i wr => i = .int .i64 0 ∧ Below w.heap.size w wr) (fun _ _ => 0)
 case atStart => exact ⟨rfl, h2⟩
 case round =>
 obtain ⟨w3, rfl⟩ : ∃ w2 : World, w2 = wr := ⟨_, rfl⟩
 obtain ⟨rfl, h3⟩ := hrel
 go_wp2_with fail
 go_loopw [11] (fun i wr => i = .int .i64 0 ∧ Below w.heap.size w wr) (fun _ _ => 0)
 case atStart => exact ⟨rfl, h3⟩
 case round =>
 obtain ⟨w4, rfl⟩ : ∃ w2 : World, w2 = wr := ⟨_, rfl⟩
 obtain ⟨rfl, h4⟩ := hrel
 go_wp2_with fail
 go_loopw [14] (fun i wr => i = .int .i64 0 ∧ Below w.heap.size w wr) (fun _ _ => 0)
 case atStart => exact ⟨rfl, h4⟩
 case round =>
 obtain ⟨w5, rfl⟩ : ∃ w2 : World, w2 = wr := ⟨_, rfl⟩
 obtain ⟨rfl, h5⟩ := hrel
 go_wp2_with fail
 go_ret
 exact ⟨rfl, h5⟩
set_option maxRecDepth 100000 in
set_option maxHeartbeats 1000000 in
theorem flatNodes_nil (w : World) : Calls Tryz.prog 100 #[.slice none 0 0] w fun e w' => e = .returned (.bool true) ∧ Below w.heap.size w w' := by
 go_enter Tryz.func100, Tryz.ntmps100
 go_wp2_with fail
 go_loopw [3] (fun i wr => i = .int .i64 0 ∧ Below w.heap.size w wr) (fun _ _ => 0)
 case atStart => exact ⟨rfl, Below.refl _ _⟩
 case round =>
 obtain ⟨w1, rfl⟩ : ∃ w2 : World, w2 = wr := ⟨_, rfl⟩
 obtain ⟨rfl, h1⟩ := hrel
 go_wp2_with (first | (with_reducible refine wpList_makeE rfl 122 226 _ _ rfl rfl rfl (by kernel_rfl) (by kernel_rfl) ?_; intro w9 h9))
 go_loopw [6] (fun i wr => i = .int .i64 0 ∧ Below w.heap.size w wr) (fun _ _ => 0)
 case atStart => exact ⟨rfl, belowThen h1 (Nat.le_refl _) h9⟩
 case round =>
 obtain ⟨w2, rfl⟩ : ∃ w2 : World, w2 = wr := ⟨_, rfl⟩
 obtain ⟨rfl, h2⟩ := hrel
 go_wp2_with fail
 go_loopw [9] (fun i wr => i = .int .i64 0 ∧ Below w.heap.size w wr) (fun _ _ => 0)
 case atStart => exact ⟨rfl, h2⟩
 case round =>
 obtain ⟨w3, rfl⟩ : ∃ w2 : World, w2 = wr := ⟨_, rfl⟩
 obtain ⟨rfl, h3⟩ := hrel
 go_wp2_with fail
 go_loopw [11] (fun i wr => i = .int .i64 0 ∧ Below w.heap.size w wr) (fun _ _ => 0)
 case atStart => exact ⟨rfl, h3⟩
 case round =>
 obtain ⟨w4, rfl⟩ : ∃ w2 : World, w2 = wr := ⟨_, rfl⟩
 obtain ⟨rfl, h4⟩ := hrel
 go_wp2_with fail
 go_loopw [14] (fun i wr => i = .int .i64 0 ∧ Below w.heap.size w wr) (fun _ _ => 0)
 case atStart => exact ⟨rfl, h4⟩
 case round =>
 obtain ⟨w5, rfl⟩ : ∃ w2 : World, w2 = wr := ⟨_, rfl⟩
 obtain ⟨rfl, h5⟩ := hrel
 go_wp2_with fail
 go_ret
 exact ⟨rfl, h5⟩
set_option maxRecDepth 100000 in
set_option maxHeartbeats 1000000 in
theorem flatLines_nil (w : World) : Calls Tryz.prog 101 #[.slice none 0 0] w fun e w' => e = .returned (.bool true) ∧ Below w.heap.size w w' := by
 go_enter Tryz.func101, Tryz.ntmps101
 go_wp2_with fail
 go_loopw [3] (fun i wr => i = .int .i64 0 ∧ Below w.heap.size w wr) (fun _ _ => 0)
 case atStart => exact ⟨rfl, Below.refl _ _⟩
 case round =>
 obtain ⟨w1, rfl⟩ : ∃ w2 : World, w2 = wr := ⟨_, rfl⟩
 obtain ⟨rfl, h1⟩ := hrel
 go_wp2_with (first | (with_reducible refine wpList_makeE rfl 123 229 _ _ rfl rfl rfl (by kernel_rfl) (by kernel_rfl) ?_; intro w9 h9))
 go_loopw [6] (fun i wr => i = .int .i64 0 ∧ Below w.heap.size w wr) (fun _ _ => 0)
 case atStart => exact ⟨rfl, belowThen h1 (Nat.le_refl _) h9⟩
 case round =>
 obtain ⟨w2, rfl⟩ : ∃ w2 : World, w2 = wr := ⟨_, rfl⟩
 obtain ⟨rfl, h2⟩ := hrel
 go_wp2_with fail
 go_loopw [9] (fun i wr => i = .int .i64 0 ∧ Below w.heap.size w wr) (fun _ _ => 0)
 case atStart => exact ⟨rfl, h2⟩
 case round =>
 obtain ⟨w3, rfl⟩ : ∃ w2 : World, w2 = wr := ⟨_, rfl⟩
 obtain ⟨rfl, h3⟩ := hrel
 go_wp2_with fail
 go_loopw [11] (fun i wr => i = .int .i64 0 ∧ Below w.heap.size w wr) (fun _ _ => 0)
 case atStart => exact ⟨rfl, h3⟩
 case round =>
 obtain ⟨w4, rfl⟩ : ∃ w2 : World, w2 = wr := ⟨_, rfl⟩
 obtain ⟨rfl, h4⟩ := hrel
 go_wp2_with fail
 go_loopw [14] (fun i wr => i = .int .i64 0 ∧ Below w.heap.size w wr) (fun _ _ => 0)
 case atStart => exact ⟨rfl, h4⟩
 case round =>
 obtain ⟨w5, rfl⟩ : ∃ w2 : World, w2 = wr := ⟨_, rfl⟩
 obtain ⟨rfl, h5⟩ := hrel
 go_wp2_with fail
 go_ret
 exact ⟨rfl, h5⟩
set_option maxRecDepth 100000 in
set_option maxHeartbeats 1000000 in
theorem flatChanges_nil (w : World) : Calls Tryz.prog 102 #[.slice none 0 0] w fun e w' => e = .returned (.bool true) ∧ Below w.heap.size w w' := by
 go_enter Tryz.func102, Tryz.ntmps102
 go_wp2_with fail
 go_loopw [3] (fun i wr => i = .int .i64 0 ∧ Below w.heap.size w wr) (fun _ _ => 0)
 case atStart => exact ⟨rfl, Below.refl _ _⟩
 case round =>
 obtain ⟨w1, rfl⟩ : ∃ w2 : World, w2 = wr := ⟨_, rfl⟩
 obtain ⟨rfl, h1⟩ := hrel
 go_wp2_with (first | (with_reducible refine wpList_makeE rfl 124 234 _ _ rfl rfl rfl (by kernel_rfl) (by kernel_rfl) ?_; intro w9 h9))
 go_loopw [6] (fun i wr => i = .int .i64 0 ∧ Below w.heap.size w wr) (fun _ _ => 0)
 case atStart => exact ⟨rfl, belowThen h1 (Nat.le_refl _) h9⟩
 case round =>
 obtain ⟨w2, rfl⟩ : ∃ w2 : World, w2 = wr := ⟨_, rfl⟩
 obtain ⟨rfl, h2⟩ := hrel
 go_wp2_with fail
 go_loopw [9] (fun i wr => i = .int .i64 0 ∧ Below w.heap.size w wr) (fun _ _ => 0)
 case atStart => exact ⟨rfl, h2⟩
 case round =>
 obtain ⟨w3, rfl⟩ : ∃ w2 : World, w2 = wr := ⟨_, rfl⟩
 obtain ⟨rfl, h3⟩ := hrel
 go_wp2_with fail
 go_loopw [11] (fun i wr => i = .int .i64 0 ∧ Below w.heap.size w wr) (fun _ _ => 0)
 case atStart => exact ⟨rfl, h3⟩
 case round =>
 obtain ⟨w4, rfl⟩ : ∃ w2 : World, w2 = wr := ⟨_, rfl⟩
 obtain ⟨rfl, h4⟩ := hrel
 go_wp2_with fail
 go_loopw [14] (fun i wr => i = .int .i64 0 ∧ Below w.heap.size w wr) (fun _ _ => 0)
 case atStart => exact ⟨rfl, h4⟩
 case round =>
 obtain ⟨w5, rfl⟩ : ∃ w2 : World, w2 = wr := ⟨_, rfl⟩
 obtain ⟨rfl, h5⟩ := hrel
 go_wp2_with fail
 go_ret
 exact ⟨rfl, h5⟩
set_option maxRecDepth 100000 in
set_option maxHeartbeats 1000000 in
theorem flatRuns_nil (w : World) : Calls Tryz.prog 103 #[.slice none 0 0] w fun e w' => e = .returned (.bool true) ∧ Below w.heap.size w w' := by
 go_enter Tryz.func103, Tryz.ntmps103
 go_wp2_with fail
 go_loopw [3] (fun i wr => i = .int .i64 0 ∧ Below w.heap.size w wr) (fun _ _ => 0)
 case atStart => exact ⟨rfl, Below.refl _ _⟩
 case round =>
 obtain ⟨w1, rfl⟩ : ∃ w2 : World, w2 = wr := ⟨_, rfl⟩
 obtain ⟨rfl, h1⟩ := hrel
 go_wp2_with (first | (with_reducible refine wpList_makeE rfl 125 239 _ _ rfl rfl rfl (by kernel_rfl) (by kernel_rfl) ?_; intro w9 h9))
 go_loopw [6] (fun i wr => i = .int .i64 0 ∧ Below w.heap.size w wr) (fun _ _ => 0)
 case atStart => exact ⟨rfl, belowThen h1 (Nat.le_refl _) h9⟩
 case round =>
 obtain ⟨w2, rfl⟩ : ∃ w2 : World, w2 = wr := ⟨_, rfl⟩
 obtain ⟨rfl, h2⟩ := hrel
 go_wp2_with fail
 go_loopw [9] (fun i wr => i = .int .i64 0 ∧ Below w.heap.size w wr) (fun _ _ => 0)
 case atStart => exact ⟨rfl, h2⟩
 case round =>
 obtain ⟨w3, rfl⟩ : ∃ w2 : World, w2 = wr := ⟨_, rfl⟩
 obtain ⟨rfl, h3⟩ := hrel
 go_wp2_with fail
 go_loopw [11] (fun i wr => i = .int .i64 0 ∧ Below w.heap.size w wr) (fun _ _ => 0)
 case atStart => exact ⟨rfl, h3⟩
 case round =>
 obtain ⟨w4, rfl⟩ : ∃ w2 : World, w2 = wr := ⟨_, rfl⟩
 obtain ⟨rfl, h4⟩ := hrel
 go_wp2_with fail
 go_loopw [14] (fun i wr => i = .int .i64 0 ∧ Below w.heap.size w wr) (fun _ _ => 0)
 case atStart => exact ⟨rfl, h4⟩
 case round =>
 obtain ⟨w5, rfl⟩ : ∃ w2 : World, w2 = wr := ⟨_, rfl⟩
 obtain ⟨rfl, h5⟩ := hrel
 go_wp2_with fail
 go_ret
 exact ⟨rfl, h5⟩
set_option maxRecDepth 100000 in
set_option maxHeartbeats 1000000 in
theorem flatObjects_nil (w : World) : Calls Tryz.prog 104 #[.slice none 0 0] w fun e w' => e = .returned (.bool true) ∧ Below w.heap.size w w' := by
 go_enter Tryz.func104, Tryz.ntmps104
 go_wp2_with fail
 go_loopw [3] (fun i wr => i = .int .i64 0 ∧ Below w.heap.size w wr) (fun _ _ => 0)
 case atStart => exact ⟨rfl, Below.refl _ _⟩
 case round =>
 obtain ⟨w1, rfl⟩ : ∃ w2 : World, w2 = wr := ⟨_, rfl⟩
 obtain ⟨rfl, h1⟩ := hrel
 go_wp2_with (first | (with_reducible refine wpList_makeE rfl 126 243 _ _ rfl rfl rfl (by kernel_rfl) (by kernel_rfl) ?_; intro w9 h9))
 go_loopw [6] (fun i wr => i = .int .i64 0 ∧ Below w.heap.size w wr) (fun _ _ => 0)
 case atStart => exact ⟨rfl, belowThen h1 (Nat.le_refl _) h9⟩
 case round =>
 obtain ⟨w2, rfl⟩ : ∃ w2 : World, w2 = wr := ⟨_, rfl⟩
 obtain ⟨rfl, h2⟩ := hrel
 go_wp2_with fail
 go_loopw [9] (fun i wr => i = .int .i64 0 ∧ Below w.heap.size w wr) (fun _ _ => 0)
 case atStart => exact ⟨rfl, h2⟩
 case round =>
 obtain ⟨w3, rfl⟩ : ∃ w2 : World, w2 = wr := ⟨_, rfl⟩
 obtain ⟨rfl, h3⟩ := hrel
 go_wp2_with fail
 go_loopw [11] (fun i wr => i = .int .i64 0 ∧ Below w.heap.size w wr) (fun _ _ => 0)
 case atStart => exact ⟨rfl, h3⟩
 case round =>
 obtain ⟨w4, rfl⟩ : ∃ w2 : World, w2 = wr := ⟨_, rfl⟩
 obtain ⟨rfl, h4⟩ := hrel
 go_wp2_with fail
 go_loopw [14] (fun i wr => i = .int .i64 0 ∧ Below w.heap.size w wr) (fun _ _ => 0)
 case atStart => exact ⟨rfl, h4⟩
 case round =>
 obtain ⟨w5, rfl⟩ : ∃ w2 : World, w2 = wr := ⟨_, rfl⟩
 obtain ⟨rfl, h5⟩ := hrel
 go_wp2_with fail
 go_ret
 exact ⟨rfl, h5⟩
set_option maxRecDepth 100000 in
set_option maxHeartbeats 1000000 in
theorem flatQuotas_nil (w : World) : Calls Tryz.prog 105 #[.slice none 0 0] w fun e w' => e = .returned (.bool true) ∧ Below w.heap.size w w' := by
 go_enter Tryz.func105, Tryz.ntmps105
 go_wp2_with fail
 go_loopw [3] (fun i wr => i = .int .i64 0 ∧ Below w.heap.size w wr) (fun _ _ => 0)
 case atStart => exact ⟨rfl, Below.refl _ _⟩
 case round =>
 obtain ⟨w1, rfl⟩ : ∃ w2 : World, w2 = wr := ⟨_, rfl⟩
 obtain ⟨rfl, h1⟩ := hrel
 go_wp2_with (first | (with_reducible refine wpList_makeE rfl 127 248 _ _ rfl rfl rfl (by kernel_rfl) (by kernel_rfl) ?_; intro w9 h9))
 go_loopw [6] (fun i wr => i = .int .i64 0 ∧ Below w.heap.size w wr) (fun _ _ => 0)
 case atStart => exact ⟨rfl, belowThen h1 (Nat.le_refl _) h9⟩
 case round =>
 obtain ⟨w2, rfl⟩ : ∃ w2 : World, w2 = wr := ⟨_, rfl⟩
 obtain ⟨rfl, h2⟩ := hrel
 go_wp2_with fail
 go_loopw [9] (fun i wr => i = .int .i64 0 ∧ Below w.heap.size w wr) (fun _ _ => 0)
 case atStart => exact ⟨rfl, h2⟩
 case round =>
 obtain ⟨w3, rfl⟩ : ∃ w2 : World, w2 = wr := ⟨_, rfl⟩
 obtain ⟨rfl, h3⟩ := hrel
 go_wp2_with fail
 go_loopw [11] (fun i wr => i = .int .i64 0 ∧ Below w.heap.size w wr) (fun _ _ => 0)
 case atStart => exact ⟨rfl, h3⟩
 case round =>
 obtain ⟨w4, rfl⟩ : ∃ w2 : World, w2 = wr := ⟨_, rfl⟩
 obtain ⟨rfl, h4⟩ := hrel
 go_wp2_with fail
 go_loopw [14] (fun i wr => i = .int .i64 0 ∧ Below w.heap.size w wr) (fun _ _ => 0)
 case atStart => exact ⟨rfl, h4⟩
 case round =>
 obtain ⟨w5, rfl⟩ : ∃ w2 : World, w2 = wr := ⟨_, rfl⟩
 obtain ⟨rfl, h5⟩ := hrel
 go_wp2_with fail
 go_ret
 exact ⟨rfl, h5⟩
set_option maxRecDepth 100000 in
set_option maxHeartbeats 1000000 in
theorem flatNameds_nil (w : World) : Calls Tryz.prog 106 #[.slice none 0 0] w fun e w' => e = .returned (.bool true) ∧ Below w.heap.size w w' := by
 go_enter Tryz.func106, Tryz.ntmps106
 go_wp2_with fail
 go_loopw [3] (fun i wr => i = .int .i64 0 ∧ Below w.heap.size w wr) (fun _ _ => 0)
 case atStart => exact ⟨rfl, Below.refl _ _⟩
 case round =>
 obtain ⟨w1, rfl⟩ : ∃ w2 : World, w2 = wr := ⟨_, rfl⟩
 obtain ⟨rfl, h1⟩ := hrel
 go_wp2_with (first | (with_reducible refine wpList_makeE rfl 128 64 _ _ rfl rfl rfl (by kernel_rfl) (by kernel_rfl) ?_; intro w9 h9))
 go_loopw [6] (fun i wr => i = .int .i64 0 ∧ Below w.heap.size w wr) (fun _ _ => 0)
 case atStart => exact ⟨rfl, belowThen h1 (Nat.le_refl _) h9⟩
 case round =>
 obtain ⟨w2, rfl⟩ : ∃ w2 : World, w2 = wr := ⟨_, rfl⟩
 obtain ⟨rfl, h2⟩ := hrel
 go_wp2_with fail
 go_loopw [9] (fun i wr => i = .int .i64 0 ∧ Below w.heap.size w wr) (fun _ _ => 0)
 case atStart => exact ⟨rfl, h2⟩
 case round =>
 obtain ⟨w3, rfl⟩ : ∃ w2 : World, w2 = wr := ⟨_, rfl⟩
 obtain ⟨rfl, h3⟩ := hrel
 go_wp2_with fail
 go_loopw [11] (fun i wr => i = .int .i64 0 ∧ Below w.heap.size w wr) (fun _ _ => 0)
 case atStart => exact ⟨rfl, h3⟩
 case round =>
 obtain ⟨w4, rfl⟩ : ∃ w2 : World, w2 = wr := ⟨_, rfl⟩
 obtain ⟨rfl, h4⟩ := hrel
 go_wp2_with fail
 go_loopw [14] (fun i wr => i = .int .i64 0 ∧ Below w.heap.size w wr) (fun _ _ => 0)
 case atStart => exact ⟨rfl, h4⟩
 case round =>
 obtain ⟨w5, rfl⟩ : ∃ w2 : World, w2 = wr := ⟨_, rfl⟩
 obtain ⟨rfl, h5⟩ := hrel
 go_wp2_with fail
 go_ret
 exact ⟨rfl, h5⟩
set_option maxRecDepth 100000 in
set_option maxHeartbeats 1000000 in
theorem flatDrvs_nil (w : World) : Calls Tryz.prog 107 #[.slice none 0 0] w fun e w' => e = .returned (.bool true) ∧ Below w.heap.size w w' := by
 go_enter Tryz.func107, Tryz.ntmps107
 go_wp2_with fail
 go_loopw [3] (fun i wr => i = .int .i64 0 ∧ Below w.heap.size w wr) (fun _ _ => 0)
 case atStart => exact ⟨rfl, Below.refl _ _⟩
 case round =>
 obtain ⟨w1, rfl⟩ : ∃ w2 : World, w2 = wr := ⟨_, rfl⟩
 obtain ⟨rfl, h1⟩ := hrel
 go_wp2_with (first | (with_reducible refine wpList_makeE rfl 129 253 _ _ rfl rfl rfl (by kernel_rfl) (by kernel_rfl) ?_; intro w9 h9))
 go_loopw [6] (fun i wr => i = .int .i64 0 ∧ Below w.heap.size w wr) (fun _ _ => 0)
 case atStart => exact ⟨rfl, belowThen h1 (Nat.le_refl _) h9⟩
 case round =>
 obtain ⟨w2, rfl⟩ : ∃ w2 : World, w2 = wr := ⟨_, rfl⟩
 obtain ⟨rfl, h2⟩ := hrel
 go_wp2_with fail
 go_loopw [9] (fun i wr => i = .int .i64 0 ∧ Below w.heap.size w wr) (fun _ _ => 0)
 case atStart => exact ⟨rfl, h2⟩
 case round =>
 obtain ⟨w3, rfl⟩ : ∃ w2 : World, w2 = wr := ⟨_, rfl⟩
 obtain ⟨rfl, h3⟩ := hrel
 go_wp2_with fail
 go_loopw [11] (fun i wr => i = .int .i64 0 ∧ Below w.heap.size w wr) (fun _ _ => 0)
 case atStart => exact ⟨rfl, h3⟩
 case round =>
 obtain ⟨w4, rfl⟩ : ∃ w2 : World, w2 = wr := ⟨_, rfl⟩
 obtain ⟨rfl, h4⟩ := hrel
 go_wp2_with fail
 go_loopw [14] (fun i wr => i = .int .i64 0 ∧ Below w.heap.size w wr) (fun _ _ => 0)
 case atStart => exact ⟨rfl, h4⟩
 case round =>
 obtain ⟨w5, rfl⟩ : ∃ w2 : World, w2 = wr := ⟨_, rfl⟩
 obtain ⟨rfl, h5⟩ := hrel
 go_wp2_with fail
 go_ret
 exact ⟨rfl, h5⟩
set_option maxRecDepth 100000 in
set_option maxHeartbeats 1000000 in
theorem flatMades_nil (w : World) : Calls Tryz.prog 108 #[.slice none 0 0] w fun e w' => e = .returned (.bool true) ∧ Below w.heap.size w w' := by
 go_enter Tryz.func108, Tryz.ntmps108
 go_wp2_with fail
 go_loopw [3] (fun i wr => i = .int .i64 0 ∧ Below w.heap.size w wr) (fun _ _ => 0)
 case atStart => exact ⟨rfl, Below.refl _ _⟩
 case round =>
 obtain ⟨w1, rfl⟩ : ∃ w2 : World, w2 = wr := ⟨_, rfl⟩
 obtain ⟨rfl, h1⟩ := hrel
 go_wp2_with (first | (with_reducible refine wpList_makeE rfl 130 67 _ _ rfl rfl rfl (by kernel_rfl) (by kernel_rfl) ?_; intro w9 h9))
 go_loopw [6] (fun i wr => i = .int .i64 0 ∧ Below w.heap.size w wr) (fun _ _ => 0)
 case atStart => exact ⟨rfl, belowThen h1 (Nat.le_refl _) h9⟩
 case round =>
 obtain ⟨w2, rfl⟩ : ∃ w2 : World, w2 = wr := ⟨_, rfl⟩
 obtain ⟨rfl, h2⟩ := hrel
 go_wp2_with fail
 go_loopw [9] (fun i wr => i = .int .i64 0 ∧ Below w.heap.size w wr) (fun _ _ => 0)
 case atStart => exact ⟨rfl, h2⟩
 case round =>
 obtain ⟨w3, rfl⟩ : ∃ w2 : World, w2 = wr := ⟨_, rfl⟩
 obtain ⟨rfl, h3⟩ := hrel
 go_wp2_with fail
 go_loopw [11] (fun i wr => i = .int .i64 0 ∧ Below w.heap.size w wr) (fun _ _ => 0)
 case atStart => exact ⟨rfl, h3⟩
 case round =>
 obtain ⟨w4, rfl⟩ : ∃ w2 : World, w2 = wr := ⟨_, rfl⟩
 obtain ⟨rfl, h4⟩ := hrel
 go_wp2_with fail
 go_loopw [14] (fun i wr => i = .int .i64 0 ∧ Below w.heap.size w wr) (fun _ _ => 0)
 case atStart => exact ⟨rfl, h4⟩
 case round =>
 obtain ⟨w5, rfl⟩ : ∃ w2 : World, w2 = wr := ⟨_, rfl⟩
 obtain ⟨rfl, h5⟩ := hrel
 go_wp2_with fail
 go_ret
 exact ⟨rfl, h5⟩
set_option maxRecDepth 100000 in
set_option maxHeartbeats 1000000 in
theorem flatBuilts_nil (w : World) : Calls Tryz.prog 109 #[.slice none 0 0] w fun e w' => e = .returned (.bool true) ∧ Below w.heap.size w w' := by
 go_enter Tryz.func109, Tryz.ntmps109
 go_wp2_with fail
 go_loopw [3] (fun i wr => i = .int .i64 0 ∧ Below w.heap.size w wr) (fun _ _ => 0)
 case atStart => exact ⟨rfl, Below.refl _ _⟩
 case round =>
 obtain ⟨w1, rfl⟩ : ∃ w2 : World, w2 = wr := ⟨_, rfl⟩
 obtain ⟨rfl, h1⟩ := hrel
 go_wp2_with (first | (with_reducible refine wpList_makeE rfl 131 255 _ _ rfl rfl rfl (by kernel_rfl) (by kernel_rfl) ?_; intro w9 h9))
 go_loopw [6] (fun i wr => i = .int .i64 0 ∧ Below w.heap.size w wr) (fun _ _ => 0)
 case atStart => exact ⟨rfl, belowThen h1 (Nat.le_refl _) h9⟩
 case round =>
 obtain ⟨w2, rfl⟩ : ∃ w2 : World, w2 = wr := ⟨_, rfl⟩
 obtain ⟨rfl, h2⟩ := hrel
 go_wp2_with fail
 go_loopw [9] (fun i wr => i = .int .i64 0 ∧ Below w.heap.size w wr) (fun _ _ => 0)
 case atStart => exact ⟨rfl, h2⟩
 case round =>
 obtain ⟨w3, rfl⟩ : ∃ w2 : World, w2 = wr := ⟨_, rfl⟩
 obtain ⟨rfl, h3⟩ := hrel
 go_wp2_with fail
 go_loopw [11] (fun i wr => i = .int .i64 0 ∧ Below w.heap.size w wr) (fun _ _ => 0)
 case atStart => exact ⟨rfl, h3⟩
 case round =>
 obtain ⟨w4, rfl⟩ : ∃ w2 : World, w2 = wr := ⟨_, rfl⟩
 obtain ⟨rfl, h4⟩ := hrel
 go_wp2_with fail
 go_loopw [14] (fun i wr => i = .int .i64 0 ∧ Below w.heap.size w wr) (fun _ _ => 0)
 case atStart => exact ⟨rfl, h4⟩
 case round =>
 obtain ⟨w5, rfl⟩ : ∃ w2 : World, w2 = wr := ⟨_, rfl⟩
 obtain ⟨rfl, h5⟩ := hrel
 go_wp2_with fail
 go_ret
 exact ⟨rfl, h5⟩
set_option maxRecDepth 100000 in
set_option maxHeartbeats 1000000 in
theorem flatRequests_nil (w : World) : Calls Tryz.prog 110 #[.slice none 0 0] w fun e w' => e = .returned (.bool true) ∧ Below w.heap.size w w' := by
 go_enter Tryz.func110, Tryz.ntmps110
 go_wp2_with fail
 go_loopw [3] (fun i wr => i = .int .i64 0 ∧ Below w.heap.size w wr) (fun _ _ => 0)
 case atStart => exact ⟨rfl, Below.refl _ _⟩
 case round =>
 obtain ⟨w1, rfl⟩ : ∃ w2 : World, w2 = wr := ⟨_, rfl⟩
 obtain ⟨rfl, h1⟩ := hrel
 go_wp2_with (first | (with_reducible refine wpList_makeE rfl 132 260 _ _ rfl rfl rfl (by kernel_rfl) (by kernel_rfl) ?_; intro w9 h9))
 go_loopw [6] (fun i wr => i = .int .i64 0 ∧ Below w.heap.size w wr) (fun _ _ => 0)
 case atStart => exact ⟨rfl, belowThen h1 (Nat.le_refl _) h9⟩
 case round =>
 obtain ⟨w2, rfl⟩ : ∃ w2 : World, w2 = wr := ⟨_, rfl⟩
 obtain ⟨rfl, h2⟩ := hrel
 go_wp2_with fail
 go_loopw [9] (fun i wr => i = .int .i64 0 ∧ Below w.heap.size w wr) (fun _ _ => 0)
 case atStart => exact ⟨rfl, h2⟩
 case round =>
 obtain ⟨w3, rfl⟩ : ∃ w2 : World, w2 = wr := ⟨_, rfl⟩
 obtain ⟨rfl, h3⟩ := hrel
 go_wp2_with fail
 go_loopw [11] (fun i wr => i = .int .i64 0 ∧ Below w.heap.size w wr) (fun _ _ => 0)
 case atStart => exact ⟨rfl, h3⟩
 case round =>
 obtain ⟨w4, rfl⟩ : ∃ w2 : World, w2 = wr := ⟨_, rfl⟩
 obtain ⟨rfl, h4⟩ := hrel
 go_wp2_with fail
 go_loopw [14] (fun i wr => i = .int .i64 0 ∧ Below w.heap.size w wr) (fun _ _ => 0)
 case atStart => exact ⟨rfl, h4⟩
 case round =>
 obtain ⟨w5, rfl⟩ : ∃ w2 : World, w2 = wr := ⟨_, rfl⟩
 obtain ⟨rfl, h5⟩ := hrel
 go_wp2_with fail
 go_ret
 exact ⟨rfl, h5⟩
set_option maxRecDepth 100000 in
set_option maxHeartbeats 1000000 in
theorem flatReplies_nil (w : World) : Calls Tryz.prog 111 #[.slice none 0 0] w fun e w' => e = .returned (.bool true) ∧ Below w.heap.size w w' := by
 go_enter Tryz.func111, Tryz.ntmps111
 go_wp2_with fail
 go_loopw [3] (fun i wr => i = .int .i64 0 ∧ Below w.heap.size w wr) (fun _ _ => 0)
 case atStart => exact ⟨rfl, Below.refl _ _⟩
 case round =>
 obtain ⟨w1, rfl⟩ : ∃ w2 : World, w2 = wr := ⟨_, rfl⟩
 obtain ⟨rfl, h1⟩ := hrel
 go_wp2_with (first | (with_reducible refine wpList_makeE rfl 133 266 _ _ rfl rfl rfl (by kernel_rfl) (by kernel_rfl) ?_; intro w9 h9))
 go_loopw [6] (fun i wr => i = .int .i64 0 ∧ Below w.heap.size w wr) (fun _ _ => 0)
 case atStart => exact ⟨rfl, belowThen h1 (Nat.le_refl _) h9⟩
 case round =>
 obtain ⟨w2, rfl⟩ : ∃ w2 : World, w2 = wr := ⟨_, rfl⟩
 obtain ⟨rfl, h2⟩ := hrel
 go_wp2_with fail
 go_loopw [9] (fun i wr => i = .int .i64 0 ∧ Below w.heap.size w wr) (fun _ _ => 0)
 case atStart => exact ⟨rfl, h2⟩
 case round =>
 obtain ⟨w3, rfl⟩ : ∃ w2 : World, w2 = wr := ⟨_, rfl⟩
 obtain ⟨rfl, h3⟩ := hrel
 go_wp2_with fail
 go_loopw [11] (fun i wr => i = .int .i64 0 ∧ Below w.heap.size w wr) (fun _ _ => 0)
 case atStart => exact ⟨rfl, h3⟩
 case round =>
 obtain ⟨w4, rfl⟩ : ∃ w2 : World, w2 = wr := ⟨_, rfl⟩
 obtain ⟨rfl, h4⟩ := hrel
 go_wp2_with fail
 go_loopw [14] (fun i wr => i = .int .i64 0 ∧ Below w.heap.size w wr) (fun _ _ => 0)
 case atStart => exact ⟨rfl, h4⟩
 case round =>
 obtain ⟨w5, rfl⟩ : ∃ w2 : World, w2 = wr := ⟨_, rfl⟩
 obtain ⟨rfl, h5⟩ := hrel
 go_wp2_with fail
 go_ret
 exact ⟨rfl, h5⟩
end Go.Proofs.YtdebbmembkbniaaGreat
/-! A region that draws its order, whose operations read and call, in a class of worlds; over any program. -/
namespace Go.Agg
open Go.RowKit
variable {P : Program}
structure Cls (C : World → Prop) where
 w : World
 h : C w
end Go.Agg
/-! (*spencekit.bag).apart of rows of bytes alone. -/
namespace Go.Proofs.YtdebbmembkbniaaGreat
open Go.RowKit Pl Go.Agg
def bagC (v0 : Value) : Array Value := #[.slice none 0 0, .slice none 0 0, .slice none 0 0, .slice none 0 0, .slice none 0 0, v0, .slice none 0 0, .slice none 0 0, .slice none 0 0, .slice none 0 0, .slice none 0 0, .slice none 0 0, .slice none 0 0, .slice none 0 0, .slice none 0 0, .slice none 0 0, .slice none 0 0, .slice none 0 0, .slice none 0 0, .slice none 0 0, .slice none 0 0]
def ApC (w : World) (vs : List SV) (f : Nat → List UInt8) (w' : World) : Prop := Only (SS vs) w w' ∧ ∃ f', RoomsOf EB w' vs f' ∧ ∀ j, (f' j).length = (f j).length
theorem ApC.below {w : World} {vs : List SV} {f : Nat → List UInt8} (a b : World) (h : ApC w vs f a) (hb : Below a.heap.size a b) : ApC w vs f b := by
 obtain ⟨h1, f', h2, h3⟩ := h
 exact ⟨h1.trans (Only.of_below (S := fun _ => False) hb) (fun _ _ h => h.elim), f', h2.below hb, h3⟩
set_option maxRecDepth 100000 in
set_option maxHeartbeats 2000000 in
theorem apart_any (g : Nat) (v0 : Value) (vs : List SV) (f : Nat → List UInt8) (w : World) (hg : Blk w g 135 (bagC v0)) (hgS : ¬ SS vs g) (he : BBAt w v0 vs) (hr : RoomsOf EB w vs f) (hd : Dist vs) (hsep : ∀ b, v0.ownBlock = some b → ¬ SS vs b) (hn : vs.length ≤ 4194304) (hf : ∀ j, (f j).length ≤ 8388608) :
  Calls Tryz.prog 59 #[.pointer (some ⟨g, 0, none⟩)] w fun e w' => e = .returned (.bool true) ∧ ApC w vs f w' := by
 have hld : ∀ (k : Nat) (v : Value) (ty : TypeId) (d : TypeDesc), (bagC v0)[k]? = some v → Tryz.prog.underlying ty = some d → (match d with | .struct _ | .array _ _ => true | _ => false) = false →
   ∀ w', ApC w vs f w' → LoadsL Tryz.prog w' ty (some ⟨g, k, none⟩) v := by
  intro k v ty d hk hu hd w' hx
  have hb : Blk w' g 135 (bagC v0) := (hx.1.block g hg.lt hgS).trans hg
  exact hb.one (P := Tryz.prog) k hk hu (by cases d <;> first | rfl | cases hd)
 have HLD := Lib.hid hld
 clear hld
 have HCC : Hid (∀ a b, ApC w vs f a → Below a.heap.size a b → ApC w vs f b) := Lib.hid ApC.below
 have HCB : Hid (∀ x : Cls (ApC w vs f), Calls Tryz.prog 96 #[v0] x.w fun e w' => e = .returned (.bool true) ∧ ApC w vs f w') := Lib.hid (fun x => by
  obtain ⟨x, h1, f', h2, h3⟩ := x
  refine (flatBytes_any v0 vs f' x (SliceOf.onlyS he h1 hsep) h2 hd hsep hn (fun j => by rw [h3]; exact hf j)).mono ?_
  rintro e w' ⟨rfl, h4, f2, h5, h6⟩
  exact ⟨rfl, h1.trans h4 (fun _ _ h => h), f2, h5, fun j => by rw [h6, h3]⟩)
 have h0 : ApC w vs f w := ⟨Only.refl _ _, f, hr, fun _ => rfl⟩
 have HC := Lib.hid h0
 clear h0 hr hd hsep hf he hg
 go_enter Tryz.func59, Tryz.ntmps59
 simp only [List.append_eq, List.cons_append, List.nil_append]
 have HL := Lib.hid (HLD.out 0 (.slice none 0 0) 115 _ rfl Tryz.underlying115 rfl _ HC.out)
 go_wp2_with (first | (with_reducible refine wpList_loadL HL.out rfl _ rfl rfl ?_))
 clear HL
 refine (flatLimbs_nil _).mono ?_
 rintro e w1 ⟨rfl, h1⟩
 have HC := Lib.hid (HCC.out _ _ HC.out h1)
 clear h1
 have HL := Lib.hid (HLD.out 1 (.slice none 0 0) 116 _ rfl Tryz.underlying116 rfl _ HC.out)
 go_wp2_with (first | (with_reducible refine wpList_loadL HL.out rfl _ rfl rfl ?_))
 clear HL
 refine (flatWords_nil _).mono ?_
 rintro e w2 ⟨rfl, h2⟩
 have HC := Lib.hid (HCC.out _ _ HC.out h2)
 clear h2
 have HL := Lib.hid (HLD.out 2 (.slice none 0 0) 117 _ rfl Tryz.underlying117 rfl _ HC.out)
 go_wp2_with (first | (with_reducible refine wpList_loadL HL.out rfl _ rfl rfl ?_))
 clear HL
 refine (flatInts_nil _).mono ?_
 rintro e w3 ⟨rfl, h3⟩
 have HC := Lib.hid (HCC.out _ _ HC.out h3)
 clear h3
 have HL := Lib.hid (HLD.out 3 (.slice none 0 0) 118 _ rfl Tryz.underlying118 rfl _ HC.out)
 go_wp2_with (first | (with_reducible refine wpList_loadL HL.out rfl _ rfl rfl ?_))
 clear HL
 refine (flatLongs_nil _).mono ?_
 rintro e w4 ⟨rfl, h4⟩
 have HC := Lib.hid (HCC.out _ _ HC.out h4)
 clear h4
 have HL := Lib.hid (HLD.out 4 (.slice none 0 0) 119 _ rfl Tryz.underlying119 rfl _ HC.out)
 go_wp2_with (first | (with_reducible refine wpList_loadL HL.out rfl _ rfl rfl ?_))
 clear HL
 refine (flatTexts_nil _).mono ?_
 rintro e w5 ⟨rfl, h5⟩
 have HC := Lib.hid (HCC.out _ _ HC.out h5)
 clear h5
 have HL := Lib.hid (HLD.out 5 (v0) 62 _ rfl Tryz.underlying62 rfl _ HC.out)
 go_wp2_with (first | (with_reducible refine wpList_loadL HL.out rfl _ rfl rfl ?_))
 clear HL
 refine (HCB.out ⟨_, HC.out⟩).mono ?_
 rintro e w6 ⟨rfl, h6⟩
 have HC := Lib.hid h6
 clear h6
 have HL := Lib.hid (HLD.out 6 (.slice none 0 0) 120 _ rfl Tryz.underlying120 rfl _ HC.out)
 go_wp2_with (first | (with_reducible refine wpList_loadL HL.out rfl _ rfl rfl ?_))
 clear HL
 refine (flatTruths_nil _).mono ?_
 rintro e w7 ⟨rfl, h7⟩
 have HC := Lib.hid (HCC.out _ _ HC.out h7)
 clear h7
 have HL := Lib.hid (HLD.out 7 (.slice none 0 0) 60 _ rfl Tryz.underlying60 rfl _ HC.out)
 go_wp2_with (first | (with_reducible refine wpList_loadL HL.out rfl _ rfl rfl ?_))
 clear HL
 refine (flatPaths_nil _).mono ?_
 rintro e w8 ⟨rfl, h8⟩
 have HC := Lib.hid (HCC.out _ _ HC.out h8)
 clear h8
 have HL := Lib.hid (HLD.out 8 (.slice none 0 0) 121 _ rfl Tryz.underlying121 rfl _ HC.out)
 go_wp2_with (first | (with_reducible refine wpList_loadL HL.out rfl _ rfl rfl ?_))
 clear HL
 refine (flatKids_nil _).mono ?_
 rintro e w9 ⟨rfl, h9⟩
 have HC := Lib.hid (HCC.out _ _ HC.out h9)
 clear h9
 have HL := Lib.hid (HLD.out 9 (.slice none 0 0) 122 _ rfl Tryz.underlying122 rfl _ HC.out)
 go_wp2_with (first | (with_reducible refine wpList_loadL HL.out rfl _ rfl rfl ?_))
 clear HL
 refine (flatNodes_nil _).mono ?_
 rintro e w10 ⟨rfl, h10⟩
 have HC := Lib.hid (HCC.out _ _ HC.out h10)
 clear h10
 have HL := Lib.hid (HLD.out 10 (.slice none 0 0) 123 _ rfl Tryz.underlying123 rfl _ HC.out)
 go_wp2_with (first | (with_reducible refine wpList_loadL HL.out rfl _ rfl rfl ?_))
 clear HL
 refine (flatLines_nil _).mono ?_
 rintro e w11 ⟨rfl, h11⟩
 have HC := Lib.hid (HCC.out _ _ HC.out h11)
 clear h11
 have HL := Lib.hid (HLD.out 11 (.slice none 0 0) 124 _ rfl Tryz.underlying124 rfl _ HC.out)
 go_wp2_with (first | (with_reducible refine wpList_loadL HL.out rfl _ rfl rfl ?_))
 clear HL
 refine (flatChanges_nil _).mono ?_
 rintro e w12 ⟨rfl, h12⟩
 have HC := Lib.hid (HCC.out _ _ HC.out h12)
 clear h12
 have HL := Lib.hid (HLD.out 12 (.slice none 0 0) 125 _ rfl Tryz.underlying125 rfl _ HC.out)
 go_wp2_with (first | (with_reducible refine wpList_loadL HL.out rfl _ rfl rfl ?_))
 clear HL
 refine (flatRuns_nil _).mono ?_
 rintro e w13 ⟨rfl, h13⟩
 have HC := Lib.hid (HCC.out _ _ HC.out h13)
 clear h13
 have HL := Lib.hid (HLD.out 13 (.slice none 0 0) 126 _ rfl Tryz.underlying126 rfl _ HC.out)
 go_wp2_with (first | (with_reducible refine wpList_loadL HL.out rfl _ rfl rfl ?_))
 clear HL
 refine (flatObjects_nil _).mono ?_
 rintro e w14 ⟨rfl, h14⟩
 have HC := Lib.hid (HCC.out _ _ HC.out h14)
 clear h14
 have HL := Lib.hid (HLD.out 14 (.slice none 0 0) 127 _ rfl Tryz.underlying127 rfl _ HC.out)
 go_wp2_with (first | (with_reducible refine wpList_loadL HL.out rfl _ rfl rfl ?_))
 clear HL
 refine (flatQuotas_nil _).mono ?_
 rintro e w15 ⟨rfl, h15⟩
 have HC := Lib.hid (HCC.out _ _ HC.out h15)
 clear h15
 have HL := Lib.hid (HLD.out 15 (.slice none 0 0) 128 _ rfl Tryz.underlying128 rfl _ HC.out)
 go_wp2_with (first | (with_reducible refine wpList_loadL HL.out rfl _ rfl rfl ?_))
 clear HL
 refine (flatNameds_nil _).mono ?_
 rintro e w16 ⟨rfl, h16⟩
 have HC := Lib.hid (HCC.out _ _ HC.out h16)
 clear h16
 have HL := Lib.hid (HLD.out 16 (.slice none 0 0) 129 _ rfl Tryz.underlying129 rfl _ HC.out)
 go_wp2_with (first | (with_reducible refine wpList_loadL HL.out rfl _ rfl rfl ?_))
 clear HL
 refine (flatDrvs_nil _).mono ?_
 rintro e w17 ⟨rfl, h17⟩
 have HC := Lib.hid (HCC.out _ _ HC.out h17)
 clear h17
 have HL := Lib.hid (HLD.out 17 (.slice none 0 0) 130 _ rfl Tryz.underlying130 rfl _ HC.out)
 go_wp2_with (first | (with_reducible refine wpList_loadL HL.out rfl _ rfl rfl ?_))
 clear HL
 refine (flatMades_nil _).mono ?_
 rintro e w18 ⟨rfl, h18⟩
 have HC := Lib.hid (HCC.out _ _ HC.out h18)
 clear h18
 have HL := Lib.hid (HLD.out 18 (.slice none 0 0) 131 _ rfl Tryz.underlying131 rfl _ HC.out)
 go_wp2_with (first | (with_reducible refine wpList_loadL HL.out rfl _ rfl rfl ?_))
 clear HL
 refine (flatBuilts_nil _).mono ?_
 rintro e w19 ⟨rfl, h19⟩
 have HC := Lib.hid (HCC.out _ _ HC.out h19)
 clear h19
 have HL := Lib.hid (HLD.out 19 (.slice none 0 0) 132 _ rfl Tryz.underlying132 rfl _ HC.out)
 go_wp2_with (first | (with_reducible refine wpList_loadL HL.out rfl _ rfl rfl ?_))
 clear HL
 refine (flatRequests_nil _).mono ?_
 rintro e w20 ⟨rfl, h20⟩
 have HC := Lib.hid (HCC.out _ _ HC.out h20)
 clear h20
 have HL := Lib.hid (HLD.out 20 (.slice none 0 0) 133 _ rfl Tryz.underlying133 rfl _ HC.out)
 go_wp2_with (first | (with_reducible refine wpList_loadL HL.out rfl _ rfl rfl ?_))
 clear HL
 refine (flatReplies_nil _).mono ?_
 rintro e w21 ⟨rfl, h21⟩
 have HC := Lib.hid (HCC.out _ _ HC.out h21)
 clear h21
 go_wp2_with fail
 go_ret
 exact ⟨rfl, HC.out⟩
end Go.Proofs.YtdebbmembkbniaaGreat
/-! One cell of a block written; (*bag).putBytes. -/
namespace Go.Proofs.YtdebbmembkbniaaGreat
open Go.RowKit Pl Go.Agg
theorem bag_put {w w1 : World} {g : Nat} {v0 v1 : Value} {l : List SV} (hg : Blk w g 135 (bagC v0)) (ho : Own EBB (g + 1) w1 v1 l) (hp : Pushed EBB (g + 1) w w1 v0) :
  ∃ w2, (Instr.storeAt 62 (.pointer (some ⟨g, 5, none⟩)) v1).run Tryz.prog w1 = .ok () w2 ∧ Blk w2 g 135 (bagC v1) ∧ Own EBB (g + 1) w2 v1 l ∧ Below g w w2 := by
 have h1 : Blk w1 g 135 (bagC v0) := hp.blk g _ _ _ (by decide) hg
 obtain ⟨p, c, rfl⟩ := ho.slice.form
 refine ⟨_, h1.run_put 5 (by simp [bagC]) _ rfl rfl (by kernel_rfl), h1.set 5 _, ho.keep fun k cur t fr hk hb => ?_, ?_⟩
 ·rw [Below.heap_setCell _ _ _ _ (by show k ≠ g; omega)]; exact hb
 ·have hb := hp.below g (by omega) (Nat.le_of_lt hg.lt)
  exact hb.setCell (Nat.le_refl _) _
set_option maxRecDepth 100000 in
set_option maxHeartbeats 1000000 in
theorem putBytes_any (g : Nat) (v0 : Value) (vs : List SV) (x : SV) (w : World) (hg : Blk w g 135 (bagC v0)) (ho : Own EBB (g + 1) w v0 vs) (hn : vs.length ≤ 4194304) :
  Calls Tryz.prog 60 #[.pointer (some ⟨g, 0, none⟩), x.1] w fun e w' => (∃ r, e = .returned r) ∧ ∃ v', Blk w' g 135 (bagC v') ∧ Own EBB (g + 1) w' v' (vs ++ [x]) ∧ Below g w w' := by
 have hl : LoadsL Tryz.prog w 62 (some ⟨g, 5, none⟩) v0 := hg.one (P := Tryz.prog) 5 rfl (by kernel_rfl : Tryz.prog.underlying 62 = some (.slice 23)) rfl
 have HL := Lib.hid hl
 have HG := Lib.hid hg
 have HO := Lib.hid ho
 have hlt := hg.lt
 have h63 : vs.length + 1 ≤ 1099511627776 / 8 := by omega
 have hbase : g + 1 ≤ w.heap.size := hlt
 clear hl hg ho
 go_enter Tryz.func60, Tryz.ntmps60
 go_wp2_with (first | (with_reducible refine wpList_loadL HL.out rfl _ rfl rfl ?_) | (refine wpList_push (E := EBB) (base := g + 1) rfl rfl 10 rfl _ rfl _ rfl x rfl (fun _ => rfl) (by simp) HO.out h63 (by decide) hbase ?_; intro u1 v1 w1 ho1 hp1; obtain ⟨w2, hrun, hfin⟩ := bag_put HG.out ho1 hp1; have HFIN := Lib.hid hfin; clear ho1 hp1 hfin) | (refine wpList_store rfl rfl 62 _ _ rfl (.pointer (some ⟨g, 5, none⟩)) _ rfl rfl hrun ?_))
 refine bodyPost_end (results_none rfl _ _ _) rfl ?_
 exact ⟨⟨_, rfl⟩, _, HFIN.out.1, HFIN.out.2.1, HFIN.out.2.2⟩
end Go.Proofs.YtdebbmembkbniaaGreat
/-! spencekit.ApartBytes. -/
namespace Go.Proofs.YtdebbmembkbniaaGreat
open Go.RowKit Pl Go.Agg
set_option maxRecDepth 100000 in
set_option maxHeartbeats 1000000 in
theorem apartBytes_any (v0 : Value) (vs : List SV) (f : Nat → List UInt8) (w : World) (he : BBAt w v0 vs) (hr : RoomsOf EB w vs f) (hd : Dist vs) (hn : vs.length ≤ 4194304) (hf : ∀ j, (f j).length ≤ 8388608) :
  Calls Tryz.prog 26 #[v0] w fun e w' => e = .returned (.bool true) ∧ Only (SS vs) w w' := by
 have hlv := fun W => bb_len he W
 have HE := Lib.hid he
 have HR := Lib.hid hr
 have HD := Lib.hid hd
 clear he hr hd
 have hbld : ∀ W, (Instr.build 135 #[]).run Tryz.prog W = .ok (.agg (bagC (.slice none 0 0))) W := fun W => by kernel_rfl
 have HBLD := Lib.hid hbld
 clear hbld
 go_enter Tryz.func26, Tryz.ntmps26
 go_wp2_with (first | (with_reducible refine wpList_build0 135 rfl rfl (.agg (bagC (.slice none 0 0))) HBLD.out ?_) | (with_reducible refine wpList_box rfl 135 _ rfl (bagC (.slice none 0 0)) rfl ?_; intro g w1 hb1 hx1 hlt1))
 go_loopw [4] (fun i wr => ∃ k : Nat, k ≤ vs.length ∧ i = .int .i64 k ∧ ∃ u, Blk wr g 135 (bagC u) ∧ Own EBB (g + 1) wr u (vs.take k) ∧ Below w.heap.size w wr) (fun i _ => vs.length - (intOf i).toNat)
 case atStart => exact ⟨0, by omega, rfl, _, hb1, Own.nil _ _ _, hx1⟩
 case round =>
  clear hb1 hx1
  obtain ⟨w2, rfl⟩ : ∃ w2 : World, w2 = wr := ⟨_, rfl⟩
  obtain ⟨k, hk, rfl, u, hb, ho, hw⟩ := hrel
  have HB := Lib.hid hb
  have HO := Lib.hid ho
  have HW := Lib.hid hw
  clear hb ho hw
  by_cases hlt : k < vs.length
  ·obtain ⟨v, hvk⟩ : ∃ v, vs[k]? = some v := ⟨_, List.getElem?_eq_getElem hlt⟩
   have HV := Lib.hid hvk
   obtain ⟨q, hadr, hld⟩ := bb_at (SliceOf.below HE.out HW.out) k v hvk
   have HL := Lib.hid hld
   have hkl : (vs.take k).length ≤ k := List.length_take_le _ _
   clear hvk hld
   go_wp2_with (first | (with_reducible refine wpList_loadL HL.out rfl _ rfl rfl ?_))
   refine (putBytes_any g u (vs.take k) v w2 HB.out HO.out (by omega)).mono ?_
   rintro e w3 ⟨⟨r, rfl⟩, u3, hb3, ho3, hw3⟩
   have ht : vs.take k ++ [v] = vs.take (k + 1) := by rw [List.take_add_one, HV.out]; rfl
   rw [ht] at ho3
   go_wp2_with fail
   go_roundw
   case rel => exact ⟨k + 1, by omega, by go_num, _, hb3, ho3, HW.out.trans (hw3.mono hlt1)⟩
   case measure => simp [intOf]; omega
  ·obtain rfl : k = vs.length := by omega
   have ho := HO.out
   rw [List.take_length] at ho
   have hss : ∀ b, SS vs b → b < w.heap.size := HR.out.lt
   have hsep : ∀ b, u.ownBlock = some b → ¬ SS vs b := fun b hb h => by
    have h1 := (ho.block b hb).1
    have h2 := hss b h
    omega
   have hgS : ¬ SS vs g := fun h => by have := hss g h; omega
   have HA := Lib.hid (apart_any g u vs f w2 HB.out hgS ho.slice (HR.out.below HW.out) HD.out hsep hn hf)
   clear ho hss hsep hgS
   go_wp2_with fail
   refine HA.out.mono ?_
   rintro e w3 ⟨rfl, h3, _⟩
   go_wp2_with fail
   go_ret
   exact ⟨rfl, (Only.of_below HW.out).trans h3 (fun _ _ h => h)⟩
end Go.Proofs.YtdebbmembkbniaaGreat
/-! Marks of any elements; rows while they are marked. -/
namespace Go.Agg
open Go.RowKit
section
variable {α : Type} (mk : Nat → Nat → α)
def marksG (k n : Nat) : List α := (List.range n).map (mk k)
theorem marksG_length (k n : Nat) : (marksG mk k n).length = n := by simp [marksG]
theorem marksG_succ (k n : Nat) : marksG mk k (n + 1) = marksG mk k n ++ [mk k n] := by simp [marksG, List.range_succ]
theorem marksG_get (k n i : Nat) (h : i < n) : (marksG mk k n)[i]? = some (mk k i) := by simp [marksG, h]
theorem marksG_set (k i : Nat) (l : List α) (hi : i < l.length) : (marksG mk k i ++ l.drop i).set i (mk k i) = marksG mk k (i + 1) ++ l.drop (i + 1) := by
 rw [List.set_append_right _ _ (by rw [marksG_length]; exact Nat.le_refl _), marksG_length, Nat.sub_self, List.drop_eq_getElem_cons hi, List.set_cons_zero, marksG_succ, List.append_assoc, List.singleton_append]
def wroteG (f : Nat → List α) (k i : Nat) : Nat → List α := fun j => if j = k then marksG mk k i ++ (f k).drop i else if j < k then marksG mk j (f j).length else f j
def wroteToG (f : Nat → List α) (k : Nat) : Nat → List α := fun j => if j < k then marksG mk j (f j).length else f j
theorem wroteG_zero (f : Nat → List α) (k : Nat) : wroteG mk f k 0 = wroteToG mk f k := by
 funext j
 unfold wroteG wroteToG
 by_cases hj : j = k
 ·subst hj; simp [marksG]
 ·simp [hj]
theorem wroteToG_zero (f : Nat → List α) : wroteToG mk f 0 = f := by funext j; simp [wroteToG]
theorem wroteToG_at (f : Nat → List α) (n k : Nat) (h : k < n) : wroteToG mk f n k = marksG mk k (f k).length := by simp [wroteToG, h]
theorem wroteToG_same (f : Nat → List α) (n k : Nat) (h : k < n) : (fun j => if j = k then marksG mk k (f k).length else wroteToG mk f n j) = wroteToG mk f n := by
 funext j
 by_cases hj : j = k
 ·subst hj; simp [wroteToG, h]
 ·simp [hj]
theorem marksG_more (k n i : Nat) : marksG mk k (n + i) ++ [mk k (n + i)] = marksG mk k (n + (i + 1)) := by rw [← Nat.add_assoc, marksG_succ]
theorem wroteG_all (f : Nat → List α) (k : Nat) : wroteG mk f k (f k).length = wroteToG mk f (k + 1) := by
 funext j
 unfold wroteG wroteToG
 by_cases hj : j = k
 ·subst hj; simp
 ·by_cases h : j < k
  ·simp [hj, h, show j < k + 1 by omega]
  ·simp [hj, h, show ¬ j < k + 1 by omega]
theorem wroteG_succ (f : Nat → List α) (k i : Nat) (hi : i < (f k).length) : (fun j => if j = k then (wroteG mk f k i k).set i (mk k i) else wroteG mk f k i j) = wroteG mk f k (i + 1) := by
 funext j
 unfold wroteG
 by_cases hj : j = k
 ·subst hj; simp [marksG_set mk _ _ _ hi]
 ·simp [hj]
theorem wroteG_len (f : Nat → List α) (k i : Nat) (hi : i ≤ (f k).length) : (wroteG mk f k i k).length = (f k).length := by unfold wroteG; simp [marksG_length]; omega
theorem wroteToG_len (f : Nat → List α) (n j : Nat) : (wroteToG mk f n j).length = (f j).length := by unfold wroteToG; split <;> simp [marksG_length]
end
end Go.Agg
/-! spencekit.markText, markNamed. -/
namespace Go.Proofs.YtdebbmembkbniaaGreat
open Go.RowKit Pl Go.Agg
def mkT (k i : Nat) : List UInt8 := [35, UInt8.ofNat k, UInt8.ofNat (k / 256), UInt8.ofNat (k / 65536), 47, UInt8.ofNat i, UInt8.ofNat (i / 256), UInt8.ofNat (i / 65536)]
theorem mkT_flat (k i : Nat) : EB.flat (mkT k i) = [.int .u8 35, .int .u8 ((k : Int) % 256), .int .u8 ((k : Int) / 256 % 256), .int .u8 ((k : Int) / 65536 % 256), .int .u8 47, .int .u8 ((i : Int) % 256), .int .u8 ((i : Int) / 256 % 256), .int .u8 ((i : Int) / 65536 % 256)] := by
 have h : ∀ x : UInt8, EB.cs x = [.int .u8 (x.toNat : Int)] := fun _ => rfl
 have h2 : ∀ n : Nat, ((UInt8.ofNat n).toNat : Int) = (n : Int) % 256 := fun n => by simp
 simp only [Elem.flat, mkT, List.flatMap_cons, List.flatMap_nil, h, List.singleton_append, List.append_nil, h2]
 simp
theorem mkT_at (k i : Nat) (w : World) : BytesAt (w.alloc (.cells #[.int .u8 35, .int .u8 ((k : Int) % 256), .int .u8 ((k : Int) / 256 % 256), .int .u8 ((k : Int) / 65536 % 256), .int .u8 47, .int .u8 ((i : Int) % 256), .int .u8 ((i : Int) / 256 % 256), .int .u8 ((i : Int) / 65536 % 256)] 5)) (.slice (some ⟨w.heap.size, 0, none⟩) 8 8) (mkT k i) := by
 refine .inr ⟨_, 8, rfl, (Blk.new w _ _).lt, fun j u hj => ?_⟩
 rw [mkT_flat] at hj
 rw [add_plain, Nat.zero_add, (Blk.new w _ _).cell]
 simpa using hj
set_option maxRecDepth 100000 in
set_option maxHeartbeats 1000000 in
theorem markText_any (k i : Nat) (w : World) : Calls Tryz.prog 131 #[.int .i64 (k : Int), .int .i64 (i : Int)] w fun e w' => e = .returned (.string ⟨(mkT k i).toArray⟩) ∧ Below w.heap.size w w' := by
 go_enter Tryz.func131, Tryz.ntmps131
 have HM := Lib.hid (mkT_at k i w)
 go_wp2_with (first | (with_reducible refine wpList_toStr HM.out _ rfl (by kernel_rfl) rfl ?_))
 go_ret
 exact ⟨rfl, (Below.refl _ _).alloc (Nat.le_refl _) _⟩
end Go.Proofs.YtdebbmembkbniaaGreat
