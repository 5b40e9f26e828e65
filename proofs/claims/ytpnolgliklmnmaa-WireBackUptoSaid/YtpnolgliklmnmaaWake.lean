/- spencelaw28.awake: the request of its example. -/
import Derived.Test.YtpnolgliklmnmaaFramesW
import Derived.Test.YtpnolgliklmnmaaRowsK
import Derived.Test.YtpnolgliklmnmaaName
import Derived.BigQuiet
namespace Go.Proofs.Ytpnolgliklmnmaa
open Go.RowKit Pl Go.Agg
def hz20 : Array Value := Array.replicate 20 (.int .u8 0)
def pz21 : Array Value := hz20 ++ #[.string ⟨#[]⟩]
def rq5 : Array Value := #[.int .i64 7, .int .i64 2, .int .i64 0, .string ⟨#[]⟩, .slice none 0 0]
def rqC : Array Value := rq5 ++ (pz21 ++ hz20)
theorem rq_path (j : Nat) (v : Value) (h : pz21[j]? = some v) : rqC[5 + j]? = some v := by
  have hj := (Array.getElem?_eq_some_iff.1 h).1
  unfold rqC
  rw [Array.getElem?_append_right (by simp [rq5]), show 5 + j - rq5.size = j by simp [rq5], Array.getElem?_append_left hj]
  exact h
theorem rq_class (j : Nat) (v : Value) (h : hz20[j]? = some v) : rqC[26 + j]? = some v := by
  unfold rqC
  rw [Array.getElem?_append_right (by simp [rq5]; omega), show 26 + j - rq5.size = 21 + j by simp [rq5]; omega, Array.getElem?_append_right (by simp [pz21, hz20]), show 21 + j - pz21.size = j by simp [pz21, hz20]]
  exact h
structure RqL (w : World) (g : Nat) : Prop where
  all : LoadsL Try.prog w 46 (some ⟨g, 0, none⟩) (.agg rqC)
  kind : LoadsL Try.prog w 40 (some ⟨g, 0, none⟩) (.int .i64 7)
  user : LoadsL Try.prog w 3 (some ⟨g, 1, none⟩) (.int .i64 2)
  who : LoadsL Try.prog w 3 (some ⟨g, 2, none⟩) (.int .i64 0)
  name : LoadsL Try.prog w 9 (some ⟨g, 3, none⟩) (.string ⟨#[]⟩)
  bytes : LoadsL Try.prog w 23 (some ⟨g, 4, none⟩) (.slice none 0 0)
  path : LoadsL Try.prog w 44 (some ⟨g, 5, none⟩) (.agg pz21)
  cls : LoadsL Try.prog w 42 (some ⟨g, 26, none⟩) (.agg hz20)
theorem RqL.of_blk {w : World} {g : Nat} (h : Blk w g 46 rqC) : RqL w g where
  all := h.loads (by kernel_rfl : Try.prog.underlying 46 = some (.struct (Try.prog.fieldsOf 46))) rfl (by kernel_rfl)
  kind := h.one 0 rfl Try.underlying40 rfl
  user := h.one 1 rfl Try.underlying3 rfl
  who := h.one 2 rfl Try.underlying3 rfl
  name := h.one 3 rfl Try.underlying9 rfl
  bytes := h.one 4 rfl (by kernel_rfl : Try.prog.underlying 23 = some (.slice 5)) rfl
  path := h.sub 5 pz21 rq_path (by kernel_rfl : Try.prog.underlying 44 = some (.struct (Try.prog.fieldsOf 44))) rfl (by kernel_rfl)
  cls := h.sub 26 hz20 rq_class Try.underlying42 rfl (by kernel_rfl)
theorem RqL.below {w w' : World} {g : Nat} (h : RqL w g) (hb : Below w.heap.size w w') : RqL w' g := ⟨h.all.below hb, h.kind.below hb, h.user.below hb, h.who.below hb, h.name.below hb, h.bytes.below hb, h.path.below hb, h.cls.below hb⟩
theorem build_rq (w : World) : (Instr.build 46 #[(0, .int .i64 7), (1, .int .i64 2)]).run Try.prog w = .ok (.agg rqC) w := by kernel_rfl
theorem build_pz (w : World) : (Instr.build 44 #[]).run Try.prog w = .ok (.agg pz21) w := by kernel_rfl
theorem build_hz (w : World) : (Instr.build 42 #[]).run Try.prog w = .ok (.agg hz20) w := by kernel_rfl
theorem neq_pz (w : World) : (binOp .neq 44 (.agg pz21) (.agg pz21)).run Try.prog w = .ok (.bool false) w := by kernel_rfl
theorem neq_hz (w : World) : (binOp .neq 42 (.agg hz20) (.agg hz20)).run Try.prog w = .ok (.bool false) w := by kernel_rfl
set_option maxRecDepth 100000 in
theorem parts7 (w : World) : Calls Try.prog 45 #[.int .i64 7] w fun e w' => e = .returned (.int .u8 0) ∧ w' = w := by
  go_enter Try.func45, Try.ntmps45
  go_wp2_with fail
  go_ret
  exact ⟨rfl, rfl⟩
set_option maxRecDepth 100000 in
theorem has0 (c : Nat) (hc : c < 256) (w : World) : Calls Try.prog 47 #[.int .u8 0, .int .u8 (c : Int)] w fun e w' => e = .returned (.bool false) ∧ w' = w := by
  have h : ∀ m : Nat, m < 256 → bits .and .u8 0 (m : Int) = 0 := by decide +kernel
  have hb := h c hc
  clear h
  go_enter Try.func47, Try.ntmps47
  go_wp2_with fail
  go_ret
  exact ⟨rfl, rfl⟩
set_option maxRecDepth 100000 in
theorem within_go (n lo hi : Int) (w : World) : Calls Try.prog 50 #[.int .i64 n, .int .i64 lo, .int .i64 hi] w fun e w' => e = .returned (.bool (decide (lo ≤ n) && decide (n ≤ hi))) ∧ w' = w := by
  by_cases h1 : lo ≤ n
  · by_cases h2 : n ≤ hi
    · go_enter Try.func50, Try.ntmps50
      go_wp2_with fail
      go_ret
      exact ⟨by simp [h1, h2], rfl⟩
    · go_enter Try.func50, Try.ntmps50
      go_wp2_with fail
      go_ret
      exact ⟨by simp [h2], rfl⟩
  · go_enter Try.func50, Try.ntmps50
    go_wp2_with fail
    go_ret
    exact ⟨by simp; omega, rfl⟩
theorem within_kind (w : World) : Calls Try.prog 50 #[.int .i64 7, .int .i64 1, .int .i64 10] w fun e w' => e = .returned (.bool true) ∧ w' = w := within_go 7 1 10 w
theorem within_user (w : World) : Calls Try.prog 50 #[.int .i64 2, .int .i64 1, .int .i64 8] w fun e w' => e = .returned (.bool true) ∧ w' = w := within_go 2 1 8 w
theorem within_ff (w : World) : Calls Try.prog 50 #[.int .i64 0, .int .i64 1, .int .i64 16] w fun e w' => e = .returned (.bool false) ∧ w' = w := within_go 0 1 16 w
set_option maxRecDepth 100000 in
theorem most7 (w : World) : Calls Try.prog 53 #[.int .i64 7] w fun e w' => e = .returned (.int .i64 0) ∧ w' = w := by
  go_enter Try.func53, Try.ntmps53
  go_wp2_with fail
  refine (parts7 w).mono ?_
  rintro e w1 ⟨rfl, rfl⟩
  go_wp2_with fail
  refine (has0 32 (by omega) w1).mono ?_
  rintro e w2 ⟨rfl, rfl⟩
  go_wp2_with fail
  go_ret
  exact ⟨rfl, rfl⟩
theorem sameBelow {f : FuncId} {args : Array Value} {w : World} {v : Value} (h : Calls Try.prog f args w fun e w' => e = .returned v ∧ w' = w) : Calls Try.prog f args w fun e w' => e = .returned v ∧ Below w.heap.size w w' :=
  h.mono fun _ _ ⟨he, hw⟩ => ⟨he, hw ▸ Below.refl _ _⟩
set_option maxRecDepth 100000 in
set_option maxHeartbeats 2000000 in
theorem right7 (w : World) : Calls Try.prog 23 #[.agg rqC] w fun e w' => e = .returned (.bool true) ∧ Below w.heap.size w w' := by
  have hlen := fun W => bytes_len (SliceOf.nil (E := EB) w none 0) W
  have hnm : ∀ W, Calls Try.prog 51 #[.string ⟨#[]⟩] W fun e w' => e = .returned (.bool false) ∧ Below W.heap.size W w' := fun W => name_any [] W
  have HNM := Lib.hid hnm
  clear hnm
  go_enter Try.func23, Try.ntmps23
  go_wp2_with (first | (with_reducible refine Agg.wpList_box rfl 46 _ rfl (rqC) rfl ?_; intro g w1 hb hx1 hg) | (with_reducible refine Agg.wpList_loadL (RqL.of_blk hb).kind rfl _ rfl rfl ?_))
  refine (parts7 _).mono ?_
  rintro e w2 ⟨rfl, rfl⟩
  have HL := Lib.hid (RqL.of_blk hb)
  have HW := Lib.hid hx1
  clear hb hx1 hg
  go_wp2_with (first | (with_reducible refine Agg.wpList_loadL HL.out.kind rfl _ rfl rfl ?_))
  refine (within_kind _).mono ?_
  rintro e w3 ⟨rfl, rfl⟩
  go_wp2_with (first | (with_reducible refine Agg.wpList_loadL HL.out.user rfl _ rfl rfl ?_))
  refine (within_user _).mono ?_
  rintro e w4 ⟨rfl, rfl⟩
  go_wp2_with fail
  try simp only [Act.put, List.setIfInBounds_toArray, List.set_cons_succ, List.set_cons_zero]
  refine Agg.wp_region_later_lit (by kernel_rfl) (by kernel_rfl) ?_
  repeat (first | go_big_quiet_skip | ((first | (with_reducible refine Agg.wpQuiet_loadL HL.out.who rfl _ rfl rfl ?_)); simp only [Act.put, List.setIfInBounds_toArray, List.set_cons_succ, List.set_cons_zero]) | go_big_quiet_step ((first | (go_at_call 47; first | exact Agg.Calls.later (sameBelow (has0 1 (by omega) _)) | exact Agg.Calls.later (sameBelow (has0 2 (by omega) _)) | exact Agg.Calls.later (sameBelow (has0 12 (by omega) _))) | (go_at_call 50; exact Agg.Calls.later (sameBelow (within_ff _))) | (go_at_call 51; exact Agg.Calls.later (HNM.out _)) | (go_at_call 53; exact Agg.Calls.later (sameBelow (most7 _))))))
  refine wpQuiet_nil ?_
  intro _ hw'
  obtain ⟨x1, rfl⟩ := hw'
  have HL := Lib.hid (HL.out.below x1.h)
  have HW := Lib.hid (Agg.belowThen HW.out (Nat.le_refl _) x1.h)
  generalize x1.w = v4 at *
  go_wp2_with fail
  refine (has0 1 (by omega) _).mono ?_
  rintro e w6 ⟨rfl, rfl⟩
  go_wp2_with (first | (with_reducible refine Agg.wpList_loadL HL.out.who rfl _ rfl rfl ?_))
  try simp only [Act.put, List.setIfInBounds_toArray, List.set_cons_succ, List.set_cons_zero]
  refine Agg.wp_region_later_lit (by kernel_rfl) (by kernel_rfl) ?_
  repeat (first | go_big_quiet_skip | ((first | (with_reducible refine Agg.wpQuiet_loadL HL.out.name rfl _ rfl rfl ?_)); simp only [Act.put, List.setIfInBounds_toArray, List.set_cons_succ, List.set_cons_zero]) | go_big_quiet_step ((first | (go_at_call 47; first | exact Agg.Calls.later (sameBelow (has0 1 (by omega) _)) | exact Agg.Calls.later (sameBelow (has0 2 (by omega) _)) | exact Agg.Calls.later (sameBelow (has0 12 (by omega) _))) | (go_at_call 50; exact Agg.Calls.later (sameBelow (within_ff _))) | (go_at_call 51; exact Agg.Calls.later (HNM.out _)) | (go_at_call 53; exact Agg.Calls.later (sameBelow (most7 _))))))
  refine wpQuiet_nil ?_
  intro _ hw'
  obtain ⟨x1, rfl⟩ := hw'
  have HL := Lib.hid (HL.out.below x1.h)
  have HW := Lib.hid (Agg.belowThen HW.out (Nat.le_refl _) x1.h)
  generalize x1.w = v6 at *
  go_wp2_with fail
  refine (has0 2 (by omega) _).mono ?_
  rintro e w8 ⟨rfl, rfl⟩
  go_wp2_with (first | (with_reducible refine Agg.wpList_loadL HL.out.name rfl _ rfl rfl ?_))
  refine (has0 12 (by omega) _).mono ?_
  rintro e w9 ⟨rfl, rfl⟩
  go_wp2_with (first | (with_reducible refine Agg.wpList_loadL HL.out.path rfl _ rfl rfl ?_) | (with_reducible refine Agg.wpList_build0 44 rfl rfl (.agg pz21) build_pz ?_) | (with_reducible refine Agg.wpList_neqw 44 44 _ _ rfl rfl pz21 pz21 rfl rfl false (by kernel_rfl) neq_pz ?_))
  try simp only [Act.put, List.setIfInBounds_toArray, List.set_cons_succ, List.set_cons_zero]
  refine Agg.wp_region_later_lit (by kernel_rfl) (by kernel_rfl) ?_
  repeat (first | go_big_quiet_skip | ((first | (with_reducible refine Agg.wpQuiet_loadL HL.out.path rfl _ rfl rfl ?_)); simp only [Act.put, List.setIfInBounds_toArray, List.set_cons_succ, List.set_cons_zero]) | go_big_quiet_step ((first | (go_at_call 47; first | exact Agg.Calls.later (sameBelow (has0 1 (by omega) _)) | exact Agg.Calls.later (sameBelow (has0 2 (by omega) _)) | exact Agg.Calls.later (sameBelow (has0 12 (by omega) _))) | (go_at_call 50; exact Agg.Calls.later (sameBelow (within_ff _))) | (go_at_call 51; exact Agg.Calls.later (HNM.out _)) | (go_at_call 53; exact Agg.Calls.later (sameBelow (most7 _))))))
  refine wpQuiet_nil ?_
  intro _ hw'
  obtain ⟨x1, rfl⟩ := hw'
  have HL := Lib.hid (HL.out.below x1.h)
  have HW := Lib.hid (Agg.belowThen HW.out (Nat.le_refl _) x1.h)
  generalize x1.w = v9 at *
  go_wp2_with fail
  refine (has0 16 (by omega) _).mono ?_
  rintro e w11 ⟨rfl, rfl⟩
  go_wp2_with (first | (with_reducible refine Agg.wpList_loadL HL.out.cls rfl _ rfl rfl ?_) | (with_reducible refine Agg.wpList_build0 42 rfl rfl (.agg hz20) build_hz ?_) | (with_reducible refine Agg.wpList_neqw 42 42 _ _ rfl rfl hz20 hz20 rfl rfl false (by kernel_rfl) neq_hz ?_))
  try simp only [Act.put, List.setIfInBounds_toArray, List.set_cons_succ, List.set_cons_zero]
  refine Agg.wp_region_later_lit (by kernel_rfl) (by kernel_rfl) ?_
  repeat (first | go_big_quiet_skip | ((first | (with_reducible refine Agg.wpQuiet_loadL HL.out.bytes rfl _ rfl rfl ?_) | (with_reducible refine Agg.wpQuiet_loadL HL.out.kind rfl _ rfl rfl ?_)); simp only [Act.put, List.setIfInBounds_toArray, List.set_cons_succ, List.set_cons_zero]) | go_big_quiet_step ((first | (go_at_call 47; first | exact Agg.Calls.later (sameBelow (has0 1 (by omega) _)) | exact Agg.Calls.later (sameBelow (has0 2 (by omega) _)) | exact Agg.Calls.later (sameBelow (has0 12 (by omega) _))) | (go_at_call 50; exact Agg.Calls.later (sameBelow (within_ff _))) | (go_at_call 51; exact Agg.Calls.later (HNM.out _)) | (go_at_call 53; exact Agg.Calls.later (sameBelow (most7 _))))))
  refine wpQuiet_nil ?_
  intro _ hw'
  obtain ⟨x1, rfl⟩ := hw'
  have HL := Lib.hid (HL.out.below x1.h)
  have HW := Lib.hid (Agg.belowThen HW.out (Nat.le_refl _) x1.h)
  generalize x1.w = v11 at *
  go_wp2_with fail
  go_ret
  exact ⟨rfl, HW.out⟩
end Go.Proofs.Ytpnolgliklmnmaa
