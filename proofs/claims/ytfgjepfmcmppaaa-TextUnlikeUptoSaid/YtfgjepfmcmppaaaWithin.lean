/- spencelaw03.within: each of some stands among others. -/
import Derived.Test.YtfgjepfmcmppaaaRefSorted
namespace Go.Proofs.Ytfgjepfmcmppaaa
open Go.RowKit Pl Go.Agg
theorem beq20 (x y : P20) : (x.1.1 == y.1.1 && x.1.2 == y.1.2) = decide (x = y) := by
  rw [Bool.eq_iff_iff]
  simp [Subtype.ext_iff, Prod.ext_iff]
theorem eql20 (x y : P20) (w : World) : (binOp .eql 40 (.agg (pC x.1.1 x.1.2)) (.agg (pC y.1.1 y.1.2))).run Try.prog w = .ok (.bool (decide (x = y))) w := by
  rw [eql_path _ _ _ _ x.2 y.2, beq20]
theorem neq20 (x y : P20) (w : World) : (binOp .neq 40 (.agg (pC x.1.1 x.1.2)) (.agg (pC y.1.1 y.1.2))).run Try.prog w = .ok (.bool (!decide (x = y))) w := by
  have := eql20 x y w
  rw [run_eql_struct] at this
  rw [run_neq_struct]
  generalize (Op.equalIn 10000 40 (.agg (pC x.1.1 x.1.2)) (.agg (pC y.1.1 y.1.2))).run Try.prog w = r at this ⊢
  cases r with
  | ok b w' => simp only [Result.andThen, Result.ok.injEq, Value.bool.injEq] at this ⊢; exact ⟨by rw [this.1], this.2⟩
  | halt x w' => simp [Result.andThen] at this
theorem mem_take_succ {l : List P20} {k : Nat} {y : P20} (h : l[k]? = some y) (x : P20) : decide (x ∈ l.take (k + 1)) = (decide (x ∈ l.take k) || decide (x = y)) := by
  rw [List.take_add_one, h]
  rw [Bool.eq_iff_iff]
  simp
set_option maxRecDepth 100000 in
set_option maxHeartbeats 1000000 in
theorem withinP_any (v u : Value) (l m : List P20) (hl : l.length ≤ 1048576) (hm : m.length ≤ 1048576) (hsub : ∀ x ∈ l, x ∈ m) (w : World) (he : ElemsAt w v l) (hf : ElemsAt w u m) :
    Calls Try.prog 38 #[v, u] w fun e w' => e = .returned (.bool true) ∧ Below w.heap.size w w' := by
  have hlv := fun W => elems_len he W
  have hlu := fun W => elems_len hf W
  have HE := Lib.hid he
  have HF := Lib.hid hf
  have HS := Lib.hid hsub
  clear he hf hsub
  go_enter Try.func38, Try.ntmps38
  go_wp2_with fail
  go_loopw [5] (fun i wr => ∃ k : Nat, k ≤ l.length ∧ i = .int .i64 k ∧ Below w.heap.size w wr) (fun i _ => l.length - (intOf i).toNat)
  case atStart => exact ⟨0, by omega, rfl, Below.refl _ _⟩
  case round =>
    obtain ⟨wo, rfl⟩ : ∃ wo : World, wo = wr := ⟨_, rfl⟩
    obtain ⟨k, hk, rfl, hw⟩ := hrel
    by_cases hlt : k < l.length
    · obtain ⟨x, hxk⟩ : ∃ x, l[k]? = some x := ⟨_, List.getElem?_eq_getElem hlt⟩
      have HX := Lib.hid hxk
      clear hxk
      go_wp2_with fail
      go_loopw [6, 7] (fun f i w2 => ∃ (j : Nat) (fb : Bool), j ≤ m.length ∧ i = .int .i64 j ∧ f = .bool fb ∧ fb = decide (x ∈ m.take j) ∧ Below wo.heap.size wo w2) (fun _ i _ => m.length - (intOf i).toNat)
      case atStart => exact ⟨0, false, by omega, rfl, rfl, by simp, Below.refl _ _⟩
      case round =>
        obtain ⟨w2, rfl⟩ : ∃ w2 : World, w2 = wr := ⟨_, rfl⟩
        obtain ⟨j, fb, hj, rfl, rfl, hfb, hx⟩ := hrel
        by_cases hjt : j < m.length
        · obtain ⟨y, hyj⟩ : ∃ y, m[j]? = some y := ⟨_, List.getElem?_eq_getElem hjt⟩
          have HB := Lib.hid (mem_take_succ hyj x)
          have HFB := Lib.hid hfb
          obtain ⟨p, hadr, hld, _⟩ := elem_at ((HE.out.below hw).below hx) k x HX.out
          obtain ⟨q, hadq, hlq, _⟩ := elem_at ((HF.out.below hw).below hx) j y hyj
          have HL := Lib.hid hld
          have HQ := Lib.hid hlq
          clear hld hlq hyj hfb
          cases fb with
          | true =>
            go_wp2_with fail
            refine Agg.wp_region_later_lit (by kernel_rfl) (by kernel_rfl) ?_
            repeat (first | go_big_quiet_step (fail))
            refine wpQuiet_nil ?_
            intro _ hw'
            obtain ⟨x1, rfl⟩ := hw'
            go_wp2_with fail
            go_roundw
            case rel => exact ⟨j + 1, true, by omega, by go_num, rfl, by rw [HB.out, ← HFB.out]; rfl, Agg.belowThen hx (Nat.le_refl _) x1.h⟩
            case measure => simp [intOf]; omega
          | false =>
            have hq : ∀ w, (binOp .eql 40 (.agg (pC x.1.1 x.1.2)) (.agg (pC y.1.1 y.1.2))).run Try.prog w = .ok (.bool (decide (x = y))) w := eql20 x y
            generalize decide (x = y) = b at *
            go_wp2_with fail
            refine Agg.wp_region_later_lit (by kernel_rfl) (by kernel_rfl) ?_
            repeat (first | ((first | (with_reducible refine Agg.wpQuiet_loadL HL.out (by kernel_rfl) _ rfl rfl ?_) | (with_reducible refine Agg.wpQuiet_loadL HQ.out (by kernel_rfl) _ rfl rfl ?_) | (with_reducible refine Agg.wpQuiet_eql (by kernel_rfl) 40 40 _ _ rfl (pC x.1.1 x.1.2) (pC y.1.1 y.1.2) rfl rfl (b) (by kernel_rfl) hq ?_)); simp only [Act.put, List.setIfInBounds_toArray, List.set_cons_succ, List.set_cons_zero]) | go_big_quiet_step (fail))
            refine wpQuiet_nil ?_
            intro _ hw'
            obtain ⟨x1, rfl⟩ := hw'
            go_wp2_with fail
            go_roundw
            case rel => exact ⟨j + 1, b, by omega, by go_num, rfl, by rw [HB.out, ← HFB.out]; rfl, Agg.belowThen hx (Nat.le_refl _) x1.h⟩
            case measure => simp [intOf]; omega
        · obtain rfl : j = m.length := by omega
          have hmem : x ∈ m := HS.out x (List.mem_of_getElem? HX.out)
          obtain rfl : fb = true := by rw [hfb, List.take_length]; simpa using hmem
          clear hfb hmem
          go_wp2_with fail
          go_roundw
          case rel => exact ⟨k + 1, by omega, by go_num, hw.trans (hx.mono hw.size)⟩
          case measure => simp [intOf]; omega
    · obtain rfl : k = l.length := by omega
      go_wp2_with fail
      go_ret
      exact ⟨rfl, hw⟩
end Go.Proofs.Ytfgjepfmcmppaaa
