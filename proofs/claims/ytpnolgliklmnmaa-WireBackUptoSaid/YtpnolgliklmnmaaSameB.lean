/- spencekit.SameBytes. -/
import Derived.Test.YtpnolgliklmnmaaConv
import Derived.Test.YtpnolgliklmnmaaSign
namespace Go.Proofs.Ytpnolgliklmnmaa
open Go.RowKit Pl Go.Agg
theorem take_eq_succ {α : Type} {a b : List α} {k : Nat} {x y : α} (hx : a[k]? = some x) (hy : b[k]? = some y) (h : a.take k = b.take k) (hxy : x = y) : a.take (k + 1) = b.take (k + 1) := by
  rw [List.take_add_one, List.take_add_one, hx, hy, h, hxy]
theorem ne_at {α : Type} {a b : List α} {k : Nat} {x y : α} (hx : a[k]? = some x) (hy : b[k]? = some y) (hxy : x ≠ y) : a ≠ b := by
  rintro rfl
  exact hxy (Option.some.inj (hx.symm.trans hy))
theorem i64_nat {a b : Nat} (h : a = b) : Value.int .i64 (a : Int) = .int .i64 (b : Int) := by rw [h]
set_option maxRecDepth 100000 in
set_option maxHeartbeats 1000000 in
theorem sameBytes_any (v u : Value) (a b : List UInt8) (_ha : a.length ≤ 1048576) (hb : b.length ≤ 1048576) (w : World) (he : BytesAt w v a) (hf : BytesAt w u b) :
    Calls Try.prog 15 #[v, u] w fun e w' => e = .returned (.bool (decide (a = b))) ∧ Below w.heap.size w w' := by
  have hlv := fun W => bytes_len he W
  have hlu := fun W => bytes_len hf W
  have HE := Lib.hid he
  have HF := Lib.hid hf
  clear he hf
  by_cases hlen : a.length = b.length
  · have hne : ((a.length : Int) != (b.length : Int)) = false := by simp [hlen]
    have HLEN := Lib.hid hlen
    rw [hlen] at hlv hne
    clear hlen
    go_enter Try.func15, Try.ntmps15
    go_wp2_with fail
    go_loopw [5] (fun i wr => ∃ k : Nat, k ≤ b.length ∧ i = .int .i64 k ∧ a.take k = b.take k ∧ Below w.heap.size w wr) (fun i _ => b.length - (intOf i).toNat)
    case atStart => exact ⟨0, by omega, rfl, rfl, Below.refl _ _⟩
    case round =>
      obtain ⟨w1, rfl⟩ : ∃ w1 : World, w1 = wr := ⟨_, rfl⟩
      obtain ⟨k, hk, rfl, htk, hw⟩ := hrel
      have HTK := Lib.hid htk
      clear htk
      by_cases hlt : k < b.length
      · obtain ⟨y, hyk⟩ : ∃ y, b[k]? = some y := ⟨_, List.getElem?_eq_getElem hlt⟩
        obtain ⟨x, hxk⟩ : ∃ x, a[k]? = some x := ⟨_, List.getElem?_eq_getElem (by rw [HLEN.out]; exact hlt)⟩
        obtain ⟨p, hadr, hld⟩ := byte_at (HE.out.below hw) k x hxk
        obtain ⟨q, hadq, hlq⟩ := byte_at (HF.out.below hw) k y hyk
        have HLX := Lib.hid hld
        have HLY := Lib.hid hlq
        clear hld hlq
        have HX := Lib.hid hxk
        have HY := Lib.hid hyk
        clear hxk hyk
        by_cases hxy : x = y
        · have HXY := Lib.hid hxy
          have hq : ((x.toNat : Int) != (y.toNat : Int)) = false := by simp [hxy]
          clear hxy
          go_wp2_with fail
          try simp only [Act.put, List.setIfInBounds_toArray, List.set_cons_succ, List.set_cons_zero]
          refine Agg.wp_region_later_lit (by kernel_rfl) (by kernel_rfl) ?_
          repeat (first | go_big_quiet_skip | ((first | (with_reducible refine Agg.wpQuiet_loadL HLX.out rfl _ rfl rfl ?_) | (with_reducible refine Agg.wpQuiet_loadL HLY.out rfl _ rfl rfl ?_)); simp only [Act.put, List.setIfInBounds_toArray, List.set_cons_succ, List.set_cons_zero]) | go_big_quiet_step (fail))
          refine wpQuiet_nil ?_
          intro _ hw'
          obtain ⟨x1, rfl⟩ := hw'
          go_wp2_with fail
          go_roundw
          case rel => exact ⟨k + 1, by omega, by go_num, take_eq_succ HX.out HY.out HTK.out HXY.out, Agg.belowThen hw (Nat.le_refl _) x1.h⟩
          case measure => simp [intOf]; omega
        · have HXY := Lib.hid hxy
          have hq : ((x.toNat : Int) != (y.toNat : Int)) = true := by rw [bne_iff_ne]; intro e; exact hxy (UInt8.toNat_inj.1 (by omega))
          clear hxy
          go_wp2_with fail
          try simp only [Act.put, List.setIfInBounds_toArray, List.set_cons_succ, List.set_cons_zero]
          refine Agg.wp_region_later_lit (by kernel_rfl) (by kernel_rfl) ?_
          repeat (first | go_big_quiet_skip | ((first | (with_reducible refine Agg.wpQuiet_loadL HLX.out rfl _ rfl rfl ?_) | (with_reducible refine Agg.wpQuiet_loadL HLY.out rfl _ rfl rfl ?_)); simp only [Act.put, List.setIfInBounds_toArray, List.set_cons_succ, List.set_cons_zero]) | go_big_quiet_step (fail))
          refine wpQuiet_nil ?_
          intro _ hw'
          obtain ⟨x1, rfl⟩ := hw'
          have hres : decide (a = b) = false := by simpa using ne_at HX.out HY.out HXY.out
          have HR := Lib.hid hres
          clear hres
          go_wp2_with fail
          go_ret
          exact ⟨ret_bool HR.out.symm, Agg.belowThen hw (Nat.le_refl _) x1.h⟩
      · obtain rfl : k = b.length := by omega
        have hres : decide (a = b) = true := by
          have := HTK.out
          rw [List.take_length, List.take_of_length_le (by rw [HLEN.out]; omega)] at this
          simpa using this
        have HR := Lib.hid hres
        clear hres
        go_wp2_with fail
        go_ret
        exact ⟨ret_bool HR.out.symm, hw⟩
  · have hne : ((a.length : Int) != (b.length : Int)) = true := by rw [bne_iff_ne]; omega
    have hres : decide (a = b) = false := by simp; exact fun e => hlen (by rw [e])
    have HR := Lib.hid hres
    clear hres
    go_enter Try.func15, Try.ntmps15
    go_wp2_with fail
    go_ret
    exact ⟨ret_bool HR.out.symm, Below.refl _ _⟩
end Go.Proofs.Ytpnolgliklmnmaa
