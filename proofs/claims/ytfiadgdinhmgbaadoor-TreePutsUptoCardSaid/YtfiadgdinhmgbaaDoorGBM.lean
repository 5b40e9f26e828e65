/- spencelaw08.size: how great a tree is, up to a bound. -/
import Derived.Test.YtfiadgdinhmgbaaDoorGBI
namespace Go.Proofs.YtfiadgdinhmgbaaDoor
open Go.RowKit Pl Go.Agg Go.Tr
set_option maxRecDepth 100000 in
set_option maxHeartbeats 8000000 in
theorem size08_any : ∀ (N : Nat) (t : T) (_ : count t ≤ N) (_ : msz t ≤ 1048576) (left : Nat) (_ : left ≤ 1500) (v : Value) (w : World) (_ : NodeAt w v t),
    Calls Tryd.prog 7 #[v, .int .i64 (left : Int)] w fun e w' => e = .returned (.int .i64 (szT t left : Int)) ∧ Below w.heap.size w w' := by
  intro N
  induction N with
  | zero => intro t h; have := count_pos t; omega
  | succ N ih =>
  intro t hc hm left hl v w hv
  obtain ⟨x, rfl, hx⟩ := hv
  obtain ⟨k, b, l⟩ := t
  obtain ⟨hk, hby, ks, hsl, hkv⟩ := hx
  have hkl := hkv.len
  have hlb := fun W => bytes_len hby W
  have hlk := fun W => kds_len hsl W
  rw [hkl] at hlk
  have hbm := bytes_msz k b l
  have hkm := kids_msz k b l
  have hlm : mszL l ≤ 1048576 := by simp only [msz] at hm; omega
  have hb1 : b.length ≤ 1048576 := by omega
  have hl1 : l.length ≤ 1048576 := by omega
  have HIH := Lib.hid ih
  have HC := Lib.hid hc
  have HM := Lib.hid hm
  have HKV := Lib.hid hkv
  have HSL := Lib.hid hsl
  clear ih hc hm hbm hkm hby hsl hkv hk
  go_enter Tryd.func7, Tryd.ntmps7
  go_wp2_with (first | (refine Agg.wpList_box rfl 26 _ rfl (ndC x) rfl ?_; intro g2 w1 hb hx hg; have HB1 := Lib.hid hb; have HX1 := Lib.hid hx; clear hb hx hg) | (with_reducible refine Agg.wpList_loadL (NdL.of_blk HB1.out).bytes rfl _ rfl rfl ?_))
  go_loopw [5, 6] (fun a i wr => ∃ (q al : Nat), q ≤ l.length ∧ a = .int .i64 (al : Int) ∧ i = .int .i64 (q : Int) ∧ al ≤ 1048576 + 1048576 ∧ szT (.mk k b l) left = szL (l.drop q) left al ∧ Blk wr g2 26 (ndC x) ∧ Below w.heap.size w wr) (fun _ i _ => l.length - (intOf i).toNat)
  case atStart => exact ⟨0, 1 + b.length / 20, by omega, by first | rfl | (go_num), rfl, by omega, rfl, HB1.out, HX1.out⟩
  case round =>
    obtain ⟨w2, rfl⟩ : ∃ y : World, y = wr := ⟨_, rfl⟩
    obtain ⟨q, al, hq, rfl, rfl, hal, hsz, hb, hx⟩ := hrel
    have HSZ := Lib.hid hsz
    have HB := Lib.hid hb
    have HX := Lib.hid hx
    clear hsz hb hx
    by_cases hlt : q < l.length
    · have hlq : decide ((q : Int) < (l.length : Int)) = true := by simp; omega
      by_cases hle : al ≤ left
      · have hle2 : decide ((al : Int) ≤ (left : Int)) = true := by simp; omega
        obtain ⟨z, hzk⟩ : ∃ z, l[q]? = some z := ⟨_, List.getElem?_eq_getElem hlt⟩
        obtain ⟨y, hyk, hyz, hyn⟩ := HKV.out.at_ q z hzk
        obtain ⟨p, hadr, hle9⟩ := kid_at (HSL.out.below HX.out) q y hyk
        have HNM := Lib.hid hle9.name
        have HND := Lib.hid hle9.node.all
        have hmz := mem_mszL (List.mem_of_getElem? hzk)
        have hyl : y.1.length ≤ 1048576 := by rw [hyz]; omega
        have hsm : szT z.2 (left - al) ≤ 1048576 := Nat.le_trans (szT_le _ _) (by omega)
        have HST := Lib.hid (szL_step hzk hle)
        have hcz : count z.2 ≤ N := by
          have h1 := countL_mem (List.mem_of_getElem? hzk)
          have h2 := HC.out
          simp only [count] at h2
          omega
        have HYZ := Lib.hid hyz
        obtain ⟨m, hmm⟩ : ∃ m, szT z.2 (left - al) = m := ⟨_, rfl⟩
        have HCALL := Lib.hid (fun zz : Later w2 => (show Calls Tryd.prog 7 #[.agg (ndC y.2), .int .i64 ((left : Int) - (al : Int))] zz.w fun e w' => e = .returned (.int .i64 (m : Int)) ∧ Below zz.w.heap.size zz.w w' by
          have h := HIH.out z.2 hcz (by omega) (left - al) (by omega) (.agg (ndC y.2)) zz.w ⟨y.2, rfl, NodeV.below (Agg.belowThen HX.out (Nat.le_refl _) zz.h) _ _ hyn⟩
          rw [hmm, show ((left - al : Nat) : Int) = (left : Int) - (al : Int) by omega] at h
          exact h))
        rw [hmm] at hsm HST
        clear hzk hyk hyz hyn hle9 hmz hcz hmm
        go_wp2_with (first | (with_reducible refine Agg.wpList_loadL (NdL.of_blk HB.out).kids rfl _ rfl rfl ?_))
        try simp only [Act.put, List.setIfInBounds_toArray, List.set_cons_succ, List.set_cons_zero]
        refine Agg.wp_region_later_lit (by kernel_rfl) (by kernel_rfl) ?_
        repeat (first | go_big_quiet_skip | ((first | (with_reducible refine Agg.wpQuiet_loadL (NdL.of_blk HB.out).kids rfl _ rfl rfl ?_) | (with_reducible refine Agg.wpQuiet_loadL HNM.out rfl _ rfl rfl ?_) | (with_reducible refine Agg.wpQuiet_loadL HND.out rfl _ rfl rfl ?_)); simp only [Act.put, List.setIfInBounds_toArray, List.set_cons_succ, List.set_cons_zero]) | go_big_quiet_step (first | (go_at_call 7; first | (with_reducible exact Agg.Calls.later (HCALL.out _)))))
        refine wpQuiet_nil ?_
        intro _ hw'
        obtain ⟨x4, rfl⟩ := hw'
        have HX4 := Lib.hid (Agg.belowThen HX.out (Nat.le_refl _) x4.h)
        have HB4 := Lib.hid (HB.out.below x4.h)
        go_wp2_with fail
        go_roundw
        case rel => exact ⟨q + 1, al + 1 + z.1.length / 20 + m, by omega, by rw [HYZ.out]; exact congrArg (Value.int .i64) (by omega), by go_num, by have h := HYZ.out; rw [h] at hyl; omega, by rw [HSZ.out, HST.out], HB4.out, HX4.out⟩
        case measure => simp [intOf]; omega
      · have hle2 : decide ((al : Int) ≤ (left : Int)) = false := by simp; omega
        have HR := Lib.hid (show szT (.mk k b l) left = al by rw [HSZ.out, szL_stop hle])
        go_wp2_with (first | (with_reducible refine Agg.wpList_loadL (NdL.of_blk HB.out).kids rfl _ rfl rfl ?_))
        go_ret
        exact ⟨by rw [HR.out]; rfl, HX.out⟩
    · obtain rfl : q = l.length := by omega
      have hlq : decide (((l.length : Nat) : Int) < ((l.length : Nat) : Int)) = false := by simp
      have HR := Lib.hid (show szT (.mk k b l) left = al by rw [HSZ.out, List.drop_length]; rfl)
      go_wp2_with (first | (with_reducible refine Agg.wpList_loadL (NdL.of_blk HB.out).kids rfl _ rfl rfl ?_))
      go_ret
      exact ⟨by rw [HR.out]; rfl, HX.out⟩
end Go.Proofs.YtfiadgdinhmgbaaDoor
