/- spencelaw17.awake, TextUnlike -/
import Derived.Test.YtfgjepfmcmppaaaTPut2
import Derived.Test.YtfgjepfmcmppaaaInj
import Derived.Test.YtfgjepfmcmppaaaSameDrv
namespace Go.Proofs.Ytfgjepfmcmppaaa
open Go.RowKit Pl Go.Agg
def aDrv : Drv := ([97], [], [1, 255])
theorem aDrv_put : putE aDrv = 0 ∧ putB aDrv = [100, 114, 118, 32, 97, 10, 114, 117, 110, 32, 48, 49, 102, 102, 10] := by decide +kernel
theorem build_drv (p : Option Addr) (n c : Nat) (w : World) : (Instr.build 25 #[(0, .string ⟨#[97]⟩), (2, .slice p n c)]).run Try.prog w = .ok (.agg #[.string ⟨#[97]⟩, .slice none 0 0, .slice p n c]) w := by kernel_rfl
set_option maxRecDepth 100000 in
set_option maxHeartbeats 2000000 in
theorem awake17_any (w : World) : Calls Try.prog 12 #[] w fun e w' => e = .returned (.bool true) ∧ Below w.heap.size w w' := by
  go_enter Try.func12, Try.ntmps12
  go_wp2_with (first | (with_reducible refine Agg.wpList_slice2 (E := EB) rfl _ _ rfl 1 255 rfl rfl ?_; intro v1 w1 hs1 hx1; obtain ⟨p1, c1, rfl⟩ := hs1.form) | (with_reducible refine Agg.wpList_build2 25 0 _ 2 _ rfl (by kernel_rfl) (.string ⟨#[97]⟩) (.slice p1 [(1 : UInt8), 255].length c1) rfl rfl (.agg #[.string ⟨#[97]⟩, .slice none 0 0, .slice p1 [(1 : UInt8), 255].length c1]) (build_drv p1 _ c1) ?_))
  refine (put_any _ aDrv (by decide) _ ⟨_, _, rfl, SliceOf.nil _ _ _, hs1⟩).mono ?_
  rintro e w2 ⟨vb, rfl, hout, hx⟩
  have HS := Lib.hid hout.slice
  rw [aDrv_put.1]
  have hw2 := Agg.belowThen hx1 (Nat.le_refl _) hx
  clear hout hx hx1 hs1
  have hs := HS.out
  rw [aDrv_put.2] at hs
  have HS2 := Lib.hid hs
  clear hs
  go_wp2_with (first | (with_reducible refine wpList_toStr HS2.out _ rfl (by kernel_rfl) rfl ?_))
  go_ret
  exact ⟨rfl, hw2⟩
set_option maxRecDepth 100000 in
set_option maxHeartbeats 4000000 in
theorem unlike_any (v u : Value) (c d : Drv) (hc1 : c.1.length ≤ 1048576) (hc2 : c.2.1.length ≤ 1048576) (hc3 : c.2.2.length ≤ 1048576) (hc4 : namsSz c.2.1 ≤ 4194304) (hd1 : d.1.length ≤ 1048576) (hd2 : d.2.1.length ≤ 1048576) (hd3 : d.2.2.length ≤ 1048576) (hd4 : namsSz d.2.1 ≤ 4194304) (w : World) (hc : DrvAt w v c) (hd : DrvAt w u d) :
    Calls Try.prog 4 #[v, u] w fun e w' => e = .returned (.bool true) ∧ Below w.heap.size w w' := by
  have HC := Lib.hid hc
  have HD := Lib.hid hd
  obtain ⟨vi, vr, rfl, _, _⟩ := hc
  obtain ⟨ui, ur, rfl, _, _⟩ := hd
  have hNc : drvN 5000 c ≤ 8388608 := by
    have := drvGo_le 5000 c.2.1 (1 + c.1.length + c.2.2.length)
    unfold drvN; omega
  have hNd : drvN 5000 d ≤ 8388608 := by
    have := drvGo_le 5000 d.2.1 (1 + d.1.length + d.2.2.length)
    unfold drvN; omega
  go_enter Try.func4, Try.ntmps4
  go_wp2_with (first | (with_reducible refine Agg.wpList_box rfl 25 _ rfl (#[.string ⟨c.1.toArray⟩, vi, vr]) rfl ?_; intro g w1 hb hx1 hg) | (with_reducible refine Agg.wpList_box rfl 25 _ rfl (#[.string ⟨d.1.toArray⟩, ui, ur]) rfl ?_; intro g2 w2 hb2 hx2 hg2))

  have hw2 := Agg.belowThen hx1 (Nat.le_refl _) hx2
  refine (awake17_any _).mono ?_
  rintro e w3 ⟨rfl, hx⟩
  have HB := Lib.hid ((DrvL.of_blk (hb.below hx2)).below hx)
  have HB2 := Lib.hid ((DrvL.of_blk hb2).below hx)
  have hw3 := Agg.belowThen hw2 (Nat.le_refl _) hx
  have HC3 := Lib.hid (HC.out.below hw3)
  have HD3 := Lib.hid (HD.out.below hw3)
  clear hb hb2 hx1 hx2 hg hg2 hw2 hx
  go_wp2_with fail
  try simp only [Act.put, List.setIfInBounds_toArray, List.set_cons_succ, List.set_cons_zero]
  refine Agg.wp_region_later_lit (by kernel_rfl) (by kernel_rfl) ?_
  repeat (first | go_big_quiet_skip | ((first | (with_reducible refine Agg.wpQuiet_loadL HB.out.all (by kernel_rfl) _ rfl rfl ?_) | (with_reducible refine Agg.wpQuiet_loadL HB2.out.all (by kernel_rfl) _ rfl rfl ?_)); simp only [Act.put, List.setIfInBounds_toArray, List.set_cons_succ, List.set_cons_zero]) | go_big_quiet_step ((go_at_call 11; first | with_reducible exact Agg.Calls.later (drvOf_any _ c 5000 (by omega) hc1 hc3 hc2 hc4 _ (HC3.out.below (Later.h _))) | with_reducible exact Agg.Calls.later (drvOf_any _ d 5000 (by omega) hd1 hd3 hd2 hd4 _ (HD3.out.below (Later.h _))))))
  refine wpQuiet_nil ?_
  intro _ hw'
  obtain ⟨x1, rfl⟩ := hw'
  have hw4 := Agg.belowThen hw3 (Nat.le_refl _) x1.h
  have HB4 := Lib.hid (HB.out.below x1.h)
  have HB24 := Lib.hid (HB2.out.below x1.h)
  have HC4 := Lib.hid (HC3.out.below x1.h)
  have HD4 := Lib.hid (HD3.out.below x1.h)
  generalize x1.w = w4 at *
  clear HB HB2 HC3 HD3
  by_cases hbig : drvN 5000 c + drvN 5000 d ≤ 5000
  · have hd5 : decide (5000 < (drvN 5000 c : Int) + (drvN 5000 d : Int)) = false := by simp; omega
    go_wp2_with (first | (with_reducible refine Agg.wpList_loadL HB4.out.all (by kernel_rfl) _ rfl rfl ?_))

    refine (put_any _ c hc2 _ HC4.out).mono ?_
    rintro e w5 ⟨va, rfl, hoa, hx⟩
    have HOA := Lib.hid hoa.slice
    have hw5 := Agg.belowThen hw4 (Nat.le_refl _) hx
    have HB5 := Lib.hid (HB4.out.below hx)
    have HB25 := Lib.hid (HB24.out.below hx)
    have HC5 := Lib.hid (HC4.out.below hx)
    have HD5 := Lib.hid (HD4.out.below hx)
    clear hoa hx HB4 HB24 HC4 HD4
    go_wp2_with (first | (with_reducible refine Agg.wpList_loadL HB25.out.all (by kernel_rfl) _ rfl rfl ?_))

    refine (put_any _ d hd2 _ HD5.out).mono ?_
    rintro e w6 ⟨vb, rfl, hob, hx⟩
    have HOB := Lib.hid hob.slice
    have HOA6 := Lib.hid (HOA.out.below hx)
    have hw6 := Agg.belowThen hw5 (Nat.le_refl _) hx
    have HB6 := Lib.hid (HB5.out.below hx)
    have HB26 := Lib.hid (HB25.out.below hx)
    have HC6 := Lib.hid (HC5.out.below hx)
    have HD6 := Lib.hid (HD5.out.below hx)
    clear hob hx HOA HB5 HB25 HC5 HD5
    by_cases hec : putE c = 0
    · by_cases hed : putE d = 0
      · have h1 : ((putE c : Int) != 0) = false := by simp [hec]
        have h2 : ((putE d : Int) != 0) = false := by simp [hed]
        have hla : (putB c).length ≤ 1048576 := by rw [(putE_zero hec).2]; have := textD_length (putE_zero hec).1; omega
        have hlb : (putB d).length ≤ 1048576 := by rw [(putE_zero hed).2]; have := textD_length (putE_zero hed).1; omega
        have HSM := Lib.hid (put_same hec hed)
        clear hec hed
        obtain ⟨bb, hbb⟩ : ∃ b, decide (c = d) = b := ⟨_, rfl⟩
        have hcs : ∀ x : Later w6, Calls Try.prog 18 #[va, vb] x.w fun e w' => e = .returned (.bool bb) ∧ Below x.w.heap.size x.w w' := fun x => by
          have := sameBytes_any va vb (putB c) (putB d) hla hlb x.w (HOA6.out.below x.h) (HOB.out.below x.h)
          rwa [HSM.out, hbb] at this
        have hcd : ∀ x : Later w6, Calls Try.prog 21 #[.agg #[.string ⟨c.1.toArray⟩, vi, vr], .agg #[.string ⟨d.1.toArray⟩, ui, ur]] x.w fun e w' => e = .returned (.bool bb) ∧ Below x.w.heap.size x.w w' := fun x => by
          have := sameDrv_any _ _ c d hc2 hd2 hc3 hd3 x.w (HC6.out.below x.h) (HD6.out.below x.h)
          rwa [hbb] at this
        have HCS := Lib.hid hcs
        have HCD := Lib.hid hcd
        have hbq : (bb == bb) = true := by simp
        clear hcs hcd hbb
        go_wp2_with fail
        try simp only [Act.put, List.setIfInBounds_toArray, List.set_cons_succ, List.set_cons_zero]
        refine Agg.wp_region_later_lit (by kernel_rfl) (by kernel_rfl) ?_
        repeat (first | go_big_quiet_skip | ((first | (with_reducible refine Agg.wpQuiet_loadL HB6.out.all (by kernel_rfl) _ rfl rfl ?_) | (with_reducible refine Agg.wpQuiet_loadL HB26.out.all (by kernel_rfl) _ rfl rfl ?_)); simp only [Act.put, List.setIfInBounds_toArray, List.set_cons_succ, List.set_cons_zero]) | go_big_quiet_step ((first | (go_at_call 18; exact Agg.Calls.later (HCS.out _)) | (go_at_call 21; exact Agg.Calls.later (HCD.out _)))))
        refine wpQuiet_nil ?_
        intro _ hw'
        obtain ⟨x2, rfl⟩ := hw'
        go_wp2_with fail
        go_ret
        exact ⟨ret_bool (by simp), Agg.belowThen hw6 (Nat.le_refl _) x2.h⟩
      · have h1 : ((putE c : Int) != 0) = false := by simp [hec]
        have h2 : ((putE d : Int) != 0) = true := by rw [bne_iff_ne]; omega
        clear hec hed
        go_wp2_with fail
        try simp only [Act.put, List.setIfInBounds_toArray, List.set_cons_succ, List.set_cons_zero]
        refine Agg.wp_region_later_lit (by kernel_rfl) (by kernel_rfl) ?_
        repeat (first | go_big_quiet_skip | ((first | (with_reducible refine Agg.wpQuiet_loadL HB6.out.all (by kernel_rfl) _ rfl rfl ?_) | (with_reducible refine Agg.wpQuiet_loadL HB26.out.all (by kernel_rfl) _ rfl rfl ?_)); simp only [Act.put, List.setIfInBounds_toArray, List.set_cons_succ, List.set_cons_zero]) | go_big_quiet_step (fail))
        refine wpQuiet_nil ?_
        intro _ hw'
        obtain ⟨x2, rfl⟩ := hw'
        go_wp2_with fail
        go_ret
        exact ⟨rfl, Agg.belowThen hw6 (Nat.le_refl _) x2.h⟩
    · have h1 : ((putE c : Int) != 0) = true := by rw [bne_iff_ne]; omega
      clear hec
      go_wp2_with fail
      try simp only [Act.put, List.setIfInBounds_toArray, List.set_cons_succ, List.set_cons_zero]
      refine Agg.wp_region_later_lit (by kernel_rfl) (by kernel_rfl) ?_
      repeat (first | go_big_quiet_skip | ((first | (with_reducible refine Agg.wpQuiet_loadL HB6.out.all (by kernel_rfl) _ rfl rfl ?_) | (with_reducible refine Agg.wpQuiet_loadL HB26.out.all (by kernel_rfl) _ rfl rfl ?_)); simp only [Act.put, List.setIfInBounds_toArray, List.set_cons_succ, List.set_cons_zero]) | go_big_quiet_step (fail))
      refine wpQuiet_nil ?_
      intro _ hw'
      obtain ⟨x2, rfl⟩ := hw'
      go_wp2_with fail
      go_ret
      exact ⟨rfl, Agg.belowThen hw6 (Nat.le_refl _) x2.h⟩
  · have hd5 : decide (5000 < (drvN 5000 c : Int) + (drvN 5000 d : Int)) = true := by simp; omega
    go_wp2_with fail
    go_ret
    exact ⟨rfl, hw4⟩
end Go.Proofs.Ytfgjepfmcmppaaa
