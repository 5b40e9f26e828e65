/- spenceref17.Can -/
import Derived.Test.YtfgjepfmcmppaaaCan
import Derived.Test.YtfgjepfmcmppaaaSameDrv
namespace Go.Proofs.Ytfgjepfmcmppaaa
open Go.RowKit Pl Go.Agg
theorem behind_at {l : List Nam} {k : Nat} {y : Nam} (hk : 0 < k) (h : l[k - 1]? = some y) : behind (l.take k) = y.1 := by
  obtain ⟨j, rfl⟩ : ∃ j, k = j + 1 := ⟨k - 1, by omega⟩
  rw [behind_succ (by simpa using h)]
theorem nam_le_sum {l : List Nam} {x : Nam} (h : x ∈ l) : nmSz x ≤ namsSz l := by
  induction l with
  | nil => cases h
  | cons y l ih =>
    simp only [namsSz, List.map_cons, List.sum_cons] at ih ⊢
    rcases List.mem_cons.1 h with rfl | h
    · omega
    · have := ih h; omega
theorem less_nil {s : List UInt8} (h : isName s = true) : Op.bytesLess [] s = true := by
  cases s with
  | nil => exact absurd h (by decide)
  | cons c s => rfl
theorem i64_pred' (n : Nat) (h0 : 0 < n) (h : n ≤ 1048576) : IntKind.i64.wrap ((n : Int) - 1) = ((n - 1 : Nat) : Int) := by
  rw [IntKind.wrap_i64]; omega
theorem refNameB (s : List UInt8) {b : Bool} (hb : isName s = b) (hs : s.length ≤ 9223372036854775807) (w : World) :
    Calls Try.prog 32 #[.string ⟨s.toArray⟩] w fun e w' => e = .returned (.bool b) ∧ Below w.heap.size w w' := by
  subst hb
  exact (refName_any s hs w).mono fun e w' ⟨h1, h2⟩ => ⟨h1, by subst h2; exact Below.refl _ _⟩
set_option maxRecDepth 100000 in
set_option maxHeartbeats 8000000 in
theorem refCan_any (v : Value) (d : Drv) (h1 : d.1.length ≤ 1048576) (hl : d.2.1.length ≤ 1048576) (hsz : namsSz d.2.1 ≤ 4194304) (w : World) (hd : DrvAt w v d) :
    Calls Try.prog 17 #[v] w fun e w' => e = .returned (.bool (canDrv d)) ∧ Below w.heap.size w w' := by
  obtain ⟨vi, vr, rfl, hvi, hvr⟩ := hd
  have hli := nams_len hvi
  have hlr := bytes_len hvr
  have HVI := Lib.hid hvi
  clear hvi hvr
  go_enter Try.func17, Try.ntmps17
  go_wp2_with (first | (with_reducible refine Agg.wpList_box rfl 25 _ rfl (#[.string ⟨d.1.toArray⟩, vi, vr]) rfl ?_; intro g w1 hb hx1 hg) | (with_reducible refine Agg.wpList_loadL (DrvL.of_blk hb).name rfl _ rfl rfl ?_))

  refine (refNameB _ rfl (by omega) _).mono ?_
  rintro e w2 ⟨rfl, hx⟩
  have HD := Lib.hid ((DrvL.of_blk hb).below hx)
  have hw2 := Agg.belowThen hx1 (Nat.le_refl _) hx
  have HVI2 := Lib.hid (HVI.out.below hw2)
  clear hb hx hx1 hg
  cases hnm : isName d.1 with
  | false =>
    have HR : Hid (canDrv d = false) := Lib.hid (by simp [canDrv, hnm])
    clear hnm
    go_wp2_with fail
    go_ret
    exact ⟨ret_bool HR.out.symm, hw2⟩
  | true =>
    by_cases h8 : d.2.1.length ≤ 8
    · have hd8 : decide (8 < (d.2.1.length : Int)) = false := by simp; omega
      by_cases h9 : d.2.2.length ≤ 1000
      · have hd9 : decide (1000 < (d.2.2.length : Int)) = false := by simp; omega
        have HR0 : Hid (canDrv d = canAll [] d.2.1) := Lib.hid (by simp [canDrv, hnm, h8, h9])
        clear hnm
        go_wp2_with (first | (with_reducible refine Agg.wpList_loadL HD.out.inp rfl _ rfl rfl ?_) | (with_reducible refine Agg.wpList_loadL HD.out.rcp rfl _ rfl rfl ?_))

        clear hd8 hd9
        go_loopw [3] (fun i wr => ∃ k : Nat, k ≤ d.2.1.length ∧ i = .int .i64 k ∧ canAll [] (d.2.1.take k) = true ∧ Below w2.heap.size w2 wr) (fun i _ => d.2.1.length - (intOf i).toNat)
        case atStart => exact ⟨0, by omega, rfl, rfl, Below.refl _ _⟩
        case round =>
          obtain ⟨w3, rfl⟩ : ∃ w3 : World, w3 = wr := ⟨_, rfl⟩
          obtain ⟨k, hk, rfl, hcan, hx⟩ := hrel
          have HCAN := Lib.hid hcan
          have HD3 := Lib.hid (HD.out.below hx)
          clear hcan
          by_cases hlt : k < d.2.1.length
          · obtain ⟨x, hxk⟩ : ∃ x, d.2.1[k]? = some x := ⟨_, List.getElem?_eq_getElem hlt⟩
            obtain ⟨p, hadr, hld⟩ := nam_at (HVI2.out.below hx) k x hxk
            have hxb : nmSz x ≤ 4194304 := Nat.le_trans (nam_le_sum (List.mem_of_getElem? hxk)) hsz
            have hx1 : x.1.length ≤ 4194304 := by unfold nmSz at hxb; omega
            have hx2 : x.2.1.1.2.length ≤ 4194304 := by unfold nmSz at hxb; omega
            have HL := Lib.hid hld.all
            have HCS := Lib.hid (canAll_succ hxk)
            have HXK := Lib.hid hxk
            have hd1 : decide (k < d.2.1.length) = true := by simpa using hlt
            clear hld hxk hxb
            go_wp2_with (first | (with_reducible refine Agg.wpList_loadL HD3.out.inp rfl _ rfl rfl ?_) | (with_reducible refine Agg.wpList_loadL HL.out rfl _ rfl rfl ?_) | (refine Agg.wpList_new rfl rfl rfl 64 4 32 rfl rfl rfl (by decide) (nmC zN) (nmC x) nmC_zero (by rw [nmC_size, nmC_size]) (nmC_info x) (nmC_one x) rfl (by simp [Act.put]) ?_; intro g2 w4 hb2 hx4 hg2))

            have hx5 := Agg.belowThen hx (Nat.le_refl _) hx4
            have HB := Lib.hid (NamB.of_blk hb2)
            have HD4 := Lib.hid (HD3.out.below hx4)
            clear hb2 hx4 hg2 hadr
            have HBAD : Hid (canNm x (behind (d.2.1.take k)) = false → canDrv d = false) := Lib.hid (fun h => by rw [HR0.out]; exact canAll_take (l := d.2.1) (k := k + 1) (by rw [HCS.out, h, Bool.and_false]))
            have hta := Agg.bytes_toList x.1
            cases hnx : isName x.1 with
            | false =>
              have HR : Hid (canDrv d = false) := Lib.hid (HBAD.out (by simp [canNm, hnx]))
              try simp only [Act.put, List.setIfInBounds_toArray, List.set_cons_succ, List.set_cons_zero]
              refine Agg.wp_region_later_lit (by kernel_rfl) (by kernel_rfl) ?_
              repeat (first | go_big_quiet_skip | ((first | (with_reducible refine Agg.wpQuiet_loadL HB.out.name rfl _ rfl rfl ?_)); simp only [Act.put, List.setIfInBounds_toArray, List.set_cons_succ, List.set_cons_zero]) | go_big_quiet_step ((go_at_call 32; exact Agg.Calls.later (refNameB _ hnx (by omega) _))))
              refine wpQuiet_nil ?_
              intro _ hw'
              obtain ⟨x1, rfl⟩ := hw'
              go_wp2_with fail
              go_ret
              exact ⟨ret_bool HR.out.symm, Agg.belowThen hw2 (Nat.le_refl _) (Agg.belowThen hx5 (Nat.le_refl _) x1.h)⟩
            | true =>
              have hdec : ∃ bl, Op.bytesLess (behind (d.2.1.take k)) x.1 = bl := ⟨_, rfl⟩
              obtain ⟨bl, hbl⟩ := hdec
              by_cases hk0 : k = 0
              · have hkd : decide (0 < (k : Int)) = false := by simp; omega
                obtain rfl : bl = true := by rw [← hbl, hk0]; exact less_nil hnx
                try simp only [Act.put, List.setIfInBounds_toArray, List.set_cons_succ, List.set_cons_zero]
                refine Agg.wp_region_later_lit (by kernel_rfl) (by kernel_rfl) ?_
                repeat (first | go_big_quiet_skip | ((first | (with_reducible refine Agg.wpQuiet_loadL HB.out.name rfl _ rfl rfl ?_)); simp only [Act.put, List.setIfInBounds_toArray, List.set_cons_succ, List.set_cons_zero]) | go_big_quiet_step ((go_at_call 32; exact Agg.Calls.later (refNameB _ hnx (by omega) _))))
                refine wpQuiet_nil ?_
                intro _ hw'
                obtain ⟨x1, rfl⟩ := hw'
                have hx6 := Agg.belowThen hx5 (Nat.le_refl _) x1.h
                have HB6 := Lib.hid (HB.out.below x1.h)
                have HC0 : Hid (canNm x (behind (d.2.1.take k)) = (if x.2.2.2 then decide (x.2.1 = zP) else isName x.2.1.1.2 && decide (x.2.2.1 = zH))) := Lib.hid (by simp [canNm, hnx, hbl])
                generalize x1.w = w6 at *
                clear hbl
                cases his : x.2.2.2 with
                | true =>
                  have his2 := HB6.out.is
                  rw [his] at his2
                  have HIS := Lib.hid his2
                  have HC : Hid (canNm x (behind (d.2.1.take k)) = decide (x.2.1 = zP)) := Lib.hid (by rw [HC0.out, if_pos his])
                  have hbz := build_zP
                  cases hz : decide (x.2.1 = zP) with
                  | true =>
                    have hq : ∀ w, (binOp .neq 40 (.agg (pC x.2.1.1.1 x.2.1.1.2)) (.agg (pC zP.1.1 zP.1.2))).run Try.prog w = .ok (.bool false) w := fun w => by rw [neqP x.2.1 zP, hz]; rfl
                    have HG : Hid (canNm x (behind (d.2.1.take k)) = true) := Lib.hid (HC.out.trans hz)
                    clear hz his his2
                    go_wp2_with (first | (with_reducible refine Agg.wpList_loadL HIS.out rfl _ rfl rfl ?_) | (with_reducible refine Agg.wpList_loadL HB6.out.src rfl _ rfl rfl ?_) | (with_reducible refine Agg.wpList_build0 40 rfl rfl (.agg (pC zP.1.1 zP.1.2)) hbz ?_) | (with_reducible refine Agg.wpList_neqw 40 40 _ _ rfl rfl (pC x.2.1.1.1 x.2.1.1.2) (pC zP.1.1 zP.1.2) rfl rfl (false) (by kernel_rfl) hq ?_))
                    go_roundw
                    case rel => exact ⟨k + 1, by omega, by go_num, by rw [HCS.out, HCAN.out, HG.out]; rfl, hx6⟩
                    case measure => simp [intOf]; omega
                  | false =>
                    have hq : ∀ w, (binOp .neq 40 (.agg (pC x.2.1.1.1 x.2.1.1.2)) (.agg (pC zP.1.1 zP.1.2))).run Try.prog w = .ok (.bool true) w := fun w => by rw [neqP x.2.1 zP, hz]; rfl
                    have HR : Hid (canDrv d = false) := Lib.hid (HBAD.out (HC.out.trans hz))
                    clear hz his his2
                    go_wp2_with (first | (with_reducible refine Agg.wpList_loadL HIS.out rfl _ rfl rfl ?_) | (with_reducible refine Agg.wpList_loadL HB6.out.src rfl _ rfl rfl ?_) | (with_reducible refine Agg.wpList_build0 40 rfl rfl (.agg (pC zP.1.1 zP.1.2)) hbz ?_) | (with_reducible refine Agg.wpList_neqw 40 40 _ _ rfl rfl (pC x.2.1.1.1 x.2.1.1.2) (pC zP.1.1 zP.1.2) rfl rfl (true) (by kernel_rfl) hq ?_))
                    go_ret
                    exact ⟨ret_bool HR.out.symm, Agg.belowThen hw2 (Nat.le_refl _) hx6⟩
                | false =>
                  have his2 := HB6.out.is
                  rw [his] at his2
                  have HIS := Lib.hid his2
                  have HC : Hid (canNm x (behind (d.2.1.take k)) = (isName x.2.1.1.2 && decide (x.2.2.1 = zH))) := Lib.hid (by rw [HC0.out, his]; rfl)
                  have hbz := build_zH
                  clear his his2
                  go_wp2_with (first | (with_reducible refine Agg.wpList_loadL HIS.out rfl _ rfl rfl ?_) | (with_reducible refine Agg.wpList_loadL HB6.out.sname rfl _ rfl rfl ?_))
                  refine (refNameB _ rfl (by omega) _).mono ?_
                  rintro e w7 ⟨rfl, hx7⟩
                  have HB7 := Lib.hid (HB6.out.below hx7)
                  have hx8 := Agg.belowThen hx6 (Nat.le_refl _) hx7
                  clear hx7
                  cases hsn : isName x.2.1.1.2 with
                  | false =>
                    have HR : Hid (canDrv d = false) := Lib.hid (HBAD.out (by rw [HC.out, hsn]; rfl))
                    clear hsn
                    go_wp2_with fail
                    go_ret
                    exact ⟨ret_bool HR.out.symm, Agg.belowThen hw2 (Nat.le_refl _) hx8⟩
                  | true =>
                    cases hz : decide (x.2.2.1 = zH) with
                    | true =>
                      have hq : ∀ w, (binOp .neq 38 (.agg (hC x.2.2.1.1)) (.agg (hC zH.1))).run Try.prog w = .ok (.bool false) w := fun w => by rw [neqH x.2.2.1 zH, hz]; rfl
                      have HG : Hid (canNm x (behind (d.2.1.take k)) = true) := Lib.hid (by rw [HC.out, hsn, hz]; rfl)
                      clear hz hsn
                      go_wp2_with (first | (with_reducible refine Agg.wpList_loadL HB7.out.cls rfl _ rfl rfl ?_) | (with_reducible refine Agg.wpList_build0 38 rfl rfl (.agg (hC zH.1)) hbz ?_) | (with_reducible refine Agg.wpList_neqw 38 38 _ _ rfl rfl (hC x.2.2.1.1) (hC zH.1) rfl rfl (false) (by kernel_rfl) hq ?_))
                      go_roundw
                      case rel => exact ⟨k + 1, by omega, by go_num, by rw [HCS.out, HCAN.out, HG.out]; rfl, hx8⟩
                      case measure => simp [intOf]; omega
                    | false =>
                      have hq : ∀ w, (binOp .neq 38 (.agg (hC x.2.2.1.1)) (.agg (hC zH.1))).run Try.prog w = .ok (.bool true) w := fun w => by rw [neqH x.2.2.1 zH, hz]; rfl
                      have HR : Hid (canDrv d = false) := Lib.hid (HBAD.out (by rw [HC.out, hsn, hz]; rfl))
                      clear hz hsn
                      go_wp2_with (first | (with_reducible refine Agg.wpList_loadL HB7.out.cls rfl _ rfl rfl ?_) | (with_reducible refine Agg.wpList_build0 38 rfl rfl (.agg (hC zH.1)) hbz ?_) | (with_reducible refine Agg.wpList_neqw 38 38 _ _ rfl rfl (hC x.2.2.1.1) (hC zH.1) rfl rfl (true) (by kernel_rfl) hq ?_))
                      go_ret
                      exact ⟨ret_bool HR.out.symm, Agg.belowThen hw2 (Nat.le_refl _) hx8⟩
              · have hkd : 0 < k := by omega
                have hkd2 : decide (0 < k) = true := by simpa using hkd
                have hlt0 : k - 1 < d.2.1.length := by omega
                obtain ⟨y, hyk⟩ : ∃ y, d.2.1[k - 1]? = some y := ⟨_, List.getElem?_eq_getElem hlt0⟩
                obtain ⟨q, hadq, hlq⟩ := nam_at (HVI2.out.below hx5) (k - 1) y hyk
                have hby := behind_at (by omega) hyk
                have HQ := Lib.hid hlq
                have hwr := i64_pred' k (by omega) (by omega)
                have htb := Agg.bytes_toList y.1
                rw [hby] at hbl
                clear hlq hyk
                cases bl with
                | false =>
                  have HR : Hid (canDrv d = false) := Lib.hid (HBAD.out (by rw [hby]; simp [canNm, hbl]))
                  clear hby
                  try simp only [Act.put, List.setIfInBounds_toArray, List.set_cons_succ, List.set_cons_zero]
                  refine Agg.wp_region_later_lit (by kernel_rfl) (by kernel_rfl) ?_
                  repeat (first | go_big_quiet_skip | ((first | (with_reducible refine Agg.wpQuiet_loadL HB.out.name rfl _ rfl rfl ?_) | (with_reducible refine Agg.wpQuiet_loadL HD4.out.inp rfl _ rfl rfl ?_) | (with_reducible refine Agg.wpQuiet_loadL HQ.out.name rfl _ rfl rfl ?_)); simp only [Act.put, List.setIfInBounds_toArray, List.set_cons_succ, List.set_cons_zero]) | go_big_quiet_step ((go_at_call 32; exact Agg.Calls.later (refNameB _ hnx (by omega) _))))
                  refine wpQuiet_nil ?_
                  intro _ hw'
                  obtain ⟨x1, rfl⟩ := hw'
                  go_wp2_with fail
                  go_ret
                  exact ⟨ret_bool HR.out.symm, Agg.belowThen hw2 (Nat.le_refl _) (Agg.belowThen hx5 (Nat.le_refl _) x1.h)⟩
                | true =>
                  have hbl0 := hbl
                  try simp only [Act.put, List.setIfInBounds_toArray, List.set_cons_succ, List.set_cons_zero]
                  refine Agg.wp_region_later_lit (by kernel_rfl) (by kernel_rfl) ?_
                  repeat (first | go_big_quiet_skip | ((first | (with_reducible refine Agg.wpQuiet_loadL HB.out.name rfl _ rfl rfl ?_) | (with_reducible refine Agg.wpQuiet_loadL HD4.out.inp rfl _ rfl rfl ?_) | (with_reducible refine Agg.wpQuiet_loadL HQ.out.name rfl _ rfl rfl ?_)); simp only [Act.put, List.setIfInBounds_toArray, List.set_cons_succ, List.set_cons_zero]) | go_big_quiet_step ((go_at_call 32; exact Agg.Calls.later (refNameB _ hnx (by omega) _))))
                  refine wpQuiet_nil ?_
                  intro _ hw'
                  obtain ⟨x1, rfl⟩ := hw'
                  rw [← hby] at hbl
                  clear hbl0 hwr htb hadq hby
                  have hx6 := Agg.belowThen hx5 (Nat.le_refl _) x1.h
                  have HB6 := Lib.hid (HB.out.below x1.h)
                  have HC0 : Hid (canNm x (behind (d.2.1.take k)) = (if x.2.2.2 then decide (x.2.1 = zP) else isName x.2.1.1.2 && decide (x.2.2.1 = zH))) := Lib.hid (by simp [canNm, hnx, hbl])
                  generalize x1.w = w6 at *
                  clear hbl
                  cases his : x.2.2.2 with
                  | true =>
                    have his2 := HB6.out.is
                    rw [his] at his2
                    have HIS := Lib.hid his2
                    have HC : Hid (canNm x (behind (d.2.1.take k)) = decide (x.2.1 = zP)) := Lib.hid (by rw [HC0.out, if_pos his])
                    have hbz := build_zP
                    cases hz : decide (x.2.1 = zP) with
                    | true =>
                      have hq : ∀ w, (binOp .neq 40 (.agg (pC x.2.1.1.1 x.2.1.1.2)) (.agg (pC zP.1.1 zP.1.2))).run Try.prog w = .ok (.bool false) w := fun w => by rw [neqP x.2.1 zP, hz]; rfl
                      have HG : Hid (canNm x (behind (d.2.1.take k)) = true) := Lib.hid (HC.out.trans hz)
                      clear hz his his2
                      go_wp2_with (first | (with_reducible refine Agg.wpList_loadL HIS.out rfl _ rfl rfl ?_) | (with_reducible refine Agg.wpList_loadL HB6.out.src rfl _ rfl rfl ?_) | (with_reducible refine Agg.wpList_build0 40 rfl rfl (.agg (pC zP.1.1 zP.1.2)) hbz ?_) | (with_reducible refine Agg.wpList_neqw 40 40 _ _ rfl rfl (pC x.2.1.1.1 x.2.1.1.2) (pC zP.1.1 zP.1.2) rfl rfl (false) (by kernel_rfl) hq ?_))
                      go_roundw
                      case rel => exact ⟨k + 1, by omega, by go_num, by rw [HCS.out, HCAN.out, HG.out]; rfl, hx6⟩
                      case measure => simp [intOf]; omega
                    | false =>
                      have hq : ∀ w, (binOp .neq 40 (.agg (pC x.2.1.1.1 x.2.1.1.2)) (.agg (pC zP.1.1 zP.1.2))).run Try.prog w = .ok (.bool true) w := fun w => by rw [neqP x.2.1 zP, hz]; rfl
                      have HR : Hid (canDrv d = false) := Lib.hid (HBAD.out (HC.out.trans hz))
                      clear hz his his2
                      go_wp2_with (first | (with_reducible refine Agg.wpList_loadL HIS.out rfl _ rfl rfl ?_) | (with_reducible refine Agg.wpList_loadL HB6.out.src rfl _ rfl rfl ?_) | (with_reducible refine Agg.wpList_build0 40 rfl rfl (.agg (pC zP.1.1 zP.1.2)) hbz ?_) | (with_reducible refine Agg.wpList_neqw 40 40 _ _ rfl rfl (pC x.2.1.1.1 x.2.1.1.2) (pC zP.1.1 zP.1.2) rfl rfl (true) (by kernel_rfl) hq ?_))
                      go_ret
                      exact ⟨ret_bool HR.out.symm, Agg.belowThen hw2 (Nat.le_refl _) hx6⟩
                  | false =>
                    have his2 := HB6.out.is
                    rw [his] at his2
                    have HIS := Lib.hid his2
                    have HC : Hid (canNm x (behind (d.2.1.take k)) = (isName x.2.1.1.2 && decide (x.2.2.1 = zH))) := Lib.hid (by rw [HC0.out, his]; rfl)
                    have hbz := build_zH
                    clear his his2
                    go_wp2_with (first | (with_reducible refine Agg.wpList_loadL HIS.out rfl _ rfl rfl ?_) | (with_reducible refine Agg.wpList_loadL HB6.out.sname rfl _ rfl rfl ?_))
                    refine (refNameB _ rfl (by omega) _).mono ?_
                    rintro e w7 ⟨rfl, hx7⟩
                    have HB7 := Lib.hid (HB6.out.below hx7)
                    have hx8 := Agg.belowThen hx6 (Nat.le_refl _) hx7
                    clear hx7
                    cases hsn : isName x.2.1.1.2 with
                    | false =>
                      have HR : Hid (canDrv d = false) := Lib.hid (HBAD.out (by rw [HC.out, hsn]; rfl))
                      clear hsn
                      go_wp2_with fail
                      go_ret
                      exact ⟨ret_bool HR.out.symm, Agg.belowThen hw2 (Nat.le_refl _) hx8⟩
                    | true =>
                      cases hz : decide (x.2.2.1 = zH) with
                      | true =>
                        have hq : ∀ w, (binOp .neq 38 (.agg (hC x.2.2.1.1)) (.agg (hC zH.1))).run Try.prog w = .ok (.bool false) w := fun w => by rw [neqH x.2.2.1 zH, hz]; rfl
                        have HG : Hid (canNm x (behind (d.2.1.take k)) = true) := Lib.hid (by rw [HC.out, hsn, hz]; rfl)
                        clear hz hsn
                        go_wp2_with (first | (with_reducible refine Agg.wpList_loadL HB7.out.cls rfl _ rfl rfl ?_) | (with_reducible refine Agg.wpList_build0 38 rfl rfl (.agg (hC zH.1)) hbz ?_) | (with_reducible refine Agg.wpList_neqw 38 38 _ _ rfl rfl (hC x.2.2.1.1) (hC zH.1) rfl rfl (false) (by kernel_rfl) hq ?_))
                        go_roundw
                        case rel => exact ⟨k + 1, by omega, by go_num, by rw [HCS.out, HCAN.out, HG.out]; rfl, hx8⟩
                        case measure => simp [intOf]; omega
                      | false =>
                        have hq : ∀ w, (binOp .neq 38 (.agg (hC x.2.2.1.1)) (.agg (hC zH.1))).run Try.prog w = .ok (.bool true) w := fun w => by rw [neqH x.2.2.1 zH, hz]; rfl
                        have HR : Hid (canDrv d = false) := Lib.hid (HBAD.out (by rw [HC.out, hsn, hz]; rfl))
                        clear hz hsn
                        go_wp2_with (first | (with_reducible refine Agg.wpList_loadL HB7.out.cls rfl _ rfl rfl ?_) | (with_reducible refine Agg.wpList_build0 38 rfl rfl (.agg (hC zH.1)) hbz ?_) | (with_reducible refine Agg.wpList_neqw 38 38 _ _ rfl rfl (hC x.2.2.1.1) (hC zH.1) rfl rfl (true) (by kernel_rfl) hq ?_))
                        go_ret
                        exact ⟨ret_bool HR.out.symm, Agg.belowThen hw2 (Nat.le_refl _) hx8⟩
          · obtain rfl : k = d.2.1.length := by omega
            have hca := HCAN.out
            rw [List.take_length] at hca
            have HR : Hid (canDrv d = true) := Lib.hid (HR0.out.trans hca)
            have hd1 : decide (d.2.1.length < d.2.1.length) = false := by simp
            clear hca
            go_wp2_with (first | (with_reducible refine Agg.wpList_loadL HD3.out.inp rfl _ rfl rfl ?_))

            go_ret
            exact ⟨ret_bool HR.out.symm, Agg.belowThen hw2 (Nat.le_refl _) hx⟩
      · have hd9 : decide (1000 < (d.2.2.length : Int)) = true := by simp; omega
        have HR : Hid (canDrv d = false) := Lib.hid (by simp [canDrv, h9])
        clear hnm
        go_wp2_with (first | (with_reducible refine Agg.wpList_loadL HD.out.inp rfl _ rfl rfl ?_) | (with_reducible refine Agg.wpList_loadL HD.out.rcp rfl _ rfl rfl ?_))

        go_ret
        exact ⟨ret_bool HR.out.symm, hw2⟩
    · have hd8 : decide (8 < (d.2.1.length : Int)) = true := by simp; omega
      have HR : Hid (canDrv d = false) := Lib.hid (by simp [canDrv, h8])
      clear hnm
      go_wp2_with (first | (with_reducible refine Agg.wpList_loadL HD.out.inp rfl _ rfl rfl ?_) | (with_reducible refine Agg.wpList_loadL HD.out.rcp rfl _ rfl rfl ?_))

      go_ret
      exact ⟨ret_bool HR.out.symm, hw2⟩
end Go.Proofs.Ytfgjepfmcmppaaa
