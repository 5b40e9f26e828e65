/- text.can, text.Can (Several texts in one.) -/
import Derived.Test.YtnlilmiakddlaaaBAK
import Derived.Test.YtnlilmiakddlaaaBAD
import Derived.Test.YtnlilmiakddlaaaBAF
import Derived.Test.YtnlilmiakddlaaaBAG
/-! spencekit.SameBytes. -/
namespace Go.Proofs.Ytnlilmiakddlaaa
open Go.RowKit Pl Go.Agg
theorem take_eq_succ {α : Type} {a b : List α} {k : Nat} {x y : α} (hx : a[k]? = some x) (hy : b[k]? = some y) (h : a.take k = b.take k) (hxy : x = y) : a.take (k + 1) = b.take (k + 1) := by
  rw [List.take_add_one, List.take_add_one, hx, hy, h, hxy]
theorem ne_at {α : Type} {a b : List α} {k : Nat} {x y : α} (hx : a[k]? = some x) (hy : b[k]? = some y) (hxy : x ≠ y) : a ≠ b := by
  rintro rfl
  exact hxy (Option.some.inj (hx.symm.trans hy))
theorem i64_nat {a b : Nat} (h : a = b) : Value.int .i64 (a : Int) = .int .i64 (b : Int) := by rw [h]
set_option maxRecDepth 100000 in
set_option maxHeartbeats 1000000 in
theorem sameBytes_any (v u : Value) (a b : List UInt8) (_ha : a.length ≤ 1048576) (hb : b.length ≤ 1048576) (w : World) (he : BytesAt w v a) (hf : BytesAt w u b) :
    Calls Try.prog 10 #[v, u] w fun e w' => e = .returned (.bool (decide (a = b))) ∧ Below w.heap.size w w' := by
  have hlv := fun W => bytes_len he W
  have hlu := fun W => bytes_len hf W
  have HE := Lib.hid he
  have HF := Lib.hid hf
  clear he hf
  by_cases hlen : a.length = b.length
  · have hne : ((a.length : Int) != (b.length : Int)) = false := by simp [hlen]
    have HLEN := Lib.hid hlen
    rw [hlen] at hlv hne
    clear hlen
    go_enter Try.func10, Try.ntmps10
    go_wp2_with fail
    go_loopw [5] (fun i wr => ∃ k : Nat, k ≤ b.length ∧ i = .int .i64 k ∧ a.take k = b.take k ∧ Below w.heap.size w wr) (fun i _ => b.length - (intOf i).toNat)
    case atStart => exact ⟨0, by omega, rfl, rfl, Below.refl _ _⟩
    case round =>
      obtain ⟨w1, rfl⟩ : ∃ w1 : World, w1 = wr := ⟨_, rfl⟩
      obtain ⟨k, hk, rfl, htk, hw⟩ := hrel
      have HTK := Lib.hid htk
      clear htk
      by_cases hlt : k < b.length
      · obtain ⟨y, hyk⟩ : ∃ y, b[k]? = some y := ⟨_, List.getElem?_eq_getElem hlt⟩
        obtain ⟨x, hxk⟩ : ∃ x, a[k]? = some x := ⟨_, List.getElem?_eq_getElem (by rw [HLEN.out]; exact hlt)⟩
        obtain ⟨p, hadr, hld⟩ := byte_at (HE.out.below hw) k x hxk
        obtain ⟨q, hadq, hlq⟩ := byte_at (HF.out.below hw) k y hyk
        have HLX := Lib.hid hld
        have HLY := Lib.hid hlq
        clear hld hlq
        have HX := Lib.hid hxk
        have HY := Lib.hid hyk
        clear hxk hyk
        by_cases hxy : x = y
        · have HXY := Lib.hid hxy
          have hq : ((x.toNat : Int) != (y.toNat : Int)) = false := by simp [hxy]
          clear hxy
          go_wp2_with fail
          try simp only [Act.put, List.setIfInBounds_toArray, List.set_cons_succ, List.set_cons_zero]
          refine Agg.wp_region_later_lit (by kernel_rfl) (by kernel_rfl) ?_
          repeat (first | go_big_quiet_skip | ((first | (with_reducible refine Agg.wpQuiet_loadL HLX.out rfl _ rfl rfl ?_) | (with_reducible refine Agg.wpQuiet_loadL HLY.out rfl _ rfl rfl ?_)); simp only [Act.put, List.setIfInBounds_toArray, List.set_cons_succ, List.set_cons_zero]) | go_big_quiet_step (fail))
          refine wpQuiet_nil ?_
          intro _ hw'
          obtain ⟨x1, rfl⟩ := hw'
          go_wp2_with fail
          go_roundw
          case rel => exact ⟨k + 1, by omega, by go_num, take_eq_succ HX.out HY.out HTK.out HXY.out, Agg.belowThen hw (Nat.le_refl _) x1.h⟩
          case measure => simp [intOf]; omega
        · have HXY := Lib.hid hxy
          have hq : ((x.toNat : Int) != (y.toNat : Int)) = true := by rw [bne_iff_ne]; intro e; exact hxy (UInt8.toNat_inj.1 (by omega))
          clear hxy
          go_wp2_with fail
          try simp only [Act.put, List.setIfInBounds_toArray, List.set_cons_succ, List.set_cons_zero]
          refine Agg.wp_region_later_lit (by kernel_rfl) (by kernel_rfl) ?_
          repeat (first | go_big_quiet_skip | ((first | (with_reducible refine Agg.wpQuiet_loadL HLX.out rfl _ rfl rfl ?_) | (with_reducible refine Agg.wpQuiet_loadL HLY.out rfl _ rfl rfl ?_)); simp only [Act.put, List.setIfInBounds_toArray, List.set_cons_succ, List.set_cons_zero]) | go_big_quiet_step (fail))
          refine wpQuiet_nil ?_
          intro _ hw'
          obtain ⟨x1, rfl⟩ := hw'
          have hres : decide (a = b) = false := by simpa using ne_at HX.out HY.out HXY.out
          have HR := Lib.hid hres
          clear hres
          go_wp2_with fail
          go_ret
          exact ⟨ret_bool HR.out.symm, Agg.belowThen hw (Nat.le_refl _) x1.h⟩
      · obtain rfl : k = b.length := by omega
        have hres : decide (a = b) = true := by
          have := HTK.out
          rw [List.take_length, List.take_of_length_le (by rw [HLEN.out]; omega)] at this
          simpa using this
        have HR := Lib.hid hres
        clear hres
        go_wp2_with fail
        go_ret
        exact ⟨ret_bool HR.out.symm, hw⟩
  · have hne : ((a.length : Int) != (b.length : Int)) = true := by rw [bne_iff_ne]; omega
    have hres : decide (a = b) = false := by simp; exact fun e => hlen (by rw [e])
    have HR := Lib.hid hres
    clear hres
    go_enter Try.func10, Try.ntmps10
    go_wp2_with fail
    go_ret
    exact ⟨ret_bool HR.out.symm, Below.refl _ _⟩
end Go.Proofs.Ytnlilmiakddlaaa
/-! spencekit.SameNameds. -/
namespace Go.Proofs.Ytnlilmiakddlaaa
open Go.RowKit Pl Go.Agg
set_option maxRecDepth 100000 in
set_option maxHeartbeats 1000000 in
theorem sameNams_any (v u : Value) (a b : List Nam) (_ha : a.length ≤ 1048576) (hb : b.length ≤ 1048576) (w : World) (he : NamsAt w v a) (hf : NamsAt w u b) :
    Calls Try.prog 18 #[v, u] w fun e w' => e = .returned (.bool (decide (a = b))) ∧ Below w.heap.size w w' := by
  have hlv := fun W => nams_len he W
  have hlu := fun W => nams_len hf W
  have HE := Lib.hid he
  have HF := Lib.hid hf
  clear he hf
  by_cases hlen : a.length = b.length
  · have hne : ((a.length : Int) != (b.length : Int)) = false := by simp [hlen]
    have HLEN := Lib.hid hlen
    rw [hlen] at hlv hne
    clear hlen
    go_enter Try.func18, Try.ntmps18
    go_wp2_with fail
    go_loopw [5] (fun i wr => ∃ k : Nat, k ≤ b.length ∧ i = .int .i64 k ∧ a.take k = b.take k ∧ Below w.heap.size w wr) (fun i _ => b.length - (intOf i).toNat)
    case atStart => exact ⟨0, by omega, rfl, rfl, Below.refl _ _⟩
    case round =>
      obtain ⟨w1, rfl⟩ : ∃ w1 : World, w1 = wr := ⟨_, rfl⟩
      obtain ⟨k, hk, rfl, htk, hw⟩ := hrel
      have HTK := Lib.hid htk
      clear htk
      by_cases hlt : k < b.length
      · obtain ⟨y, hyk⟩ : ∃ y, b[k]? = some y := ⟨_, List.getElem?_eq_getElem hlt⟩
        obtain ⟨x, hxk⟩ : ∃ x, a[k]? = some x := ⟨_, List.getElem?_eq_getElem (by rw [HLEN.out]; exact hlt)⟩
        obtain ⟨p, hadr, hld⟩ := nam_at (HE.out.below hw) k x hxk
        obtain ⟨q, hadq, hlq⟩ := nam_at (HF.out.below hw) k y hyk
        have HLX := Lib.hid hld.all
        have HLY := Lib.hid hlq.all
        clear hld hlq
        have HX := Lib.hid hxk
        have HY := Lib.hid hyk
        clear hxk hyk
        by_cases hxy : x = y
        · have HXY := Lib.hid hxy
          have hq : ∀ w, (binOp .neq 44 (.agg (nmC x)) (.agg (nmC y))).run Try.prog w = .ok (.bool false) w := fun w => by rw [neq_nam]; simp [hxy]
          clear hxy
          go_wp2_with fail
          try simp only [Act.put, List.setIfInBounds_toArray, List.set_cons_succ, List.set_cons_zero]
          refine Agg.wp_region_later_lit (by kernel_rfl) (by kernel_rfl) ?_
          repeat (first | go_big_quiet_skip | ((first | (with_reducible refine Agg.wpQuiet_loadL HLX.out rfl _ rfl rfl ?_) | (with_reducible refine Agg.wpQuiet_loadL HLY.out rfl _ rfl rfl ?_) | (with_reducible refine Agg.wpQuiet_neq 44 44 _ _ rfl rfl (nmC x) (nmC y) rfl rfl (false) (by kernel_rfl) hq ?_)); simp only [Act.put, List.setIfInBounds_toArray, List.set_cons_succ, List.set_cons_zero]) | go_big_quiet_step (fail))
          refine wpQuiet_nil ?_
          intro _ hw'
          obtain ⟨x1, rfl⟩ := hw'
          go_wp2_with fail
          go_roundw
          case rel => exact ⟨k + 1, by omega, by go_num, take_eq_succ HX.out HY.out HTK.out HXY.out, Agg.belowThen hw (Nat.le_refl _) x1.h⟩
          case measure => simp [intOf]; omega
        · have HXY := Lib.hid hxy
          have hq : ∀ w, (binOp .neq 44 (.agg (nmC x)) (.agg (nmC y))).run Try.prog w = .ok (.bool true) w := fun w => by rw [neq_nam]; simp [hxy]
          clear hxy
          go_wp2_with fail
          try simp only [Act.put, List.setIfInBounds_toArray, List.set_cons_succ, List.set_cons_zero]
          refine Agg.wp_region_later_lit (by kernel_rfl) (by kernel_rfl) ?_
          repeat (first | go_big_quiet_skip | ((first | (with_reducible refine Agg.wpQuiet_loadL HLX.out rfl _ rfl rfl ?_) | (with_reducible refine Agg.wpQuiet_loadL HLY.out rfl _ rfl rfl ?_) | (with_reducible refine Agg.wpQuiet_neq 44 44 _ _ rfl rfl (nmC x) (nmC y) rfl rfl (true) (by kernel_rfl) hq ?_)); simp only [Act.put, List.setIfInBounds_toArray, List.set_cons_succ, List.set_cons_zero]) | go_big_quiet_step (fail))
          refine wpQuiet_nil ?_
          intro _ hw'
          obtain ⟨x1, rfl⟩ := hw'
          have hres : decide (a = b) = false := by simpa using ne_at HX.out HY.out HXY.out
          have HR := Lib.hid hres
          clear hres
          go_wp2_with fail
          go_ret
          exact ⟨ret_bool HR.out.symm, Agg.belowThen hw (Nat.le_refl _) x1.h⟩
      · obtain rfl : k = b.length := by omega
        have hres : decide (a = b) = true := by
          have := HTK.out
          rw [List.take_length, List.take_of_length_le (by rw [HLEN.out]; omega)] at this
          simpa using this
        have HR := Lib.hid hres
        clear hres
        go_wp2_with fail
        go_ret
        exact ⟨ret_bool HR.out.symm, hw⟩
  · have hne : ((a.length : Int) != (b.length : Int)) = true := by rw [bne_iff_ne]; omega
    have hres : decide (a = b) = false := by simp; exact fun e => hlen (by rw [e])
    have HR := Lib.hid hres
    clear hres
    go_enter Try.func18, Try.ntmps18
    go_wp2_with fail
    go_ret
    exact ⟨ret_bool HR.out.symm, Below.refl _ _⟩
end Go.Proofs.Ytnlilmiakddlaaa
/-! text.can, text.Can -/
namespace Go.Proofs.Ytnlilmiakddlaaa
open Go.RowKit Pl Go.Agg
set_option maxRecDepth 100000 in
set_option maxHeartbeats 2000000 in
theorem can_any (x : Nam) (b : List UInt8) (w : World) :
    Calls Try.prog 14 #[.agg (nmC x), .string ⟨b.toArray⟩] w fun e w' => e = .returned (.bool (canNm x b)) ∧ Below w.heap.size w w' := by
  have hta := Agg.bytes_toList x.1
  have htb := Agg.bytes_toList b
  have hlq := leq_not x.1 b
  go_enter Try.func14, Try.ntmps14
  go_wp2_with (first | (with_reducible refine Agg.wpList_box rfl 44 _ rfl (nmC x) rfl ?_; intro g w1 hb hx1 hg) | (with_reducible refine Agg.wpList_loadL (NamB.of_blk hb).name (by kernel_rfl) _ rfl rfl ?_))

  have hw1 := hx1
  refine (name_any _ _).mono ?_
  rintro e w2 ⟨rfl, hx⟩
  have HB := Lib.hid ((NamB.of_blk hb).below hx)
  have hw2 := Agg.belowThen hw1 (Nat.le_refl _) hx
  clear hb hx hx1 hg hw1
  cases hnm : isName x.1 with
  | false =>
    have HR : Hid (canNm x b = false) := Lib.hid (by simp [canNm, hnm])
    go_wp2_with fail
    go_ret
    exact ⟨ret_bool HR.out.symm, hw2⟩
  | true =>
    cases hls : Op.bytesLess b x.1 with
    | false =>
      have HR : Hid (canNm x b = false) := Lib.hid (by simp [canNm, hls])
      rw [hls] at hlq
      go_wp2_with (first | (with_reducible refine Agg.wpList_loadL HB.out.name (by kernel_rfl) _ rfl rfl ?_))

      go_ret
      exact ⟨ret_bool HR.out.symm, hw2⟩
    | true =>
      rw [hls] at hlq
      cases his : x.2.2.2 with
      | true =>
        have his' := HB.out.is
        rw [his] at his'
        have HIS := Lib.hid his'
        have hq : ∀ w, (binOp .eql 40 (.agg (pC x.2.1.1.1 x.2.1.1.2)) (.agg (pC zP.1.1 zP.1.2))).run Try.prog w = .ok (.bool (decide (x.2.1 = zP))) w := eqlP x.2.1 zP
        have HR : Hid (canNm x b = decide (x.2.1 = zP)) := Lib.hid (by simp [canNm, hnm, hls, his])
        clear hnm hls his his'
        generalize decide (x.2.1 = zP) = bb at *
        have hbz := build_zP
        go_wp2_with (first | (with_reducible refine Agg.wpList_loadL HB.out.name (by kernel_rfl) _ rfl rfl ?_) | (with_reducible refine Agg.wpList_loadL HIS.out (by kernel_rfl) _ rfl rfl ?_) | (with_reducible refine Agg.wpList_loadL HB.out.src (by kernel_rfl) _ rfl rfl ?_) | (with_reducible refine Agg.wpList_build0 40 rfl (by kernel_rfl) (.agg (pC zP.1.1 zP.1.2)) hbz ?_) | (with_reducible refine Agg.wpList_eqlw 40 40 _ _ rfl (by kernel_rfl) (pC x.2.1.1.1 x.2.1.1.2) (pC zP.1.1 zP.1.2) rfl rfl (bb) (by kernel_rfl) hq ?_))

        go_ret
        exact ⟨ret_bool HR.out.symm, hw2⟩
      | false =>
        have his' := HB.out.is
        rw [his] at his'
        have HIS := Lib.hid his'
        have HR0 : Hid (canNm x b = (isName x.2.1.1.2 && decide (x.2.2.1 = zH))) := Lib.hid (by simp [canNm, hnm, hls, his])
        clear hnm hls his his'
        go_wp2_with (first | (with_reducible refine Agg.wpList_loadL HB.out.name (by kernel_rfl) _ rfl rfl ?_) | (with_reducible refine Agg.wpList_loadL HIS.out (by kernel_rfl) _ rfl rfl ?_) | (with_reducible refine Agg.wpList_loadL HB.out.sname (by kernel_rfl) _ rfl rfl ?_))

        refine (name_any _ _).mono ?_
        rintro e w3 ⟨rfl, hx⟩
        have HC := Lib.hid (HB.out.below hx)
        have hw3 := Agg.belowThen hw2 (Nat.le_refl _) hx
        clear hx
        cases hsn : isName x.2.1.1.2 with
        | false =>
          have HR : Hid (canNm x b = false) := Lib.hid (by rw [HR0.out, hsn]; rfl)
          clear hsn
          go_wp2_with fail
          go_ret
          exact ⟨ret_bool HR.out.symm, hw3⟩
        | true =>
          have hq : ∀ w, (binOp .eql 38 (.agg (hC x.2.2.1.1)) (.agg (hC zH.1))).run Try.prog w = .ok (.bool (decide (x.2.2.1 = zH))) w := eqlH x.2.2.1 zH
          have HR : Hid (canNm x b = decide (x.2.2.1 = zH)) := Lib.hid (by rw [HR0.out, hsn]; rfl)
          clear hsn
          generalize decide (x.2.2.1 = zH) = bb at *
          have hbz := build_zH
          go_wp2_with (first | (with_reducible refine Agg.wpList_loadL HC.out.cls (by kernel_rfl) _ rfl rfl ?_) | (with_reducible refine Agg.wpList_build0 38 rfl (by kernel_rfl) (.agg (hC zH.1)) hbz ?_) | (with_reducible refine Agg.wpList_eqlw 38 38 _ _ rfl (by kernel_rfl) (hC x.2.2.1.1) (hC zH.1) rfl rfl (bb) (by kernel_rfl) hq ?_))

          go_ret
          exact ⟨ret_bool HR.out.symm, hw3⟩
set_option maxRecDepth 100000 in
set_option maxHeartbeats 2000000 in
theorem textCan_any (v : Value) (d : Drv) (hl : d.2.1.length ≤ 1048576) (w : World) (hd : DrvAt w v d) :
    Calls Try.prog 7 #[v] w fun e w' => e = .returned (.bool (canDrv d)) ∧ Below w.heap.size w w' := by
  obtain ⟨vi, vr, rfl, hvi, hvr⟩ := hd
  have hli := nams_len hvi
  have hlr := bytes_len hvr
  have HVI := Lib.hid hvi
  clear hvi hvr
  go_enter Try.func7, Try.ntmps7
  go_wp2_with (first | (with_reducible refine Agg.wpList_box rfl 25 _ rfl (#[.string ⟨d.1.toArray⟩, vi, vr]) rfl ?_; intro g w1 hb hx1 hg) | (with_reducible refine Agg.wpList_loadL (DrvL.of_blk hb).inp (by kernel_rfl) _ rfl rfl ?_))

  have HD := Lib.hid (DrvL.of_blk hb)
  have HVI1 := Lib.hid (HVI.out.below hx1)
  have hw1 := hx1
  clear hb hx1 hg
  go_loopw [3, 9] (fun bh i wr => ∃ k : Nat, k ≤ d.2.1.length ∧ i = .int .i64 k ∧ bh = .string ⟨(behind (d.2.1.take k)).toArray⟩ ∧ canAll [] (d.2.1.take k) = true ∧ Below w1.heap.size w1 wr) (fun _ i _ => d.2.1.length - (intOf i).toNat)
  case atStart => exact ⟨0, by omega, rfl, rfl, rfl, Below.refl _ _⟩
  case round =>
    obtain ⟨w2, rfl⟩ : ∃ w2 : World, w2 = wr := ⟨_, rfl⟩
    obtain ⟨k, hk, rfl, rfl, hcan, hx⟩ := hrel
    have HCAN := Lib.hid hcan
    clear hcan
    by_cases hlt : k < d.2.1.length
    · obtain ⟨x, hxk⟩ : ∃ x, d.2.1[k]? = some x := ⟨_, List.getElem?_eq_getElem hlt⟩
      obtain ⟨p, hadr, hld⟩ := nam_at (HVI1.out.below hx) k x hxk
      have HL := Lib.hid hld.all
      have HCS := Lib.hid (canAll_succ hxk)
      have HBS := Lib.hid (behind_succ hxk)
      have hd1 : decide (k < d.2.1.length) = true := by simpa using hlt
      clear hld hxk
      go_wp2_with (first | (with_reducible refine Agg.wpList_loadL HL.out (by kernel_rfl) _ rfl rfl ?_) | (refine Agg.wpList_new rfl rfl rfl 44 5 12 rfl rfl rfl (by decide) (nmC zN) (nmC x) nmC_zero (by rw [nmC_size, nmC_size]) (nmC_info x) (nmC_one x) rfl (by simp [Act.put]) ?_; intro g2 w3 hb2 hx3 hg2) | (with_reducible refine Agg.wpList_loadL (NamB.of_blk hb2).all (by kernel_rfl) _ rfl rfl ?_))
      have hx' := Agg.belowThen hx (Nat.le_refl _) hx3
      refine (can_any _ _ _).mono ?_
      rintro e w4 ⟨rfl, hx4⟩
      have HB := Lib.hid ((NamB.of_blk hb2).below hx4)
      have hx5 := Agg.belowThen hx' (Nat.le_refl _) hx4
      clear hb2 hx3 hg2 hx' hx4
      cases hc : canNm x (behind (d.2.1.take k)) with
      | true =>
        have HC := Lib.hid hc
        clear hc
        go_wp2_with (first | (with_reducible refine Agg.wpList_loadL HB.out.name (by kernel_rfl) _ rfl rfl ?_))

        go_roundw
        case rel => exact ⟨k + 1, by omega, by go_num, by rw [HBS.out], by rw [HCS.out, HCAN.out, HC.out]; rfl, hx5⟩
        case measure => simp [intOf]; omega
      | false =>
        have HR : Hid (canDrv d = false) := Lib.hid (by
          have := canAll_take (l := d.2.1) (k := k + 1) (by rw [HCS.out, hc, Bool.and_false])
          simp [canDrv, this])
        clear hc
        go_wp2_with fail
        go_ret
        exact ⟨ret_bool HR.out.symm, Agg.belowThen hw1 (Nat.le_refl _) hx5⟩
    · obtain rfl : k = d.2.1.length := by omega
      have hw2 := Agg.belowThen hw1 (Nat.le_refl _) hx
      have HD2 := Lib.hid (HD.out.below hx)
      have hca := HCAN.out
      rw [List.take_length] at hca
      have HR0 : Hid (canDrv d = (isName d.1 && decide (d.2.1.length ≤ 8) && decide (d.2.2.length ≤ 1000))) := Lib.hid (by simp [canDrv, hca])
      have hd1 : decide (d.2.1.length < d.2.1.length) = false := by simp
      clear hca hx
      go_wp2_with (first | (with_reducible refine Agg.wpList_loadL HD2.out.name (by kernel_rfl) _ rfl rfl ?_))

      refine (name_any _ _).mono ?_
      rintro e w3 ⟨rfl, hx⟩
      have hw3 := Agg.belowThen hw2 (Nat.le_refl _) hx
      have HD3 := Lib.hid (HD2.out.below hx)
      clear hx
      cases hnm : isName d.1 with
      | false =>
        have HR : Hid (canDrv d = false) := Lib.hid (by rw [HR0.out, hnm]; rfl)
        clear hnm
        go_wp2_with fail
        go_ret
        exact ⟨ret_bool HR.out.symm, hw3⟩
      | true =>
        by_cases h8 : d.2.1.length ≤ 8
        · have hd8 : decide ((d.2.1.length : Int) ≤ 8) = true := by simp; omega
          by_cases h9 : d.2.2.length ≤ 1000
          · have hd9 : decide ((d.2.2.length : Int) ≤ 1000) = true := by simp; omega
            have HR : Hid (canDrv d = true) := Lib.hid (by rw [HR0.out, hnm]; simp [h8, h9])
            clear hnm
            go_wp2_with (first | (with_reducible refine Agg.wpList_loadL HD3.out.inp (by kernel_rfl) _ rfl rfl ?_) | (with_reducible refine Agg.wpList_loadL HD3.out.rcp (by kernel_rfl) _ rfl rfl ?_))

            go_ret
            exact ⟨ret_bool HR.out.symm, hw3⟩
          · have hd9 : decide ((d.2.2.length : Int) ≤ 1000) = false := by simp; omega
            have HR : Hid (canDrv d = false) := Lib.hid (by rw [HR0.out]; simp [h9])
            clear hnm
            go_wp2_with (first | (with_reducible refine Agg.wpList_loadL HD3.out.inp (by kernel_rfl) _ rfl rfl ?_) | (with_reducible refine Agg.wpList_loadL HD3.out.rcp (by kernel_rfl) _ rfl rfl ?_))

            go_ret
            exact ⟨ret_bool HR.out.symm, hw3⟩
        · have hd8 : decide ((d.2.1.length : Int) ≤ 8) = false := by simp; omega
          have HR : Hid (canDrv d = false) := Lib.hid (by rw [HR0.out]; simp [h8])
          clear hnm
          go_wp2_with (first | (with_reducible refine Agg.wpList_loadL HD3.out.inp (by kernel_rfl) _ rfl rfl ?_) | (with_reducible refine Agg.wpList_loadL HD3.out.rcp (by kernel_rfl) _ rfl rfl ?_))

          go_ret
          exact ⟨ret_bool HR.out.symm, hw3⟩
end Go.Proofs.Ytnlilmiakddlaaa
