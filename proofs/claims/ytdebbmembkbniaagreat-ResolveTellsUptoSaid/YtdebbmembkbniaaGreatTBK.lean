/- text.can, text.Can -/
import Derived.Test.YtdebbmembkbniaaGreatTAJ
namespace Go.Proofs.YtdebbmembkbniaaGreat
open Go.RowKit Pl Go.Agg
set_option maxRecDepth 100000 in
set_option maxHeartbeats 2000000 in
theorem can_any (x : Nam) (b : List UInt8) (w : World) :
  Calls Tryz.prog 118 #[.agg (nmC x), .string ⟨b.toArray⟩] w fun e w' => e = .returned (.bool (canNm x b)) ∧ Below w.heap.size w w' := by
 have hta := Agg.bytes_toList x.1
 have htb := Agg.bytes_toList b
 have hlq := leq_not x.1 b
 go_enter Tryz.func118, Tryz.ntmps118
 go_wp2_with (first | (with_reducible refine wpList_box rfl 73 _ rfl (nmC x) rfl ?_; intro g w1 hb hx1 hg) | (with_reducible refine wpList_loadL (NamB.of_blk hb).name (by kernel_rfl) _ rfl rfl ?_))

 have hw1 := hx1
 refine (name_any _ _).mono ?_
 rintro e w2 ⟨rfl, hx⟩
 have HB := Lib.hid ((NamB.of_blk hb).below hx)
 have hw2 := belowThen hw1 (Nat.le_refl _) hx
 clear hb hx hx1 hg hw1
 cases hnm : isName x.1 with
 | false =>
  have HR : Hid (canNm x b = false) := Lib.hid (by simp [canNm, hnm])
  go_wp2_with fail
  go_ret
  exact ⟨ret_bool HR.out.symm, hw2⟩
 | true =>
  cases hls : Op.bytesLess b x.1 with
  | false =>
   have HR : Hid (canNm x b = false) := Lib.hid (by simp [canNm, hls])
   rw [hls] at hlq
   go_wp2_with (first | (with_reducible refine wpList_loadL HB.out.name (by kernel_rfl) _ rfl rfl ?_))

   go_ret
   exact ⟨ret_bool HR.out.symm, hw2⟩
  | true =>
   rw [hls] at hlq
   cases his : x.2.2.2 with
   | true =>
    have his' := HB.out.is
    rw [his] at his'
    have HIS := Lib.hid his'
    have hq : ∀ w, (binOp .eql 48 (.agg (pC x.2.1.1.1 x.2.1.1.2)) (.agg (pC zP.1.1 zP.1.2))).run Tryz.prog w = .ok (.bool (decide (x.2.1 = zP))) w := eqlP x.2.1 zP
    have HR : Hid (canNm x b = decide (x.2.1 = zP)) := Lib.hid (by simp [canNm, hnm, hls, his])
    clear hnm hls his his'
    generalize decide (x.2.1 = zP) = bb at *
    have hbz := build_zP
    go_wp2_with (first | (with_reducible refine wpList_loadL HB.out.name (by kernel_rfl) _ rfl rfl ?_) | (with_reducible refine wpList_loadL HIS.out (by kernel_rfl) _ rfl rfl ?_) | (with_reducible refine wpList_loadL HB.out.src (by kernel_rfl) _ rfl rfl ?_) | (with_reducible refine wpList_build0 48 rfl (by kernel_rfl) (.agg (pC zP.1.1 zP.1.2)) hbz ?_) | (with_reducible refine Agg.wpList_eqlw 48 48 _ _ rfl (by kernel_rfl) (pC x.2.1.1.1 x.2.1.1.2) (pC zP.1.1 zP.1.2) rfl rfl (bb) (by kernel_rfl) hq ?_))

    go_ret
    exact ⟨ret_bool HR.out.symm, hw2⟩
   | false =>
    have his' := HB.out.is
    rw [his] at his'
    have HIS := Lib.hid his'
    have HR0 : Hid (canNm x b = (isName x.2.1.1.2 && decide (x.2.2.1 = zH))) := Lib.hid (by simp [canNm, hnm, hls, his])
    clear hnm hls his his'
    go_wp2_with (first | (with_reducible refine wpList_loadL HB.out.name (by kernel_rfl) _ rfl rfl ?_) | (with_reducible refine wpList_loadL HIS.out (by kernel_rfl) _ rfl rfl ?_) | (with_reducible refine wpList_loadL HB.out.sname (by kernel_rfl) _ rfl rfl ?_))

    refine (name_any _ _).mono ?_
    rintro e w3 ⟨rfl, hx⟩
    have HC := Lib.hid (HB.out.below hx)
    have hw3 := belowThen hw2 (Nat.le_refl _) hx
    clear hx
    cases hsn : isName x.2.1.1.2 with
    | false =>
     have HR : Hid (canNm x b = false) := Lib.hid (by rw [HR0.out, hsn]; rfl)
     clear hsn
     go_wp2_with fail
     go_ret
     exact ⟨ret_bool HR.out.symm, hw3⟩
    | true =>
     have hq : ∀ w, (binOp .eql 43 (.agg (hC x.2.2.1.1)) (.agg (hC zH.1))).run Tryz.prog w = .ok (.bool (decide (x.2.2.1 = zH))) w := eqlH x.2.2.1 zH
     have HR : Hid (canNm x b = decide (x.2.2.1 = zH)) := Lib.hid (by rw [HR0.out, hsn]; rfl)
     clear hsn
     generalize decide (x.2.2.1 = zH) = bb at *
     have hbz := build_zH
     go_wp2_with (first | (with_reducible refine wpList_loadL HC.out.cls (by kernel_rfl) _ rfl rfl ?_) | (with_reducible refine wpList_build0 43 rfl (by kernel_rfl) (.agg (hC zH.1)) hbz ?_) | (with_reducible refine Agg.wpList_eqlw 43 43 _ _ rfl (by kernel_rfl) (hC x.2.2.1.1) (hC zH.1) rfl rfl (bb) (by kernel_rfl) hq ?_))

     go_ret
     exact ⟨ret_bool HR.out.symm, hw3⟩
set_option maxRecDepth 100000 in
set_option maxHeartbeats 2000000 in
theorem textCan_any (v : Value) (d : Drv) (hl : d.2.1.length ≤ 1048576) (w : World) (hd : DrvAt w v d) :
  Calls Tryz.prog 69 #[v] w fun e w' => e = .returned (.bool (canDrv d)) ∧ Below w.heap.size w w' := by
 obtain ⟨vi, vr, rfl, hvi, hvr⟩ := hd
 have hli := nams_len hvi
 have hlr := bytes_len hvr
 have HVI := Lib.hid hvi
 clear hvi hvr
 go_enter Tryz.func69, Tryz.ntmps69
 go_wp2_with (first | (with_reducible refine wpList_box rfl 66 _ rfl (#[.string ⟨d.1.toArray⟩, vi, vr]) rfl ?_; intro g w1 hb hx1 hg) | (with_reducible refine wpList_loadL (DrvL.of_blk hb).inp (by kernel_rfl) _ rfl rfl ?_))

 have HD := Lib.hid (DrvL.of_blk hb)
 have HVI1 := Lib.hid (HVI.out.below hx1)
 have hw1 := hx1
 clear hb hx1 hg
 go_loopw [3, 9] (fun bh i wr => ∃ k : Nat, k ≤ d.2.1.length ∧ i = .int .i64 k ∧ bh = .string ⟨(behind (d.2.1.take k)).toArray⟩ ∧ canAll [] (d.2.1.take k) = true ∧ Below w1.heap.size w1 wr) (fun _ i _ => d.2.1.length - (intOf i).toNat)
 case atStart => exact ⟨0, by omega, rfl, rfl, rfl, Below.refl _ _⟩
 case round =>
  obtain ⟨w2, rfl⟩ : ∃ w2 : World, w2 = wr := ⟨_, rfl⟩
  obtain ⟨k, hk, rfl, rfl, hcan, hx⟩ := hrel
  have HCAN := Lib.hid hcan
  clear hcan
  by_cases hlt : k < d.2.1.length
  ·obtain ⟨x, hxk⟩ : ∃ x, d.2.1[k]? = some x := ⟨_, List.getElem?_eq_getElem hlt⟩
   obtain ⟨p, hadr, hld⟩ := nam_at (HVI1.out.below hx) k x hxk
   have HL := Lib.hid hld.all
   have HCS := Lib.hid (canAll_succ hxk)
   have HBS := Lib.hid (behind_succ hxk)
   have hd1 : decide (k < d.2.1.length) = true := by simpa using hlt
   clear hld hxk
   go_wp2_with (first | (with_reducible refine wpList_loadL HL.out (by kernel_rfl) _ rfl rfl ?_) | (refine wpList_new rfl rfl rfl 73 5 12 rfl rfl rfl (by decide) (nmC zN) (nmC x) nmC_zero (by rw [nmC_size, nmC_size]) (nmC_info x) (nmC_one x) rfl (by simp [Act.put]) ?_; intro g2 w3 hb2 hx3 hg2) | (with_reducible refine wpList_loadL (NamB.of_blk hb2).all (by kernel_rfl) _ rfl rfl ?_))
   have hx' := belowThen hx (Nat.le_refl _) hx3
   refine (can_any _ _ _).mono ?_
   rintro e w4 ⟨rfl, hx4⟩
   have HB := Lib.hid ((NamB.of_blk hb2).below hx4)
   have hx5 := belowThen hx' (Nat.le_refl _) hx4
   clear hb2 hx3 hg2 hx' hx4
   cases hc : canNm x (behind (d.2.1.take k)) with
   | true =>
    have HC := Lib.hid hc
    clear hc
    go_wp2_with (first | (with_reducible refine wpList_loadL HB.out.name (by kernel_rfl) _ rfl rfl ?_))

    go_roundw
    case rel => exact ⟨k + 1, by omega, by go_num, by rw [HBS.out], by rw [HCS.out, HCAN.out, HC.out]; rfl, hx5⟩
    case measure => simp [intOf]; omega
   | false =>
    have HR : Hid (canDrv d = false) := Lib.hid (by
     have := canAll_take (l := d.2.1) (k := k + 1) (by rw [HCS.out, hc, Bool.and_false])
     simp [canDrv, this])
    clear hc
    go_wp2_with fail
    go_ret
    exact ⟨ret_bool HR.out.symm, belowThen hw1 (Nat.le_refl _) hx5⟩
  ·obtain rfl : k = d.2.1.length := by omega
   have hw2 := belowThen hw1 (Nat.le_refl _) hx
   have HD2 := Lib.hid (HD.out.below hx)
   have hca := HCAN.out
   rw [List.take_length] at hca
   have HR0 : Hid (canDrv d = (isName d.1 && decide (d.2.1.length ≤ 8) && decide (d.2.2.length ≤ 1000))) := Lib.hid (by simp [canDrv, hca])
   have hd1 : decide (d.2.1.length < d.2.1.length) = false := by simp
   clear hca hx
   go_wp2_with (first | (with_reducible refine wpList_loadL HD2.out.name (by kernel_rfl) _ rfl rfl ?_))

   refine (name_any _ _).mono ?_
   rintro e w3 ⟨rfl, hx⟩
   have hw3 := belowThen hw2 (Nat.le_refl _) hx
   have HD3 := Lib.hid (HD2.out.below hx)
   clear hx
   cases hnm : isName d.1 with
   | false =>
    have HR : Hid (canDrv d = false) := Lib.hid (by rw [HR0.out, hnm]; rfl)
    clear hnm
    go_wp2_with fail
    go_ret
    exact ⟨ret_bool HR.out.symm, hw3⟩
   | true =>
    by_cases h8 : d.2.1.length ≤ 8
    ·have hd8 : decide ((d.2.1.length : Int) ≤ 8) = true := by simp; omega
     by_cases h9 : d.2.2.length ≤ 1000
     ·have hd9 : decide ((d.2.2.length : Int) ≤ 1000) = true := by simp; omega
      have HR : Hid (canDrv d = true) := Lib.hid (by rw [HR0.out, hnm]; simp [h8, h9])
      clear hnm
      go_wp2_with (first | (with_reducible refine wpList_loadL HD3.out.inp (by kernel_rfl) _ rfl rfl ?_) | (with_reducible refine wpList_loadL HD3.out.rcp (by kernel_rfl) _ rfl rfl ?_))

      go_ret
      exact ⟨ret_bool HR.out.symm, hw3⟩
     ·have hd9 : decide ((d.2.2.length : Int) ≤ 1000) = false := by simp; omega
      have HR : Hid (canDrv d = false) := Lib.hid (by rw [HR0.out]; simp [h9])
      clear hnm
      go_wp2_with (first | (with_reducible refine wpList_loadL HD3.out.inp (by kernel_rfl) _ rfl rfl ?_) | (with_reducible refine wpList_loadL HD3.out.rcp (by kernel_rfl) _ rfl rfl ?_))

      go_ret
      exact ⟨ret_bool HR.out.symm, hw3⟩
    ·have hd8 : decide ((d.2.1.length : Int) ≤ 8) = false := by simp; omega
     have HR : Hid (canDrv d = false) := Lib.hid (by rw [HR0.out]; simp [h8])
     clear hnm
     go_wp2_with (first | (with_reducible refine wpList_loadL HD3.out.inp (by kernel_rfl) _ rfl rfl ?_) | (with_reducible refine wpList_loadL HD3.out.rcp (by kernel_rfl) _ rfl rfl ?_))

     go_ret
     exact ⟨ret_bool HR.out.symm, hw3⟩
end Go.Proofs.YtdebbmembkbniaaGreat
