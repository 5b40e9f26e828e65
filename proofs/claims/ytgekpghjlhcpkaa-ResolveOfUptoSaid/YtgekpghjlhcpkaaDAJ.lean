/- (resolve.Input).can, resolve.Can -/
import Derived.Test.YtgekpghjlhcpkaaDAI
namespace Go.Proofs.Ytgekpghjlhcpkaa
open Go.RowKit Pl Go.Agg
set_option maxRecDepth 100000 in
set_option maxHeartbeats 2000000 in
theorem rcan_any (x : Rin) (b : List UInt8) (w : World) :
    Calls Try.prog 45 #[.agg (riC x), .string ⟨b.toArray⟩] w fun e w' => e = .returned (.bool (canRi x b)) ∧ Below w.heap.size w w' := by
  have hta := Agg.bytes_toList x.1
  have htb := Agg.bytes_toList b
  have hlq := leq_not x.1 b
  go_enter Try.func45, Try.ntmps45
  go_wp2_with (first | (with_reducible refine Agg.wpList_box rfl 49 _ rfl (riC x) rfl ?_; intro g w1 hb hx1 hg) | (with_reducible refine Agg.wpList_loadL (RinB.of_blk hb).name (by kernel_rfl) _ rfl rfl ?_))
  have hw1 := hx1
  refine (name_any _ _).mono ?_
  rintro e w2 ⟨rfl, hx⟩
  have HB := Lib.hid ((RinB.of_blk hb).below hx)
  have hw2 := Agg.belowThen hw1 (Nat.le_refl _) hx
  clear hb hx hx1 hg hw1
  cases hnm : isName x.1 with
  | false =>
    have HR : Hid (canRi x b = false) := Lib.hid (by simp [canRi, hnm])
    go_wp2_with fail
    go_ret
    exact ⟨ret_bool HR.out.symm, hw2⟩
  | true =>
    cases hls : Op.bytesLess b x.1 with
    | false =>
      have HR : Hid (canRi x b = false) := Lib.hid (by simp [canRi, hls])
      rw [hls] at hlq
      go_wp2_with (first | (with_reducible refine Agg.wpList_loadL HB.out.name (by kernel_rfl) _ rfl rfl ?_))
      go_ret
      exact ⟨ret_bool HR.out.symm, hw2⟩
    | true =>
      have HR0 : Hid (canRi x b = isName x.2.1.2) := Lib.hid (by simp [canRi, hnm, hls])
      rw [hls] at hlq
      clear hnm
      go_wp2_with (first | (with_reducible refine Agg.wpList_loadL HB.out.name (by kernel_rfl) _ rfl rfl ?_) | (with_reducible refine Agg.wpList_loadL HB.out.pname (by kernel_rfl) _ rfl rfl ?_))
      refine (name_any _ _).mono ?_
      rintro e w3 ⟨rfl, hx⟩
      have hw3 := Agg.belowThen hw2 (Nat.le_refl _) hx
      clear hx
      go_wp2_with fail
      go_ret
      exact ⟨ret_bool HR0.out.symm, hw3⟩
set_option maxRecDepth 100000 in
set_option maxHeartbeats 2000000 in
theorem rsCan_any (v : Value) (d : Rv) (hl : d.2.1.length ≤ 1048576) (w : World) (hd : RvAt w v d) :
    Calls Try.prog 19 #[v] w fun e w' => e = .returned (.bool (canRv d)) ∧ Below w.heap.size w w' := by
  obtain ⟨vi, vr, rfl, hvi, hvr⟩ := hd
  have hli := ris_len hvi
  have hlr := bytes_len hvr
  have HVI := Lib.hid hvi
  clear hvi hvr
  go_enter Try.func19, Try.ntmps19
  go_wp2_with (first | (with_reducible refine Agg.wpList_box rfl 33 _ rfl (#[.string ⟨d.1.toArray⟩, vi, vr]) rfl ?_; intro g w1 hb hx1 hg) | (with_reducible refine Agg.wpList_loadL (RvB.of_blk hb).inp (by kernel_rfl) _ rfl rfl ?_))
  have HD := Lib.hid (RvB.of_blk hb)
  have HVI1 := Lib.hid (HVI.out.below hx1)
  have hw1 := hx1
  clear hb hx1 hg
  go_loopw [3, 9] (fun bh i wr => ∃ k : Nat, k ≤ d.2.1.length ∧ i = .int .i64 k ∧ bh = .string ⟨(behindR (d.2.1.take k)).toArray⟩ ∧ canRs [] (d.2.1.take k) = true ∧ Below w1.heap.size w1 wr) (fun _ i _ => d.2.1.length - (intOf i).toNat)
  case atStart => exact ⟨0, by omega, rfl, rfl, rfl, Below.refl _ _⟩
  case round =>
    obtain ⟨w2, rfl⟩ : ∃ w2 : World, w2 = wr := ⟨_, rfl⟩
    obtain ⟨k, hk, rfl, rfl, hcan, hx⟩ := hrel
    have HCAN := Lib.hid hcan
    clear hcan
    by_cases hlt : k < d.2.1.length
    · obtain ⟨x, hxk⟩ : ∃ x, d.2.1[k]? = some x := ⟨_, List.getElem?_eq_getElem hlt⟩
      obtain ⟨p, hadr, hld, _⟩ := ri_at (HVI1.out.below hx) k x hxk
      have HL := Lib.hid hld
      have HCS := Lib.hid (canRs_succ hxk)
      have HBS := Lib.hid (behindR_succ hxk)
      have hd1 : decide (k < d.2.1.length) = true := by simpa using hlt
      clear hld hxk
      go_wp2_with (first | (with_reducible refine Agg.wpList_loadL HL.out (by kernel_rfl) _ rfl rfl ?_) | (refine Agg.wpList_new rfl rfl rfl 49 5 12 rfl rfl rfl (by decide) (riC zR) (riC x) riC_zero (by rw [riC_size, riC_size]) (riC_info x) (riC_one x) rfl (by simp [Act.put]) ?_; intro g2 w3 hb2 hx3 hg2) | (with_reducible refine Agg.wpList_loadL (RinB.of_blk hb2).all (by kernel_rfl) _ rfl rfl ?_))
      have hx' := Agg.belowThen hx (Nat.le_refl _) hx3
      refine (rcan_any _ _ _).mono ?_
      rintro e w4 ⟨rfl, hx4⟩
      have HB := Lib.hid ((RinB.of_blk hb2).below hx4)
      have hx5 := Agg.belowThen hx' (Nat.le_refl _) hx4
      clear hb2 hx3 hg2 hx' hx4
      cases hc : canRi x (behindR (d.2.1.take k)) with
      | true =>
        have HC := Lib.hid hc
        clear hc
        go_wp2_with (first | (with_reducible refine Agg.wpList_loadL HB.out.name (by kernel_rfl) _ rfl rfl ?_))
        go_roundw
        case rel => exact ⟨k + 1, by omega, by go_num, by rw [HBS.out], by rw [HCS.out, HCAN.out, HC.out]; rfl, hx5⟩
        case measure => simp [intOf]; omega
      | false =>
        have HR : Hid (canRv d = false) := Lib.hid (by
          have := canRs_take (l := d.2.1) (k := k + 1) (by rw [HCS.out, hc, Bool.and_false])
          simp [canRv, this])
        clear hc
        go_wp2_with fail
        go_ret
        exact ⟨ret_bool HR.out.symm, Agg.belowThen hw1 (Nat.le_refl _) hx5⟩
    · obtain rfl : k = d.2.1.length := by omega
      have hw2 := Agg.belowThen hw1 (Nat.le_refl _) hx
      have HD2 := Lib.hid (HD.out.below hx)
      have hca := HCAN.out
      rw [List.take_length] at hca
      have HR0 : Hid (canRv d = (isName d.1 && decide (d.2.1.length ≤ 8) && decide (d.2.2.length ≤ 1000))) := Lib.hid (by simp [canRv, hca])
      have hd1 : decide (d.2.1.length < d.2.1.length) = false := by simp
      clear hca hx
      go_wp2_with (first | (with_reducible refine Agg.wpList_loadL HD2.out.name (by kernel_rfl) _ rfl rfl ?_))
      refine (name_any _ _).mono ?_
      rintro e w3 ⟨rfl, hx⟩
      have hw3 := Agg.belowThen hw2 (Nat.le_refl _) hx
      have HD3 := Lib.hid (HD2.out.below hx)
      clear hx
      cases hnm : isName d.1 with
      | false =>
        have HR : Hid (canRv d = false) := Lib.hid (by rw [HR0.out, hnm]; rfl)
        clear hnm
        go_wp2_with fail
        go_ret
        exact ⟨ret_bool HR.out.symm, hw3⟩
      | true =>
        by_cases h8 : d.2.1.length ≤ 8
        · have hd8 : decide ((d.2.1.length : Int) ≤ 8) = true := by simp; omega
          by_cases h9 : d.2.2.length ≤ 1000
          · have hd9 : decide ((d.2.2.length : Int) ≤ 1000) = true := by simp; omega
            have HR : Hid (canRv d = true) := Lib.hid (by rw [HR0.out, hnm]; simp [h8, h9])
            clear hnm
            go_wp2_with (first | (with_reducible refine Agg.wpList_loadL HD3.out.inp (by kernel_rfl) _ rfl rfl ?_) | (with_reducible refine Agg.wpList_loadL HD3.out.rcp (by kernel_rfl) _ rfl rfl ?_))
            go_ret
            exact ⟨ret_bool HR.out.symm, hw3⟩
          · have hd9 : decide ((d.2.2.length : Int) ≤ 1000) = false := by simp; omega
            have HR : Hid (canRv d = false) := Lib.hid (by rw [HR0.out]; simp [h9])
            clear hnm
            go_wp2_with (first | (with_reducible refine Agg.wpList_loadL HD3.out.inp (by kernel_rfl) _ rfl rfl ?_) | (with_reducible refine Agg.wpList_loadL HD3.out.rcp (by kernel_rfl) _ rfl rfl ?_))
            go_ret
            exact ⟨ret_bool HR.out.symm, hw3⟩
        · have hd8 : decide ((d.2.1.length : Int) ≤ 8) = false := by simp; omega
          have HR : Hid (canRv d = false) := Lib.hid (by rw [HR0.out]; simp [h8])
          clear hnm
          go_wp2_with (first | (with_reducible refine Agg.wpList_loadL HD3.out.inp (by kernel_rfl) _ rfl rfl ?_) | (with_reducible refine Agg.wpList_loadL HD3.out.rcp (by kernel_rfl) _ rfl rfl ?_))
          go_ret
          exact ⟨ret_bool HR.out.symm, hw3⟩
end Go.Proofs.Ytgekpghjlhcpkaa
