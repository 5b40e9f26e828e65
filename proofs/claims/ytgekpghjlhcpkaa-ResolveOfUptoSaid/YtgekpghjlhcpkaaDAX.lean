/- A resolved derivation in a block. (Several texts in one.) -/
import Derived.Test.YtgekpghjlhcpkaaDAI
import Derived.Test.YtgekpghjlhcpkaaDAP
import Derived.Test.YtgekpghjlhcpkaaDAM
import Derived.Test.YtgekpghjlhcpkaaDAR
/-! text.can, text.Can -/
namespace Go.Proofs.Ytgekpghjlhcpkaa
open Go.RowKit Pl Go.Agg
set_option maxRecDepth 100000 in
set_option maxHeartbeats 2000000 in
theorem can_any (x : Nam) (b : List UInt8) (w : World) :
    Calls Try.prog 43 #[.agg (nmC x), .string ⟨b.toArray⟩] w fun e w' => e = .returned (.bool (canNm x b)) ∧ Below w.heap.size w w' := by
  have hta := Agg.bytes_toList x.1
  have htb := Agg.bytes_toList b
  have hlq := leq_not x.1 b
  go_enter Try.func43, Try.ntmps43
  go_wp2_with (first | (with_reducible refine Agg.wpList_box rfl 58 _ rfl (nmC x) rfl ?_; intro g w1 hb hx1 hg) | (with_reducible refine Agg.wpList_loadL (NamB.of_blk hb).name (by kernel_rfl) _ rfl rfl ?_))

  have hw1 := hx1
  refine (name_any _ _).mono ?_
  rintro e w2 ⟨rfl, hx⟩
  have HB := Lib.hid ((NamB.of_blk hb).below hx)
  have hw2 := Agg.belowThen hw1 (Nat.le_refl _) hx
  clear hb hx hx1 hg hw1
  cases hnm : isName x.1 with
  | false =>
    have HR : Hid (canNm x b = false) := Lib.hid (by simp [canNm, hnm])
    go_wp2_with fail
    go_ret
    exact ⟨ret_bool HR.out.symm, hw2⟩
  | true =>
    cases hls : Op.bytesLess b x.1 with
    | false =>
      have HR : Hid (canNm x b = false) := Lib.hid (by simp [canNm, hls])
      rw [hls] at hlq
      go_wp2_with (first | (with_reducible refine Agg.wpList_loadL HB.out.name (by kernel_rfl) _ rfl rfl ?_))

      go_ret
      exact ⟨ret_bool HR.out.symm, hw2⟩
    | true =>
      rw [hls] at hlq
      cases his : x.2.2.2 with
      | true =>
        have his' := HB.out.is
        rw [his] at his'
        have HIS := Lib.hid his'
        have hq : ∀ w, (binOp .eql 47 (.agg (pC x.2.1.1.1 x.2.1.1.2)) (.agg (pC zP.1.1 zP.1.2))).run Try.prog w = .ok (.bool (decide (x.2.1 = zP))) w := eqlP x.2.1 zP
        have HR : Hid (canNm x b = decide (x.2.1 = zP)) := Lib.hid (by simp [canNm, hnm, hls, his])
        clear hnm hls his his'
        generalize decide (x.2.1 = zP) = bb at *
        have hbz := build_zP
        go_wp2_with (first | (with_reducible refine Agg.wpList_loadL HB.out.name (by kernel_rfl) _ rfl rfl ?_) | (with_reducible refine Agg.wpList_loadL HIS.out (by kernel_rfl) _ rfl rfl ?_) | (with_reducible refine Agg.wpList_loadL HB.out.src (by kernel_rfl) _ rfl rfl ?_) | (with_reducible refine Agg.wpList_build0 47 rfl (by kernel_rfl) (.agg (pC zP.1.1 zP.1.2)) hbz ?_) | (with_reducible refine Agg.wpList_eqlw 47 47 _ _ rfl (by kernel_rfl) (pC x.2.1.1.1 x.2.1.1.2) (pC zP.1.1 zP.1.2) rfl rfl (bb) (by kernel_rfl) hq ?_))

        go_ret
        exact ⟨ret_bool HR.out.symm, hw2⟩
      | false =>
        have his' := HB.out.is
        rw [his] at his'
        have HIS := Lib.hid his'
        have HR0 : Hid (canNm x b = (isName x.2.1.1.2 && decide (x.2.2.1 = zH))) := Lib.hid (by simp [canNm, hnm, hls, his])
        clear hnm hls his his'
        go_wp2_with (first | (with_reducible refine Agg.wpList_loadL HB.out.name (by kernel_rfl) _ rfl rfl ?_) | (with_reducible refine Agg.wpList_loadL HIS.out (by kernel_rfl) _ rfl rfl ?_) | (with_reducible refine Agg.wpList_loadL HB.out.sname (by kernel_rfl) _ rfl rfl ?_))

        refine (name_any _ _).mono ?_
        rintro e w3 ⟨rfl, hx⟩
        have HC := Lib.hid (HB.out.below hx)
        have hw3 := Agg.belowThen hw2 (Nat.le_refl _) hx
        clear hx
        cases hsn : isName x.2.1.1.2 with
        | false =>
          have HR : Hid (canNm x b = false) := Lib.hid (by rw [HR0.out, hsn]; rfl)
          clear hsn
          go_wp2_with fail
          go_ret
          exact ⟨ret_bool HR.out.symm, hw3⟩
        | true =>
          have hq : ∀ w, (binOp .eql 45 (.agg (hC x.2.2.1.1)) (.agg (hC zH.1))).run Try.prog w = .ok (.bool (decide (x.2.2.1 = zH))) w := eqlH x.2.2.1 zH
          have HR : Hid (canNm x b = decide (x.2.2.1 = zH)) := Lib.hid (by rw [HR0.out, hsn]; rfl)
          clear hsn
          generalize decide (x.2.2.1 = zH) = bb at *
          have hbz := build_zH
          go_wp2_with (first | (with_reducible refine Agg.wpList_loadL HC.out.cls (by kernel_rfl) _ rfl rfl ?_) | (with_reducible refine Agg.wpList_build0 45 rfl (by kernel_rfl) (.agg (hC zH.1)) hbz ?_) | (with_reducible refine Agg.wpList_eqlw 45 45 _ _ rfl (by kernel_rfl) (hC x.2.2.1.1) (hC zH.1) rfl rfl (bb) (by kernel_rfl) hq ?_))

          go_ret
          exact ⟨ret_bool HR.out.symm, hw3⟩
set_option maxRecDepth 100000 in
set_option maxHeartbeats 2000000 in
theorem textCan_any (v : Value) (d : Drv) (hl : d.2.1.length ≤ 1048576) (w : World) (hd : DrvAt w v d) :
    Calls Try.prog 17 #[v] w fun e w' => e = .returned (.bool (canDrv d)) ∧ Below w.heap.size w w' := by
  obtain ⟨vi, vr, rfl, hvi, hvr⟩ := hd
  have hli := nams_len hvi
  have hlr := bytes_len hvr
  have HVI := Lib.hid hvi
  clear hvi hvr
  go_enter Try.func17, Try.ntmps17
  go_wp2_with (first | (with_reducible refine Agg.wpList_box rfl 25 _ rfl (#[.string ⟨d.1.toArray⟩, vi, vr]) rfl ?_; intro g w1 hb hx1 hg) | (with_reducible refine Agg.wpList_loadL (DrvL.of_blk hb).inp (by kernel_rfl) _ rfl rfl ?_))

  have HD := Lib.hid (DrvL.of_blk hb)
  have HVI1 := Lib.hid (HVI.out.below hx1)
  have hw1 := hx1
  clear hb hx1 hg
  go_loopw [3, 9] (fun bh i wr => ∃ k : Nat, k ≤ d.2.1.length ∧ i = .int .i64 k ∧ bh = .string ⟨(behind (d.2.1.take k)).toArray⟩ ∧ canAll [] (d.2.1.take k) = true ∧ Below w1.heap.size w1 wr) (fun _ i _ => d.2.1.length - (intOf i).toNat)
  case atStart => exact ⟨0, by omega, rfl, rfl, rfl, Below.refl _ _⟩
  case round =>
    obtain ⟨w2, rfl⟩ : ∃ w2 : World, w2 = wr := ⟨_, rfl⟩
    obtain ⟨k, hk, rfl, rfl, hcan, hx⟩ := hrel
    have HCAN := Lib.hid hcan
    clear hcan
    by_cases hlt : k < d.2.1.length
    · obtain ⟨x, hxk⟩ : ∃ x, d.2.1[k]? = some x := ⟨_, List.getElem?_eq_getElem hlt⟩
      obtain ⟨p, hadr, hld⟩ := nam_at (HVI1.out.below hx) k x hxk
      have HL := Lib.hid hld.all
      have HCS := Lib.hid (canAll_succ hxk)
      have HBS := Lib.hid (behind_succ hxk)
      have hd1 : decide (k < d.2.1.length) = true := by simpa using hlt
      clear hld hxk
      go_wp2_with (first | (with_reducible refine Agg.wpList_loadL HL.out (by kernel_rfl) _ rfl rfl ?_) | (refine Agg.wpList_new rfl rfl rfl 58 5 12 rfl rfl rfl (by decide) (nmC zN) (nmC x) nmC_zero (by rw [nmC_size, nmC_size]) (nmC_info x) (nmC_one x) rfl (by simp [Act.put]) ?_; intro g2 w3 hb2 hx3 hg2) | (with_reducible refine Agg.wpList_loadL (NamB.of_blk hb2).all (by kernel_rfl) _ rfl rfl ?_))
      have hx' := Agg.belowThen hx (Nat.le_refl _) hx3
      refine (can_any _ _ _).mono ?_
      rintro e w4 ⟨rfl, hx4⟩
      have HB := Lib.hid ((NamB.of_blk hb2).below hx4)
      have hx5 := Agg.belowThen hx' (Nat.le_refl _) hx4
      clear hb2 hx3 hg2 hx' hx4
      cases hc : canNm x (behind (d.2.1.take k)) with
      | true =>
        have HC := Lib.hid hc
        clear hc
        go_wp2_with (first | (with_reducible refine Agg.wpList_loadL HB.out.name (by kernel_rfl) _ rfl rfl ?_))

        go_roundw
        case rel => exact ⟨k + 1, by omega, by go_num, by rw [HBS.out], by rw [HCS.out, HCAN.out, HC.out]; rfl, hx5⟩
        case measure => simp [intOf]; omega
      | false =>
        have HR : Hid (canDrv d = false) := Lib.hid (by
          have := canAll_take (l := d.2.1) (k := k + 1) (by rw [HCS.out, hc, Bool.and_false])
          simp [canDrv, this])
        clear hc
        go_wp2_with fail
        go_ret
        exact ⟨ret_bool HR.out.symm, Agg.belowThen hw1 (Nat.le_refl _) hx5⟩
    · obtain rfl : k = d.2.1.length := by omega
      have hw2 := Agg.belowThen hw1 (Nat.le_refl _) hx
      have HD2 := Lib.hid (HD.out.below hx)
      have hca := HCAN.out
      rw [List.take_length] at hca
      have HR0 : Hid (canDrv d = (isName d.1 && decide (d.2.1.length ≤ 8) && decide (d.2.2.length ≤ 1000))) := Lib.hid (by simp [canDrv, hca])
      have hd1 : decide (d.2.1.length < d.2.1.length) = false := by simp
      clear hca hx
      go_wp2_with (first | (with_reducible refine Agg.wpList_loadL HD2.out.name (by kernel_rfl) _ rfl rfl ?_))

      refine (name_any _ _).mono ?_
      rintro e w3 ⟨rfl, hx⟩
      have hw3 := Agg.belowThen hw2 (Nat.le_refl _) hx
      have HD3 := Lib.hid (HD2.out.below hx)
      clear hx
      cases hnm : isName d.1 with
      | false =>
        have HR : Hid (canDrv d = false) := Lib.hid (by rw [HR0.out, hnm]; rfl)
        clear hnm
        go_wp2_with fail
        go_ret
        exact ⟨ret_bool HR.out.symm, hw3⟩
      | true =>
        by_cases h8 : d.2.1.length ≤ 8
        · have hd8 : decide ((d.2.1.length : Int) ≤ 8) = true := by simp; omega
          by_cases h9 : d.2.2.length ≤ 1000
          · have hd9 : decide ((d.2.2.length : Int) ≤ 1000) = true := by simp; omega
            have HR : Hid (canDrv d = true) := Lib.hid (by rw [HR0.out, hnm]; simp [h8, h9])
            clear hnm
            go_wp2_with (first | (with_reducible refine Agg.wpList_loadL HD3.out.inp (by kernel_rfl) _ rfl rfl ?_) | (with_reducible refine Agg.wpList_loadL HD3.out.rcp (by kernel_rfl) _ rfl rfl ?_))

            go_ret
            exact ⟨ret_bool HR.out.symm, hw3⟩
          · have hd9 : decide ((d.2.2.length : Int) ≤ 1000) = false := by simp; omega
            have HR : Hid (canDrv d = false) := Lib.hid (by rw [HR0.out]; simp [h9])
            clear hnm
            go_wp2_with (first | (with_reducible refine Agg.wpList_loadL HD3.out.inp (by kernel_rfl) _ rfl rfl ?_) | (with_reducible refine Agg.wpList_loadL HD3.out.rcp (by kernel_rfl) _ rfl rfl ?_))

            go_ret
            exact ⟨ret_bool HR.out.symm, hw3⟩
        · have hd8 : decide ((d.2.1.length : Int) ≤ 8) = false := by simp; omega
          have HR : Hid (canDrv d = false) := Lib.hid (by rw [HR0.out]; simp [h8])
          clear hnm
          go_wp2_with (first | (with_reducible refine Agg.wpList_loadL HD3.out.inp (by kernel_rfl) _ rfl rfl ?_) | (with_reducible refine Agg.wpList_loadL HD3.out.rcp (by kernel_rfl) _ rfl rfl ?_))

          go_ret
          exact ⟨ret_bool HR.out.symm, hw3⟩
end Go.Proofs.Ytgekpghjlhcpkaa
/-! A resolved derivation in a block. -/
namespace Go.Agg
open Go.RowKit
theorem Blk.onlyQ {w w' : World} {S : Nat → Prop} {g : Nat} {t : TypeId} {cs : Array Value} (h : Blk w g t cs) (ho : Only S w w') (hS : ¬ S g) : Blk w' g t cs := (ho.block g h.lt hS).trans h
theorem Blk.pushedB {P : Program} {α : Type} {E : Elem P α} {base g : Nat} {w w' : World} {v : Value} {t : TypeId} {cs : Array Value} (h : Blk w g t cs) (hp : Pushed E base w w' v) (hne : t ≠ E.ty) : Blk w' g t cs := hp.blk g _ _ _ hne h
theorem Own.onlyB {P : Program} {α : Type} {E : Elem P α} {base g : Nat} {w w' : World} {v : Value} {l : List α} {t : TypeId} {cs : Array Value} (h : Own E base w v l) (ho : Only (· = g) w w') (hb : Blk w g t cs) (hne : t ≠ E.ty) : Own E base w' v l := by
  refine h.keepT fun k cur fr hk => (ho.block k (heap_lt hk) ?_).trans hk
  rintro rfl
  rw [show w.heap[k]? = _ from hb] at hk
  injection hk with hk
  injection hk with _ ht
  exact hne ht
end Go.Agg
namespace Go.Proofs.Ytgekpghjlhcpkaa
open Go.RowKit Pl Go.Agg
def rsC (n : List UInt8) (vi vr : Value) : Array Value := #[.string ⟨n.toArray⟩, vi, vr]
theorem rsC_one {w1 w2 : World} {vi vr : Value} {l : List Rin} {b : List UInt8} (n : List UInt8) (h1 : SliceOf ERi w1 vi l) (h2 : SliceOf EB w2 vr b) : (rsC n vi vr).all (·.oneCell') = true := by
  obtain ⟨p, c, rfl⟩ := h1.form
  obtain ⟨q, e, rfl⟩ := h2.form
  simp [rsC, Value.oneCell']
theorem rsC_z : (rsC [] (.slice none 0 0) (.slice none 0 0)).all (·.oneCell') = true := by simp [rsC, Value.oneCell']
theorem rsC_ss (n m : List UInt8) (a b c d : Value) : (rsC n a b).size = (rsC m c d).size := rfl
theorem rsC_lt (n : List UInt8) (a b : Value) (i : Nat) (h : i < 3) : i < (rsC n a b).size := h
theorem rsC_info (n : List UInt8) (a b : Value) : (Try.prog.info? 33).map (·.size) = some (rsC n a b).size := by kernel_rfl
theorem rsC_zero : (Try.prog.info? 33).map (·.zero) = some (some (.agg (rsC [] (.slice none 0 0) (.slice none 0 0)))) := by kernel_rfl
end Go.Proofs.Ytgekpghjlhcpkaa
