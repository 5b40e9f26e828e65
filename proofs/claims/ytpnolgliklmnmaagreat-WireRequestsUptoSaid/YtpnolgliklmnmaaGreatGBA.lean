/- Slices of paths: what they hold. (Several texts in one.) -/
import Derived.Test.YtpnolgliklmnmaaGreatGAL
import Derived.Test.YtpnolgliklmnmaaGreatGAT
import Derived.Test.YtpnolgliklmnmaaGreatGAH
import Derived.Test.YtpnolgliklmnmaaGreatGAM
import Derived.Test.YtpnolgliklmnmaaGreatReqP1
import Derived.Test.YtpnolgliklmnmaaGreatReqP2
import Derived.Test.YtpnolgliklmnmaaGreatGAW
import Derived.Test.YtpnolgliklmnmaaGreatGAX
import Derived.Test.YtpnolgliklmnmaaGreatGAK
import Derived.Test.YtpnolgliklmnmaaGreatElem
/-! wire.Put of any request. -/
namespace Go.Proofs.YtpnolgliklmnmaaGreat
open Go.RowKit Pl Go.Agg
set_option maxRecDepth 100000 in
set_option maxHeartbeats 4000000 in
theorem rput_36 (k u wh : Nat) (nm : List UInt8) (vb : Value) (bs ph pn ch : List UInt8) (hP : partsN k = 36) (hl : ph.length = 20) (hc : ch.length = 20) (hk : k ≤ 10) (hu : u ≤ 8) (hwh : wh ≤ 16) (hnm : nm.length ≤ 24) (hbs : bs.length ≤ 4096)
    (hr : rightN k u wh nm bs.length ph pn ch = true) (w : World) (hb : BytesAt w vb bs) :
    Calls Tryz.prog 9 #[.agg (rqG k u wh nm vb ph pn ch)] w fun e w' => ∃ v', e = .returned (.tuple #[v', .int .i64 0]) ∧ Own EB w.heap.size w' v' (putRq ⟨k, u, wh, nm, bs, ph, pn, ch⟩) ∧ Below w.heap.size w w' := by
  have HBLD := Lib.hid (fun W => (by kernel_rfl : (Instr.build 71 #[]).run Tryz.prog W = .ok (.agg (mkC (.slice none 0 0))) W))
  have HP := Lib.hid (fun W => (show Calls Tryz.prog 37 #[.int .i64 k] W fun e w' => e = .returned (.int .u8 36) ∧ w' = W by have := parts_any k W; rwa [hP] at this))
  have HPE := Lib.hid hP
  have HRT := Lib.hid (fun W (h : BytesAt W vb bs) => (show Calls Tryz.prog 13 #[.agg (rqG k u wh nm vb ph pn ch)] W fun e w' => e = .returned (.bool true) ∧ Below W.heap.size W w' by have := right_any k u wh nm vb bs ph pn ch hl hc W h; rwa [hr] at this))
  have HBY := Lib.hid hb
  have hek := encN_len (n := k) (by omega)
  have heu := encN_len (n := u) (by omega)
  have hew := encN_len (n := wh) (by omega)
  have HEN := Lib.hid (encN_len (n := nm.length) (by omega))
  have HEB := Lib.hid (encN_len (n := bs.length) (by omega))
  have hpl := pathS_le (n := pn) ph
  have HEP := Lib.hid (encN_len (n := (pathS ph pn).length) (by omega))
  clear hP hr hb
  go_enter Tryz.func9, Tryz.ntmps9
  go_wp2_with (first | (with_reducible refine Agg.wpList_box rfl 29 _ rfl (rqG k u wh nm vb ph pn ch) rfl ?_; intro g w1 hb1 hx1 hg; have HL := Lib.hid (RqG.of_blk hb1 hl hc); have HB := Lib.hid hb1; have HW := Lib.hid hx1; clear hb1 hx1 hg) | (with_reducible refine Agg.wpList_loadL HL.out.all rfl _ rfl rfl ?_))
  refine (HRT.out _ (HBY.out.below HW.out)).mono ?_
  rintro e w2 ⟨rfl, hx2⟩
  have HL := Lib.hid (HL.out.below hx2)
  have HB := Lib.hid (HB.out.below hx2)
  have HW := Lib.hid (Agg.belowThen HW.out (Nat.le_refl _) hx2)
  clear hx2
  go_wp2_with (first | (with_reducible refine Agg.wpList_loadL HL.out.kind rfl _ rfl rfl ?_))
  refine (HP.out _).mono ?_
  rintro e w3 ⟨rfl, rfl⟩
  have hsz := HW.out.size
  have HBY := Lib.hid (HBY.out.below HW.out)
  go_wp2_with (first | (with_reducible refine Agg.wpList_build0 71 rfl rfl (.agg (mkC (.slice none 0 0))) HBLD.out ?_) | (with_reducible refine Agg.wpList_box rfl 71 _ rfl (mkC (.slice none 0 0)) rfl ?_; intro g4 w4 hb4 hx4 hg4; have hlt4 := hb4.lt; have HB4 := Lib.hid hb4; have HX4 := Lib.hid hx4; have HL4 := Lib.hid (HL.out.below hx4); clear hb4 hx4) | (with_reducible refine Agg.wpList_loadL HL4.out.kind rfl _ rfl rfl ?_) | (with_reducible refine Agg.wpList_loadL HL4.out.user rfl _ rfl rfl ?_) | (refine Agg.wpList_slice2O (E := EI) rfl _ _ rfl k u rfl rfl ?_; intro xs w5 hxs hown5 hx5; have HXS := Lib.hid hxs; have HX5 := Lib.hid hx5; have HOW := Lib.hid hown5; clear hxs hx5 hown5))
  have hm5 : MkV g4 w5 (.slice none 0 0) [] := ⟨HB4.out.below HX5.out, Own.nil _ _ _⟩
  have hno : ∀ k, (Value.slice none 0 0).ownBlock ≠ some k := fun k h => by simp [Value.ownBlock] at h
  refine (num_any g4 _ xs [k, u] [] w5 (by intro n hn; simp only [List.mem_cons, List.not_mem_nil, or_false] at hn; rcases hn with rfl | rfl <;> omega) (by simp) (by simp) (Off.behind (w0 := w4) HXS.out HOW.out hlt4 (fun k hk => absurd hk (hno k))) hm5).mono ?_
  rintro e w6 ⟨rfl, v6, hm6, hs6⟩
  have h6 := hm5.stepBelow hs6
  have h36 : Below w3.heap.size w3 w6 := (Agg.belowThen HX4.out (Nat.le_refl _) HX5.out).trans (h6.mono hg4)
  have HM := Lib.hid (show MkV g4 w6 v6 (encN k ++ encN u) by simpa using hm6)
  have HK := Lib.hid h36
  clear hm5 hm6 hs6 h6 h36 hno
  have hv : ∀ k, v6.ownBlock = some k → w3.heap.size ≤ k := fun k hk => by have := HM.out.ge k hk; omega
  have HV := Lib.hid hv
  clear hv
  go_wp2_with fail
  refine (hasB (P := 36) (c := 1) (b := false) (by omega) (by omega) (by decide) _).mono ?_
  rintro e u8 ⟨rfl, rfl⟩
  go_wp2_with fail
  refine (hasB (P := 36) (c := 2) (b := false) (by omega) (by omega) (by decide) _).mono ?_
  rintro e u9 ⟨rfl, rfl⟩
  go_wp2_with fail
  refine (hasB (P := 36) (c := 12) (b := true) (by omega) (by omega) (by decide) _).mono ?_
  rintro e u10 ⟨rfl, rfl⟩
  have HLW := Lib.hid (HL.out.below HK.out)
  go_wp2_with (first | (with_reducible refine Agg.wpList_loadL HLW.out.path rfl _ rfl rfl ?_))
  refine (shown_any ph pn hl _).mono ?_
  rintro e w11 ⟨x11, y11, rfl, hy, hn, hx⟩
  have HN := Lib.hid hn
  have HX := Lib.hid hx
  have HY := Lib.hid hy
  obtain ⟨sv, hsv⟩ := newBytes_sv hn
  have HSV := Lib.hid hsv
  clear hn hx hsv hy
  go_wp2_with (first | (refine Agg.wpList_slice1 (E := EBB) (base := w11.heap.size) rfl _ rfl sv HSV.out (Nat.le_refl _) ?_; intro xs12 w12 hxs hx; have HXS := Lib.hid hxs; have HX2 := Lib.hid hx; clear hxs hx))
  have hx := Agg.belowThen HX.out (Nat.le_refl _) HX2.out
  have HM0 := Lib.hid (HM.out.below hx)
  refine (text_any g4 v6 xs12 sv (pathS ph pn) _ w12 (by simp only [List.length_append]; omega) (by omega) (Off.behind (w0 := u10) HXS.out.slice (fun k hk => Nat.le_trans HX.out.size (HXS.out.block k hk).1) HM.out.blk.lt HM.out.lt) (Off.behind (w0 := u10) (by rw [← HSV.out]; exact HN.out.slice.below HX2.out) (by rw [← HSV.out]; exact fun k hk => Nat.le_trans HY.out.size (newBytes_own HN.out k hk)) HM.out.blk.lt HM.out.lt) HM0.out).mono ?_
  rintro e w13 ⟨rfl, v13, hm, hs⟩
  have HK := Lib.hid (Agg.belowThen HK.out (Nat.le_refl _) hx)
  clear HLW HXS HX HX2 hx HN HSV HY
  have HK := Lib.hid (HK.out.trans ((HM0.out.stepBelow hs).mono hg4))
  have HM := Lib.hid (show MkV g4 w13 v13 ((encN k ++ encN u) ++ (encN (pathS ph pn).length ++ pathS ph pn)) from hm)
  have HV := Lib.hid (show ∀ k, v13.ownBlock = some k → w3.heap.size ≤ k from fun k hk => by have := HM.out.ge k hk; omega)
  clear hm hs HM0
  have hep := HEP.out
  go_wp2_with fail
  refine (hasB (P := 36) (c := 16) (b := false) (by omega) (by omega) (by decide) _).mono ?_
  rintro e u14 ⟨rfl, rfl⟩
  go_wp2_with fail
  refine (hasB (P := 36) (c := 32) (b := true) (by omega) (by omega) (by decide) _).mono ?_
  rintro e u15 ⟨rfl, rfl⟩
  have HLW := Lib.hid (HL.out.below HK.out)
  obtain ⟨sv, hsv⟩ := bytes_sv HBY.out
  have HSV := Lib.hid hsv
  clear hsv
  go_wp2_with (first | (with_reducible refine Agg.wpList_loadL HLW.out.bytes rfl _ rfl rfl ?_) | (refine Agg.wpList_slice1 (E := EBB) (base := u15.heap.size) rfl _ rfl sv HSV.out (Nat.le_refl _) ?_; intro xs17 w17 hxs hx; have HXS := Lib.hid hxs; have HX := Lib.hid hx; clear hxs hx))
  have HM0 := Lib.hid (HM.out.below HX.out)
  refine (text_any g4 v13 xs17 sv bs _ w17 (by simp only [List.length_append]; omega) (by omega) (Off.behind (w0 := u15) HXS.out.slice (fun k hk => (HXS.out.block k hk).1) HM.out.blk.lt HM.out.lt) (Off.before (w0 := w3) (by rw [← HSV.out]; exact HBY.out) (Agg.belowThen HK.out (Nat.le_refl _) HX.out) hg4 HV.out) HM0.out).mono ?_
  rintro e w18 ⟨rfl, v18, hm, hs⟩
  have HK := Lib.hid (Agg.belowThen HK.out (Nat.le_refl _) HX.out)
  clear HLW HXS HX HSV
  have HK := Lib.hid (HK.out.trans ((HM0.out.stepBelow hs).mono hg4))
  have HM := Lib.hid (show MkV g4 w18 v18 (((encN k ++ encN u) ++ (encN (pathS ph pn).length ++ pathS ph pn)) ++ (encN bs.length ++ bs)) from hm)
  have HV := Lib.hid (show ∀ k, v18.ownBlock = some k → w3.heap.size ≤ k from fun k hk => by have := HM.out.ge k hk; omega)
  clear hm hs HM0
  have heb := HEB.out
  have HE := Lib.hid (show (((encN k ++ encN u) ++ (encN (pathS ph pn).length ++ pathS ph pn)) ++ (encN bs.length ++ bs)) = putRq ⟨k, u, wh, nm, bs, ph, pn, ch⟩ by
    unfold putRq
    simp only [HPE.out]
    unfold putP
    simp only [show hasN 36 1 = false from by decide, show hasN 36 2 = false from by decide, show hasN 36 12 = true from by decide, show hasN 36 16 = false from by decide, show hasN 36 32 = true from by decide, encT, if_true, Bool.false_eq_true, if_false, Int.toNat_natCast, List.append_assoc, List.nil_append])
  have HKK := Lib.hid (Agg.belowThen HW.out (Nat.le_refl _) HK.out)
  have hszw := HKK.out.size
  go_wp2_with fail
  refine (done_any g4 v18 _ _ (by simp only [List.length_append]; omega) HM.out).mono ?_
  rintro e w7 ⟨v7, rfl, ho7, hx7⟩
  rw [HE.out] at ho7
  have HO7 := Lib.hid (ho7.lower hszw)
  have HW7 := Lib.hid (Agg.belowThen HKK.out (Nat.le_refl _) hx7)
  clear ho7 hx7
  go_wp2_with fail
  go_ret2
  exact ⟨_, rfl, HO7.out, HW7.out⟩
set_option maxRecDepth 100000 in
set_option maxHeartbeats 4000000 in
theorem rput_8 (k u wh : Nat) (nm : List UInt8) (vb : Value) (bs ph pn ch : List UInt8) (hP : partsN k = 8) (hl : ph.length = 20) (hc : ch.length = 20) (hk : k ≤ 10) (hu : u ≤ 8) (hwh : wh ≤ 16) (hnm : nm.length ≤ 24) (hbs : bs.length ≤ 4096)
    (hr : rightN k u wh nm bs.length ph pn ch = true) (w : World) (hb : BytesAt w vb bs) :
    Calls Tryz.prog 9 #[.agg (rqG k u wh nm vb ph pn ch)] w fun e w' => ∃ v', e = .returned (.tuple #[v', .int .i64 0]) ∧ Own EB w.heap.size w' v' (putRq ⟨k, u, wh, nm, bs, ph, pn, ch⟩) ∧ Below w.heap.size w w' := by
  have HBLD := Lib.hid (fun W => (by kernel_rfl : (Instr.build 71 #[]).run Tryz.prog W = .ok (.agg (mkC (.slice none 0 0))) W))
  have HP := Lib.hid (fun W => (show Calls Tryz.prog 37 #[.int .i64 k] W fun e w' => e = .returned (.int .u8 8) ∧ w' = W by have := parts_any k W; rwa [hP] at this))
  have HPE := Lib.hid hP
  have HRT := Lib.hid (fun W (h : BytesAt W vb bs) => (show Calls Tryz.prog 13 #[.agg (rqG k u wh nm vb ph pn ch)] W fun e w' => e = .returned (.bool true) ∧ Below W.heap.size W w' by have := right_any k u wh nm vb bs ph pn ch hl hc W h; rwa [hr] at this))
  have HBY := Lib.hid hb
  have hek := encN_len (n := k) (by omega)
  have heu := encN_len (n := u) (by omega)
  have hew := encN_len (n := wh) (by omega)
  have HEN := Lib.hid (encN_len (n := nm.length) (by omega))
  have HEB := Lib.hid (encN_len (n := bs.length) (by omega))
  have hpl := pathS_le (n := pn) ph
  have HEP := Lib.hid (encN_len (n := (pathS ph pn).length) (by omega))
  clear hP hr hb
  go_enter Tryz.func9, Tryz.ntmps9
  go_wp2_with (first | (with_reducible refine Agg.wpList_box rfl 29 _ rfl (rqG k u wh nm vb ph pn ch) rfl ?_; intro g w1 hb1 hx1 hg; have HL := Lib.hid (RqG.of_blk hb1 hl hc); have HB := Lib.hid hb1; have HW := Lib.hid hx1; clear hb1 hx1 hg) | (with_reducible refine Agg.wpList_loadL HL.out.all rfl _ rfl rfl ?_))
  refine (HRT.out _ (HBY.out.below HW.out)).mono ?_
  rintro e w2 ⟨rfl, hx2⟩
  have HL := Lib.hid (HL.out.below hx2)
  have HB := Lib.hid (HB.out.below hx2)
  have HW := Lib.hid (Agg.belowThen HW.out (Nat.le_refl _) hx2)
  clear hx2
  go_wp2_with (first | (with_reducible refine Agg.wpList_loadL HL.out.kind rfl _ rfl rfl ?_))
  refine (HP.out _).mono ?_
  rintro e w3 ⟨rfl, rfl⟩
  have hsz := HW.out.size
  have HBY := Lib.hid (HBY.out.below HW.out)
  go_wp2_with (first | (with_reducible refine Agg.wpList_build0 71 rfl rfl (.agg (mkC (.slice none 0 0))) HBLD.out ?_) | (with_reducible refine Agg.wpList_box rfl 71 _ rfl (mkC (.slice none 0 0)) rfl ?_; intro g4 w4 hb4 hx4 hg4; have hlt4 := hb4.lt; have HB4 := Lib.hid hb4; have HX4 := Lib.hid hx4; have HL4 := Lib.hid (HL.out.below hx4); clear hb4 hx4) | (with_reducible refine Agg.wpList_loadL HL4.out.kind rfl _ rfl rfl ?_) | (with_reducible refine Agg.wpList_loadL HL4.out.user rfl _ rfl rfl ?_) | (refine Agg.wpList_slice2O (E := EI) rfl _ _ rfl k u rfl rfl ?_; intro xs w5 hxs hown5 hx5; have HXS := Lib.hid hxs; have HX5 := Lib.hid hx5; have HOW := Lib.hid hown5; clear hxs hx5 hown5))
  have hm5 : MkV g4 w5 (.slice none 0 0) [] := ⟨HB4.out.below HX5.out, Own.nil _ _ _⟩
  have hno : ∀ k, (Value.slice none 0 0).ownBlock ≠ some k := fun k h => by simp [Value.ownBlock] at h
  refine (num_any g4 _ xs [k, u] [] w5 (by intro n hn; simp only [List.mem_cons, List.not_mem_nil, or_false] at hn; rcases hn with rfl | rfl <;> omega) (by simp) (by simp) (Off.behind (w0 := w4) HXS.out HOW.out hlt4 (fun k hk => absurd hk (hno k))) hm5).mono ?_
  rintro e w6 ⟨rfl, v6, hm6, hs6⟩
  have h6 := hm5.stepBelow hs6
  have h36 : Below w3.heap.size w3 w6 := (Agg.belowThen HX4.out (Nat.le_refl _) HX5.out).trans (h6.mono hg4)
  have HM := Lib.hid (show MkV g4 w6 v6 (encN k ++ encN u) by simpa using hm6)
  have HK := Lib.hid h36
  clear hm5 hm6 hs6 h6 h36 hno
  have hv : ∀ k, v6.ownBlock = some k → w3.heap.size ≤ k := fun k hk => by have := HM.out.ge k hk; omega
  have HV := Lib.hid hv
  clear hv
  go_wp2_with fail
  refine (hasB (P := 8) (c := 1) (b := false) (by omega) (by omega) (by decide) _).mono ?_
  rintro e u8 ⟨rfl, rfl⟩
  go_wp2_with fail
  refine (hasB (P := 8) (c := 2) (b := false) (by omega) (by omega) (by decide) _).mono ?_
  rintro e u9 ⟨rfl, rfl⟩
  go_wp2_with fail
  refine (hasB (P := 8) (c := 12) (b := true) (by omega) (by omega) (by decide) _).mono ?_
  rintro e u10 ⟨rfl, rfl⟩
  have HLW := Lib.hid (HL.out.below HK.out)
  go_wp2_with (first | (with_reducible refine Agg.wpList_loadL HLW.out.path rfl _ rfl rfl ?_))
  refine (shown_any ph pn hl _).mono ?_
  rintro e w11 ⟨x11, y11, rfl, hy, hn, hx⟩
  have HN := Lib.hid hn
  have HX := Lib.hid hx
  have HY := Lib.hid hy
  obtain ⟨sv, hsv⟩ := newBytes_sv hn
  have HSV := Lib.hid hsv
  clear hn hx hsv hy
  go_wp2_with (first | (refine Agg.wpList_slice1 (E := EBB) (base := w11.heap.size) rfl _ rfl sv HSV.out (Nat.le_refl _) ?_; intro xs12 w12 hxs hx; have HXS := Lib.hid hxs; have HX2 := Lib.hid hx; clear hxs hx))
  have hx := Agg.belowThen HX.out (Nat.le_refl _) HX2.out
  have HM0 := Lib.hid (HM.out.below hx)
  refine (text_any g4 v6 xs12 sv (pathS ph pn) _ w12 (by simp only [List.length_append]; omega) (by omega) (Off.behind (w0 := u10) HXS.out.slice (fun k hk => Nat.le_trans HX.out.size (HXS.out.block k hk).1) HM.out.blk.lt HM.out.lt) (Off.behind (w0 := u10) (by rw [← HSV.out]; exact HN.out.slice.below HX2.out) (by rw [← HSV.out]; exact fun k hk => Nat.le_trans HY.out.size (newBytes_own HN.out k hk)) HM.out.blk.lt HM.out.lt) HM0.out).mono ?_
  rintro e w13 ⟨rfl, v13, hm, hs⟩
  have HK := Lib.hid (Agg.belowThen HK.out (Nat.le_refl _) hx)
  clear HLW HXS HX HX2 hx HN HSV HY
  have HK := Lib.hid (HK.out.trans ((HM0.out.stepBelow hs).mono hg4))
  have HM := Lib.hid (show MkV g4 w13 v13 ((encN k ++ encN u) ++ (encN (pathS ph pn).length ++ pathS ph pn)) from hm)
  have HV := Lib.hid (show ∀ k, v13.ownBlock = some k → w3.heap.size ≤ k from fun k hk => by have := HM.out.ge k hk; omega)
  clear hm hs HM0
  have hep := HEP.out
  go_wp2_with fail
  refine (hasB (P := 8) (c := 16) (b := false) (by omega) (by omega) (by decide) _).mono ?_
  rintro e u14 ⟨rfl, rfl⟩
  go_wp2_with fail
  refine (hasB (P := 8) (c := 32) (b := false) (by omega) (by omega) (by decide) _).mono ?_
  rintro e u15 ⟨rfl, rfl⟩
  have HE := Lib.hid (show ((encN k ++ encN u) ++ (encN (pathS ph pn).length ++ pathS ph pn)) = putRq ⟨k, u, wh, nm, bs, ph, pn, ch⟩ by
    unfold putRq
    simp only [HPE.out]
    unfold putP
    simp only [show hasN 8 1 = false from by decide, show hasN 8 2 = false from by decide, show hasN 8 12 = true from by decide, show hasN 8 16 = false from by decide, show hasN 8 32 = false from by decide, encT, if_true, Bool.false_eq_true, if_false, Int.toNat_natCast, List.append_assoc, List.nil_append, List.append_nil])
  have HKK := Lib.hid (Agg.belowThen HW.out (Nat.le_refl _) HK.out)
  have hszw := HKK.out.size
  go_wp2_with fail
  refine (done_any g4 v13 _ _ (by simp only [List.length_append]; omega) HM.out).mono ?_
  rintro e w7 ⟨v7, rfl, ho7, hx7⟩
  rw [HE.out] at ho7
  have HO7 := Lib.hid (ho7.lower hszw)
  have HW7 := Lib.hid (Agg.belowThen HKK.out (Nat.le_refl _) hx7)
  clear ho7 hx7
  go_wp2_with fail
  go_ret2
  exact ⟨_, rfl, HO7.out, HW7.out⟩
set_option maxRecDepth 100000 in
set_option maxHeartbeats 4000000 in
theorem rput_0 (k u wh : Nat) (nm : List UInt8) (vb : Value) (bs ph pn ch : List UInt8) (hP : partsN k = 0) (hl : ph.length = 20) (hc : ch.length = 20) (hk : k ≤ 10) (hu : u ≤ 8) (hwh : wh ≤ 16) (hnm : nm.length ≤ 24) (hbs : bs.length ≤ 4096)
    (hr : rightN k u wh nm bs.length ph pn ch = true) (w : World) (hb : BytesAt w vb bs) :
    Calls Tryz.prog 9 #[.agg (rqG k u wh nm vb ph pn ch)] w fun e w' => ∃ v', e = .returned (.tuple #[v', .int .i64 0]) ∧ Own EB w.heap.size w' v' (putRq ⟨k, u, wh, nm, bs, ph, pn, ch⟩) ∧ Below w.heap.size w w' := by
  have HBLD := Lib.hid (fun W => (by kernel_rfl : (Instr.build 71 #[]).run Tryz.prog W = .ok (.agg (mkC (.slice none 0 0))) W))
  have HP := Lib.hid (fun W => (show Calls Tryz.prog 37 #[.int .i64 k] W fun e w' => e = .returned (.int .u8 0) ∧ w' = W by have := parts_any k W; rwa [hP] at this))
  have HPE := Lib.hid hP
  have HRT := Lib.hid (fun W (h : BytesAt W vb bs) => (show Calls Tryz.prog 13 #[.agg (rqG k u wh nm vb ph pn ch)] W fun e w' => e = .returned (.bool true) ∧ Below W.heap.size W w' by have := right_any k u wh nm vb bs ph pn ch hl hc W h; rwa [hr] at this))
  have HBY := Lib.hid hb
  have hek := encN_len (n := k) (by omega)
  have heu := encN_len (n := u) (by omega)
  have hew := encN_len (n := wh) (by omega)
  have HEN := Lib.hid (encN_len (n := nm.length) (by omega))
  have HEB := Lib.hid (encN_len (n := bs.length) (by omega))
  have hpl := pathS_le (n := pn) ph
  have HEP := Lib.hid (encN_len (n := (pathS ph pn).length) (by omega))
  clear hP hr hb
  go_enter Tryz.func9, Tryz.ntmps9
  go_wp2_with (first | (with_reducible refine Agg.wpList_box rfl 29 _ rfl (rqG k u wh nm vb ph pn ch) rfl ?_; intro g w1 hb1 hx1 hg; have HL := Lib.hid (RqG.of_blk hb1 hl hc); have HB := Lib.hid hb1; have HW := Lib.hid hx1; clear hb1 hx1 hg) | (with_reducible refine Agg.wpList_loadL HL.out.all rfl _ rfl rfl ?_))
  refine (HRT.out _ (HBY.out.below HW.out)).mono ?_
  rintro e w2 ⟨rfl, hx2⟩
  have HL := Lib.hid (HL.out.below hx2)
  have HB := Lib.hid (HB.out.below hx2)
  have HW := Lib.hid (Agg.belowThen HW.out (Nat.le_refl _) hx2)
  clear hx2
  go_wp2_with (first | (with_reducible refine Agg.wpList_loadL HL.out.kind rfl _ rfl rfl ?_))
  refine (HP.out _).mono ?_
  rintro e w3 ⟨rfl, rfl⟩
  have hsz := HW.out.size
  have HBY := Lib.hid (HBY.out.below HW.out)
  go_wp2_with (first | (with_reducible refine Agg.wpList_build0 71 rfl rfl (.agg (mkC (.slice none 0 0))) HBLD.out ?_) | (with_reducible refine Agg.wpList_box rfl 71 _ rfl (mkC (.slice none 0 0)) rfl ?_; intro g4 w4 hb4 hx4 hg4; have hlt4 := hb4.lt; have HB4 := Lib.hid hb4; have HX4 := Lib.hid hx4; have HL4 := Lib.hid (HL.out.below hx4); clear hb4 hx4) | (with_reducible refine Agg.wpList_loadL HL4.out.kind rfl _ rfl rfl ?_) | (with_reducible refine Agg.wpList_loadL HL4.out.user rfl _ rfl rfl ?_) | (refine Agg.wpList_slice2O (E := EI) rfl _ _ rfl k u rfl rfl ?_; intro xs w5 hxs hown5 hx5; have HXS := Lib.hid hxs; have HX5 := Lib.hid hx5; have HOW := Lib.hid hown5; clear hxs hx5 hown5))
  have hm5 : MkV g4 w5 (.slice none 0 0) [] := ⟨HB4.out.below HX5.out, Own.nil _ _ _⟩
  have hno : ∀ k, (Value.slice none 0 0).ownBlock ≠ some k := fun k h => by simp [Value.ownBlock] at h
  refine (num_any g4 _ xs [k, u] [] w5 (by intro n hn; simp only [List.mem_cons, List.not_mem_nil, or_false] at hn; rcases hn with rfl | rfl <;> omega) (by simp) (by simp) (Off.behind (w0 := w4) HXS.out HOW.out hlt4 (fun k hk => absurd hk (hno k))) hm5).mono ?_
  rintro e w6 ⟨rfl, v6, hm6, hs6⟩
  have h6 := hm5.stepBelow hs6
  have h36 : Below w3.heap.size w3 w6 := (Agg.belowThen HX4.out (Nat.le_refl _) HX5.out).trans (h6.mono hg4)
  have HM := Lib.hid (show MkV g4 w6 v6 (encN k ++ encN u) by simpa using hm6)
  have HK := Lib.hid h36
  clear hm5 hm6 hs6 h6 h36 hno
  have hv : ∀ k, v6.ownBlock = some k → w3.heap.size ≤ k := fun k hk => by have := HM.out.ge k hk; omega
  have HV := Lib.hid hv
  clear hv
  go_wp2_with fail
  refine (hasB (P := 0) (c := 1) (b := false) (by omega) (by omega) (by decide) _).mono ?_
  rintro e u8 ⟨rfl, rfl⟩
  go_wp2_with fail
  refine (hasB (P := 0) (c := 2) (b := false) (by omega) (by omega) (by decide) _).mono ?_
  rintro e u9 ⟨rfl, rfl⟩
  go_wp2_with fail
  refine (hasB (P := 0) (c := 12) (b := false) (by omega) (by omega) (by decide) _).mono ?_
  rintro e u10 ⟨rfl, rfl⟩
  go_wp2_with fail
  refine (hasB (P := 0) (c := 16) (b := false) (by omega) (by omega) (by decide) _).mono ?_
  rintro e u11 ⟨rfl, rfl⟩
  go_wp2_with fail
  refine (hasB (P := 0) (c := 32) (b := false) (by omega) (by omega) (by decide) _).mono ?_
  rintro e u12 ⟨rfl, rfl⟩
  have HE := Lib.hid (show (encN k ++ encN u) = putRq ⟨k, u, wh, nm, bs, ph, pn, ch⟩ by
    unfold putRq
    simp only [HPE.out]
    unfold putP
    simp only [show hasN 0 1 = false from by decide, show hasN 0 2 = false from by decide, show hasN 0 12 = false from by decide, show hasN 0 16 = false from by decide, show hasN 0 32 = false from by decide, Bool.false_eq_true, if_false, Int.toNat_natCast, List.append_nil])
  have HKK := Lib.hid (Agg.belowThen HW.out (Nat.le_refl _) HK.out)
  have hszw := HKK.out.size
  go_wp2_with fail
  refine (done_any g4 v6 _ _ (by simp only [List.length_append]; omega) HM.out).mono ?_
  rintro e w7 ⟨v7, rfl, ho7, hx7⟩
  rw [HE.out] at ho7
  have HO7 := Lib.hid (ho7.lower hszw)
  have HW7 := Lib.hid (Agg.belowThen HKK.out (Nat.le_refl _) hx7)
  clear ho7 hx7
  go_wp2_with fail
  go_ret2
  exact ⟨_, rfl, HO7.out, HW7.out⟩
end Go.Proofs.YtpnolgliklmnmaaGreat
/-! wire.Put of any request. -/
namespace Go.Proofs.YtpnolgliklmnmaaGreat
open Go.RowKit Pl Go.Agg
set_option maxRecDepth 100000 in
set_option maxHeartbeats 4000000 in
theorem rput_bad (k u wh : Int) (nm : List UInt8) (vb : Value) (bs ph pn ch : List UInt8) (hl : ph.length = 20) (hc : ch.length = 20) (hr : rightN k u wh nm bs.length ph pn ch = false) (w : World) (hb : BytesAt w vb bs) :
    Calls Tryz.prog 9 #[.agg (rqG k u wh nm vb ph pn ch)] w fun e w' => e = .returned (.tuple #[.slice none 0 0, .int .i64 2]) ∧ Below w.heap.size w w' := by
  have HRT := Lib.hid (fun W (h : BytesAt W vb bs) => (show Calls Tryz.prog 13 #[.agg (rqG k u wh nm vb ph pn ch)] W fun e w' => e = .returned (.bool false) ∧ Below W.heap.size W w' by have := right_any k u wh nm vb bs ph pn ch hl hc W h; rwa [hr] at this))
  have HBY := Lib.hid hb
  clear hr hb
  go_enter Tryz.func9, Tryz.ntmps9
  go_wp2_with (first | (with_reducible refine Agg.wpList_box rfl 29 _ rfl (rqG k u wh nm vb ph pn ch) rfl ?_; intro g w1 hb1 hx1 hg; have HL := Lib.hid (RqG.of_blk hb1 hl hc); have HW := Lib.hid hx1; clear hb1 hx1 hg) | (with_reducible refine Agg.wpList_loadL HL.out.all rfl _ rfl rfl ?_))
  refine (HRT.out _ (HBY.out.below HW.out)).mono ?_
  rintro e w2 ⟨rfl, hx2⟩
  have HW := Lib.hid (Agg.belowThen HW.out (Nat.le_refl _) hx2)
  clear hx2
  go_wp2_with fail
  go_ret2
  exact ⟨rfl, HW.out⟩
/-- what Put tells -/
def rqBytes (q : Rq) : List UInt8 := if q.right then putRq q else []
def rqCode (q : Rq) : Nat := if q.right then 0 else 2
theorem right_bounds {k u wh : Int} {nm bs ph pn ch : List UInt8} (hr : rightN k u wh nm bs.length ph pn ch = true) : (1 ≤ k ∧ k ≤ 10) ∧ (1 ≤ u ∧ u ≤ 8) ∧ (0 ≤ wh ∧ wh ≤ 16) ∧ nm.length ≤ 24 ∧ bs.length ≤ 4096 := by
  have R := Rq.right_parts (q := ⟨k, u, wh, nm, bs, ph, pn, ch⟩) hr
  refine ⟨R.k, R.u, ?_, ?_, Nat.le_trans R.bs (most_le _)⟩
  · cases h : hasN (partsN k) 1 with
    | true => have := R.wh1 h; simp only at this; omega
    | false => have := R.wh0 h; simp only at this; omega
  · cases h : hasN (partsN k) 2 with
    | true => exact isName_le (R.nm1 h)
    | false => have := R.nm0 h; simp only at this; simp [this]
theorem rput_any (k u wh : Int) (nm : List UInt8) (vb : Value) (bs ph pn ch : List UInt8) (hl : ph.length = 20) (hc : ch.length = 20) (w : World) (hb : BytesAt w vb bs) :
    Calls Tryz.prog 9 #[.agg (rqG k u wh nm vb ph pn ch)] w fun e w' => ∃ v', e = .returned (.tuple #[v', .int .i64 (rqCode ⟨k, u, wh, nm, bs, ph, pn, ch⟩ : Int)]) ∧ Own EB w.heap.size w' v' (rqBytes ⟨k, u, wh, nm, bs, ph, pn, ch⟩) ∧ Below w.heap.size w w' := by
  have hq : Rq.right ⟨k, u, wh, nm, bs, ph, pn, ch⟩ = rightN k u wh nm bs.length ph pn ch := rfl
  unfold rqCode rqBytes
  rw [hq]
  cases hr : rightN k u wh nm bs.length ph pn ch with
  | false =>
    refine (rput_bad k u wh nm vb bs ph pn ch hl hc hr w hb).mono ?_
    rintro e w' ⟨rfl, hx⟩
    exact ⟨_, rfl, Own.nil _ _ _, hx⟩
  | true =>
    obtain ⟨h1, h2, h3, h4, h5⟩ := right_bounds hr
    obtain ⟨k, rfl⟩ : ∃ n : Nat, k = n := ⟨k.toNat, by omega⟩
    obtain ⟨u, rfl⟩ : ∃ n : Nat, u = n := ⟨u.toNat, by omega⟩
    obtain ⟨wh, rfl⟩ : ∃ n : Nat, wh = n := ⟨wh.toNat, by omega⟩
    simp only [if_true]
    rcases parts_cases (k : Int) with h | h | h | h | h | h | h | h | h
    · exact rput_34 k u wh nm vb bs ph pn ch h hl hc (by omega) (by omega) (by omega) h4 h5 hr w hb
    · exact rput_32 k u wh nm vb bs ph pn ch h hl hc (by omega) (by omega) (by omega) h4 h5 hr w hb
    · exact rput_16 k u wh nm vb bs ph pn ch h hl hc (by omega) (by omega) (by omega) h4 h5 hr w hb
    · exact rput_1 k u wh nm vb bs ph pn ch h hl hc (by omega) (by omega) (by omega) h4 h5 hr w hb
    · exact rput_6 k u wh nm vb bs ph pn ch h hl hc (by omega) (by omega) (by omega) h4 h5 hr w hb
    · exact rput_2 k u wh nm vb bs ph pn ch h hl hc (by omega) (by omega) (by omega) h4 h5 hr w hb
    · exact rput_36 k u wh nm vb bs ph pn ch h hl hc (by omega) (by omega) (by omega) h4 h5 hr w hb
    · exact rput_8 k u wh nm vb bs ph pn ch h hl hc (by omega) (by omega) (by omega) h4 h5 hr w hb
    · exact rput_0 k u wh nm vb bs ph pn ch h hl hc (by omega) (by omega) (by omega) h4 h5 hr w hb
end Go.Proofs.YtpnolgliklmnmaaGreat
/-! spenceref28.Put of any request. -/
namespace Go.Proofs.YtpnolgliklmnmaaGreat
open Go.RowKit Pl Go.Agg
set_option maxRecDepth 100000 in
set_option maxHeartbeats 4000000 in
theorem refPut_bad (k u wh : Int) (nm : List UInt8) (vb : Value) (bs ph pn ch : List UInt8) (hl : ph.length = 20) (hc : ch.length = 20) (hnm : nm.length ≤ 1048576) (hpn : pn.length ≤ 1048576) (hr : rightN k u wh nm bs.length ph pn ch = false) (w : World) (hb : BytesAt w vb bs) :
    Calls Tryz.prog 10 #[.agg (rqG k u wh nm vb ph pn ch)] w fun e w' => e = .returned (.tuple #[.slice none 0 0, .int .i64 2]) ∧ Below w.heap.size w w' := by
  have HRT := Lib.hid (fun W (h : BytesAt W vb bs) => (show Calls Tryz.prog 14 #[.agg (rqG k u wh nm vb ph pn ch)] W fun e w' => e = .returned (.bool false) ∧ Below W.heap.size W w' by have := refRight_any k u wh nm vb bs ph pn ch hl hc hnm hpn W h; rwa [hr] at this))
  have HBY := Lib.hid hb
  clear hr hb
  go_enter Tryz.func10, Tryz.ntmps10
  go_wp2_with (first | (with_reducible refine Agg.wpList_box rfl 29 _ rfl (rqG k u wh nm vb ph pn ch) rfl ?_; intro g w1 hb1 hx1 hg; have HL := Lib.hid (RqG.of_blk hb1 hl hc); have HB := Lib.hid hb1; have HW := Lib.hid hx1; clear hb1 hx1 hg) | (with_reducible refine Agg.wpList_loadL HL.out.all rfl _ rfl rfl ?_))
  refine (HRT.out _ (HBY.out.below HW.out)).mono ?_
  rintro e w2 ⟨rfl, hx2⟩
  have HW := Lib.hid (Agg.belowThen HW.out (Nat.le_refl _) hx2)
  clear hx2
  go_wp2_with fail
  go_ret2
  exact ⟨rfl, HW.out⟩
theorem refPut_any (k u wh : Int) (nm : List UInt8) (vb : Value) (bs ph pn ch : List UInt8) (hl : ph.length = 20) (hc : ch.length = 20) (hnm : nm.length ≤ 1048576) (hpn : pn.length ≤ 1048576) (w : World) (hb : BytesAt w vb bs) :
    Calls Tryz.prog 10 #[.agg (rqG k u wh nm vb ph pn ch)] w fun e w' => ∃ v', e = .returned (.tuple #[v', .int .i64 (rqCode ⟨k, u, wh, nm, bs, ph, pn, ch⟩ : Int)]) ∧ Own EB w.heap.size w' v' (rqBytes ⟨k, u, wh, nm, bs, ph, pn, ch⟩) ∧ Below w.heap.size w w' := by
  have hq : Rq.right ⟨k, u, wh, nm, bs, ph, pn, ch⟩ = rightN k u wh nm bs.length ph pn ch := rfl
  unfold rqCode rqBytes
  rw [hq]
  cases hr : rightN k u wh nm bs.length ph pn ch with
  | false =>
    refine (refPut_bad k u wh nm vb bs ph pn ch hl hc hnm hpn hr w hb).mono ?_
    rintro e w' ⟨rfl, hx⟩
    exact ⟨_, rfl, Own.nil _ _ _, hx⟩
  | true =>
    obtain ⟨h1, h2, h3, h4, h5⟩ := right_bounds hr
    obtain ⟨k, rfl⟩ : ∃ n : Nat, k = n := ⟨k.toNat, by omega⟩
    obtain ⟨u, rfl⟩ : ∃ n : Nat, u = n := ⟨u.toNat, by omega⟩
    obtain ⟨wh, rfl⟩ : ∃ n : Nat, wh = n := ⟨wh.toNat, by omega⟩
    simp only [if_true]
    rcases parts_cases (k : Int) with h | h | h | h | h | h | h | h | h
    · exact refPut_34 k u wh nm vb bs ph pn ch h hl hc (by omega) (by omega) (by omega) h4 hpn h5 hr w hb
    · exact refPut_32 k u wh nm vb bs ph pn ch h hl hc (by omega) (by omega) (by omega) h4 hpn h5 hr w hb
    · exact refPut_16 k u wh nm vb bs ph pn ch h hl hc (by omega) (by omega) (by omega) h4 hpn h5 hr w hb
    · exact refPut_1 k u wh nm vb bs ph pn ch h hl hc (by omega) (by omega) (by omega) h4 hpn h5 hr w hb
    · exact refPut_6 k u wh nm vb bs ph pn ch h hl hc (by omega) (by omega) (by omega) h4 hpn h5 hr w hb
    · exact refPut_2 k u wh nm vb bs ph pn ch h hl hc (by omega) (by omega) (by omega) h4 hpn h5 hr w hb
    · exact refPut_36 k u wh nm vb bs ph pn ch h hl hc (by omega) (by omega) (by omega) h4 hpn h5 hr w hb
    · exact refPut_8 k u wh nm vb bs ph pn ch h hl hc (by omega) (by omega) (by omega) h4 hpn h5 hr w hb
    · exact refPut_0 k u wh nm vb bs ph pn ch h hl hc (by omega) (by omega) (by omega) h4 hpn h5 hr w hb
end Go.Proofs.YtpnolgliklmnmaaGreat
/-! A request's fields written. -/
namespace Go.Proofs.YtpnolgliklmnmaaGreat
open Go.RowKit Pl Go.Agg
variable {k u wh : Int} {nm : List UInt8} {vb : Value} {ph pn ch : List UInt8} {w : World} {b : Nat}
theorem rqG_set (j : Nat) (hj : j < 5) (x : Value) : (rqG k u wh nm vb ph pn ch).setIfInBounds j x = (rqH k u wh nm vb).setIfInBounds j x ++ (pC ph pn ++ hC ch) := by
  unfold rqG
  rw [Array.setIfInBounds_append_left (by simpa [rqH] using hj)]
theorem rqB_lt (j : Nat) (hj : j < 5) : j < (rqG k u wh nm vb ph pn ch).size := by simp [rqG, rqH]; omega
theorem rqB_kind (h : Blk w b 29 (rqG k u wh nm vb ph pn ch)) (x : Int) : ∃ w', (Instr.storeAt 22 (.pointer (some ⟨b, 0, none⟩)) (.int .i64 x)).run Tryz.prog w = .ok () w' ∧ Blk w' b 29 (rqG x u wh nm vb ph pn ch) ∧ Only (· = b) w w' :=
  h.run_one 0 (rqB_lt 0 (by omega)) _ rfl rfl (by kernel_rfl) _ (by rw [rqG_set 0 (by omega)]; rfl)
theorem rqB_user (h : Blk w b 29 (rqG k u wh nm vb ph pn ch)) (x : Int) : ∃ w', (Instr.storeAt 3 (.pointer (some ⟨b, 1, none⟩)) (.int .i64 x)).run Tryz.prog w = .ok () w' ∧ Blk w' b 29 (rqG k x wh nm vb ph pn ch) ∧ Only (· = b) w w' :=
  h.run_one 1 (rqB_lt 1 (by omega)) _ rfl rfl (by kernel_rfl) _ (by rw [rqG_set 1 (by omega)]; rfl)
theorem rqB_who (h : Blk w b 29 (rqG k u wh nm vb ph pn ch)) (x : Int) : ∃ w', (Instr.storeAt 3 (.pointer (some ⟨b, 2, none⟩)) (.int .i64 x)).run Tryz.prog w = .ok () w' ∧ Blk w' b 29 (rqG k u x nm vb ph pn ch) ∧ Only (· = b) w w' :=
  h.run_one 2 (rqB_lt 2 (by omega)) _ rfl rfl (by kernel_rfl) _ (by rw [rqG_set 2 (by omega)]; rfl)
theorem rqB_name (h : Blk w b 29 (rqG k u wh nm vb ph pn ch)) (x : List UInt8) : ∃ w', (Instr.storeAt 9 (.pointer (some ⟨b, 3, none⟩)) (.string ⟨x.toArray⟩)).run Tryz.prog w = .ok () w' ∧ Blk w' b 29 (rqG k u wh x vb ph pn ch) ∧ Only (· = b) w w' :=
  h.run_one 3 (rqB_lt 3 (by omega)) _ rfl rfl (by kernel_rfl) _ (by rw [rqG_set 3 (by omega)]; rfl)
theorem rqB_bytes (h : Blk w b 29 (rqG k u wh nm vb ph pn ch)) (x : Value) (hx : x.cells = #[x]) (h1 : x.oneCell' = true) : ∃ w', (Instr.storeAt 23 (.pointer (some ⟨b, 4, none⟩)) x).run Tryz.prog w = .ok () w' ∧ Blk w' b 29 (rqG k u wh nm x ph pn ch) ∧ Only (· = b) w w' :=
  h.run_one 4 (rqB_lt 4 (by omega)) _ hx h1 (by kernel_rfl) _ (by rw [rqG_set 4 (by omega)]; rfl)
theorem rqB_path (h : Blk w b 29 (rqG k u wh nm vb ph pn ch)) (hl : ph.length = 20) (q r : List UInt8) (hq : q.length = 20) : ∃ w', (Instr.storeAt 27 (.pointer (some ⟨b, 5, none⟩)) (.agg (pC q r))).run Tryz.prog w = .ok () w' ∧ Blk w' b 29 (rqG k u wh nm vb q r ch) ∧ Only (· = b) w w' :=
  Blk.run_row (a := rqH k u wh nm vb) (b := pC ph pn) (c := hC ch) (pC q r) h (by rw [pC_size, pC_size, hl, hq]) (pC_info q r hq) (pC_one q r) rfl
theorem rqB_class (h : Blk w b 29 (rqG k u wh nm vb ph pn ch)) (hl : ph.length = 20) (hc : ch.length = 20) (q : List UInt8) (hq : q.length = 20) : ∃ w', (Instr.storeAt 25 (.pointer (some ⟨b, 26, none⟩)) (.agg (hC q))).run Tryz.prog w = .ok () w' ∧ Blk w' b 29 (rqG k u wh nm vb ph pn q) ∧ Only (· = b) w w' := by
  have e1 : ∀ x, rqG k u wh nm vb ph pn x = (rqH k u wh nm vb ++ pC ph pn) ++ (hC x ++ #[]) := fun x => by simp only [rqG, Array.append_assoc, Array.append_empty]
  rw [e1] at h
  rw [e1]
  exact Blk.run_row (i := 26) (a := rqH k u wh nm vb ++ pC ph pn) (b := hC ch) (c := #[]) (hC q) h (by rw [hC_size, hC_size, hc, hq]) (hC_info q hq) (hC_one q) (by simp [pC_size, hl, rqH])
end Go.Proofs.YtpnolgliklmnmaaGreat
/-! Slices of paths: what they hold. -/
namespace Go.Proofs.YtpnolgliklmnmaaGreat
open Go.RowKit Pl Go.Agg
/-- a path whose hash has twenty bytes -/
abbrev P20 : Type := { p : List UInt8 × List UInt8 // p.1.length = 20 }
instance : Inhabited P20 := ⟨⟨(z20, []), rfl⟩⟩
def pV (p : P20) : Value := .agg (pC p.1.1 p.1.2)
def cells20 (p : P20) : List Value := (pC p.1.1 p.1.2).toList
theorem cells20_length (p : P20) : (cells20 p).length = 21 := by simp [cells20, pC_size, p.2]
def flat (l : List P20) : List Value := l.flatMap cells20
theorem flat_length (l : List P20) : (flat l).length = l.length * 21 := by
  induction l with
  | nil => rfl
  | cons p l ih => simp only [flat, List.flatMap_cons, List.length_append, cells20_length, List.length_cons] at ih ⊢; omega
theorem flat_append (a b : List P20) : flat (a ++ b) = flat a ++ flat b := by simp [flat]
theorem flat_get : ∀ (l : List P20) (j : Nat) (p : P20) (i : Nat) (v : Value), l[j]? = some p → (pC p.1.1 p.1.2)[i]? = some v → (flat l)[j * 21 + i]? = some v
  | [], j, p, i, v, h, _ => by simp at h
  | q :: l, 0, p, i, v, h, hv => by
    obtain rfl : q = p := by simpa using h
    have hlt : i < (cells20 q).length := by rw [cells20_length]; have := (Array.getElem?_eq_some_iff.1 hv).1; rw [pC_size, q.2] at this; omega
    rw [flat, List.flatMap_cons, Nat.zero_mul, Nat.zero_add, List.getElem?_append_left hlt]
    simpa [cells20] using hv
  | q :: l, j + 1, p, i, v, h, hv => by
    have ih := flat_get l j p i v (by simpa using h) hv
    rw [flat, List.flatMap_cons, List.getElem?_append_right (by rw [cells20_length]; omega), cells20_length, show (j + 1) * 21 + i - 21 = j * 21 + i by omega]
    exact ih
theorem info_path : ∃ i, Tryz.prog.info? 27 = some i ∧ i.zero = some (.agg (pC z20 [])) ∧ i.size = 21 ∧ i.bytes = 40 := by
  have hz := pC_zero
  have hs : (Tryz.prog.info? 27).map (·.size) = some 21 := by kernel_rfl
  have hb : (Tryz.prog.info? 27).map (·.bytes) = some 40 := by kernel_rfl
  cases hi : Tryz.prog.info? 27 with
  | none => rw [hi] at hz; cases hz
  | some i =>
    rw [hi] at hz hs hb
    exact ⟨i, rfl, Option.some.inj hz, Option.some.inj hs, Option.some.inj hb⟩
theorem cells20_one (p : P20) (v : Value) (hv : v ∈ cells20 p) : v.oneCell' = true := by
  have h := pC_one p.1.1 p.1.2
  rw [Array.all_eq_true_iff_forall_mem] at h
  exact h v (by simpa [cells20] using hv)
/-- paths as elements -/
def E20 : Elem Tryz.prog P20 where
  ty := 27
  st := 44
  n := 21
  bytes := 40
  val := pV
  zero := .agg (pC z20 [])
  pos := by omega
  small := by omega
  size := fun p => by simp [pV, Value.cells, pC_size, p.2]
  one := fun p v hv => cells20_one p v hv
  zsize := by simp [Value.cells, pC_size, z20_length]
  slice := by kernel_rfl
  info := info_path
  load := fun w a p hp h => LoadsL.of_cells hp h pC_under rfl (pC_info _ _ p.2)
/-- a slice of these paths -/
abbrev ElemsAt (w : World) (v : Value) (l : List P20) : Prop := SliceOf E20 w v l
theorem flat20 (l : List P20) : E20.flat l = flat l := rfl
/-- the length of such a slice -/
theorem elems_len {w : World} {v : Value} {l : List P20} (h : ElemsAt w v l) (W : World) : (Builtin.len_ #[44] 3 #[v]).run Tryz.prog W = .ok (.int .i64 (l.length : Int)) W := h.len W
theorem elem_at {w : World} {v : Value} {l : List P20} (h : ElemsAt w v l) (k : Nat) (x : P20) (hx : l[k]? = some x) :
    ∃ p : Addr, (∀ W, (Instr.indexAt 44 v (.int .i64 (k : Int))).run Tryz.prog W = .ok (.pointer (some p)) W) ∧ LoadsL Tryz.prog w 27 (some p) (.agg (pC x.1.1 x.1.2)) ∧ LoadsL Tryz.prog w 9 (some (p.add 20)) (.string ⟨x.1.2.toArray⟩) := by
  obtain ⟨p, h1, h2, h3, h4⟩ := h.at_ k x hx
  exact ⟨p, h1, h4, LoadsL.of_cell (h3 20 _ (pC_name _ _ x.2)) Tryz.underlying9 rfl⟩
end Go.Proofs.YtpnolgliklmnmaaGreat
