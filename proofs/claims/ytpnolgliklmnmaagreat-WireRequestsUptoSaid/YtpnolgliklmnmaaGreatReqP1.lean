/- wire.Put of any request. -/
import Derived.Test.YtpnolgliklmnmaaGreatGAL
import Derived.Test.YtpnolgliklmnmaaGreatGAT
import Derived.Test.YtpnolgliklmnmaaGreatGAH
import Derived.Test.YtpnolgliklmnmaaGreatGAM
namespace Go.Proofs.YtpnolgliklmnmaaGreat
open Go.RowKit Pl Go.Agg
set_option maxRecDepth 100000 in
set_option maxHeartbeats 4000000 in
theorem rput_34 (k u wh : Nat) (nm : List UInt8) (vb : Value) (bs ph pn ch : List UInt8) (hP : partsN k = 34) (hl : ph.length = 20) (hc : ch.length = 20) (hk : k ≤ 10) (hu : u ≤ 8) (hwh : wh ≤ 16) (hnm : nm.length ≤ 24) (hbs : bs.length ≤ 4096)
    (hr : rightN k u wh nm bs.length ph pn ch = true) (w : World) (hb : BytesAt w vb bs) :
    Calls Tryz.prog 9 #[.agg (rqG k u wh nm vb ph pn ch)] w fun e w' => ∃ v', e = .returned (.tuple #[v', .int .i64 0]) ∧ Own EB w.heap.size w' v' (putRq ⟨k, u, wh, nm, bs, ph, pn, ch⟩) ∧ Below w.heap.size w w' := by
  have HBLD := Lib.hid (fun W => (by kernel_rfl : (Instr.build 71 #[]).run Tryz.prog W = .ok (.agg (mkC (.slice none 0 0))) W))
  have HP := Lib.hid (fun W => (show Calls Tryz.prog 37 #[.int .i64 k] W fun e w' => e = .returned (.int .u8 34) ∧ w' = W by have := parts_any k W; rwa [hP] at this))
  have HPE := Lib.hid hP
  have HRT := Lib.hid (fun W (h : BytesAt W vb bs) => (show Calls Tryz.prog 13 #[.agg (rqG k u wh nm vb ph pn ch)] W fun e w' => e = .returned (.bool true) ∧ Below W.heap.size W w' by have := right_any k u wh nm vb bs ph pn ch hl hc W h; rwa [hr] at this))
  have HBY := Lib.hid hb
  have hek := encN_len (n := k) (by omega)
  have heu := encN_len (n := u) (by omega)
  have hew := encN_len (n := wh) (by omega)
  have HEN := Lib.hid (encN_len (n := nm.length) (by omega))
  have HEB := Lib.hid (encN_len (n := bs.length) (by omega))
  have hpl := pathS_le (n := pn) ph
  have HEP := Lib.hid (encN_len (n := (pathS ph pn).length) (by omega))
  clear hP hr hb
  go_enter Tryz.func9, Tryz.ntmps9
  go_wp2_with (first | (with_reducible refine Agg.wpList_box rfl 29 _ rfl (rqG k u wh nm vb ph pn ch) rfl ?_; intro g w1 hb1 hx1 hg; have HL := Lib.hid (RqG.of_blk hb1 hl hc); have HB := Lib.hid hb1; have HW := Lib.hid hx1; clear hb1 hx1 hg) | (with_reducible refine Agg.wpList_loadL HL.out.all rfl _ rfl rfl ?_))
  refine (HRT.out _ (HBY.out.below HW.out)).mono ?_
  rintro e w2 ⟨rfl, hx2⟩
  have HL := Lib.hid (HL.out.below hx2)
  have HB := Lib.hid (HB.out.below hx2)
  have HW := Lib.hid (Agg.belowThen HW.out (Nat.le_refl _) hx2)
  clear hx2
  go_wp2_with (first | (with_reducible refine Agg.wpList_loadL HL.out.kind rfl _ rfl rfl ?_))
  refine (HP.out _).mono ?_
  rintro e w3 ⟨rfl, rfl⟩
  have hsz := HW.out.size
  have HBY := Lib.hid (HBY.out.below HW.out)
  go_wp2_with (first | (with_reducible refine Agg.wpList_build0 71 rfl rfl (.agg (mkC (.slice none 0 0))) HBLD.out ?_) | (with_reducible refine Agg.wpList_box rfl 71 _ rfl (mkC (.slice none 0 0)) rfl ?_; intro g4 w4 hb4 hx4 hg4; have hlt4 := hb4.lt; have HB4 := Lib.hid hb4; have HX4 := Lib.hid hx4; have HL4 := Lib.hid (HL.out.below hx4); clear hb4 hx4) | (with_reducible refine Agg.wpList_loadL HL4.out.kind rfl _ rfl rfl ?_) | (with_reducible refine Agg.wpList_loadL HL4.out.user rfl _ rfl rfl ?_) | (refine Agg.wpList_slice2O (E := EI) rfl _ _ rfl k u rfl rfl ?_; intro xs w5 hxs hown5 hx5; have HXS := Lib.hid hxs; have HX5 := Lib.hid hx5; have HOW := Lib.hid hown5; clear hxs hx5 hown5))
  have hm5 : MkV g4 w5 (.slice none 0 0) [] := ⟨HB4.out.below HX5.out, Own.nil _ _ _⟩
  have hno : ∀ k, (Value.slice none 0 0).ownBlock ≠ some k := fun k h => by simp [Value.ownBlock] at h
  refine (num_any g4 _ xs [k, u] [] w5 (by intro n hn; simp only [List.mem_cons, List.not_mem_nil, or_false] at hn; rcases hn with rfl | rfl <;> omega) (by simp) (by simp) (Off.behind (w0 := w4) HXS.out HOW.out hlt4 (fun k hk => absurd hk (hno k))) hm5).mono ?_
  rintro e w6 ⟨rfl, v6, hm6, hs6⟩
  have h6 := hm5.stepBelow hs6
  have h36 : Below w3.heap.size w3 w6 := (Agg.belowThen HX4.out (Nat.le_refl _) HX5.out).trans (h6.mono hg4)
  have HM := Lib.hid (show MkV g4 w6 v6 (encN k ++ encN u) by simpa using hm6)
  have HK := Lib.hid h36
  clear hm5 hm6 hs6 h6 h36 hno
  have hv : ∀ k, v6.ownBlock = some k → w3.heap.size ≤ k := fun k hk => by have := HM.out.ge k hk; omega
  have HV := Lib.hid hv
  clear hv
  go_wp2_with fail
  refine (hasB (P := 34) (c := 1) (b := false) (by omega) (by omega) (by decide) _).mono ?_
  rintro e u8 ⟨rfl, rfl⟩
  go_wp2_with fail
  refine (hasB (P := 34) (c := 2) (b := true) (by omega) (by omega) (by decide) _).mono ?_
  rintro e u9 ⟨rfl, rfl⟩
  have HLW := Lib.hid (HL.out.below HK.out)
  go_wp2_with (first | (with_reducible refine Agg.wpList_loadL HLW.out.name rfl _ rfl rfl ?_) | (with_reducible refine wpList_toBytes nm _ rfl (by kernel_rfl) rfl ?_; intro x10 w10 hn hx; have HN := Lib.hid hn; have HX := Lib.hid hx; obtain ⟨sv, hsv⟩ := newBytes_sv hn; have HSV := Lib.hid hsv; clear hn hx hsv) | (refine Agg.wpList_slice1 (E := EBB) (base := w10.heap.size) rfl _ rfl sv HSV.out (Nat.le_refl _) ?_; intro xs11 w11 hxs hx; have HXS := Lib.hid hxs; have HX2 := Lib.hid hx; clear hxs hx))
  have hx := Agg.belowThen HX.out (Nat.le_refl _) HX2.out
  have HM0 := Lib.hid (HM.out.below hx)
  refine (text_any g4 v6 xs11 sv nm _ w11 (by simp only [List.length_append]; omega) (by omega) (Off.behind (w0 := u9) HXS.out.slice (fun k hk => Nat.le_trans HX.out.size (HXS.out.block k hk).1) HM.out.blk.lt HM.out.lt) (Off.behind (w0 := u9) (by rw [← HSV.out]; exact HN.out.slice.below HX2.out) (by rw [← HSV.out]; exact newBytes_own HN.out) HM.out.blk.lt HM.out.lt) HM0.out).mono ?_
  rintro e w12 ⟨rfl, v12, hm, hs⟩
  have HK := Lib.hid (Agg.belowThen HK.out (Nat.le_refl _) hx)
  clear HLW HXS HX HX2 hx HN HSV
  have HK := Lib.hid (HK.out.trans ((HM0.out.stepBelow hs).mono hg4))
  have HM := Lib.hid (show MkV g4 w12 v12 ((encN k ++ encN u) ++ (encN nm.length ++ nm)) from hm)
  have HV := Lib.hid (show ∀ k, v12.ownBlock = some k → w3.heap.size ≤ k from fun k hk => by have := HM.out.ge k hk; omega)
  clear hm hs HM0
  have hen := HEN.out
  go_wp2_with fail
  refine (hasB (P := 34) (c := 12) (b := false) (by omega) (by omega) (by decide) _).mono ?_
  rintro e u13 ⟨rfl, rfl⟩
  go_wp2_with fail
  refine (hasB (P := 34) (c := 16) (b := false) (by omega) (by omega) (by decide) _).mono ?_
  rintro e u14 ⟨rfl, rfl⟩
  go_wp2_with fail
  refine (hasB (P := 34) (c := 32) (b := true) (by omega) (by omega) (by decide) _).mono ?_
  rintro e u15 ⟨rfl, rfl⟩
  have HLW := Lib.hid (HL.out.below HK.out)
  obtain ⟨sv, hsv⟩ := bytes_sv HBY.out
  have HSV := Lib.hid hsv
  clear hsv
  go_wp2_with (first | (with_reducible refine Agg.wpList_loadL HLW.out.bytes rfl _ rfl rfl ?_) | (refine Agg.wpList_slice1 (E := EBB) (base := u15.heap.size) rfl _ rfl sv HSV.out (Nat.le_refl _) ?_; intro xs17 w17 hxs hx; have HXS := Lib.hid hxs; have HX := Lib.hid hx; clear hxs hx))
  have HM0 := Lib.hid (HM.out.below HX.out)
  refine (text_any g4 v12 xs17 sv bs _ w17 (by simp only [List.length_append]; omega) (by omega) (Off.behind (w0 := u15) HXS.out.slice (fun k hk => (HXS.out.block k hk).1) HM.out.blk.lt HM.out.lt) (Off.before (w0 := w3) (by rw [← HSV.out]; exact HBY.out) (Agg.belowThen HK.out (Nat.le_refl _) HX.out) hg4 HV.out) HM0.out).mono ?_
  rintro e w18 ⟨rfl, v18, hm, hs⟩
  have HK := Lib.hid (Agg.belowThen HK.out (Nat.le_refl _) HX.out)
  clear HLW HXS HX HSV
  have HK := Lib.hid (HK.out.trans ((HM0.out.stepBelow hs).mono hg4))
  have HM := Lib.hid (show MkV g4 w18 v18 (((encN k ++ encN u) ++ (encN nm.length ++ nm)) ++ (encN bs.length ++ bs)) from hm)
  have HV := Lib.hid (show ∀ k, v18.ownBlock = some k → w3.heap.size ≤ k from fun k hk => by have := HM.out.ge k hk; omega)
  clear hm hs HM0
  have heb := HEB.out
  have HE := Lib.hid (show (((encN k ++ encN u) ++ (encN nm.length ++ nm)) ++ (encN bs.length ++ bs)) = putRq ⟨k, u, wh, nm, bs, ph, pn, ch⟩ by
    unfold putRq
    simp only [HPE.out]
    unfold putP
    simp only [show hasN 34 1 = false from by decide, show hasN 34 2 = true from by decide, show hasN 34 12 = false from by decide, show hasN 34 16 = false from by decide, show hasN 34 32 = true from by decide, encT, if_true, Bool.false_eq_true, if_false, Int.toNat_natCast, List.append_assoc, List.nil_append])
  have HKK := Lib.hid (Agg.belowThen HW.out (Nat.le_refl _) HK.out)
  have hszw := HKK.out.size
  go_wp2_with fail
  refine (done_any g4 v18 _ _ (by simp only [List.length_append]; omega) HM.out).mono ?_
  rintro e w7 ⟨v7, rfl, ho7, hx7⟩
  rw [HE.out] at ho7
  have HO7 := Lib.hid (ho7.lower hszw)
  have HW7 := Lib.hid (Agg.belowThen HKK.out (Nat.le_refl _) hx7)
  clear ho7 hx7
  go_wp2_with fail
  go_ret2
  exact ⟨_, rfl, HO7.out, HW7.out⟩
set_option maxRecDepth 100000 in
set_option maxHeartbeats 4000000 in
theorem rput_32 (k u wh : Nat) (nm : List UInt8) (vb : Value) (bs ph pn ch : List UInt8) (hP : partsN k = 32) (hl : ph.length = 20) (hc : ch.length = 20) (hk : k ≤ 10) (hu : u ≤ 8) (hwh : wh ≤ 16) (hnm : nm.length ≤ 24) (hbs : bs.length ≤ 4096)
    (hr : rightN k u wh nm bs.length ph pn ch = true) (w : World) (hb : BytesAt w vb bs) :
    Calls Tryz.prog 9 #[.agg (rqG k u wh nm vb ph pn ch)] w fun e w' => ∃ v', e = .returned (.tuple #[v', .int .i64 0]) ∧ Own EB w.heap.size w' v' (putRq ⟨k, u, wh, nm, bs, ph, pn, ch⟩) ∧ Below w.heap.size w w' := by
  have HBLD := Lib.hid (fun W => (by kernel_rfl : (Instr.build 71 #[]).run Tryz.prog W = .ok (.agg (mkC (.slice none 0 0))) W))
  have HP := Lib.hid (fun W => (show Calls Tryz.prog 37 #[.int .i64 k] W fun e w' => e = .returned (.int .u8 32) ∧ w' = W by have := parts_any k W; rwa [hP] at this))
  have HPE := Lib.hid hP
  have HRT := Lib.hid (fun W (h : BytesAt W vb bs) => (show Calls Tryz.prog 13 #[.agg (rqG k u wh nm vb ph pn ch)] W fun e w' => e = .returned (.bool true) ∧ Below W.heap.size W w' by have := right_any k u wh nm vb bs ph pn ch hl hc W h; rwa [hr] at this))
  have HBY := Lib.hid hb
  have hek := encN_len (n := k) (by omega)
  have heu := encN_len (n := u) (by omega)
  have hew := encN_len (n := wh) (by omega)
  have HEN := Lib.hid (encN_len (n := nm.length) (by omega))
  have HEB := Lib.hid (encN_len (n := bs.length) (by omega))
  have hpl := pathS_le (n := pn) ph
  have HEP := Lib.hid (encN_len (n := (pathS ph pn).length) (by omega))
  clear hP hr hb
  go_enter Tryz.func9, Tryz.ntmps9
  go_wp2_with (first | (with_reducible refine Agg.wpList_box rfl 29 _ rfl (rqG k u wh nm vb ph pn ch) rfl ?_; intro g w1 hb1 hx1 hg; have HL := Lib.hid (RqG.of_blk hb1 hl hc); have HB := Lib.hid hb1; have HW := Lib.hid hx1; clear hb1 hx1 hg) | (with_reducible refine Agg.wpList_loadL HL.out.all rfl _ rfl rfl ?_))
  refine (HRT.out _ (HBY.out.below HW.out)).mono ?_
  rintro e w2 ⟨rfl, hx2⟩
  have HL := Lib.hid (HL.out.below hx2)
  have HB := Lib.hid (HB.out.below hx2)
  have HW := Lib.hid (Agg.belowThen HW.out (Nat.le_refl _) hx2)
  clear hx2
  go_wp2_with (first | (with_reducible refine Agg.wpList_loadL HL.out.kind rfl _ rfl rfl ?_))
  refine (HP.out _).mono ?_
  rintro e w3 ⟨rfl, rfl⟩
  have hsz := HW.out.size
  have HBY := Lib.hid (HBY.out.below HW.out)
  go_wp2_with (first | (with_reducible refine Agg.wpList_build0 71 rfl rfl (.agg (mkC (.slice none 0 0))) HBLD.out ?_) | (with_reducible refine Agg.wpList_box rfl 71 _ rfl (mkC (.slice none 0 0)) rfl ?_; intro g4 w4 hb4 hx4 hg4; have hlt4 := hb4.lt; have HB4 := Lib.hid hb4; have HX4 := Lib.hid hx4; have HL4 := Lib.hid (HL.out.below hx4); clear hb4 hx4) | (with_reducible refine Agg.wpList_loadL HL4.out.kind rfl _ rfl rfl ?_) | (with_reducible refine Agg.wpList_loadL HL4.out.user rfl _ rfl rfl ?_) | (refine Agg.wpList_slice2O (E := EI) rfl _ _ rfl k u rfl rfl ?_; intro xs w5 hxs hown5 hx5; have HXS := Lib.hid hxs; have HX5 := Lib.hid hx5; have HOW := Lib.hid hown5; clear hxs hx5 hown5))
  have hm5 : MkV g4 w5 (.slice none 0 0) [] := ⟨HB4.out.below HX5.out, Own.nil _ _ _⟩
  have hno : ∀ k, (Value.slice none 0 0).ownBlock ≠ some k := fun k h => by simp [Value.ownBlock] at h
  refine (num_any g4 _ xs [k, u] [] w5 (by intro n hn; simp only [List.mem_cons, List.not_mem_nil, or_false] at hn; rcases hn with rfl | rfl <;> omega) (by simp) (by simp) (Off.behind (w0 := w4) HXS.out HOW.out hlt4 (fun k hk => absurd hk (hno k))) hm5).mono ?_
  rintro e w6 ⟨rfl, v6, hm6, hs6⟩
  have h6 := hm5.stepBelow hs6
  have h36 : Below w3.heap.size w3 w6 := (Agg.belowThen HX4.out (Nat.le_refl _) HX5.out).trans (h6.mono hg4)
  have HM := Lib.hid (show MkV g4 w6 v6 (encN k ++ encN u) by simpa using hm6)
  have HK := Lib.hid h36
  clear hm5 hm6 hs6 h6 h36 hno
  have hv : ∀ k, v6.ownBlock = some k → w3.heap.size ≤ k := fun k hk => by have := HM.out.ge k hk; omega
  have HV := Lib.hid hv
  clear hv
  go_wp2_with fail
  refine (hasB (P := 32) (c := 1) (b := false) (by omega) (by omega) (by decide) _).mono ?_
  rintro e u8 ⟨rfl, rfl⟩
  go_wp2_with fail
  refine (hasB (P := 32) (c := 2) (b := false) (by omega) (by omega) (by decide) _).mono ?_
  rintro e u9 ⟨rfl, rfl⟩
  go_wp2_with fail
  refine (hasB (P := 32) (c := 12) (b := false) (by omega) (by omega) (by decide) _).mono ?_
  rintro e u10 ⟨rfl, rfl⟩
  go_wp2_with fail
  refine (hasB (P := 32) (c := 16) (b := false) (by omega) (by omega) (by decide) _).mono ?_
  rintro e u11 ⟨rfl, rfl⟩
  go_wp2_with fail
  refine (hasB (P := 32) (c := 32) (b := true) (by omega) (by omega) (by decide) _).mono ?_
  rintro e u12 ⟨rfl, rfl⟩
  have HLW := Lib.hid (HL.out.below HK.out)
  obtain ⟨sv, hsv⟩ := bytes_sv HBY.out
  have HSV := Lib.hid hsv
  clear hsv
  go_wp2_with (first | (with_reducible refine Agg.wpList_loadL HLW.out.bytes rfl _ rfl rfl ?_) | (refine Agg.wpList_slice1 (E := EBB) (base := u12.heap.size) rfl _ rfl sv HSV.out (Nat.le_refl _) ?_; intro xs14 w14 hxs hx; have HXS := Lib.hid hxs; have HX := Lib.hid hx; clear hxs hx))
  have HM0 := Lib.hid (HM.out.below HX.out)
  refine (text_any g4 v6 xs14 sv bs _ w14 (by simp only [List.length_append]; omega) (by omega) (Off.behind (w0 := u12) HXS.out.slice (fun k hk => (HXS.out.block k hk).1) HM.out.blk.lt HM.out.lt) (Off.before (w0 := w3) (by rw [← HSV.out]; exact HBY.out) (Agg.belowThen HK.out (Nat.le_refl _) HX.out) hg4 HV.out) HM0.out).mono ?_
  rintro e w15 ⟨rfl, v15, hm, hs⟩
  have HK := Lib.hid (Agg.belowThen HK.out (Nat.le_refl _) HX.out)
  clear HLW HXS HX HSV
  have HK := Lib.hid (HK.out.trans ((HM0.out.stepBelow hs).mono hg4))
  have HM := Lib.hid (show MkV g4 w15 v15 ((encN k ++ encN u) ++ (encN bs.length ++ bs)) from hm)
  have HV := Lib.hid (show ∀ k, v15.ownBlock = some k → w3.heap.size ≤ k from fun k hk => by have := HM.out.ge k hk; omega)
  clear hm hs HM0
  have heb := HEB.out
  have HE := Lib.hid (show ((encN k ++ encN u) ++ (encN bs.length ++ bs)) = putRq ⟨k, u, wh, nm, bs, ph, pn, ch⟩ by
    unfold putRq
    simp only [HPE.out]
    unfold putP
    simp only [show hasN 32 1 = false from by decide, show hasN 32 2 = false from by decide, show hasN 32 12 = false from by decide, show hasN 32 16 = false from by decide, show hasN 32 32 = true from by decide, encT, if_true, Bool.false_eq_true, if_false, Int.toNat_natCast, List.append_assoc, List.nil_append])
  have HKK := Lib.hid (Agg.belowThen HW.out (Nat.le_refl _) HK.out)
  have hszw := HKK.out.size
  go_wp2_with fail
  refine (done_any g4 v15 _ _ (by simp only [List.length_append]; omega) HM.out).mono ?_
  rintro e w7 ⟨v7, rfl, ho7, hx7⟩
  rw [HE.out] at ho7
  have HO7 := Lib.hid (ho7.lower hszw)
  have HW7 := Lib.hid (Agg.belowThen HKK.out (Nat.le_refl _) hx7)
  clear ho7 hx7
  go_wp2_with fail
  go_ret2
  exact ⟨_, rfl, HO7.out, HW7.out⟩
set_option maxRecDepth 100000 in
set_option maxHeartbeats 4000000 in
theorem rput_16 (k u wh : Nat) (nm : List UInt8) (vb : Value) (bs ph pn ch : List UInt8) (hP : partsN k = 16) (hl : ph.length = 20) (hc : ch.length = 20) (hk : k ≤ 10) (hu : u ≤ 8) (hwh : wh ≤ 16) (hnm : nm.length ≤ 24) (hbs : bs.length ≤ 4096)
    (hr : rightN k u wh nm bs.length ph pn ch = true) (w : World) (hb : BytesAt w vb bs) :
    Calls Tryz.prog 9 #[.agg (rqG k u wh nm vb ph pn ch)] w fun e w' => ∃ v', e = .returned (.tuple #[v', .int .i64 0]) ∧ Own EB w.heap.size w' v' (putRq ⟨k, u, wh, nm, bs, ph, pn, ch⟩) ∧ Below w.heap.size w w' := by
  have HBLD := Lib.hid (fun W => (by kernel_rfl : (Instr.build 71 #[]).run Tryz.prog W = .ok (.agg (mkC (.slice none 0 0))) W))
  have HP := Lib.hid (fun W => (show Calls Tryz.prog 37 #[.int .i64 k] W fun e w' => e = .returned (.int .u8 16) ∧ w' = W by have := parts_any k W; rwa [hP] at this))
  have HPE := Lib.hid hP
  have HRT := Lib.hid (fun W (h : BytesAt W vb bs) => (show Calls Tryz.prog 13 #[.agg (rqG k u wh nm vb ph pn ch)] W fun e w' => e = .returned (.bool true) ∧ Below W.heap.size W w' by have := right_any k u wh nm vb bs ph pn ch hl hc W h; rwa [hr] at this))
  have HBY := Lib.hid hb
  have hek := encN_len (n := k) (by omega)
  have heu := encN_len (n := u) (by omega)
  have hew := encN_len (n := wh) (by omega)
  have HEN := Lib.hid (encN_len (n := nm.length) (by omega))
  have HEB := Lib.hid (encN_len (n := bs.length) (by omega))
  have hpl := pathS_le (n := pn) ph
  have HEP := Lib.hid (encN_len (n := (pathS ph pn).length) (by omega))
  clear hP hr hb
  go_enter Tryz.func9, Tryz.ntmps9
  go_wp2_with (first | (with_reducible refine Agg.wpList_box rfl 29 _ rfl (rqG k u wh nm vb ph pn ch) rfl ?_; intro g w1 hb1 hx1 hg; have HL := Lib.hid (RqG.of_blk hb1 hl hc); have HB := Lib.hid hb1; have HW := Lib.hid hx1; clear hb1 hx1 hg) | (with_reducible refine Agg.wpList_loadL HL.out.all rfl _ rfl rfl ?_))
  refine (HRT.out _ (HBY.out.below HW.out)).mono ?_
  rintro e w2 ⟨rfl, hx2⟩
  have HL := Lib.hid (HL.out.below hx2)
  have HB := Lib.hid (HB.out.below hx2)
  have HW := Lib.hid (Agg.belowThen HW.out (Nat.le_refl _) hx2)
  clear hx2
  go_wp2_with (first | (with_reducible refine Agg.wpList_loadL HL.out.kind rfl _ rfl rfl ?_))
  refine (HP.out _).mono ?_
  rintro e w3 ⟨rfl, rfl⟩
  have hsz := HW.out.size
  have HBY := Lib.hid (HBY.out.below HW.out)
  go_wp2_with (first | (with_reducible refine Agg.wpList_build0 71 rfl rfl (.agg (mkC (.slice none 0 0))) HBLD.out ?_) | (with_reducible refine Agg.wpList_box rfl 71 _ rfl (mkC (.slice none 0 0)) rfl ?_; intro g4 w4 hb4 hx4 hg4; have hlt4 := hb4.lt; have HB4 := Lib.hid hb4; have HX4 := Lib.hid hx4; have HL4 := Lib.hid (HL.out.below hx4); clear hb4 hx4) | (with_reducible refine Agg.wpList_loadL HL4.out.kind rfl _ rfl rfl ?_) | (with_reducible refine Agg.wpList_loadL HL4.out.user rfl _ rfl rfl ?_) | (refine Agg.wpList_slice2O (E := EI) rfl _ _ rfl k u rfl rfl ?_; intro xs w5 hxs hown5 hx5; have HXS := Lib.hid hxs; have HX5 := Lib.hid hx5; have HOW := Lib.hid hown5; clear hxs hx5 hown5))
  have hm5 : MkV g4 w5 (.slice none 0 0) [] := ⟨HB4.out.below HX5.out, Own.nil _ _ _⟩
  have hno : ∀ k, (Value.slice none 0 0).ownBlock ≠ some k := fun k h => by simp [Value.ownBlock] at h
  refine (num_any g4 _ xs [k, u] [] w5 (by intro n hn; simp only [List.mem_cons, List.not_mem_nil, or_false] at hn; rcases hn with rfl | rfl <;> omega) (by simp) (by simp) (Off.behind (w0 := w4) HXS.out HOW.out hlt4 (fun k hk => absurd hk (hno k))) hm5).mono ?_
  rintro e w6 ⟨rfl, v6, hm6, hs6⟩
  have h6 := hm5.stepBelow hs6
  have h36 : Below w3.heap.size w3 w6 := (Agg.belowThen HX4.out (Nat.le_refl _) HX5.out).trans (h6.mono hg4)
  have HM := Lib.hid (show MkV g4 w6 v6 (encN k ++ encN u) by simpa using hm6)
  have HK := Lib.hid h36
  clear hm5 hm6 hs6 h6 h36 hno
  have hv : ∀ k, v6.ownBlock = some k → w3.heap.size ≤ k := fun k hk => by have := HM.out.ge k hk; omega
  have HV := Lib.hid hv
  clear hv
  go_wp2_with fail
  refine (hasB (P := 16) (c := 1) (b := false) (by omega) (by omega) (by decide) _).mono ?_
  rintro e u8 ⟨rfl, rfl⟩
  go_wp2_with fail
  refine (hasB (P := 16) (c := 2) (b := false) (by omega) (by omega) (by decide) _).mono ?_
  rintro e u9 ⟨rfl, rfl⟩
  go_wp2_with fail
  refine (hasB (P := 16) (c := 12) (b := false) (by omega) (by omega) (by decide) _).mono ?_
  rintro e u10 ⟨rfl, rfl⟩
  go_wp2_with fail
  refine (hasB (P := 16) (c := 16) (b := true) (by omega) (by omega) (by decide) _).mono ?_
  rintro e u11 ⟨rfl, rfl⟩
  have HSH := Lib.hid (slice_at26 g)
  have HSC := Lib.hid (rq_class_slice (HB.out.below HK.out) hl hc)
  go_wp2_with (first | (with_reducible refine Agg.wpList_val rfl (HSH.out _) ?_))
  refine (raw_any g4 v6 _ ch _ u11 (by simp only [List.length_append]; omega) (by omega) HSC.out HM.out).mono ?_
  rintro e w14 ⟨rfl, v14, hm, hs⟩
  have HM0 := HM
  clear HSH HSC
  have HK := Lib.hid (HK.out.trans ((HM0.out.stepBelow hs).mono hg4))
  have HM := Lib.hid (show MkV g4 w14 v14 ((encN k ++ encN u) ++ ch) from hm)
  have HV := Lib.hid (show ∀ k, v14.ownBlock = some k → w3.heap.size ≤ k from fun k hk => by have := HM.out.ge k hk; omega)
  clear hm hs HM0
  go_wp2_with fail
  refine (hasB (P := 16) (c := 32) (b := false) (by omega) (by omega) (by decide) _).mono ?_
  rintro e u15 ⟨rfl, rfl⟩
  have HE := Lib.hid (show ((encN k ++ encN u) ++ ch) = putRq ⟨k, u, wh, nm, bs, ph, pn, ch⟩ by
    unfold putRq
    simp only [HPE.out]
    unfold putP
    simp only [show hasN 16 1 = false from by decide, show hasN 16 2 = false from by decide, show hasN 16 12 = false from by decide, show hasN 16 16 = true from by decide, show hasN 16 32 = false from by decide, if_true, Bool.false_eq_true, if_false, Int.toNat_natCast, List.append_assoc, List.nil_append, List.append_nil])
  have HKK := Lib.hid (Agg.belowThen HW.out (Nat.le_refl _) HK.out)
  have hszw := HKK.out.size
  go_wp2_with fail
  refine (done_any g4 v14 _ _ (by simp only [List.length_append]; omega) HM.out).mono ?_
  rintro e w7 ⟨v7, rfl, ho7, hx7⟩
  rw [HE.out] at ho7
  have HO7 := Lib.hid (ho7.lower hszw)
  have HW7 := Lib.hid (Agg.belowThen HKK.out (Nat.le_refl _) hx7)
  clear ho7 hx7
  go_wp2_with fail
  go_ret2
  exact ⟨_, rfl, HO7.out, HW7.out⟩
end Go.Proofs.YtpnolgliklmnmaaGreat
