/- spenceref28.Put of any request. (Several texts in one.) -/
import Derived.Test.YtpnolgliklmnmaaGreatGAV
import Derived.Test.YtpnolgliklmnmaaGreatGAW
import Derived.Test.YtpnolgliklmnmaaGreatGAM
/-! spenceref28.Put of any request. -/
namespace Go.Proofs.YtpnolgliklmnmaaGreat
open Go.RowKit Pl Go.Agg
set_option maxRecDepth 100000 in
set_option maxHeartbeats 4000000 in
theorem refPut_1 (k u wh : Nat) (nm : List UInt8) (vb : Value) (bs ph pn ch : List UInt8) (hP : partsN k = 1) (hl : ph.length = 20) (hc : ch.length = 20) (hk : k ≤ 10) (hu : u ≤ 8) (hwh : wh ≤ 16) (hnm : nm.length ≤ 24) (hpn : pn.length ≤ 1048576) (hbs : bs.length ≤ 4096)
    (hr : rightN k u wh nm bs.length ph pn ch = true) (w : World) (hb : BytesAt w vb bs) :
    Calls Tryz.prog 10 #[.agg (rqG k u wh nm vb ph pn ch)] w fun e w' => ∃ v', e = .returned (.tuple #[v', .int .i64 0]) ∧ Own EB w.heap.size w' v' (putRq ⟨k, u, wh, nm, bs, ph, pn, ch⟩) ∧ Below w.heap.size w w' := by
  have HBLD := Lib.hid (fun W => (by kernel_rfl : (Instr.build 81 #[]).run Tryz.prog W = .ok (.agg (mkC (.slice none 0 0))) W))
  have HWD := Lib.hid (fun W => (show Calls Tryz.prog 44 #[.int .i64 k] W fun e w' => e = .returned (.string ⟨([119] : List UInt8).toArray⟩) ∧ w' = W by have := refHas_any k W; rwa [hP] at this))
  have HPE := Lib.hid hP
  have HRT := Lib.hid (fun W (h : BytesAt W vb bs) => (show Calls Tryz.prog 14 #[.agg (rqG k u wh nm vb ph pn ch)] W fun e w' => e = .returned (.bool true) ∧ Below W.heap.size W w' by have := refRight_any k u wh nm vb bs ph pn ch hl hc (by omega) hpn W h; rwa [hr] at this))
  have HBY := Lib.hid hb
  have hek := encN_len (n := k) (by omega)
  have heu := encN_len (n := u) (by omega)
  have hew := encN_len (n := wh) (by omega)
  have HEN := Lib.hid (encN_len (n := nm.length) (by omega))
  have HEB := Lib.hid (encN_len (n := bs.length) (by omega))
  have hpl := pathS_le (n := pn) ph
  have HEP := Lib.hid (encN_len (n := (pathS ph pn).length) (by omega))
  clear hP hr hb
  go_enter Tryz.func10, Tryz.ntmps10
  go_wp2_with (first | (with_reducible refine Agg.wpList_box rfl 29 _ rfl (rqG k u wh nm vb ph pn ch) rfl ?_; intro g w1 hb1 hx1 hg; have HL := Lib.hid (RqG.of_blk hb1 hl hc); have HB := Lib.hid hb1; have HW := Lib.hid hx1; clear hb1 hx1 hg) | (with_reducible refine Agg.wpList_loadL HL.out.all rfl _ rfl rfl ?_))
  refine (HRT.out _ (HBY.out.below HW.out)).mono ?_
  rintro e w2 ⟨rfl, hx2⟩
  have HL := Lib.hid (HL.out.below hx2)
  have HB := Lib.hid (HB.out.below hx2)
  have HW := Lib.hid (Agg.belowThen HW.out (Nat.le_refl _) hx2)
  clear hx2
  go_wp2_with (first | (with_reducible refine Agg.wpList_loadL HL.out.kind rfl _ rfl rfl ?_))
  refine (HWD.out _).mono ?_
  rintro e w3 ⟨rfl, rfl⟩
  have hsz := HW.out.size
  have HBY := Lib.hid (HBY.out.below HW.out)
  go_wp2_with (first | (with_reducible refine Agg.wpList_build0 81 rfl rfl (.agg (mkC (.slice none 0 0))) HBLD.out ?_) | (with_reducible refine Agg.wpList_box rfl 81 _ rfl (mkC (.slice none 0 0)) rfl ?_; intro g4 w4 hb4 hx4 hg4; have hlt4 := hb4.lt; have HM := Lib.hid (⟨hb4, Own.nil _ _ _⟩ : MrV g4 w4 (.slice none 0 0) []); have HK := Lib.hid hx4; have HLK := Lib.hid (HL.out.below hx4); clear hb4 hx4) | (with_reducible refine Agg.wpList_loadL HLK.out.kind rfl _ rfl rfl ?_))
  have HM0 := HM
  refine (rmNum_any g4 (.slice none 0 0) k ([] : List UInt8) _ (by omega) (by simp only [List.length_nil]; omega) HM.out).mono ?_
  rintro e w5 ⟨⟨r, rfl⟩, v5, hm, hs⟩
  have HK := Lib.hid (HK.out.trans ((HM0.out.stepBelow hs).mono hg4))
  have HM := Lib.hid (show MrV g4 w5 v5 (encN k) from (by simpa using hm))
  have HV := Lib.hid (show ∀ k, v5.ownBlock = some k → w3.heap.size ≤ k from fun k hk => by have := HM.out.ge k hk; omega)
  have HLK := Lib.hid (HL.out.below HK.out)
  clear hm hs HM0
  go_wp2_with (first | (with_reducible refine Agg.wpList_loadL HLK.out.user rfl _ rfl rfl ?_))
  have HM0 := HM
  refine (rmNum_any g4 v5 u (encN k) _ (by omega) (by omega) HM.out).mono ?_
  rintro e w6 ⟨⟨r, rfl⟩, v6, hm, hs⟩
  have HK := Lib.hid (HK.out.trans ((HM0.out.stepBelow hs).mono hg4))
  have HM := Lib.hid (show MrV g4 w6 v6 ((encN k) ++ encN u) from hm)
  have HV := Lib.hid (show ∀ k, v6.ownBlock = some k → w3.heap.size ≤ k from fun k hk => by have := HM.out.ge k hk; omega)
  have HLK := Lib.hid (HL.out.below HK.out)
  clear hm hs HM0
  go_wp2_with fail
  refine (refIn_is (s := [119]) (c := 119) (b := true) (by decide) (by decide) (by omega) _).mono ?_
  rintro e w7 ⟨rfl, rfl⟩
  go_wp2_with (first | (with_reducible refine Agg.wpList_loadL HLK.out.who rfl _ rfl rfl ?_))
  have HM0 := HM
  refine (rmNum_any g4 v6 wh ((encN k) ++ encN u) _ (by omega) (by simp only [List.length_append]; omega) HM.out).mono ?_
  rintro e w8 ⟨⟨r, rfl⟩, v8, hm, hs⟩
  have HK := Lib.hid (HK.out.trans ((HM0.out.stepBelow hs).mono hg4))
  have HM := Lib.hid (show MrV g4 w8 v8 (((encN k) ++ encN u) ++ encN wh) from hm)
  have HV := Lib.hid (show ∀ k, v8.ownBlock = some k → w3.heap.size ≤ k from fun k hk => by have := HM.out.ge k hk; omega)
  have HLK := Lib.hid (HL.out.below HK.out)
  clear hm hs HM0
  go_wp2_with fail
  refine (refIn_is (s := [119]) (c := 110) (b := false) (by decide) (by decide) (by omega) _).mono ?_
  rintro e w9 ⟨rfl, rfl⟩
  go_wp2_with fail
  refine (refIn_is (s := [119]) (c := 112) (b := false) (by decide) (by decide) (by omega) _).mono ?_
  rintro e w10 ⟨rfl, rfl⟩
  go_wp2_with fail
  refine (refIn_is (s := [119]) (c := 122) (b := false) (by decide) (by decide) (by omega) _).mono ?_
  rintro e w11 ⟨rfl, rfl⟩
  go_wp2_with fail
  refine (refIn_is (s := [119]) (c := 99) (b := false) (by decide) (by decide) (by omega) _).mono ?_
  rintro e w12 ⟨rfl, rfl⟩
  go_wp2_with fail
  refine (refIn_is (s := [119]) (c := 98) (b := false) (by decide) (by decide) (by omega) _).mono ?_
  rintro e w13 ⟨rfl, rfl⟩
  have HE := Lib.hid (show (((encN k) ++ encN u) ++ encN wh) = putRq ⟨k, u, wh, nm, bs, ph, pn, ch⟩ by
    unfold putRq
    simp only [HPE.out]
    unfold putP
    simp only [show hasN 1 1 = true from by decide, show hasN 1 2 = false from by decide, show hasN 1 12 = false from by decide, show hasN 1 16 = false from by decide, show hasN 1 32 = false from by decide, if_true, Bool.false_eq_true, if_false, Int.toNat_natCast, List.append_assoc, List.append_nil])
  have HKK := Lib.hid (Agg.belowThen HW.out (Nat.le_refl _) HK.out)
  have hszw := HKK.out.size
  go_wp2_with fail
  refine (rmDone_any g4 v8 _ _ (by simp only [List.length_append]; omega) HM.out).mono ?_
  rintro e w99 ⟨v99, rfl, ho7, hx7⟩
  rw [HE.out] at ho7
  have HO7 := Lib.hid (ho7.lower hszw)
  have HW7 := Lib.hid (Agg.belowThen HKK.out (Nat.le_refl _) hx7)
  clear ho7 hx7
  go_wp2_with fail
  go_ret2
  exact ⟨_, rfl, HO7.out, HW7.out⟩
set_option maxRecDepth 100000 in
set_option maxHeartbeats 4000000 in
theorem refPut_6 (k u wh : Nat) (nm : List UInt8) (vb : Value) (bs ph pn ch : List UInt8) (hP : partsN k = 6) (hl : ph.length = 20) (hc : ch.length = 20) (hk : k ≤ 10) (hu : u ≤ 8) (hwh : wh ≤ 16) (hnm : nm.length ≤ 24) (hpn : pn.length ≤ 1048576) (hbs : bs.length ≤ 4096)
    (hr : rightN k u wh nm bs.length ph pn ch = true) (w : World) (hb : BytesAt w vb bs) :
    Calls Tryz.prog 10 #[.agg (rqG k u wh nm vb ph pn ch)] w fun e w' => ∃ v', e = .returned (.tuple #[v', .int .i64 0]) ∧ Own EB w.heap.size w' v' (putRq ⟨k, u, wh, nm, bs, ph, pn, ch⟩) ∧ Below w.heap.size w w' := by
  have HBLD := Lib.hid (fun W => (by kernel_rfl : (Instr.build 81 #[]).run Tryz.prog W = .ok (.agg (mkC (.slice none 0 0))) W))
  have HWD := Lib.hid (fun W => (show Calls Tryz.prog 44 #[.int .i64 k] W fun e w' => e = .returned (.string ⟨([110, 112] : List UInt8).toArray⟩) ∧ w' = W by have := refHas_any k W; rwa [hP] at this))
  have HPE := Lib.hid hP
  have HRT := Lib.hid (fun W (h : BytesAt W vb bs) => (show Calls Tryz.prog 14 #[.agg (rqG k u wh nm vb ph pn ch)] W fun e w' => e = .returned (.bool true) ∧ Below W.heap.size W w' by have := refRight_any k u wh nm vb bs ph pn ch hl hc (by omega) hpn W h; rwa [hr] at this))
  have HBY := Lib.hid hb
  have hek := encN_len (n := k) (by omega)
  have heu := encN_len (n := u) (by omega)
  have hew := encN_len (n := wh) (by omega)
  have HEN := Lib.hid (encN_len (n := nm.length) (by omega))
  have HEB := Lib.hid (encN_len (n := bs.length) (by omega))
  have hpl := pathS_le (n := pn) ph
  have HEP := Lib.hid (encN_len (n := (pathS ph pn).length) (by omega))
  clear hP hr hb
  go_enter Tryz.func10, Tryz.ntmps10
  go_wp2_with (first | (with_reducible refine Agg.wpList_box rfl 29 _ rfl (rqG k u wh nm vb ph pn ch) rfl ?_; intro g w1 hb1 hx1 hg; have HL := Lib.hid (RqG.of_blk hb1 hl hc); have HB := Lib.hid hb1; have HW := Lib.hid hx1; clear hb1 hx1 hg) | (with_reducible refine Agg.wpList_loadL HL.out.all rfl _ rfl rfl ?_))
  refine (HRT.out _ (HBY.out.below HW.out)).mono ?_
  rintro e w2 ⟨rfl, hx2⟩
  have HL := Lib.hid (HL.out.below hx2)
  have HB := Lib.hid (HB.out.below hx2)
  have HW := Lib.hid (Agg.belowThen HW.out (Nat.le_refl _) hx2)
  clear hx2
  go_wp2_with (first | (with_reducible refine Agg.wpList_loadL HL.out.kind rfl _ rfl rfl ?_))
  refine (HWD.out _).mono ?_
  rintro e w3 ⟨rfl, rfl⟩
  have hsz := HW.out.size
  have HBY := Lib.hid (HBY.out.below HW.out)
  go_wp2_with (first | (with_reducible refine Agg.wpList_build0 81 rfl rfl (.agg (mkC (.slice none 0 0))) HBLD.out ?_) | (with_reducible refine Agg.wpList_box rfl 81 _ rfl (mkC (.slice none 0 0)) rfl ?_; intro g4 w4 hb4 hx4 hg4; have hlt4 := hb4.lt; have HM := Lib.hid (⟨hb4, Own.nil _ _ _⟩ : MrV g4 w4 (.slice none 0 0) []); have HK := Lib.hid hx4; have HLK := Lib.hid (HL.out.below hx4); clear hb4 hx4) | (with_reducible refine Agg.wpList_loadL HLK.out.kind rfl _ rfl rfl ?_))
  have HM0 := HM
  refine (rmNum_any g4 (.slice none 0 0) k ([] : List UInt8) _ (by omega) (by simp only [List.length_nil]; omega) HM.out).mono ?_
  rintro e w5 ⟨⟨r, rfl⟩, v5, hm, hs⟩
  have HK := Lib.hid (HK.out.trans ((HM0.out.stepBelow hs).mono hg4))
  have HM := Lib.hid (show MrV g4 w5 v5 (encN k) from (by simpa using hm))
  have HV := Lib.hid (show ∀ k, v5.ownBlock = some k → w3.heap.size ≤ k from fun k hk => by have := HM.out.ge k hk; omega)
  have HLK := Lib.hid (HL.out.below HK.out)
  clear hm hs HM0
  go_wp2_with (first | (with_reducible refine Agg.wpList_loadL HLK.out.user rfl _ rfl rfl ?_))
  have HM0 := HM
  refine (rmNum_any g4 v5 u (encN k) _ (by omega) (by omega) HM.out).mono ?_
  rintro e w6 ⟨⟨r, rfl⟩, v6, hm, hs⟩
  have HK := Lib.hid (HK.out.trans ((HM0.out.stepBelow hs).mono hg4))
  have HM := Lib.hid (show MrV g4 w6 v6 ((encN k) ++ encN u) from hm)
  have HV := Lib.hid (show ∀ k, v6.ownBlock = some k → w3.heap.size ≤ k from fun k hk => by have := HM.out.ge k hk; omega)
  have HLK := Lib.hid (HL.out.below HK.out)
  clear hm hs HM0
  go_wp2_with fail
  refine (refIn_is (s := [110, 112]) (c := 119) (b := false) (by decide) (by decide) (by omega) _).mono ?_
  rintro e w7 ⟨rfl, rfl⟩
  go_wp2_with fail
  refine (refIn_is (s := [110, 112]) (c := 110) (b := true) (by decide) (by decide) (by omega) _).mono ?_
  rintro e w8 ⟨rfl, rfl⟩
  go_wp2_with (first | (with_reducible refine Agg.wpList_loadL HLK.out.name rfl _ rfl rfl ?_) | (with_reducible refine wpList_toBytes nm _ rfl (by kernel_rfl) rfl ?_; intro x9 w9 hn hx; have HN := Lib.hid hn; have HX := Lib.hid hx; clear hn hx))
  have HM0 := Lib.hid (HM.out.below HX.out)
  refine (rmText_any g4 v6 x9 nm _ w9 (by simp only [List.length_append]; omega) (by omega) (Off.behind (w0 := w8) HN.out.slice (newBytes_own HN.out) HM.out.blk.lt HM.out.lt) HM0.out).mono ?_
  rintro e w10 ⟨⟨r, rfl⟩, v10, hm, hs⟩
  have HK := Lib.hid (Agg.belowThen HK.out (Nat.le_refl _) HX.out)
  clear HX HN
  have HK := Lib.hid (HK.out.trans ((HM0.out.stepBelow hs).mono hg4))
  have HM := Lib.hid (show MrV g4 w10 v10 (((encN k) ++ encN u) ++ (encN nm.length ++ nm)) from hm)
  have HV := Lib.hid (show ∀ k, v10.ownBlock = some k → w3.heap.size ≤ k from fun k hk => by have := HM.out.ge k hk; omega)
  have HLK := Lib.hid (HL.out.below HK.out)
  clear hm hs HM0
  have hen := HEN.out
  go_wp2_with fail
  refine (refIn_is (s := [110, 112]) (c := 112) (b := true) (by decide) (by decide) (by omega) _).mono ?_
  rintro e w11 ⟨rfl, rfl⟩
  go_wp2_with (first | (with_reducible refine Agg.wpList_loadL HLK.out.path rfl _ rfl rfl ?_))
  refine (refText_any ph pn hl (by omega) _).mono ?_
  rintro e w12 ⟨x12, rfl, hn, hy, hx⟩
  have HN := Lib.hid hn
  have HX := Lib.hid hx
  have HY := Lib.hid hy
  clear hn hx hy
  go_wp2_with fail
  have HM0 := Lib.hid (HM.out.below HX.out)
  refine (rmText_any g4 v10 x12 (pathS ph pn) _ w12 (by simp only [List.length_append]; omega) (by omega) (Off.behind (w0 := w11) HN.out HY.out HM.out.blk.lt HM.out.lt) HM0.out).mono ?_
  rintro e w13 ⟨⟨r, rfl⟩, v13, hm, hs⟩
  have HK := Lib.hid (Agg.belowThen HK.out (Nat.le_refl _) HX.out)
  clear HX HN HY
  have HK := Lib.hid (HK.out.trans ((HM0.out.stepBelow hs).mono hg4))
  have HM := Lib.hid (show MrV g4 w13 v13 ((((encN k) ++ encN u) ++ (encN nm.length ++ nm)) ++ (encN (pathS ph pn).length ++ pathS ph pn)) from hm)
  have HV := Lib.hid (show ∀ k, v13.ownBlock = some k → w3.heap.size ≤ k from fun k hk => by have := HM.out.ge k hk; omega)
  have HLK := Lib.hid (HL.out.below HK.out)
  clear hm hs HM0
  have hep := HEP.out
  go_wp2_with fail
  refine (refIn_is (s := [110, 112]) (c := 99) (b := false) (by decide) (by decide) (by omega) _).mono ?_
  rintro e w14 ⟨rfl, rfl⟩
  go_wp2_with fail
  refine (refIn_is (s := [110, 112]) (c := 98) (b := false) (by decide) (by decide) (by omega) _).mono ?_
  rintro e w15 ⟨rfl, rfl⟩
  have HE := Lib.hid (show ((((encN k) ++ encN u) ++ (encN nm.length ++ nm)) ++ (encN (pathS ph pn).length ++ pathS ph pn)) = putRq ⟨k, u, wh, nm, bs, ph, pn, ch⟩ by
    unfold putRq
    simp only [HPE.out]
    unfold putP
    simp only [show hasN 6 1 = false from by decide, show hasN 6 2 = true from by decide, show hasN 6 12 = true from by decide, show hasN 6 16 = false from by decide, show hasN 6 32 = false from by decide, encT, if_true, Bool.false_eq_true, if_false, Int.toNat_natCast, List.append_assoc, List.nil_append, List.append_nil])
  have HKK := Lib.hid (Agg.belowThen HW.out (Nat.le_refl _) HK.out)
  have hszw := HKK.out.size
  go_wp2_with fail
  refine (rmDone_any g4 v13 _ _ (by simp only [List.length_append]; omega) HM.out).mono ?_
  rintro e w99 ⟨v99, rfl, ho7, hx7⟩
  rw [HE.out] at ho7
  have HO7 := Lib.hid (ho7.lower hszw)
  have HW7 := Lib.hid (Agg.belowThen HKK.out (Nat.le_refl _) hx7)
  clear ho7 hx7
  go_wp2_with fail
  go_ret2
  exact ⟨_, rfl, HO7.out, HW7.out⟩
set_option maxRecDepth 100000 in
set_option maxHeartbeats 4000000 in
theorem refPut_2 (k u wh : Nat) (nm : List UInt8) (vb : Value) (bs ph pn ch : List UInt8) (hP : partsN k = 2) (hl : ph.length = 20) (hc : ch.length = 20) (hk : k ≤ 10) (hu : u ≤ 8) (hwh : wh ≤ 16) (hnm : nm.length ≤ 24) (hpn : pn.length ≤ 1048576) (hbs : bs.length ≤ 4096)
    (hr : rightN k u wh nm bs.length ph pn ch = true) (w : World) (hb : BytesAt w vb bs) :
    Calls Tryz.prog 10 #[.agg (rqG k u wh nm vb ph pn ch)] w fun e w' => ∃ v', e = .returned (.tuple #[v', .int .i64 0]) ∧ Own EB w.heap.size w' v' (putRq ⟨k, u, wh, nm, bs, ph, pn, ch⟩) ∧ Below w.heap.size w w' := by
  have HBLD := Lib.hid (fun W => (by kernel_rfl : (Instr.build 81 #[]).run Tryz.prog W = .ok (.agg (mkC (.slice none 0 0))) W))
  have HWD := Lib.hid (fun W => (show Calls Tryz.prog 44 #[.int .i64 k] W fun e w' => e = .returned (.string ⟨([110] : List UInt8).toArray⟩) ∧ w' = W by have := refHas_any k W; rwa [hP] at this))
  have HPE := Lib.hid hP
  have HRT := Lib.hid (fun W (h : BytesAt W vb bs) => (show Calls Tryz.prog 14 #[.agg (rqG k u wh nm vb ph pn ch)] W fun e w' => e = .returned (.bool true) ∧ Below W.heap.size W w' by have := refRight_any k u wh nm vb bs ph pn ch hl hc (by omega) hpn W h; rwa [hr] at this))
  have HBY := Lib.hid hb
  have hek := encN_len (n := k) (by omega)
  have heu := encN_len (n := u) (by omega)
  have hew := encN_len (n := wh) (by omega)
  have HEN := Lib.hid (encN_len (n := nm.length) (by omega))
  have HEB := Lib.hid (encN_len (n := bs.length) (by omega))
  have hpl := pathS_le (n := pn) ph
  have HEP := Lib.hid (encN_len (n := (pathS ph pn).length) (by omega))
  clear hP hr hb
  go_enter Tryz.func10, Tryz.ntmps10
  go_wp2_with (first | (with_reducible refine Agg.wpList_box rfl 29 _ rfl (rqG k u wh nm vb ph pn ch) rfl ?_; intro g w1 hb1 hx1 hg; have HL := Lib.hid (RqG.of_blk hb1 hl hc); have HB := Lib.hid hb1; have HW := Lib.hid hx1; clear hb1 hx1 hg) | (with_reducible refine Agg.wpList_loadL HL.out.all rfl _ rfl rfl ?_))
  refine (HRT.out _ (HBY.out.below HW.out)).mono ?_
  rintro e w2 ⟨rfl, hx2⟩
  have HL := Lib.hid (HL.out.below hx2)
  have HB := Lib.hid (HB.out.below hx2)
  have HW := Lib.hid (Agg.belowThen HW.out (Nat.le_refl _) hx2)
  clear hx2
  go_wp2_with (first | (with_reducible refine Agg.wpList_loadL HL.out.kind rfl _ rfl rfl ?_))
  refine (HWD.out _).mono ?_
  rintro e w3 ⟨rfl, rfl⟩
  have hsz := HW.out.size
  have HBY := Lib.hid (HBY.out.below HW.out)
  go_wp2_with (first | (with_reducible refine Agg.wpList_build0 81 rfl rfl (.agg (mkC (.slice none 0 0))) HBLD.out ?_) | (with_reducible refine Agg.wpList_box rfl 81 _ rfl (mkC (.slice none 0 0)) rfl ?_; intro g4 w4 hb4 hx4 hg4; have hlt4 := hb4.lt; have HM := Lib.hid (⟨hb4, Own.nil _ _ _⟩ : MrV g4 w4 (.slice none 0 0) []); have HK := Lib.hid hx4; have HLK := Lib.hid (HL.out.below hx4); clear hb4 hx4) | (with_reducible refine Agg.wpList_loadL HLK.out.kind rfl _ rfl rfl ?_))
  have HM0 := HM
  refine (rmNum_any g4 (.slice none 0 0) k ([] : List UInt8) _ (by omega) (by simp only [List.length_nil]; omega) HM.out).mono ?_
  rintro e w5 ⟨⟨r, rfl⟩, v5, hm, hs⟩
  have HK := Lib.hid (HK.out.trans ((HM0.out.stepBelow hs).mono hg4))
  have HM := Lib.hid (show MrV g4 w5 v5 (encN k) from (by simpa using hm))
  have HV := Lib.hid (show ∀ k, v5.ownBlock = some k → w3.heap.size ≤ k from fun k hk => by have := HM.out.ge k hk; omega)
  have HLK := Lib.hid (HL.out.below HK.out)
  clear hm hs HM0
  go_wp2_with (first | (with_reducible refine Agg.wpList_loadL HLK.out.user rfl _ rfl rfl ?_))
  have HM0 := HM
  refine (rmNum_any g4 v5 u (encN k) _ (by omega) (by omega) HM.out).mono ?_
  rintro e w6 ⟨⟨r, rfl⟩, v6, hm, hs⟩
  have HK := Lib.hid (HK.out.trans ((HM0.out.stepBelow hs).mono hg4))
  have HM := Lib.hid (show MrV g4 w6 v6 ((encN k) ++ encN u) from hm)
  have HV := Lib.hid (show ∀ k, v6.ownBlock = some k → w3.heap.size ≤ k from fun k hk => by have := HM.out.ge k hk; omega)
  have HLK := Lib.hid (HL.out.below HK.out)
  clear hm hs HM0
  go_wp2_with fail
  refine (refIn_is (s := [110]) (c := 119) (b := false) (by decide) (by decide) (by omega) _).mono ?_
  rintro e w7 ⟨rfl, rfl⟩
  go_wp2_with fail
  refine (refIn_is (s := [110]) (c := 110) (b := true) (by decide) (by decide) (by omega) _).mono ?_
  rintro e w8 ⟨rfl, rfl⟩
  go_wp2_with (first | (with_reducible refine Agg.wpList_loadL HLK.out.name rfl _ rfl rfl ?_) | (with_reducible refine wpList_toBytes nm _ rfl (by kernel_rfl) rfl ?_; intro x9 w9 hn hx; have HN := Lib.hid hn; have HX := Lib.hid hx; clear hn hx))
  have HM0 := Lib.hid (HM.out.below HX.out)
  refine (rmText_any g4 v6 x9 nm _ w9 (by simp only [List.length_append]; omega) (by omega) (Off.behind (w0 := w8) HN.out.slice (newBytes_own HN.out) HM.out.blk.lt HM.out.lt) HM0.out).mono ?_
  rintro e w10 ⟨⟨r, rfl⟩, v10, hm, hs⟩
  have HK := Lib.hid (Agg.belowThen HK.out (Nat.le_refl _) HX.out)
  clear HX HN
  have HK := Lib.hid (HK.out.trans ((HM0.out.stepBelow hs).mono hg4))
  have HM := Lib.hid (show MrV g4 w10 v10 (((encN k) ++ encN u) ++ (encN nm.length ++ nm)) from hm)
  have HV := Lib.hid (show ∀ k, v10.ownBlock = some k → w3.heap.size ≤ k from fun k hk => by have := HM.out.ge k hk; omega)
  have HLK := Lib.hid (HL.out.below HK.out)
  clear hm hs HM0
  have hen := HEN.out
  go_wp2_with fail
  refine (refIn_is (s := [110]) (c := 112) (b := false) (by decide) (by decide) (by omega) _).mono ?_
  rintro e w11 ⟨rfl, rfl⟩
  go_wp2_with fail
  refine (refIn_is (s := [110]) (c := 122) (b := false) (by decide) (by decide) (by omega) _).mono ?_
  rintro e w12 ⟨rfl, rfl⟩
  go_wp2_with fail
  refine (refIn_is (s := [110]) (c := 99) (b := false) (by decide) (by decide) (by omega) _).mono ?_
  rintro e w13 ⟨rfl, rfl⟩
  go_wp2_with fail
  refine (refIn_is (s := [110]) (c := 98) (b := false) (by decide) (by decide) (by omega) _).mono ?_
  rintro e w14 ⟨rfl, rfl⟩
  have HE := Lib.hid (show (((encN k) ++ encN u) ++ (encN nm.length ++ nm)) = putRq ⟨k, u, wh, nm, bs, ph, pn, ch⟩ by
    unfold putRq
    simp only [HPE.out]
    unfold putP
    simp only [show hasN 2 1 = false from by decide, show hasN 2 2 = true from by decide, show hasN 2 12 = false from by decide, show hasN 2 16 = false from by decide, show hasN 2 32 = false from by decide, encT, if_true, Bool.false_eq_true, if_false, Int.toNat_natCast, List.append_assoc, List.nil_append, List.append_nil])
  have HKK := Lib.hid (Agg.belowThen HW.out (Nat.le_refl _) HK.out)
  have hszw := HKK.out.size
  go_wp2_with fail
  refine (rmDone_any g4 v10 _ _ (by simp only [List.length_append]; omega) HM.out).mono ?_
  rintro e w99 ⟨v99, rfl, ho7, hx7⟩
  rw [HE.out] at ho7
  have HO7 := Lib.hid (ho7.lower hszw)
  have HW7 := Lib.hid (Agg.belowThen HKK.out (Nat.le_refl _) hx7)
  clear ho7 hx7
  go_wp2_with fail
  go_ret2
  exact ⟨_, rfl, HO7.out, HW7.out⟩
end Go.Proofs.YtpnolgliklmnmaaGreat
/-! spenceref28.Put of any request. -/
namespace Go.Proofs.YtpnolgliklmnmaaGreat
open Go.RowKit Pl Go.Agg
set_option maxRecDepth 100000 in
set_option maxHeartbeats 4000000 in
theorem refPut_36 (k u wh : Nat) (nm : List UInt8) (vb : Value) (bs ph pn ch : List UInt8) (hP : partsN k = 36) (hl : ph.length = 20) (hc : ch.length = 20) (hk : k ≤ 10) (hu : u ≤ 8) (hwh : wh ≤ 16) (hnm : nm.length ≤ 24) (hpn : pn.length ≤ 1048576) (hbs : bs.length ≤ 4096)
    (hr : rightN k u wh nm bs.length ph pn ch = true) (w : World) (hb : BytesAt w vb bs) :
    Calls Tryz.prog 10 #[.agg (rqG k u wh nm vb ph pn ch)] w fun e w' => ∃ v', e = .returned (.tuple #[v', .int .i64 0]) ∧ Own EB w.heap.size w' v' (putRq ⟨k, u, wh, nm, bs, ph, pn, ch⟩) ∧ Below w.heap.size w w' := by
  have HBLD := Lib.hid (fun W => (by kernel_rfl : (Instr.build 81 #[]).run Tryz.prog W = .ok (.agg (mkC (.slice none 0 0))) W))
  have HWD := Lib.hid (fun W => (show Calls Tryz.prog 44 #[.int .i64 k] W fun e w' => e = .returned (.string ⟨([112, 98] : List UInt8).toArray⟩) ∧ w' = W by have := refHas_any k W; rwa [hP] at this))
  have HPE := Lib.hid hP
  have HRT := Lib.hid (fun W (h : BytesAt W vb bs) => (show Calls Tryz.prog 14 #[.agg (rqG k u wh nm vb ph pn ch)] W fun e w' => e = .returned (.bool true) ∧ Below W.heap.size W w' by have := refRight_any k u wh nm vb bs ph pn ch hl hc (by omega) hpn W h; rwa [hr] at this))
  have HBY := Lib.hid hb
  have hek := encN_len (n := k) (by omega)
  have heu := encN_len (n := u) (by omega)
  have hew := encN_len (n := wh) (by omega)
  have HEN := Lib.hid (encN_len (n := nm.length) (by omega))
  have HEB := Lib.hid (encN_len (n := bs.length) (by omega))
  have hpl := pathS_le (n := pn) ph
  have HEP := Lib.hid (encN_len (n := (pathS ph pn).length) (by omega))
  clear hP hr hb
  go_enter Tryz.func10, Tryz.ntmps10
  go_wp2_with (first | (with_reducible refine Agg.wpList_box rfl 29 _ rfl (rqG k u wh nm vb ph pn ch) rfl ?_; intro g w1 hb1 hx1 hg; have HL := Lib.hid (RqG.of_blk hb1 hl hc); have HB := Lib.hid hb1; have HW := Lib.hid hx1; clear hb1 hx1 hg) | (with_reducible refine Agg.wpList_loadL HL.out.all rfl _ rfl rfl ?_))
  refine (HRT.out _ (HBY.out.below HW.out)).mono ?_
  rintro e w2 ⟨rfl, hx2⟩
  have HL := Lib.hid (HL.out.below hx2)
  have HB := Lib.hid (HB.out.below hx2)
  have HW := Lib.hid (Agg.belowThen HW.out (Nat.le_refl _) hx2)
  clear hx2
  go_wp2_with (first | (with_reducible refine Agg.wpList_loadL HL.out.kind rfl _ rfl rfl ?_))
  refine (HWD.out _).mono ?_
  rintro e w3 ⟨rfl, rfl⟩
  have hsz := HW.out.size
  have HBY := Lib.hid (HBY.out.below HW.out)
  go_wp2_with (first | (with_reducible refine Agg.wpList_build0 81 rfl rfl (.agg (mkC (.slice none 0 0))) HBLD.out ?_) | (with_reducible refine Agg.wpList_box rfl 81 _ rfl (mkC (.slice none 0 0)) rfl ?_; intro g4 w4 hb4 hx4 hg4; have hlt4 := hb4.lt; have HM := Lib.hid (⟨hb4, Own.nil _ _ _⟩ : MrV g4 w4 (.slice none 0 0) []); have HK := Lib.hid hx4; have HLK := Lib.hid (HL.out.below hx4); clear hb4 hx4) | (with_reducible refine Agg.wpList_loadL HLK.out.kind rfl _ rfl rfl ?_))
  have HM0 := HM
  refine (rmNum_any g4 (.slice none 0 0) k ([] : List UInt8) _ (by omega) (by simp only [List.length_nil]; omega) HM.out).mono ?_
  rintro e w5 ⟨⟨r, rfl⟩, v5, hm, hs⟩
  have HK := Lib.hid (HK.out.trans ((HM0.out.stepBelow hs).mono hg4))
  have HM := Lib.hid (show MrV g4 w5 v5 (encN k) from (by simpa using hm))
  have HV := Lib.hid (show ∀ k, v5.ownBlock = some k → w3.heap.size ≤ k from fun k hk => by have := HM.out.ge k hk; omega)
  have HLK := Lib.hid (HL.out.below HK.out)
  clear hm hs HM0
  go_wp2_with (first | (with_reducible refine Agg.wpList_loadL HLK.out.user rfl _ rfl rfl ?_))
  have HM0 := HM
  refine (rmNum_any g4 v5 u (encN k) _ (by omega) (by omega) HM.out).mono ?_
  rintro e w6 ⟨⟨r, rfl⟩, v6, hm, hs⟩
  have HK := Lib.hid (HK.out.trans ((HM0.out.stepBelow hs).mono hg4))
  have HM := Lib.hid (show MrV g4 w6 v6 ((encN k) ++ encN u) from hm)
  have HV := Lib.hid (show ∀ k, v6.ownBlock = some k → w3.heap.size ≤ k from fun k hk => by have := HM.out.ge k hk; omega)
  have HLK := Lib.hid (HL.out.below HK.out)
  clear hm hs HM0
  go_wp2_with fail
  refine (refIn_is (s := [112, 98]) (c := 119) (b := false) (by decide) (by decide) (by omega) _).mono ?_
  rintro e w7 ⟨rfl, rfl⟩
  go_wp2_with fail
  refine (refIn_is (s := [112, 98]) (c := 110) (b := false) (by decide) (by decide) (by omega) _).mono ?_
  rintro e w8 ⟨rfl, rfl⟩
  go_wp2_with fail
  refine (refIn_is (s := [112, 98]) (c := 112) (b := true) (by decide) (by decide) (by omega) _).mono ?_
  rintro e w9 ⟨rfl, rfl⟩
  go_wp2_with (first | (with_reducible refine Agg.wpList_loadL HLK.out.path rfl _ rfl rfl ?_))
  refine (refText_any ph pn hl (by omega) _).mono ?_
  rintro e w10 ⟨x10, rfl, hn, hy, hx⟩
  have HN := Lib.hid hn
  have HX := Lib.hid hx
  have HY := Lib.hid hy
  clear hn hx hy
  go_wp2_with fail
  have HM0 := Lib.hid (HM.out.below HX.out)
  refine (rmText_any g4 v6 x10 (pathS ph pn) _ w10 (by simp only [List.length_append]; omega) (by omega) (Off.behind (w0 := w9) HN.out HY.out HM.out.blk.lt HM.out.lt) HM0.out).mono ?_
  rintro e w11 ⟨⟨r, rfl⟩, v11, hm, hs⟩
  have HK := Lib.hid (Agg.belowThen HK.out (Nat.le_refl _) HX.out)
  clear HX HN HY
  have HK := Lib.hid (HK.out.trans ((HM0.out.stepBelow hs).mono hg4))
  have HM := Lib.hid (show MrV g4 w11 v11 (((encN k) ++ encN u) ++ (encN (pathS ph pn).length ++ pathS ph pn)) from hm)
  have HV := Lib.hid (show ∀ k, v11.ownBlock = some k → w3.heap.size ≤ k from fun k hk => by have := HM.out.ge k hk; omega)
  have HLK := Lib.hid (HL.out.below HK.out)
  clear hm hs HM0
  have hep := HEP.out
  go_wp2_with fail
  refine (refIn_is (s := [112, 98]) (c := 99) (b := false) (by decide) (by decide) (by omega) _).mono ?_
  rintro e w12 ⟨rfl, rfl⟩
  go_wp2_with fail
  refine (refIn_is (s := [112, 98]) (c := 98) (b := true) (by decide) (by decide) (by omega) _).mono ?_
  rintro e w13 ⟨rfl, rfl⟩
  go_wp2_with (first | (with_reducible refine Agg.wpList_loadL HLK.out.bytes rfl _ rfl rfl ?_))
  have HM0 := HM
  refine (rmText_any g4 v11 vb bs _ w13 (by simp only [List.length_append]; omega) (by omega) (Off.before (w0 := w3) HBY.out HK.out hg4 HV.out) HM0.out).mono ?_
  rintro e w14 ⟨⟨r, rfl⟩, v14, hm, hs⟩
  have HK := Lib.hid (HK.out.trans ((HM0.out.stepBelow hs).mono hg4))
  have HM := Lib.hid (show MrV g4 w14 v14 ((((encN k) ++ encN u) ++ (encN (pathS ph pn).length ++ pathS ph pn)) ++ (encN bs.length ++ bs)) from hm)
  have HV := Lib.hid (show ∀ k, v14.ownBlock = some k → w3.heap.size ≤ k from fun k hk => by have := HM.out.ge k hk; omega)
  have HLK := Lib.hid (HL.out.below HK.out)
  clear hm hs HM0
  have heb := HEB.out
  have HE := Lib.hid (show ((((encN k) ++ encN u) ++ (encN (pathS ph pn).length ++ pathS ph pn)) ++ (encN bs.length ++ bs)) = putRq ⟨k, u, wh, nm, bs, ph, pn, ch⟩ by
    unfold putRq
    simp only [HPE.out]
    unfold putP
    simp only [show hasN 36 1 = false from by decide, show hasN 36 2 = false from by decide, show hasN 36 12 = true from by decide, show hasN 36 16 = false from by decide, show hasN 36 32 = true from by decide, encT, if_true, Bool.false_eq_true, if_false, Int.toNat_natCast, List.append_assoc, List.nil_append])
  have HKK := Lib.hid (Agg.belowThen HW.out (Nat.le_refl _) HK.out)
  have hszw := HKK.out.size
  go_wp2_with fail
  refine (rmDone_any g4 v14 _ _ (by simp only [List.length_append]; omega) HM.out).mono ?_
  rintro e w99 ⟨v99, rfl, ho7, hx7⟩
  rw [HE.out] at ho7
  have HO7 := Lib.hid (ho7.lower hszw)
  have HW7 := Lib.hid (Agg.belowThen HKK.out (Nat.le_refl _) hx7)
  clear ho7 hx7
  go_wp2_with fail
  go_ret2
  exact ⟨_, rfl, HO7.out, HW7.out⟩
set_option maxRecDepth 100000 in
set_option maxHeartbeats 4000000 in
theorem refPut_8 (k u wh : Nat) (nm : List UInt8) (vb : Value) (bs ph pn ch : List UInt8) (hP : partsN k = 8) (hl : ph.length = 20) (hc : ch.length = 20) (hk : k ≤ 10) (hu : u ≤ 8) (hwh : wh ≤ 16) (hnm : nm.length ≤ 24) (hpn : pn.length ≤ 1048576) (hbs : bs.length ≤ 4096)
    (hr : rightN k u wh nm bs.length ph pn ch = true) (w : World) (hb : BytesAt w vb bs) :
    Calls Tryz.prog 10 #[.agg (rqG k u wh nm vb ph pn ch)] w fun e w' => ∃ v', e = .returned (.tuple #[v', .int .i64 0]) ∧ Own EB w.heap.size w' v' (putRq ⟨k, u, wh, nm, bs, ph, pn, ch⟩) ∧ Below w.heap.size w w' := by
  have HBLD := Lib.hid (fun W => (by kernel_rfl : (Instr.build 81 #[]).run Tryz.prog W = .ok (.agg (mkC (.slice none 0 0))) W))
  have HWD := Lib.hid (fun W => (show Calls Tryz.prog 44 #[.int .i64 k] W fun e w' => e = .returned (.string ⟨([122] : List UInt8).toArray⟩) ∧ w' = W by have := refHas_any k W; rwa [hP] at this))
  have HPE := Lib.hid hP
  have HRT := Lib.hid (fun W (h : BytesAt W vb bs) => (show Calls Tryz.prog 14 #[.agg (rqG k u wh nm vb ph pn ch)] W fun e w' => e = .returned (.bool true) ∧ Below W.heap.size W w' by have := refRight_any k u wh nm vb bs ph pn ch hl hc (by omega) hpn W h; rwa [hr] at this))
  have HBY := Lib.hid hb
  have hek := encN_len (n := k) (by omega)
  have heu := encN_len (n := u) (by omega)
  have hew := encN_len (n := wh) (by omega)
  have HEN := Lib.hid (encN_len (n := nm.length) (by omega))
  have HEB := Lib.hid (encN_len (n := bs.length) (by omega))
  have hpl := pathS_le (n := pn) ph
  have HEP := Lib.hid (encN_len (n := (pathS ph pn).length) (by omega))
  clear hP hr hb
  go_enter Tryz.func10, Tryz.ntmps10
  go_wp2_with (first | (with_reducible refine Agg.wpList_box rfl 29 _ rfl (rqG k u wh nm vb ph pn ch) rfl ?_; intro g w1 hb1 hx1 hg; have HL := Lib.hid (RqG.of_blk hb1 hl hc); have HB := Lib.hid hb1; have HW := Lib.hid hx1; clear hb1 hx1 hg) | (with_reducible refine Agg.wpList_loadL HL.out.all rfl _ rfl rfl ?_))
  refine (HRT.out _ (HBY.out.below HW.out)).mono ?_
  rintro e w2 ⟨rfl, hx2⟩
  have HL := Lib.hid (HL.out.below hx2)
  have HB := Lib.hid (HB.out.below hx2)
  have HW := Lib.hid (Agg.belowThen HW.out (Nat.le_refl _) hx2)
  clear hx2
  go_wp2_with (first | (with_reducible refine Agg.wpList_loadL HL.out.kind rfl _ rfl rfl ?_))
  refine (HWD.out _).mono ?_
  rintro e w3 ⟨rfl, rfl⟩
  have hsz := HW.out.size
  have HBY := Lib.hid (HBY.out.below HW.out)
  go_wp2_with (first | (with_reducible refine Agg.wpList_build0 81 rfl rfl (.agg (mkC (.slice none 0 0))) HBLD.out ?_) | (with_reducible refine Agg.wpList_box rfl 81 _ rfl (mkC (.slice none 0 0)) rfl ?_; intro g4 w4 hb4 hx4 hg4; have hlt4 := hb4.lt; have HM := Lib.hid (⟨hb4, Own.nil _ _ _⟩ : MrV g4 w4 (.slice none 0 0) []); have HK := Lib.hid hx4; have HLK := Lib.hid (HL.out.below hx4); clear hb4 hx4) | (with_reducible refine Agg.wpList_loadL HLK.out.kind rfl _ rfl rfl ?_))
  have HM0 := HM
  refine (rmNum_any g4 (.slice none 0 0) k ([] : List UInt8) _ (by omega) (by simp only [List.length_nil]; omega) HM.out).mono ?_
  rintro e w5 ⟨⟨r, rfl⟩, v5, hm, hs⟩
  have HK := Lib.hid (HK.out.trans ((HM0.out.stepBelow hs).mono hg4))
  have HM := Lib.hid (show MrV g4 w5 v5 (encN k) from (by simpa using hm))
  have HV := Lib.hid (show ∀ k, v5.ownBlock = some k → w3.heap.size ≤ k from fun k hk => by have := HM.out.ge k hk; omega)
  have HLK := Lib.hid (HL.out.below HK.out)
  clear hm hs HM0
  go_wp2_with (first | (with_reducible refine Agg.wpList_loadL HLK.out.user rfl _ rfl rfl ?_))
  have HM0 := HM
  refine (rmNum_any g4 v5 u (encN k) _ (by omega) (by omega) HM.out).mono ?_
  rintro e w6 ⟨⟨r, rfl⟩, v6, hm, hs⟩
  have HK := Lib.hid (HK.out.trans ((HM0.out.stepBelow hs).mono hg4))
  have HM := Lib.hid (show MrV g4 w6 v6 ((encN k) ++ encN u) from hm)
  have HV := Lib.hid (show ∀ k, v6.ownBlock = some k → w3.heap.size ≤ k from fun k hk => by have := HM.out.ge k hk; omega)
  have HLK := Lib.hid (HL.out.below HK.out)
  clear hm hs HM0
  go_wp2_with fail
  refine (refIn_is (s := [122]) (c := 119) (b := false) (by decide) (by decide) (by omega) _).mono ?_
  rintro e w7 ⟨rfl, rfl⟩
  go_wp2_with fail
  refine (refIn_is (s := [122]) (c := 110) (b := false) (by decide) (by decide) (by omega) _).mono ?_
  rintro e w8 ⟨rfl, rfl⟩
  go_wp2_with fail
  refine (refIn_is (s := [122]) (c := 112) (b := false) (by decide) (by decide) (by omega) _).mono ?_
  rintro e w9 ⟨rfl, rfl⟩
  go_wp2_with fail
  refine (refIn_is (s := [122]) (c := 122) (b := true) (by decide) (by decide) (by omega) _).mono ?_
  rintro e w10 ⟨rfl, rfl⟩
  go_wp2_with (first | (with_reducible refine Agg.wpList_loadL HLK.out.path rfl _ rfl rfl ?_))
  refine (refText_any ph pn hl (by omega) _).mono ?_
  rintro e w11 ⟨x11, rfl, hn, hy, hx⟩
  have HN := Lib.hid hn
  have HX := Lib.hid hx
  have HY := Lib.hid hy
  clear hn hx hy
  go_wp2_with fail
  have HM0 := Lib.hid (HM.out.below HX.out)
  refine (rmText_any g4 v6 x11 (pathS ph pn) _ w11 (by simp only [List.length_append]; omega) (by omega) (Off.behind (w0 := w10) HN.out HY.out HM.out.blk.lt HM.out.lt) HM0.out).mono ?_
  rintro e w12 ⟨⟨r, rfl⟩, v12, hm, hs⟩
  have HK := Lib.hid (Agg.belowThen HK.out (Nat.le_refl _) HX.out)
  clear HX HN HY
  have HK := Lib.hid (HK.out.trans ((HM0.out.stepBelow hs).mono hg4))
  have HM := Lib.hid (show MrV g4 w12 v12 (((encN k) ++ encN u) ++ (encN (pathS ph pn).length ++ pathS ph pn)) from hm)
  have HV := Lib.hid (show ∀ k, v12.ownBlock = some k → w3.heap.size ≤ k from fun k hk => by have := HM.out.ge k hk; omega)
  have HLK := Lib.hid (HL.out.below HK.out)
  clear hm hs HM0
  have hep := HEP.out
  go_wp2_with fail
  refine (refIn_is (s := [122]) (c := 99) (b := false) (by decide) (by decide) (by omega) _).mono ?_
  rintro e w13 ⟨rfl, rfl⟩
  go_wp2_with fail
  refine (refIn_is (s := [122]) (c := 98) (b := false) (by decide) (by decide) (by omega) _).mono ?_
  rintro e w14 ⟨rfl, rfl⟩
  have HE := Lib.hid (show (((encN k) ++ encN u) ++ (encN (pathS ph pn).length ++ pathS ph pn)) = putRq ⟨k, u, wh, nm, bs, ph, pn, ch⟩ by
    unfold putRq
    simp only [HPE.out]
    unfold putP
    simp only [show hasN 8 1 = false from by decide, show hasN 8 2 = false from by decide, show hasN 8 12 = true from by decide, show hasN 8 16 = false from by decide, show hasN 8 32 = false from by decide, encT, if_true, Bool.false_eq_true, if_false, Int.toNat_natCast, List.append_assoc, List.nil_append, List.append_nil])
  have HKK := Lib.hid (Agg.belowThen HW.out (Nat.le_refl _) HK.out)
  have hszw := HKK.out.size
  go_wp2_with fail
  refine (rmDone_any g4 v12 _ _ (by simp only [List.length_append]; omega) HM.out).mono ?_
  rintro e w99 ⟨v99, rfl, ho7, hx7⟩
  rw [HE.out] at ho7
  have HO7 := Lib.hid (ho7.lower hszw)
  have HW7 := Lib.hid (Agg.belowThen HKK.out (Nat.le_refl _) hx7)
  clear ho7 hx7
  go_wp2_with fail
  go_ret2
  exact ⟨_, rfl, HO7.out, HW7.out⟩
set_option maxRecDepth 100000 in
set_option maxHeartbeats 4000000 in
theorem refPut_0 (k u wh : Nat) (nm : List UInt8) (vb : Value) (bs ph pn ch : List UInt8) (hP : partsN k = 0) (hl : ph.length = 20) (hc : ch.length = 20) (hk : k ≤ 10) (hu : u ≤ 8) (hwh : wh ≤ 16) (hnm : nm.length ≤ 24) (hpn : pn.length ≤ 1048576) (hbs : bs.length ≤ 4096)
    (hr : rightN k u wh nm bs.length ph pn ch = true) (w : World) (hb : BytesAt w vb bs) :
    Calls Tryz.prog 10 #[.agg (rqG k u wh nm vb ph pn ch)] w fun e w' => ∃ v', e = .returned (.tuple #[v', .int .i64 0]) ∧ Own EB w.heap.size w' v' (putRq ⟨k, u, wh, nm, bs, ph, pn, ch⟩) ∧ Below w.heap.size w w' := by
  have HBLD := Lib.hid (fun W => (by kernel_rfl : (Instr.build 81 #[]).run Tryz.prog W = .ok (.agg (mkC (.slice none 0 0))) W))
  have HWD := Lib.hid (fun W => (show Calls Tryz.prog 44 #[.int .i64 k] W fun e w' => e = .returned (.string ⟨([] : List UInt8).toArray⟩) ∧ w' = W by have := refHas_any k W; rwa [hP] at this))
  have HPE := Lib.hid hP
  have HRT := Lib.hid (fun W (h : BytesAt W vb bs) => (show Calls Tryz.prog 14 #[.agg (rqG k u wh nm vb ph pn ch)] W fun e w' => e = .returned (.bool true) ∧ Below W.heap.size W w' by have := refRight_any k u wh nm vb bs ph pn ch hl hc (by omega) hpn W h; rwa [hr] at this))
  have HBY := Lib.hid hb
  have hek := encN_len (n := k) (by omega)
  have heu := encN_len (n := u) (by omega)
  have hew := encN_len (n := wh) (by omega)
  have HEN := Lib.hid (encN_len (n := nm.length) (by omega))
  have HEB := Lib.hid (encN_len (n := bs.length) (by omega))
  have hpl := pathS_le (n := pn) ph
  have HEP := Lib.hid (encN_len (n := (pathS ph pn).length) (by omega))
  clear hP hr hb
  go_enter Tryz.func10, Tryz.ntmps10
  go_wp2_with (first | (with_reducible refine Agg.wpList_box rfl 29 _ rfl (rqG k u wh nm vb ph pn ch) rfl ?_; intro g w1 hb1 hx1 hg; have HL := Lib.hid (RqG.of_blk hb1 hl hc); have HB := Lib.hid hb1; have HW := Lib.hid hx1; clear hb1 hx1 hg) | (with_reducible refine Agg.wpList_loadL HL.out.all rfl _ rfl rfl ?_))
  refine (HRT.out _ (HBY.out.below HW.out)).mono ?_
  rintro e w2 ⟨rfl, hx2⟩
  have HL := Lib.hid (HL.out.below hx2)
  have HB := Lib.hid (HB.out.below hx2)
  have HW := Lib.hid (Agg.belowThen HW.out (Nat.le_refl _) hx2)
  clear hx2
  go_wp2_with (first | (with_reducible refine Agg.wpList_loadL HL.out.kind rfl _ rfl rfl ?_))
  refine (HWD.out _).mono ?_
  rintro e w3 ⟨rfl, rfl⟩
  have hsz := HW.out.size
  have HBY := Lib.hid (HBY.out.below HW.out)
  go_wp2_with (first | (with_reducible refine Agg.wpList_build0 81 rfl rfl (.agg (mkC (.slice none 0 0))) HBLD.out ?_) | (with_reducible refine Agg.wpList_box rfl 81 _ rfl (mkC (.slice none 0 0)) rfl ?_; intro g4 w4 hb4 hx4 hg4; have hlt4 := hb4.lt; have HM := Lib.hid (⟨hb4, Own.nil _ _ _⟩ : MrV g4 w4 (.slice none 0 0) []); have HK := Lib.hid hx4; have HLK := Lib.hid (HL.out.below hx4); clear hb4 hx4) | (with_reducible refine Agg.wpList_loadL HLK.out.kind rfl _ rfl rfl ?_))
  have HM0 := HM
  refine (rmNum_any g4 (.slice none 0 0) k ([] : List UInt8) _ (by omega) (by simp only [List.length_nil]; omega) HM.out).mono ?_
  rintro e w5 ⟨⟨r, rfl⟩, v5, hm, hs⟩
  have HK := Lib.hid (HK.out.trans ((HM0.out.stepBelow hs).mono hg4))
  have HM := Lib.hid (show MrV g4 w5 v5 (encN k) from (by simpa using hm))
  have HV := Lib.hid (show ∀ k, v5.ownBlock = some k → w3.heap.size ≤ k from fun k hk => by have := HM.out.ge k hk; omega)
  have HLK := Lib.hid (HL.out.below HK.out)
  clear hm hs HM0
  go_wp2_with (first | (with_reducible refine Agg.wpList_loadL HLK.out.user rfl _ rfl rfl ?_))
  have HM0 := HM
  refine (rmNum_any g4 v5 u (encN k) _ (by omega) (by omega) HM.out).mono ?_
  rintro e w6 ⟨⟨r, rfl⟩, v6, hm, hs⟩
  have HK := Lib.hid (HK.out.trans ((HM0.out.stepBelow hs).mono hg4))
  have HM := Lib.hid (show MrV g4 w6 v6 ((encN k) ++ encN u) from hm)
  have HV := Lib.hid (show ∀ k, v6.ownBlock = some k → w3.heap.size ≤ k from fun k hk => by have := HM.out.ge k hk; omega)
  have HLK := Lib.hid (HL.out.below HK.out)
  clear hm hs HM0
  go_wp2_with fail
  refine (refIn_is (s := []) (c := 119) (b := false) (by decide) (by decide) (by omega) _).mono ?_
  rintro e w7 ⟨rfl, rfl⟩
  go_wp2_with fail
  refine (refIn_is (s := []) (c := 110) (b := false) (by decide) (by decide) (by omega) _).mono ?_
  rintro e w8 ⟨rfl, rfl⟩
  go_wp2_with fail
  refine (refIn_is (s := []) (c := 112) (b := false) (by decide) (by decide) (by omega) _).mono ?_
  rintro e w9 ⟨rfl, rfl⟩
  go_wp2_with fail
  refine (refIn_is (s := []) (c := 122) (b := false) (by decide) (by decide) (by omega) _).mono ?_
  rintro e w10 ⟨rfl, rfl⟩
  go_wp2_with fail
  refine (refIn_is (s := []) (c := 99) (b := false) (by decide) (by decide) (by omega) _).mono ?_
  rintro e w11 ⟨rfl, rfl⟩
  go_wp2_with fail
  refine (refIn_is (s := []) (c := 98) (b := false) (by decide) (by decide) (by omega) _).mono ?_
  rintro e w12 ⟨rfl, rfl⟩
  have HE := Lib.hid (show ((encN k) ++ encN u) = putRq ⟨k, u, wh, nm, bs, ph, pn, ch⟩ by
    unfold putRq
    simp only [HPE.out]
    unfold putP
    simp only [show hasN 0 1 = false from by decide, show hasN 0 2 = false from by decide, show hasN 0 12 = false from by decide, show hasN 0 16 = false from by decide, show hasN 0 32 = false from by decide, Bool.false_eq_true, if_false, Int.toNat_natCast, List.append_nil])
  have HKK := Lib.hid (Agg.belowThen HW.out (Nat.le_refl _) HK.out)
  have hszw := HKK.out.size
  go_wp2_with fail
  refine (rmDone_any g4 v6 _ _ (by simp only [List.length_append]; omega) HM.out).mono ?_
  rintro e w99 ⟨v99, rfl, ho7, hx7⟩
  rw [HE.out] at ho7
  have HO7 := Lib.hid (ho7.lower hszw)
  have HW7 := Lib.hid (Agg.belowThen HKK.out (Nat.le_refl _) hx7)
  clear ho7 hx7
  go_wp2_with fail
  go_ret2
  exact ⟨_, rfl, HO7.out, HW7.out⟩
end Go.Proofs.YtpnolgliklmnmaaGreat
