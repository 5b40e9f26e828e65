/- wire.PutReply of any reply. (Several texts in one.) -/
import Derived.Test.YtpnolgliklmnmaaGetB
import Derived.Test.YtpnolgliklmnmaaRightA
import Derived.Test.YtpnolgliklmnmaaWake2
import Derived.Test.YtpnolgliklmnmaaConv
/-! wire.Put of any request. -/
namespace Go.Proofs.Ytpnolgliklmnmaa
open Go.RowKit Pl Go.Agg
theorem newBytes_own {w w' : World} {v : Value} {s : List UInt8} (h : NewBytes w w' v s) : ∀ k, v.ownBlock = some k → w.heap.size ≤ k := by
  obtain ⟨cap, fr, rfl, _⟩ := h
  intro k hk
  simp only [Value.ownBlock, Option.some.injEq] at hk
  omega
theorem bytes_sv {w : World} {v : Value} {l : List UInt8} (h : BytesAt w v l) : ∃ s : SV, v = s.1 := by
  obtain ⟨p, c, hf⟩ := h.form
  exact ⟨⟨v, p, _, c, hf⟩, rfl⟩
theorem newBytes_sv {w w' : World} {v : Value} {s : List UInt8} (h : NewBytes w w' v s) : ∃ s : SV, v = s.1 := bytes_sv h.slice
theorem slice_at26 (g : Nat) (w : World) : (Instr.sliceAt 42 (.pointer (some ⟨g, 26, none⟩)) none none none).run Try.prog w = .ok (.slice (some ⟨g, 26, none⟩) 20 20) w := by kernel_rfl
theorem rq_class_slice {w : World} {g : Nat} {k u wh : Int} {nm : List UInt8} {vb : Value} {ph pn ch : List UInt8} (h : Blk w g 46 (rqG k u wh nm vb ph pn ch)) (hl : ph.length = 20) (hc : ch.length = 20) : SliceOf EB w (.slice (some ⟨g, 26, none⟩) 20 20) ch := by
  refine .inr ⟨_, 20, by rw [hc], h.lt, fun j v hj => ?_⟩
  rw [add_plain, h.cell]
  refine rqG_class hl j v ?_
  rw [flat_bytes] at hj
  simpa [hC] using hj
end Go.Proofs.Ytpnolgliklmnmaa
/-! wire.Put of any request. -/
namespace Go.Proofs.Ytpnolgliklmnmaa
open Go.RowKit Pl Go.Agg
set_option maxRecDepth 100000 in
set_option maxHeartbeats 4000000 in
theorem rput_34 (k u wh : Nat) (nm : List UInt8) (vb : Value) (bs ph pn ch : List UInt8) (hP : partsN k = 34) (hl : ph.length = 20) (hc : ch.length = 20) (hk : k ≤ 10) (hu : u ≤ 8) (hwh : wh ≤ 16) (hnm : nm.length ≤ 24) (hbs : bs.length ≤ 4096)
    (hr : rightN k u wh nm bs.length ph pn ch = true) (w : World) (hb : BytesAt w vb bs) :
    Calls Try.prog 22 #[.agg (rqG k u wh nm vb ph pn ch)] w fun e w' => ∃ v', e = .returned (.tuple #[v', .int .i64 0]) ∧ Own EB w.heap.size w' v' (putRq ⟨k, u, wh, nm, bs, ph, pn, ch⟩) ∧ Below w.heap.size w w' := by
  have HBLD := Lib.hid (fun W => (by kernel_rfl : (Instr.build 74 #[]).run Try.prog W = .ok (.agg (mkC (.slice none 0 0))) W))
  have HP := Lib.hid (fun W => (show Calls Try.prog 45 #[.int .i64 k] W fun e w' => e = .returned (.int .u8 34) ∧ w' = W by have := parts_any k W; rwa [hP] at this))
  have HPE := Lib.hid hP
  have HRT := Lib.hid (fun W (h : BytesAt W vb bs) => (show Calls Try.prog 23 #[.agg (rqG k u wh nm vb ph pn ch)] W fun e w' => e = .returned (.bool true) ∧ Below W.heap.size W w' by have := right_any k u wh nm vb bs ph pn ch hl hc W h; rwa [hr] at this))
  have HBY := Lib.hid hb
  have hek := encN_len (n := k) (by omega)
  have heu := encN_len (n := u) (by omega)
  have hew := encN_len (n := wh) (by omega)
  have HEN := Lib.hid (encN_len (n := nm.length) (by omega))
  have HEB := Lib.hid (encN_len (n := bs.length) (by omega))
  have hpl := pathS_le (n := pn) ph
  have HEP := Lib.hid (encN_len (n := (pathS ph pn).length) (by omega))
  clear hP hr hb
  go_enter Try.func22, Try.ntmps22
  go_wp2_with (first | (with_reducible refine Agg.wpList_box rfl 46 _ rfl (rqG k u wh nm vb ph pn ch) rfl ?_; intro g w1 hb1 hx1 hg; have HL := Lib.hid (RqG.of_blk hb1 hl hc); have HB := Lib.hid hb1; have HW := Lib.hid hx1; clear hb1 hx1 hg) | (with_reducible refine Agg.wpList_loadL HL.out.all rfl _ rfl rfl ?_))
  refine (HRT.out _ (HBY.out.below HW.out)).mono ?_
  rintro e w2 ⟨rfl, hx2⟩
  have HL := Lib.hid (HL.out.below hx2)
  have HB := Lib.hid (HB.out.below hx2)
  have HW := Lib.hid (Agg.belowThen HW.out (Nat.le_refl _) hx2)
  clear hx2
  go_wp2_with (first | (with_reducible refine Agg.wpList_loadL HL.out.kind rfl _ rfl rfl ?_))
  refine (HP.out _).mono ?_
  rintro e w3 ⟨rfl, rfl⟩
  have hsz := HW.out.size
  have HBY := Lib.hid (HBY.out.below HW.out)
  go_wp2_with (first | (with_reducible refine Agg.wpList_build0 74 rfl rfl (.agg (mkC (.slice none 0 0))) HBLD.out ?_) | (with_reducible refine Agg.wpList_box rfl 74 _ rfl (mkC (.slice none 0 0)) rfl ?_; intro g4 w4 hb4 hx4 hg4; have hlt4 := hb4.lt; have HB4 := Lib.hid hb4; have HX4 := Lib.hid hx4; have HL4 := Lib.hid (HL.out.below hx4); clear hb4 hx4) | (with_reducible refine Agg.wpList_loadL HL4.out.kind rfl _ rfl rfl ?_) | (with_reducible refine Agg.wpList_loadL HL4.out.user rfl _ rfl rfl ?_) | (refine Agg.wpList_slice2O (E := EI) rfl _ _ rfl k u rfl rfl ?_; intro xs w5 hxs hown5 hx5; have HXS := Lib.hid hxs; have HX5 := Lib.hid hx5; have HOW := Lib.hid hown5; clear hxs hx5 hown5))
  have hm5 : MkV g4 w5 (.slice none 0 0) [] := ⟨HB4.out.below HX5.out, Own.nil _ _ _⟩
  have hno : ∀ k, (Value.slice none 0 0).ownBlock ≠ some k := fun k h => by simp [Value.ownBlock] at h
  refine (num_any g4 _ xs [k, u] [] w5 (by intro n hn; simp only [List.mem_cons, List.not_mem_nil, or_false] at hn; rcases hn with rfl | rfl <;> omega) (by simp) (by simp) (Off.behind (w0 := w4) HXS.out HOW.out hlt4 (fun k hk => absurd hk (hno k))) hm5).mono ?_
  rintro e w6 ⟨rfl, v6, hm6, hs6⟩
  have h6 := hm5.stepBelow hs6
  have h36 : Below w3.heap.size w3 w6 := (Agg.belowThen HX4.out (Nat.le_refl _) HX5.out).trans (h6.mono hg4)
  have HM := Lib.hid (show MkV g4 w6 v6 (encN k ++ encN u) by simpa using hm6)
  have HK := Lib.hid h36
  clear hm5 hm6 hs6 h6 h36 hno
  have hv : ∀ k, v6.ownBlock = some k → w3.heap.size ≤ k := fun k hk => by have := HM.out.ge k hk; omega
  have HV := Lib.hid hv
  clear hv
  go_wp2_with fail
  refine (hasB (P := 34) (c := 1) (b := false) (by omega) (by omega) (by decide) _).mono ?_
  rintro e u8 ⟨rfl, rfl⟩
  go_wp2_with fail
  refine (hasB (P := 34) (c := 2) (b := true) (by omega) (by omega) (by decide) _).mono ?_
  rintro e u9 ⟨rfl, rfl⟩
  have HLW := Lib.hid (HL.out.below HK.out)
  go_wp2_with (first | (with_reducible refine Agg.wpList_loadL HLW.out.name rfl _ rfl rfl ?_) | (with_reducible refine wpList_toBytes nm _ rfl (by kernel_rfl) rfl ?_; intro x10 w10 hn hx; have HN := Lib.hid hn; have HX := Lib.hid hx; obtain ⟨sv, hsv⟩ := newBytes_sv hn; have HSV := Lib.hid hsv; clear hn hx hsv) | (refine Agg.wpList_slice1 (E := EBB) (base := w10.heap.size) rfl _ rfl sv HSV.out (Nat.le_refl _) ?_; intro xs11 w11 hxs hx; have HXS := Lib.hid hxs; have HX2 := Lib.hid hx; clear hxs hx))
  have hx := Agg.belowThen HX.out (Nat.le_refl _) HX2.out
  have HM0 := Lib.hid (HM.out.below hx)
  refine (text_any g4 v6 xs11 sv nm _ w11 (by simp only [List.length_append]; omega) (by omega) (Off.behind (w0 := u9) HXS.out.slice (fun k hk => Nat.le_trans HX.out.size (HXS.out.block k hk).1) HM.out.blk.lt HM.out.lt) (Off.behind (w0 := u9) (by rw [← HSV.out]; exact HN.out.slice.below HX2.out) (by rw [← HSV.out]; exact newBytes_own HN.out) HM.out.blk.lt HM.out.lt) HM0.out).mono ?_
  rintro e w12 ⟨rfl, v12, hm, hs⟩
  have HK := Lib.hid (Agg.belowThen HK.out (Nat.le_refl _) hx)
  clear HLW HXS HX HX2 hx HN HSV
  have HK := Lib.hid (HK.out.trans ((HM0.out.stepBelow hs).mono hg4))
  have HM := Lib.hid (show MkV g4 w12 v12 ((encN k ++ encN u) ++ (encN nm.length ++ nm)) from hm)
  have HV := Lib.hid (show ∀ k, v12.ownBlock = some k → w3.heap.size ≤ k from fun k hk => by have := HM.out.ge k hk; omega)
  clear hm hs HM0
  have hen := HEN.out
  go_wp2_with fail
  refine (hasB (P := 34) (c := 12) (b := false) (by omega) (by omega) (by decide) _).mono ?_
  rintro e u13 ⟨rfl, rfl⟩
  go_wp2_with fail
  refine (hasB (P := 34) (c := 16) (b := false) (by omega) (by omega) (by decide) _).mono ?_
  rintro e u14 ⟨rfl, rfl⟩
  go_wp2_with fail
  refine (hasB (P := 34) (c := 32) (b := true) (by omega) (by omega) (by decide) _).mono ?_
  rintro e u15 ⟨rfl, rfl⟩
  have HLW := Lib.hid (HL.out.below HK.out)
  obtain ⟨sv, hsv⟩ := bytes_sv HBY.out
  have HSV := Lib.hid hsv
  clear hsv
  go_wp2_with (first | (with_reducible refine Agg.wpList_loadL HLW.out.bytes rfl _ rfl rfl ?_) | (refine Agg.wpList_slice1 (E := EBB) (base := u15.heap.size) rfl _ rfl sv HSV.out (Nat.le_refl _) ?_; intro xs17 w17 hxs hx; have HXS := Lib.hid hxs; have HX := Lib.hid hx; clear hxs hx))
  have HM0 := Lib.hid (HM.out.below HX.out)
  refine (text_any g4 v12 xs17 sv bs _ w17 (by simp only [List.length_append]; omega) (by omega) (Off.behind (w0 := u15) HXS.out.slice (fun k hk => (HXS.out.block k hk).1) HM.out.blk.lt HM.out.lt) (Off.before (w0 := w3) (by rw [← HSV.out]; exact HBY.out) (Agg.belowThen HK.out (Nat.le_refl _) HX.out) hg4 HV.out) HM0.out).mono ?_
  rintro e w18 ⟨rfl, v18, hm, hs⟩
  have HK := Lib.hid (Agg.belowThen HK.out (Nat.le_refl _) HX.out)
  clear HLW HXS HX HSV
  have HK := Lib.hid (HK.out.trans ((HM0.out.stepBelow hs).mono hg4))
  have HM := Lib.hid (show MkV g4 w18 v18 (((encN k ++ encN u) ++ (encN nm.length ++ nm)) ++ (encN bs.length ++ bs)) from hm)
  have HV := Lib.hid (show ∀ k, v18.ownBlock = some k → w3.heap.size ≤ k from fun k hk => by have := HM.out.ge k hk; omega)
  clear hm hs HM0
  have heb := HEB.out
  have HE := Lib.hid (show (((encN k ++ encN u) ++ (encN nm.length ++ nm)) ++ (encN bs.length ++ bs)) = putRq ⟨k, u, wh, nm, bs, ph, pn, ch⟩ by
    unfold putRq
    simp only [HPE.out]
    unfold putP
    simp only [show hasN 34 1 = false from by decide, show hasN 34 2 = true from by decide, show hasN 34 12 = false from by decide, show hasN 34 16 = false from by decide, show hasN 34 32 = true from by decide, encT, if_true, Bool.false_eq_true, if_false, Int.toNat_natCast, List.append_assoc, List.nil_append])
  have HKK := Lib.hid (Agg.belowThen HW.out (Nat.le_refl _) HK.out)
  have hszw := HKK.out.size
  go_wp2_with fail
  refine (done_any g4 v18 _ _ (by simp only [List.length_append]; omega) HM.out).mono ?_
  rintro e w7 ⟨v7, rfl, ho7, hx7⟩
  rw [HE.out] at ho7
  have HO7 := Lib.hid (ho7.lower hszw)
  have HW7 := Lib.hid (Agg.belowThen HKK.out (Nat.le_refl _) hx7)
  clear ho7 hx7
  go_wp2_with fail
  go_ret2
  exact ⟨_, rfl, HO7.out, HW7.out⟩
set_option maxRecDepth 100000 in
set_option maxHeartbeats 4000000 in
theorem rput_32 (k u wh : Nat) (nm : List UInt8) (vb : Value) (bs ph pn ch : List UInt8) (hP : partsN k = 32) (hl : ph.length = 20) (hc : ch.length = 20) (hk : k ≤ 10) (hu : u ≤ 8) (hwh : wh ≤ 16) (hnm : nm.length ≤ 24) (hbs : bs.length ≤ 4096)
    (hr : rightN k u wh nm bs.length ph pn ch = true) (w : World) (hb : BytesAt w vb bs) :
    Calls Try.prog 22 #[.agg (rqG k u wh nm vb ph pn ch)] w fun e w' => ∃ v', e = .returned (.tuple #[v', .int .i64 0]) ∧ Own EB w.heap.size w' v' (putRq ⟨k, u, wh, nm, bs, ph, pn, ch⟩) ∧ Below w.heap.size w w' := by
  have HBLD := Lib.hid (fun W => (by kernel_rfl : (Instr.build 74 #[]).run Try.prog W = .ok (.agg (mkC (.slice none 0 0))) W))
  have HP := Lib.hid (fun W => (show Calls Try.prog 45 #[.int .i64 k] W fun e w' => e = .returned (.int .u8 32) ∧ w' = W by have := parts_any k W; rwa [hP] at this))
  have HPE := Lib.hid hP
  have HRT := Lib.hid (fun W (h : BytesAt W vb bs) => (show Calls Try.prog 23 #[.agg (rqG k u wh nm vb ph pn ch)] W fun e w' => e = .returned (.bool true) ∧ Below W.heap.size W w' by have := right_any k u wh nm vb bs ph pn ch hl hc W h; rwa [hr] at this))
  have HBY := Lib.hid hb
  have hek := encN_len (n := k) (by omega)
  have heu := encN_len (n := u) (by omega)
  have hew := encN_len (n := wh) (by omega)
  have HEN := Lib.hid (encN_len (n := nm.length) (by omega))
  have HEB := Lib.hid (encN_len (n := bs.length) (by omega))
  have hpl := pathS_le (n := pn) ph
  have HEP := Lib.hid (encN_len (n := (pathS ph pn).length) (by omega))
  clear hP hr hb
  go_enter Try.func22, Try.ntmps22
  go_wp2_with (first | (with_reducible refine Agg.wpList_box rfl 46 _ rfl (rqG k u wh nm vb ph pn ch) rfl ?_; intro g w1 hb1 hx1 hg; have HL := Lib.hid (RqG.of_blk hb1 hl hc); have HB := Lib.hid hb1; have HW := Lib.hid hx1; clear hb1 hx1 hg) | (with_reducible refine Agg.wpList_loadL HL.out.all rfl _ rfl rfl ?_))
  refine (HRT.out _ (HBY.out.below HW.out)).mono ?_
  rintro e w2 ⟨rfl, hx2⟩
  have HL := Lib.hid (HL.out.below hx2)
  have HB := Lib.hid (HB.out.below hx2)
  have HW := Lib.hid (Agg.belowThen HW.out (Nat.le_refl _) hx2)
  clear hx2
  go_wp2_with (first | (with_reducible refine Agg.wpList_loadL HL.out.kind rfl _ rfl rfl ?_))
  refine (HP.out _).mono ?_
  rintro e w3 ⟨rfl, rfl⟩
  have hsz := HW.out.size
  have HBY := Lib.hid (HBY.out.below HW.out)
  go_wp2_with (first | (with_reducible refine Agg.wpList_build0 74 rfl rfl (.agg (mkC (.slice none 0 0))) HBLD.out ?_) | (with_reducible refine Agg.wpList_box rfl 74 _ rfl (mkC (.slice none 0 0)) rfl ?_; intro g4 w4 hb4 hx4 hg4; have hlt4 := hb4.lt; have HB4 := Lib.hid hb4; have HX4 := Lib.hid hx4; have HL4 := Lib.hid (HL.out.below hx4); clear hb4 hx4) | (with_reducible refine Agg.wpList_loadL HL4.out.kind rfl _ rfl rfl ?_) | (with_reducible refine Agg.wpList_loadL HL4.out.user rfl _ rfl rfl ?_) | (refine Agg.wpList_slice2O (E := EI) rfl _ _ rfl k u rfl rfl ?_; intro xs w5 hxs hown5 hx5; have HXS := Lib.hid hxs; have HX5 := Lib.hid hx5; have HOW := Lib.hid hown5; clear hxs hx5 hown5))
  have hm5 : MkV g4 w5 (.slice none 0 0) [] := ⟨HB4.out.below HX5.out, Own.nil _ _ _⟩
  have hno : ∀ k, (Value.slice none 0 0).ownBlock ≠ some k := fun k h => by simp [Value.ownBlock] at h
  refine (num_any g4 _ xs [k, u] [] w5 (by intro n hn; simp only [List.mem_cons, List.not_mem_nil, or_false] at hn; rcases hn with rfl | rfl <;> omega) (by simp) (by simp) (Off.behind (w0 := w4) HXS.out HOW.out hlt4 (fun k hk => absurd hk (hno k))) hm5).mono ?_
  rintro e w6 ⟨rfl, v6, hm6, hs6⟩
  have h6 := hm5.stepBelow hs6
  have h36 : Below w3.heap.size w3 w6 := (Agg.belowThen HX4.out (Nat.le_refl _) HX5.out).trans (h6.mono hg4)
  have HM := Lib.hid (show MkV g4 w6 v6 (encN k ++ encN u) by simpa using hm6)
  have HK := Lib.hid h36
  clear hm5 hm6 hs6 h6 h36 hno
  have hv : ∀ k, v6.ownBlock = some k → w3.heap.size ≤ k := fun k hk => by have := HM.out.ge k hk; omega
  have HV := Lib.hid hv
  clear hv
  go_wp2_with fail
  refine (hasB (P := 32) (c := 1) (b := false) (by omega) (by omega) (by decide) _).mono ?_
  rintro e u8 ⟨rfl, rfl⟩
  go_wp2_with fail
  refine (hasB (P := 32) (c := 2) (b := false) (by omega) (by omega) (by decide) _).mono ?_
  rintro e u9 ⟨rfl, rfl⟩
  go_wp2_with fail
  refine (hasB (P := 32) (c := 12) (b := false) (by omega) (by omega) (by decide) _).mono ?_
  rintro e u10 ⟨rfl, rfl⟩
  go_wp2_with fail
  refine (hasB (P := 32) (c := 16) (b := false) (by omega) (by omega) (by decide) _).mono ?_
  rintro e u11 ⟨rfl, rfl⟩
  go_wp2_with fail
  refine (hasB (P := 32) (c := 32) (b := true) (by omega) (by omega) (by decide) _).mono ?_
  rintro e u12 ⟨rfl, rfl⟩
  have HLW := Lib.hid (HL.out.below HK.out)
  obtain ⟨sv, hsv⟩ := bytes_sv HBY.out
  have HSV := Lib.hid hsv
  clear hsv
  go_wp2_with (first | (with_reducible refine Agg.wpList_loadL HLW.out.bytes rfl _ rfl rfl ?_) | (refine Agg.wpList_slice1 (E := EBB) (base := u12.heap.size) rfl _ rfl sv HSV.out (Nat.le_refl _) ?_; intro xs14 w14 hxs hx; have HXS := Lib.hid hxs; have HX := Lib.hid hx; clear hxs hx))
  have HM0 := Lib.hid (HM.out.below HX.out)
  refine (text_any g4 v6 xs14 sv bs _ w14 (by simp only [List.length_append]; omega) (by omega) (Off.behind (w0 := u12) HXS.out.slice (fun k hk => (HXS.out.block k hk).1) HM.out.blk.lt HM.out.lt) (Off.before (w0 := w3) (by rw [← HSV.out]; exact HBY.out) (Agg.belowThen HK.out (Nat.le_refl _) HX.out) hg4 HV.out) HM0.out).mono ?_
  rintro e w15 ⟨rfl, v15, hm, hs⟩
  have HK := Lib.hid (Agg.belowThen HK.out (Nat.le_refl _) HX.out)
  clear HLW HXS HX HSV
  have HK := Lib.hid (HK.out.trans ((HM0.out.stepBelow hs).mono hg4))
  have HM := Lib.hid (show MkV g4 w15 v15 ((encN k ++ encN u) ++ (encN bs.length ++ bs)) from hm)
  have HV := Lib.hid (show ∀ k, v15.ownBlock = some k → w3.heap.size ≤ k from fun k hk => by have := HM.out.ge k hk; omega)
  clear hm hs HM0
  have heb := HEB.out
  have HE := Lib.hid (show ((encN k ++ encN u) ++ (encN bs.length ++ bs)) = putRq ⟨k, u, wh, nm, bs, ph, pn, ch⟩ by
    unfold putRq
    simp only [HPE.out]
    unfold putP
    simp only [show hasN 32 1 = false from by decide, show hasN 32 2 = false from by decide, show hasN 32 12 = false from by decide, show hasN 32 16 = false from by decide, show hasN 32 32 = true from by decide, encT, if_true, Bool.false_eq_true, if_false, Int.toNat_natCast, List.append_assoc, List.nil_append])
  have HKK := Lib.hid (Agg.belowThen HW.out (Nat.le_refl _) HK.out)
  have hszw := HKK.out.size
  go_wp2_with fail
  refine (done_any g4 v15 _ _ (by simp only [List.length_append]; omega) HM.out).mono ?_
  rintro e w7 ⟨v7, rfl, ho7, hx7⟩
  rw [HE.out] at ho7
  have HO7 := Lib.hid (ho7.lower hszw)
  have HW7 := Lib.hid (Agg.belowThen HKK.out (Nat.le_refl _) hx7)
  clear ho7 hx7
  go_wp2_with fail
  go_ret2
  exact ⟨_, rfl, HO7.out, HW7.out⟩
set_option maxRecDepth 100000 in
set_option maxHeartbeats 4000000 in
theorem rput_16 (k u wh : Nat) (nm : List UInt8) (vb : Value) (bs ph pn ch : List UInt8) (hP : partsN k = 16) (hl : ph.length = 20) (hc : ch.length = 20) (hk : k ≤ 10) (hu : u ≤ 8) (hwh : wh ≤ 16) (hnm : nm.length ≤ 24) (hbs : bs.length ≤ 4096)
    (hr : rightN k u wh nm bs.length ph pn ch = true) (w : World) (hb : BytesAt w vb bs) :
    Calls Try.prog 22 #[.agg (rqG k u wh nm vb ph pn ch)] w fun e w' => ∃ v', e = .returned (.tuple #[v', .int .i64 0]) ∧ Own EB w.heap.size w' v' (putRq ⟨k, u, wh, nm, bs, ph, pn, ch⟩) ∧ Below w.heap.size w w' := by
  have HBLD := Lib.hid (fun W => (by kernel_rfl : (Instr.build 74 #[]).run Try.prog W = .ok (.agg (mkC (.slice none 0 0))) W))
  have HP := Lib.hid (fun W => (show Calls Try.prog 45 #[.int .i64 k] W fun e w' => e = .returned (.int .u8 16) ∧ w' = W by have := parts_any k W; rwa [hP] at this))
  have HPE := Lib.hid hP
  have HRT := Lib.hid (fun W (h : BytesAt W vb bs) => (show Calls Try.prog 23 #[.agg (rqG k u wh nm vb ph pn ch)] W fun e w' => e = .returned (.bool true) ∧ Below W.heap.size W w' by have := right_any k u wh nm vb bs ph pn ch hl hc W h; rwa [hr] at this))
  have HBY := Lib.hid hb
  have hek := encN_len (n := k) (by omega)
  have heu := encN_len (n := u) (by omega)
  have hew := encN_len (n := wh) (by omega)
  have HEN := Lib.hid (encN_len (n := nm.length) (by omega))
  have HEB := Lib.hid (encN_len (n := bs.length) (by omega))
  have hpl := pathS_le (n := pn) ph
  have HEP := Lib.hid (encN_len (n := (pathS ph pn).length) (by omega))
  clear hP hr hb
  go_enter Try.func22, Try.ntmps22
  go_wp2_with (first | (with_reducible refine Agg.wpList_box rfl 46 _ rfl (rqG k u wh nm vb ph pn ch) rfl ?_; intro g w1 hb1 hx1 hg; have HL := Lib.hid (RqG.of_blk hb1 hl hc); have HB := Lib.hid hb1; have HW := Lib.hid hx1; clear hb1 hx1 hg) | (with_reducible refine Agg.wpList_loadL HL.out.all rfl _ rfl rfl ?_))
  refine (HRT.out _ (HBY.out.below HW.out)).mono ?_
  rintro e w2 ⟨rfl, hx2⟩
  have HL := Lib.hid (HL.out.below hx2)
  have HB := Lib.hid (HB.out.below hx2)
  have HW := Lib.hid (Agg.belowThen HW.out (Nat.le_refl _) hx2)
  clear hx2
  go_wp2_with (first | (with_reducible refine Agg.wpList_loadL HL.out.kind rfl _ rfl rfl ?_))
  refine (HP.out _).mono ?_
  rintro e w3 ⟨rfl, rfl⟩
  have hsz := HW.out.size
  have HBY := Lib.hid (HBY.out.below HW.out)
  go_wp2_with (first | (with_reducible refine Agg.wpList_build0 74 rfl rfl (.agg (mkC (.slice none 0 0))) HBLD.out ?_) | (with_reducible refine Agg.wpList_box rfl 74 _ rfl (mkC (.slice none 0 0)) rfl ?_; intro g4 w4 hb4 hx4 hg4; have hlt4 := hb4.lt; have HB4 := Lib.hid hb4; have HX4 := Lib.hid hx4; have HL4 := Lib.hid (HL.out.below hx4); clear hb4 hx4) | (with_reducible refine Agg.wpList_loadL HL4.out.kind rfl _ rfl rfl ?_) | (with_reducible refine Agg.wpList_loadL HL4.out.user rfl _ rfl rfl ?_) | (refine Agg.wpList_slice2O (E := EI) rfl _ _ rfl k u rfl rfl ?_; intro xs w5 hxs hown5 hx5; have HXS := Lib.hid hxs; have HX5 := Lib.hid hx5; have HOW := Lib.hid hown5; clear hxs hx5 hown5))
  have hm5 : MkV g4 w5 (.slice none 0 0) [] := ⟨HB4.out.below HX5.out, Own.nil _ _ _⟩
  have hno : ∀ k, (Value.slice none 0 0).ownBlock ≠ some k := fun k h => by simp [Value.ownBlock] at h
  refine (num_any g4 _ xs [k, u] [] w5 (by intro n hn; simp only [List.mem_cons, List.not_mem_nil, or_false] at hn; rcases hn with rfl | rfl <;> omega) (by simp) (by simp) (Off.behind (w0 := w4) HXS.out HOW.out hlt4 (fun k hk => absurd hk (hno k))) hm5).mono ?_
  rintro e w6 ⟨rfl, v6, hm6, hs6⟩
  have h6 := hm5.stepBelow hs6
  have h36 : Below w3.heap.size w3 w6 := (Agg.belowThen HX4.out (Nat.le_refl _) HX5.out).trans (h6.mono hg4)
  have HM := Lib.hid (show MkV g4 w6 v6 (encN k ++ encN u) by simpa using hm6)
  have HK := Lib.hid h36
  clear hm5 hm6 hs6 h6 h36 hno
  have hv : ∀ k, v6.ownBlock = some k → w3.heap.size ≤ k := fun k hk => by have := HM.out.ge k hk; omega
  have HV := Lib.hid hv
  clear hv
  go_wp2_with fail
  refine (hasB (P := 16) (c := 1) (b := false) (by omega) (by omega) (by decide) _).mono ?_
  rintro e u8 ⟨rfl, rfl⟩
  go_wp2_with fail
  refine (hasB (P := 16) (c := 2) (b := false) (by omega) (by omega) (by decide) _).mono ?_
  rintro e u9 ⟨rfl, rfl⟩
  go_wp2_with fail
  refine (hasB (P := 16) (c := 12) (b := false) (by omega) (by omega) (by decide) _).mono ?_
  rintro e u10 ⟨rfl, rfl⟩
  go_wp2_with fail
  refine (hasB (P := 16) (c := 16) (b := true) (by omega) (by omega) (by decide) _).mono ?_
  rintro e u11 ⟨rfl, rfl⟩
  have HSH := Lib.hid (slice_at26 g)
  have HSC := Lib.hid (rq_class_slice (HB.out.below HK.out) hl hc)
  go_wp2_with (first | (with_reducible refine Agg.wpList_val rfl (HSH.out _) ?_))
  refine (raw_any g4 v6 _ ch _ u11 (by simp only [List.length_append]; omega) (by omega) HSC.out HM.out).mono ?_
  rintro e w14 ⟨rfl, v14, hm, hs⟩
  have HM0 := HM
  clear HSH HSC
  have HK := Lib.hid (HK.out.trans ((HM0.out.stepBelow hs).mono hg4))
  have HM := Lib.hid (show MkV g4 w14 v14 ((encN k ++ encN u) ++ ch) from hm)
  have HV := Lib.hid (show ∀ k, v14.ownBlock = some k → w3.heap.size ≤ k from fun k hk => by have := HM.out.ge k hk; omega)
  clear hm hs HM0
  go_wp2_with fail
  refine (hasB (P := 16) (c := 32) (b := false) (by omega) (by omega) (by decide) _).mono ?_
  rintro e u15 ⟨rfl, rfl⟩
  have HE := Lib.hid (show ((encN k ++ encN u) ++ ch) = putRq ⟨k, u, wh, nm, bs, ph, pn, ch⟩ by
    unfold putRq
    simp only [HPE.out]
    unfold putP
    simp only [show hasN 16 1 = false from by decide, show hasN 16 2 = false from by decide, show hasN 16 12 = false from by decide, show hasN 16 16 = true from by decide, show hasN 16 32 = false from by decide, if_true, Bool.false_eq_true, if_false, Int.toNat_natCast, List.append_assoc, List.nil_append, List.append_nil])
  have HKK := Lib.hid (Agg.belowThen HW.out (Nat.le_refl _) HK.out)
  have hszw := HKK.out.size
  go_wp2_with fail
  refine (done_any g4 v14 _ _ (by simp only [List.length_append]; omega) HM.out).mono ?_
  rintro e w7 ⟨v7, rfl, ho7, hx7⟩
  rw [HE.out] at ho7
  have HO7 := Lib.hid (ho7.lower hszw)
  have HW7 := Lib.hid (Agg.belowThen HKK.out (Nat.le_refl _) hx7)
  clear ho7 hx7
  go_wp2_with fail
  go_ret2
  exact ⟨_, rfl, HO7.out, HW7.out⟩
end Go.Proofs.Ytpnolgliklmnmaa
/-! wire.Put of any request. -/
namespace Go.Proofs.Ytpnolgliklmnmaa
open Go.RowKit Pl Go.Agg
set_option maxRecDepth 100000 in
set_option maxHeartbeats 4000000 in
theorem rput_1 (k u wh : Nat) (nm : List UInt8) (vb : Value) (bs ph pn ch : List UInt8) (hP : partsN k = 1) (hl : ph.length = 20) (hc : ch.length = 20) (hk : k ≤ 10) (hu : u ≤ 8) (hwh : wh ≤ 16) (hnm : nm.length ≤ 24) (hbs : bs.length ≤ 4096)
    (hr : rightN k u wh nm bs.length ph pn ch = true) (w : World) (hb : BytesAt w vb bs) :
    Calls Try.prog 22 #[.agg (rqG k u wh nm vb ph pn ch)] w fun e w' => ∃ v', e = .returned (.tuple #[v', .int .i64 0]) ∧ Own EB w.heap.size w' v' (putRq ⟨k, u, wh, nm, bs, ph, pn, ch⟩) ∧ Below w.heap.size w w' := by
  have HBLD := Lib.hid (fun W => (by kernel_rfl : (Instr.build 74 #[]).run Try.prog W = .ok (.agg (mkC (.slice none 0 0))) W))
  have HP := Lib.hid (fun W => (show Calls Try.prog 45 #[.int .i64 k] W fun e w' => e = .returned (.int .u8 1) ∧ w' = W by have := parts_any k W; rwa [hP] at this))
  have HPE := Lib.hid hP
  have HRT := Lib.hid (fun W (h : BytesAt W vb bs) => (show Calls Try.prog 23 #[.agg (rqG k u wh nm vb ph pn ch)] W fun e w' => e = .returned (.bool true) ∧ Below W.heap.size W w' by have := right_any k u wh nm vb bs ph pn ch hl hc W h; rwa [hr] at this))
  have HBY := Lib.hid hb
  have hek := encN_len (n := k) (by omega)
  have heu := encN_len (n := u) (by omega)
  have hew := encN_len (n := wh) (by omega)
  have HEN := Lib.hid (encN_len (n := nm.length) (by omega))
  have HEB := Lib.hid (encN_len (n := bs.length) (by omega))
  have hpl := pathS_le (n := pn) ph
  have HEP := Lib.hid (encN_len (n := (pathS ph pn).length) (by omega))
  clear hP hr hb
  go_enter Try.func22, Try.ntmps22
  go_wp2_with (first | (with_reducible refine Agg.wpList_box rfl 46 _ rfl (rqG k u wh nm vb ph pn ch) rfl ?_; intro g w1 hb1 hx1 hg; have HL := Lib.hid (RqG.of_blk hb1 hl hc); have HB := Lib.hid hb1; have HW := Lib.hid hx1; clear hb1 hx1 hg) | (with_reducible refine Agg.wpList_loadL HL.out.all rfl _ rfl rfl ?_))
  refine (HRT.out _ (HBY.out.below HW.out)).mono ?_
  rintro e w2 ⟨rfl, hx2⟩
  have HL := Lib.hid (HL.out.below hx2)
  have HB := Lib.hid (HB.out.below hx2)
  have HW := Lib.hid (Agg.belowThen HW.out (Nat.le_refl _) hx2)
  clear hx2
  go_wp2_with (first | (with_reducible refine Agg.wpList_loadL HL.out.kind rfl _ rfl rfl ?_))
  refine (HP.out _).mono ?_
  rintro e w3 ⟨rfl, rfl⟩
  have hsz := HW.out.size
  have HBY := Lib.hid (HBY.out.below HW.out)
  go_wp2_with (first | (with_reducible refine Agg.wpList_build0 74 rfl rfl (.agg (mkC (.slice none 0 0))) HBLD.out ?_) | (with_reducible refine Agg.wpList_box rfl 74 _ rfl (mkC (.slice none 0 0)) rfl ?_; intro g4 w4 hb4 hx4 hg4; have hlt4 := hb4.lt; have HB4 := Lib.hid hb4; have HX4 := Lib.hid hx4; have HL4 := Lib.hid (HL.out.below hx4); clear hb4 hx4) | (with_reducible refine Agg.wpList_loadL HL4.out.kind rfl _ rfl rfl ?_) | (with_reducible refine Agg.wpList_loadL HL4.out.user rfl _ rfl rfl ?_) | (refine Agg.wpList_slice2O (E := EI) rfl _ _ rfl k u rfl rfl ?_; intro xs w5 hxs hown5 hx5; have HXS := Lib.hid hxs; have HX5 := Lib.hid hx5; have HOW := Lib.hid hown5; clear hxs hx5 hown5))
  have hm5 : MkV g4 w5 (.slice none 0 0) [] := ⟨HB4.out.below HX5.out, Own.nil _ _ _⟩
  have hno : ∀ k, (Value.slice none 0 0).ownBlock ≠ some k := fun k h => by simp [Value.ownBlock] at h
  refine (num_any g4 _ xs [k, u] [] w5 (by intro n hn; simp only [List.mem_cons, List.not_mem_nil, or_false] at hn; rcases hn with rfl | rfl <;> omega) (by simp) (by simp) (Off.behind (w0 := w4) HXS.out HOW.out hlt4 (fun k hk => absurd hk (hno k))) hm5).mono ?_
  rintro e w6 ⟨rfl, v6, hm6, hs6⟩
  have h6 := hm5.stepBelow hs6
  have h36 : Below w3.heap.size w3 w6 := (Agg.belowThen HX4.out (Nat.le_refl _) HX5.out).trans (h6.mono hg4)
  have HM := Lib.hid (show MkV g4 w6 v6 (encN k ++ encN u) by simpa using hm6)
  have HK := Lib.hid h36
  clear hm5 hm6 hs6 h6 h36 hno
  have hv : ∀ k, v6.ownBlock = some k → w3.heap.size ≤ k := fun k hk => by have := HM.out.ge k hk; omega
  have HV := Lib.hid hv
  clear hv
  go_wp2_with fail
  refine (hasB (P := 1) (c := 1) (b := true) (by omega) (by omega) (by decide) _).mono ?_
  rintro e u8 ⟨rfl, rfl⟩
  have HLW := Lib.hid (HL.out.below HK.out)
  go_wp2_with (first | (with_reducible refine Agg.wpList_loadL HLW.out.who rfl _ rfl rfl ?_) | (refine Agg.wpList_slice1 (E := EI) (base := u8.heap.size) rfl _ rfl wh rfl (Nat.le_refl _) ?_; intro xs9 w9 hxs hx; have HXS := Lib.hid hxs; have HX := Lib.hid hx; clear hxs hx))
  have HM0 := Lib.hid (HM.out.below HX.out)
  refine (num_any g4 v6 xs9 [wh] _ w9 (by intro n hn; simp only [List.mem_singleton] at hn; omega) (by simp) (by simp only [List.length_append]; omega) (Off.behind (w0 := u8) HXS.out.slice (fun k hk => (HXS.out.block k hk).1) HM.out.blk.lt HM.out.lt) HM0.out).mono ?_
  rintro e w10 ⟨rfl, v10, hm, hs⟩
  simp only [List.flatMap_cons, List.flatMap_nil, List.append_nil] at hm
  have HK := Lib.hid (Agg.belowThen HK.out (Nat.le_refl _) HX.out)
  clear HLW HXS HX
  have HK := Lib.hid (HK.out.trans ((HM0.out.stepBelow hs).mono hg4))
  have HM := Lib.hid (show MkV g4 w10 v10 ((encN k ++ encN u) ++ encN wh) from hm)
  have HV := Lib.hid (show ∀ k, v10.ownBlock = some k → w3.heap.size ≤ k from fun k hk => by have := HM.out.ge k hk; omega)
  clear hm hs HM0
  go_wp2_with fail
  refine (hasB (P := 1) (c := 2) (b := false) (by omega) (by omega) (by decide) _).mono ?_
  rintro e u11 ⟨rfl, rfl⟩
  go_wp2_with fail
  refine (hasB (P := 1) (c := 12) (b := false) (by omega) (by omega) (by decide) _).mono ?_
  rintro e u12 ⟨rfl, rfl⟩
  go_wp2_with fail
  refine (hasB (P := 1) (c := 16) (b := false) (by omega) (by omega) (by decide) _).mono ?_
  rintro e u13 ⟨rfl, rfl⟩
  go_wp2_with fail
  refine (hasB (P := 1) (c := 32) (b := false) (by omega) (by omega) (by decide) _).mono ?_
  rintro e u14 ⟨rfl, rfl⟩
  have HE := Lib.hid (show ((encN k ++ encN u) ++ encN wh) = putRq ⟨k, u, wh, nm, bs, ph, pn, ch⟩ by
    unfold putRq
    simp only [HPE.out]
    unfold putP
    simp only [show hasN 1 1 = true from by decide, show hasN 1 2 = false from by decide, show hasN 1 12 = false from by decide, show hasN 1 16 = false from by decide, show hasN 1 32 = false from by decide, if_true, Bool.false_eq_true, if_false, Int.toNat_natCast, List.append_assoc, List.append_nil])
  have HKK := Lib.hid (Agg.belowThen HW.out (Nat.le_refl _) HK.out)
  have hszw := HKK.out.size
  go_wp2_with fail
  refine (done_any g4 v10 _ _ (by simp only [List.length_append]; omega) HM.out).mono ?_
  rintro e w7 ⟨v7, rfl, ho7, hx7⟩
  rw [HE.out] at ho7
  have HO7 := Lib.hid (ho7.lower hszw)
  have HW7 := Lib.hid (Agg.belowThen HKK.out (Nat.le_refl _) hx7)
  clear ho7 hx7
  go_wp2_with fail
  go_ret2
  exact ⟨_, rfl, HO7.out, HW7.out⟩
set_option maxRecDepth 100000 in
set_option maxHeartbeats 4000000 in
theorem rput_6 (k u wh : Nat) (nm : List UInt8) (vb : Value) (bs ph pn ch : List UInt8) (hP : partsN k = 6) (hl : ph.length = 20) (hc : ch.length = 20) (hk : k ≤ 10) (hu : u ≤ 8) (hwh : wh ≤ 16) (hnm : nm.length ≤ 24) (hbs : bs.length ≤ 4096)
    (hr : rightN k u wh nm bs.length ph pn ch = true) (w : World) (hb : BytesAt w vb bs) :
    Calls Try.prog 22 #[.agg (rqG k u wh nm vb ph pn ch)] w fun e w' => ∃ v', e = .returned (.tuple #[v', .int .i64 0]) ∧ Own EB w.heap.size w' v' (putRq ⟨k, u, wh, nm, bs, ph, pn, ch⟩) ∧ Below w.heap.size w w' := by
  have HBLD := Lib.hid (fun W => (by kernel_rfl : (Instr.build 74 #[]).run Try.prog W = .ok (.agg (mkC (.slice none 0 0))) W))
  have HP := Lib.hid (fun W => (show Calls Try.prog 45 #[.int .i64 k] W fun e w' => e = .returned (.int .u8 6) ∧ w' = W by have := parts_any k W; rwa [hP] at this))
  have HPE := Lib.hid hP
  have HRT := Lib.hid (fun W (h : BytesAt W vb bs) => (show Calls Try.prog 23 #[.agg (rqG k u wh nm vb ph pn ch)] W fun e w' => e = .returned (.bool true) ∧ Below W.heap.size W w' by have := right_any k u wh nm vb bs ph pn ch hl hc W h; rwa [hr] at this))
  have HBY := Lib.hid hb
  have hek := encN_len (n := k) (by omega)
  have heu := encN_len (n := u) (by omega)
  have hew := encN_len (n := wh) (by omega)
  have HEN := Lib.hid (encN_len (n := nm.length) (by omega))
  have HEB := Lib.hid (encN_len (n := bs.length) (by omega))
  have hpl := pathS_le (n := pn) ph
  have HEP := Lib.hid (encN_len (n := (pathS ph pn).length) (by omega))
  clear hP hr hb
  go_enter Try.func22, Try.ntmps22
  go_wp2_with (first | (with_reducible refine Agg.wpList_box rfl 46 _ rfl (rqG k u wh nm vb ph pn ch) rfl ?_; intro g w1 hb1 hx1 hg; have HL := Lib.hid (RqG.of_blk hb1 hl hc); have HB := Lib.hid hb1; have HW := Lib.hid hx1; clear hb1 hx1 hg) | (with_reducible refine Agg.wpList_loadL HL.out.all rfl _ rfl rfl ?_))
  refine (HRT.out _ (HBY.out.below HW.out)).mono ?_
  rintro e w2 ⟨rfl, hx2⟩
  have HL := Lib.hid (HL.out.below hx2)
  have HB := Lib.hid (HB.out.below hx2)
  have HW := Lib.hid (Agg.belowThen HW.out (Nat.le_refl _) hx2)
  clear hx2
  go_wp2_with (first | (with_reducible refine Agg.wpList_loadL HL.out.kind rfl _ rfl rfl ?_))
  refine (HP.out _).mono ?_
  rintro e w3 ⟨rfl, rfl⟩
  have hsz := HW.out.size
  have HBY := Lib.hid (HBY.out.below HW.out)
  go_wp2_with (first | (with_reducible refine Agg.wpList_build0 74 rfl rfl (.agg (mkC (.slice none 0 0))) HBLD.out ?_) | (with_reducible refine Agg.wpList_box rfl 74 _ rfl (mkC (.slice none 0 0)) rfl ?_; intro g4 w4 hb4 hx4 hg4; have hlt4 := hb4.lt; have HB4 := Lib.hid hb4; have HX4 := Lib.hid hx4; have HL4 := Lib.hid (HL.out.below hx4); clear hb4 hx4) | (with_reducible refine Agg.wpList_loadL HL4.out.kind rfl _ rfl rfl ?_) | (with_reducible refine Agg.wpList_loadL HL4.out.user rfl _ rfl rfl ?_) | (refine Agg.wpList_slice2O (E := EI) rfl _ _ rfl k u rfl rfl ?_; intro xs w5 hxs hown5 hx5; have HXS := Lib.hid hxs; have HX5 := Lib.hid hx5; have HOW := Lib.hid hown5; clear hxs hx5 hown5))
  have hm5 : MkV g4 w5 (.slice none 0 0) [] := ⟨HB4.out.below HX5.out, Own.nil _ _ _⟩
  have hno : ∀ k, (Value.slice none 0 0).ownBlock ≠ some k := fun k h => by simp [Value.ownBlock] at h
  refine (num_any g4 _ xs [k, u] [] w5 (by intro n hn; simp only [List.mem_cons, List.not_mem_nil, or_false] at hn; rcases hn with rfl | rfl <;> omega) (by simp) (by simp) (Off.behind (w0 := w4) HXS.out HOW.out hlt4 (fun k hk => absurd hk (hno k))) hm5).mono ?_
  rintro e w6 ⟨rfl, v6, hm6, hs6⟩
  have h6 := hm5.stepBelow hs6
  have h36 : Below w3.heap.size w3 w6 := (Agg.belowThen HX4.out (Nat.le_refl _) HX5.out).trans (h6.mono hg4)
  have HM := Lib.hid (show MkV g4 w6 v6 (encN k ++ encN u) by simpa using hm6)
  have HK := Lib.hid h36
  clear hm5 hm6 hs6 h6 h36 hno
  have hv : ∀ k, v6.ownBlock = some k → w3.heap.size ≤ k := fun k hk => by have := HM.out.ge k hk; omega
  have HV := Lib.hid hv
  clear hv
  go_wp2_with fail
  refine (hasB (P := 6) (c := 1) (b := false) (by omega) (by omega) (by decide) _).mono ?_
  rintro e u8 ⟨rfl, rfl⟩
  go_wp2_with fail
  refine (hasB (P := 6) (c := 2) (b := true) (by omega) (by omega) (by decide) _).mono ?_
  rintro e u9 ⟨rfl, rfl⟩
  have HLW := Lib.hid (HL.out.below HK.out)
  go_wp2_with (first | (with_reducible refine Agg.wpList_loadL HLW.out.name rfl _ rfl rfl ?_) | (with_reducible refine wpList_toBytes nm _ rfl (by kernel_rfl) rfl ?_; intro x10 w10 hn hx; have HN := Lib.hid hn; have HX := Lib.hid hx; obtain ⟨sv, hsv⟩ := newBytes_sv hn; have HSV := Lib.hid hsv; clear hn hx hsv) | (refine Agg.wpList_slice1 (E := EBB) (base := w10.heap.size) rfl _ rfl sv HSV.out (Nat.le_refl _) ?_; intro xs11 w11 hxs hx; have HXS := Lib.hid hxs; have HX2 := Lib.hid hx; clear hxs hx))
  have hx := Agg.belowThen HX.out (Nat.le_refl _) HX2.out
  have HM0 := Lib.hid (HM.out.below hx)
  refine (text_any g4 v6 xs11 sv nm _ w11 (by simp only [List.length_append]; omega) (by omega) (Off.behind (w0 := u9) HXS.out.slice (fun k hk => Nat.le_trans HX.out.size (HXS.out.block k hk).1) HM.out.blk.lt HM.out.lt) (Off.behind (w0 := u9) (by rw [← HSV.out]; exact HN.out.slice.below HX2.out) (by rw [← HSV.out]; exact newBytes_own HN.out) HM.out.blk.lt HM.out.lt) HM0.out).mono ?_
  rintro e w12 ⟨rfl, v12, hm, hs⟩
  have HK := Lib.hid (Agg.belowThen HK.out (Nat.le_refl _) hx)
  clear HLW HXS HX HX2 hx HN HSV
  have HK := Lib.hid (HK.out.trans ((HM0.out.stepBelow hs).mono hg4))
  have HM := Lib.hid (show MkV g4 w12 v12 ((encN k ++ encN u) ++ (encN nm.length ++ nm)) from hm)
  have HV := Lib.hid (show ∀ k, v12.ownBlock = some k → w3.heap.size ≤ k from fun k hk => by have := HM.out.ge k hk; omega)
  clear hm hs HM0
  have hen := HEN.out
  go_wp2_with fail
  refine (hasB (P := 6) (c := 12) (b := true) (by omega) (by omega) (by decide) _).mono ?_
  rintro e u13 ⟨rfl, rfl⟩
  have HLW := Lib.hid (HL.out.below HK.out)
  go_wp2_with (first | (with_reducible refine Agg.wpList_loadL HLW.out.path rfl _ rfl rfl ?_))
  refine (shown_any ph pn hl _).mono ?_
  rintro e w14 ⟨x14, y14, rfl, hy, hn, hx⟩
  have HN := Lib.hid hn
  have HX := Lib.hid hx
  have HY := Lib.hid hy
  obtain ⟨sv, hsv⟩ := newBytes_sv hn
  have HSV := Lib.hid hsv
  clear hn hx hsv hy
  go_wp2_with (first | (refine Agg.wpList_slice1 (E := EBB) (base := w14.heap.size) rfl _ rfl sv HSV.out (Nat.le_refl _) ?_; intro xs15 w15 hxs hx; have HXS := Lib.hid hxs; have HX2 := Lib.hid hx; clear hxs hx))
  have hx := Agg.belowThen HX.out (Nat.le_refl _) HX2.out
  have HM0 := Lib.hid (HM.out.below hx)
  refine (text_any g4 v12 xs15 sv (pathS ph pn) _ w15 (by simp only [List.length_append]; omega) (by omega) (Off.behind (w0 := u13) HXS.out.slice (fun k hk => Nat.le_trans HX.out.size (HXS.out.block k hk).1) HM.out.blk.lt HM.out.lt) (Off.behind (w0 := u13) (by rw [← HSV.out]; exact HN.out.slice.below HX2.out) (by rw [← HSV.out]; exact fun k hk => Nat.le_trans HY.out.size (newBytes_own HN.out k hk)) HM.out.blk.lt HM.out.lt) HM0.out).mono ?_
  rintro e w16 ⟨rfl, v16, hm, hs⟩
  have HK := Lib.hid (Agg.belowThen HK.out (Nat.le_refl _) hx)
  clear HLW HXS HX HX2 hx HN HSV HY
  have HK := Lib.hid (HK.out.trans ((HM0.out.stepBelow hs).mono hg4))
  have HM := Lib.hid (show MkV g4 w16 v16 (((encN k ++ encN u) ++ (encN nm.length ++ nm)) ++ (encN (pathS ph pn).length ++ pathS ph pn)) from hm)
  have HV := Lib.hid (show ∀ k, v16.ownBlock = some k → w3.heap.size ≤ k from fun k hk => by have := HM.out.ge k hk; omega)
  clear hm hs HM0
  have hep := HEP.out
  go_wp2_with fail
  refine (hasB (P := 6) (c := 16) (b := false) (by omega) (by omega) (by decide) _).mono ?_
  rintro e u17 ⟨rfl, rfl⟩
  go_wp2_with fail
  refine (hasB (P := 6) (c := 32) (b := false) (by omega) (by omega) (by decide) _).mono ?_
  rintro e u18 ⟨rfl, rfl⟩
  have HE := Lib.hid (show (((encN k ++ encN u) ++ (encN nm.length ++ nm)) ++ (encN (pathS ph pn).length ++ pathS ph pn)) = putRq ⟨k, u, wh, nm, bs, ph, pn, ch⟩ by
    unfold putRq
    simp only [HPE.out]
    unfold putP
    simp only [show hasN 6 1 = false from by decide, show hasN 6 2 = true from by decide, show hasN 6 12 = true from by decide, show hasN 6 16 = false from by decide, show hasN 6 32 = false from by decide, encT, if_true, Bool.false_eq_true, if_false, Int.toNat_natCast, List.append_assoc, List.nil_append, List.append_nil])
  have HKK := Lib.hid (Agg.belowThen HW.out (Nat.le_refl _) HK.out)
  have hszw := HKK.out.size
  go_wp2_with fail
  refine (done_any g4 v16 _ _ (by simp only [List.length_append]; omega) HM.out).mono ?_
  rintro e w7 ⟨v7, rfl, ho7, hx7⟩
  rw [HE.out] at ho7
  have HO7 := Lib.hid (ho7.lower hszw)
  have HW7 := Lib.hid (Agg.belowThen HKK.out (Nat.le_refl _) hx7)
  clear ho7 hx7
  go_wp2_with fail
  go_ret2
  exact ⟨_, rfl, HO7.out, HW7.out⟩
set_option maxRecDepth 100000 in
set_option maxHeartbeats 4000000 in
theorem rput_2 (k u wh : Nat) (nm : List UInt8) (vb : Value) (bs ph pn ch : List UInt8) (hP : partsN k = 2) (hl : ph.length = 20) (hc : ch.length = 20) (hk : k ≤ 10) (hu : u ≤ 8) (hwh : wh ≤ 16) (hnm : nm.length ≤ 24) (hbs : bs.length ≤ 4096)
    (hr : rightN k u wh nm bs.length ph pn ch = true) (w : World) (hb : BytesAt w vb bs) :
    Calls Try.prog 22 #[.agg (rqG k u wh nm vb ph pn ch)] w fun e w' => ∃ v', e = .returned (.tuple #[v', .int .i64 0]) ∧ Own EB w.heap.size w' v' (putRq ⟨k, u, wh, nm, bs, ph, pn, ch⟩) ∧ Below w.heap.size w w' := by
  have HBLD := Lib.hid (fun W => (by kernel_rfl : (Instr.build 74 #[]).run Try.prog W = .ok (.agg (mkC (.slice none 0 0))) W))
  have HP := Lib.hid (fun W => (show Calls Try.prog 45 #[.int .i64 k] W fun e w' => e = .returned (.int .u8 2) ∧ w' = W by have := parts_any k W; rwa [hP] at this))
  have HPE := Lib.hid hP
  have HRT := Lib.hid (fun W (h : BytesAt W vb bs) => (show Calls Try.prog 23 #[.agg (rqG k u wh nm vb ph pn ch)] W fun e w' => e = .returned (.bool true) ∧ Below W.heap.size W w' by have := right_any k u wh nm vb bs ph pn ch hl hc W h; rwa [hr] at this))
  have HBY := Lib.hid hb
  have hek := encN_len (n := k) (by omega)
  have heu := encN_len (n := u) (by omega)
  have hew := encN_len (n := wh) (by omega)
  have HEN := Lib.hid (encN_len (n := nm.length) (by omega))
  have HEB := Lib.hid (encN_len (n := bs.length) (by omega))
  have hpl := pathS_le (n := pn) ph
  have HEP := Lib.hid (encN_len (n := (pathS ph pn).length) (by omega))
  clear hP hr hb
  go_enter Try.func22, Try.ntmps22
  go_wp2_with (first | (with_reducible refine Agg.wpList_box rfl 46 _ rfl (rqG k u wh nm vb ph pn ch) rfl ?_; intro g w1 hb1 hx1 hg; have HL := Lib.hid (RqG.of_blk hb1 hl hc); have HB := Lib.hid hb1; have HW := Lib.hid hx1; clear hb1 hx1 hg) | (with_reducible refine Agg.wpList_loadL HL.out.all rfl _ rfl rfl ?_))
  refine (HRT.out _ (HBY.out.below HW.out)).mono ?_
  rintro e w2 ⟨rfl, hx2⟩
  have HL := Lib.hid (HL.out.below hx2)
  have HB := Lib.hid (HB.out.below hx2)
  have HW := Lib.hid (Agg.belowThen HW.out (Nat.le_refl _) hx2)
  clear hx2
  go_wp2_with (first | (with_reducible refine Agg.wpList_loadL HL.out.kind rfl _ rfl rfl ?_))
  refine (HP.out _).mono ?_
  rintro e w3 ⟨rfl, rfl⟩
  have hsz := HW.out.size
  have HBY := Lib.hid (HBY.out.below HW.out)
  go_wp2_with (first | (with_reducible refine Agg.wpList_build0 74 rfl rfl (.agg (mkC (.slice none 0 0))) HBLD.out ?_) | (with_reducible refine Agg.wpList_box rfl 74 _ rfl (mkC (.slice none 0 0)) rfl ?_; intro g4 w4 hb4 hx4 hg4; have hlt4 := hb4.lt; have HB4 := Lib.hid hb4; have HX4 := Lib.hid hx4; have HL4 := Lib.hid (HL.out.below hx4); clear hb4 hx4) | (with_reducible refine Agg.wpList_loadL HL4.out.kind rfl _ rfl rfl ?_) | (with_reducible refine Agg.wpList_loadL HL4.out.user rfl _ rfl rfl ?_) | (refine Agg.wpList_slice2O (E := EI) rfl _ _ rfl k u rfl rfl ?_; intro xs w5 hxs hown5 hx5; have HXS := Lib.hid hxs; have HX5 := Lib.hid hx5; have HOW := Lib.hid hown5; clear hxs hx5 hown5))
  have hm5 : MkV g4 w5 (.slice none 0 0) [] := ⟨HB4.out.below HX5.out, Own.nil _ _ _⟩
  have hno : ∀ k, (Value.slice none 0 0).ownBlock ≠ some k := fun k h => by simp [Value.ownBlock] at h
  refine (num_any g4 _ xs [k, u] [] w5 (by intro n hn; simp only [List.mem_cons, List.not_mem_nil, or_false] at hn; rcases hn with rfl | rfl <;> omega) (by simp) (by simp) (Off.behind (w0 := w4) HXS.out HOW.out hlt4 (fun k hk => absurd hk (hno k))) hm5).mono ?_
  rintro e w6 ⟨rfl, v6, hm6, hs6⟩
  have h6 := hm5.stepBelow hs6
  have h36 : Below w3.heap.size w3 w6 := (Agg.belowThen HX4.out (Nat.le_refl _) HX5.out).trans (h6.mono hg4)
  have HM := Lib.hid (show MkV g4 w6 v6 (encN k ++ encN u) by simpa using hm6)
  have HK := Lib.hid h36
  clear hm5 hm6 hs6 h6 h36 hno
  have hv : ∀ k, v6.ownBlock = some k → w3.heap.size ≤ k := fun k hk => by have := HM.out.ge k hk; omega
  have HV := Lib.hid hv
  clear hv
  go_wp2_with fail
  refine (hasB (P := 2) (c := 1) (b := false) (by omega) (by omega) (by decide) _).mono ?_
  rintro e u8 ⟨rfl, rfl⟩
  go_wp2_with fail
  refine (hasB (P := 2) (c := 2) (b := true) (by omega) (by omega) (by decide) _).mono ?_
  rintro e u9 ⟨rfl, rfl⟩
  have HLW := Lib.hid (HL.out.below HK.out)
  go_wp2_with (first | (with_reducible refine Agg.wpList_loadL HLW.out.name rfl _ rfl rfl ?_) | (with_reducible refine wpList_toBytes nm _ rfl (by kernel_rfl) rfl ?_; intro x10 w10 hn hx; have HN := Lib.hid hn; have HX := Lib.hid hx; obtain ⟨sv, hsv⟩ := newBytes_sv hn; have HSV := Lib.hid hsv; clear hn hx hsv) | (refine Agg.wpList_slice1 (E := EBB) (base := w10.heap.size) rfl _ rfl sv HSV.out (Nat.le_refl _) ?_; intro xs11 w11 hxs hx; have HXS := Lib.hid hxs; have HX2 := Lib.hid hx; clear hxs hx))
  have hx := Agg.belowThen HX.out (Nat.le_refl _) HX2.out
  have HM0 := Lib.hid (HM.out.below hx)
  refine (text_any g4 v6 xs11 sv nm _ w11 (by simp only [List.length_append]; omega) (by omega) (Off.behind (w0 := u9) HXS.out.slice (fun k hk => Nat.le_trans HX.out.size (HXS.out.block k hk).1) HM.out.blk.lt HM.out.lt) (Off.behind (w0 := u9) (by rw [← HSV.out]; exact HN.out.slice.below HX2.out) (by rw [← HSV.out]; exact newBytes_own HN.out) HM.out.blk.lt HM.out.lt) HM0.out).mono ?_
  rintro e w12 ⟨rfl, v12, hm, hs⟩
  have HK := Lib.hid (Agg.belowThen HK.out (Nat.le_refl _) hx)
  clear HLW HXS HX HX2 hx HN HSV
  have HK := Lib.hid (HK.out.trans ((HM0.out.stepBelow hs).mono hg4))
  have HM := Lib.hid (show MkV g4 w12 v12 ((encN k ++ encN u) ++ (encN nm.length ++ nm)) from hm)
  have HV := Lib.hid (show ∀ k, v12.ownBlock = some k → w3.heap.size ≤ k from fun k hk => by have := HM.out.ge k hk; omega)
  clear hm hs HM0
  have hen := HEN.out
  go_wp2_with fail
  refine (hasB (P := 2) (c := 12) (b := false) (by omega) (by omega) (by decide) _).mono ?_
  rintro e u13 ⟨rfl, rfl⟩
  go_wp2_with fail
  refine (hasB (P := 2) (c := 16) (b := false) (by omega) (by omega) (by decide) _).mono ?_
  rintro e u14 ⟨rfl, rfl⟩
  go_wp2_with fail
  refine (hasB (P := 2) (c := 32) (b := false) (by omega) (by omega) (by decide) _).mono ?_
  rintro e u15 ⟨rfl, rfl⟩
  have HE := Lib.hid (show ((encN k ++ encN u) ++ (encN nm.length ++ nm)) = putRq ⟨k, u, wh, nm, bs, ph, pn, ch⟩ by
    unfold putRq
    simp only [HPE.out]
    unfold putP
    simp only [show hasN 2 1 = false from by decide, show hasN 2 2 = true from by decide, show hasN 2 12 = false from by decide, show hasN 2 16 = false from by decide, show hasN 2 32 = false from by decide, encT, if_true, Bool.false_eq_true, if_false, Int.toNat_natCast, List.append_assoc, List.nil_append, List.append_nil])
  have HKK := Lib.hid (Agg.belowThen HW.out (Nat.le_refl _) HK.out)
  have hszw := HKK.out.size
  go_wp2_with fail
  refine (done_any g4 v12 _ _ (by simp only [List.length_append]; omega) HM.out).mono ?_
  rintro e w7 ⟨v7, rfl, ho7, hx7⟩
  rw [HE.out] at ho7
  have HO7 := Lib.hid (ho7.lower hszw)
  have HW7 := Lib.hid (Agg.belowThen HKK.out (Nat.le_refl _) hx7)
  clear ho7 hx7
  go_wp2_with fail
  go_ret2
  exact ⟨_, rfl, HO7.out, HW7.out⟩
end Go.Proofs.Ytpnolgliklmnmaa
/-! wire.Put of any request. -/
namespace Go.Proofs.Ytpnolgliklmnmaa
open Go.RowKit Pl Go.Agg
set_option maxRecDepth 100000 in
set_option maxHeartbeats 4000000 in
theorem rput_36 (k u wh : Nat) (nm : List UInt8) (vb : Value) (bs ph pn ch : List UInt8) (hP : partsN k = 36) (hl : ph.length = 20) (hc : ch.length = 20) (hk : k ≤ 10) (hu : u ≤ 8) (hwh : wh ≤ 16) (hnm : nm.length ≤ 24) (hbs : bs.length ≤ 4096)
    (hr : rightN k u wh nm bs.length ph pn ch = true) (w : World) (hb : BytesAt w vb bs) :
    Calls Try.prog 22 #[.agg (rqG k u wh nm vb ph pn ch)] w fun e w' => ∃ v', e = .returned (.tuple #[v', .int .i64 0]) ∧ Own EB w.heap.size w' v' (putRq ⟨k, u, wh, nm, bs, ph, pn, ch⟩) ∧ Below w.heap.size w w' := by
  have HBLD := Lib.hid (fun W => (by kernel_rfl : (Instr.build 74 #[]).run Try.prog W = .ok (.agg (mkC (.slice none 0 0))) W))
  have HP := Lib.hid (fun W => (show Calls Try.prog 45 #[.int .i64 k] W fun e w' => e = .returned (.int .u8 36) ∧ w' = W by have := parts_any k W; rwa [hP] at this))
  have HPE := Lib.hid hP
  have HRT := Lib.hid (fun W (h : BytesAt W vb bs) => (show Calls Try.prog 23 #[.agg (rqG k u wh nm vb ph pn ch)] W fun e w' => e = .returned (.bool true) ∧ Below W.heap.size W w' by have := right_any k u wh nm vb bs ph pn ch hl hc W h; rwa [hr] at this))
  have HBY := Lib.hid hb
  have hek := encN_len (n := k) (by omega)
  have heu := encN_len (n := u) (by omega)
  have hew := encN_len (n := wh) (by omega)
  have HEN := Lib.hid (encN_len (n := nm.length) (by omega))
  have HEB := Lib.hid (encN_len (n := bs.length) (by omega))
  have hpl := pathS_le (n := pn) ph
  have HEP := Lib.hid (encN_len (n := (pathS ph pn).length) (by omega))
  clear hP hr hb
  go_enter Try.func22, Try.ntmps22
  go_wp2_with (first | (with_reducible refine Agg.wpList_box rfl 46 _ rfl (rqG k u wh nm vb ph pn ch) rfl ?_; intro g w1 hb1 hx1 hg; have HL := Lib.hid (RqG.of_blk hb1 hl hc); have HB := Lib.hid hb1; have HW := Lib.hid hx1; clear hb1 hx1 hg) | (with_reducible refine Agg.wpList_loadL HL.out.all rfl _ rfl rfl ?_))
  refine (HRT.out _ (HBY.out.below HW.out)).mono ?_
  rintro e w2 ⟨rfl, hx2⟩
  have HL := Lib.hid (HL.out.below hx2)
  have HB := Lib.hid (HB.out.below hx2)
  have HW := Lib.hid (Agg.belowThen HW.out (Nat.le_refl _) hx2)
  clear hx2
  go_wp2_with (first | (with_reducible refine Agg.wpList_loadL HL.out.kind rfl _ rfl rfl ?_))
  refine (HP.out _).mono ?_
  rintro e w3 ⟨rfl, rfl⟩
  have hsz := HW.out.size
  have HBY := Lib.hid (HBY.out.below HW.out)
  go_wp2_with (first | (with_reducible refine Agg.wpList_build0 74 rfl rfl (.agg (mkC (.slice none 0 0))) HBLD.out ?_) | (with_reducible refine Agg.wpList_box rfl 74 _ rfl (mkC (.slice none 0 0)) rfl ?_; intro g4 w4 hb4 hx4 hg4; have hlt4 := hb4.lt; have HB4 := Lib.hid hb4; have HX4 := Lib.hid hx4; have HL4 := Lib.hid (HL.out.below hx4); clear hb4 hx4) | (with_reducible refine Agg.wpList_loadL HL4.out.kind rfl _ rfl rfl ?_) | (with_reducible refine Agg.wpList_loadL HL4.out.user rfl _ rfl rfl ?_) | (refine Agg.wpList_slice2O (E := EI) rfl _ _ rfl k u rfl rfl ?_; intro xs w5 hxs hown5 hx5; have HXS := Lib.hid hxs; have HX5 := Lib.hid hx5; have HOW := Lib.hid hown5; clear hxs hx5 hown5))
  have hm5 : MkV g4 w5 (.slice none 0 0) [] := ⟨HB4.out.below HX5.out, Own.nil _ _ _⟩
  have hno : ∀ k, (Value.slice none 0 0).ownBlock ≠ some k := fun k h => by simp [Value.ownBlock] at h
  refine (num_any g4 _ xs [k, u] [] w5 (by intro n hn; simp only [List.mem_cons, List.not_mem_nil, or_false] at hn; rcases hn with rfl | rfl <;> omega) (by simp) (by simp) (Off.behind (w0 := w4) HXS.out HOW.out hlt4 (fun k hk => absurd hk (hno k))) hm5).mono ?_
  rintro e w6 ⟨rfl, v6, hm6, hs6⟩
  have h6 := hm5.stepBelow hs6
  have h36 : Below w3.heap.size w3 w6 := (Agg.belowThen HX4.out (Nat.le_refl _) HX5.out).trans (h6.mono hg4)
  have HM := Lib.hid (show MkV g4 w6 v6 (encN k ++ encN u) by simpa using hm6)
  have HK := Lib.hid h36
  clear hm5 hm6 hs6 h6 h36 hno
  have hv : ∀ k, v6.ownBlock = some k → w3.heap.size ≤ k := fun k hk => by have := HM.out.ge k hk; omega
  have HV := Lib.hid hv
  clear hv
  go_wp2_with fail
  refine (hasB (P := 36) (c := 1) (b := false) (by omega) (by omega) (by decide) _).mono ?_
  rintro e u8 ⟨rfl, rfl⟩
  go_wp2_with fail
  refine (hasB (P := 36) (c := 2) (b := false) (by omega) (by omega) (by decide) _).mono ?_
  rintro e u9 ⟨rfl, rfl⟩
  go_wp2_with fail
  refine (hasB (P := 36) (c := 12) (b := true) (by omega) (by omega) (by decide) _).mono ?_
  rintro e u10 ⟨rfl, rfl⟩
  have HLW := Lib.hid (HL.out.below HK.out)
  go_wp2_with (first | (with_reducible refine Agg.wpList_loadL HLW.out.path rfl _ rfl rfl ?_))
  refine (shown_any ph pn hl _).mono ?_
  rintro e w11 ⟨x11, y11, rfl, hy, hn, hx⟩
  have HN := Lib.hid hn
  have HX := Lib.hid hx
  have HY := Lib.hid hy
  obtain ⟨sv, hsv⟩ := newBytes_sv hn
  have HSV := Lib.hid hsv
  clear hn hx hsv hy
  go_wp2_with (first | (refine Agg.wpList_slice1 (E := EBB) (base := w11.heap.size) rfl _ rfl sv HSV.out (Nat.le_refl _) ?_; intro xs12 w12 hxs hx; have HXS := Lib.hid hxs; have HX2 := Lib.hid hx; clear hxs hx))
  have hx := Agg.belowThen HX.out (Nat.le_refl _) HX2.out
  have HM0 := Lib.hid (HM.out.below hx)
  refine (text_any g4 v6 xs12 sv (pathS ph pn) _ w12 (by simp only [List.length_append]; omega) (by omega) (Off.behind (w0 := u10) HXS.out.slice (fun k hk => Nat.le_trans HX.out.size (HXS.out.block k hk).1) HM.out.blk.lt HM.out.lt) (Off.behind (w0 := u10) (by rw [← HSV.out]; exact HN.out.slice.below HX2.out) (by rw [← HSV.out]; exact fun k hk => Nat.le_trans HY.out.size (newBytes_own HN.out k hk)) HM.out.blk.lt HM.out.lt) HM0.out).mono ?_
  rintro e w13 ⟨rfl, v13, hm, hs⟩
  have HK := Lib.hid (Agg.belowThen HK.out (Nat.le_refl _) hx)
  clear HLW HXS HX HX2 hx HN HSV HY
  have HK := Lib.hid (HK.out.trans ((HM0.out.stepBelow hs).mono hg4))
  have HM := Lib.hid (show MkV g4 w13 v13 ((encN k ++ encN u) ++ (encN (pathS ph pn).length ++ pathS ph pn)) from hm)
  have HV := Lib.hid (show ∀ k, v13.ownBlock = some k → w3.heap.size ≤ k from fun k hk => by have := HM.out.ge k hk; omega)
  clear hm hs HM0
  have hep := HEP.out
  go_wp2_with fail
  refine (hasB (P := 36) (c := 16) (b := false) (by omega) (by omega) (by decide) _).mono ?_
  rintro e u14 ⟨rfl, rfl⟩
  go_wp2_with fail
  refine (hasB (P := 36) (c := 32) (b := true) (by omega) (by omega) (by decide) _).mono ?_
  rintro e u15 ⟨rfl, rfl⟩
  have HLW := Lib.hid (HL.out.below HK.out)
  obtain ⟨sv, hsv⟩ := bytes_sv HBY.out
  have HSV := Lib.hid hsv
  clear hsv
  go_wp2_with (first | (with_reducible refine Agg.wpList_loadL HLW.out.bytes rfl _ rfl rfl ?_) | (refine Agg.wpList_slice1 (E := EBB) (base := u15.heap.size) rfl _ rfl sv HSV.out (Nat.le_refl _) ?_; intro xs17 w17 hxs hx; have HXS := Lib.hid hxs; have HX := Lib.hid hx; clear hxs hx))
  have HM0 := Lib.hid (HM.out.below HX.out)
  refine (text_any g4 v13 xs17 sv bs _ w17 (by simp only [List.length_append]; omega) (by omega) (Off.behind (w0 := u15) HXS.out.slice (fun k hk => (HXS.out.block k hk).1) HM.out.blk.lt HM.out.lt) (Off.before (w0 := w3) (by rw [← HSV.out]; exact HBY.out) (Agg.belowThen HK.out (Nat.le_refl _) HX.out) hg4 HV.out) HM0.out).mono ?_
  rintro e w18 ⟨rfl, v18, hm, hs⟩
  have HK := Lib.hid (Agg.belowThen HK.out (Nat.le_refl _) HX.out)
  clear HLW HXS HX HSV
  have HK := Lib.hid (HK.out.trans ((HM0.out.stepBelow hs).mono hg4))
  have HM := Lib.hid (show MkV g4 w18 v18 (((encN k ++ encN u) ++ (encN (pathS ph pn).length ++ pathS ph pn)) ++ (encN bs.length ++ bs)) from hm)
  have HV := Lib.hid (show ∀ k, v18.ownBlock = some k → w3.heap.size ≤ k from fun k hk => by have := HM.out.ge k hk; omega)
  clear hm hs HM0
  have heb := HEB.out
  have HE := Lib.hid (show (((encN k ++ encN u) ++ (encN (pathS ph pn).length ++ pathS ph pn)) ++ (encN bs.length ++ bs)) = putRq ⟨k, u, wh, nm, bs, ph, pn, ch⟩ by
    unfold putRq
    simp only [HPE.out]
    unfold putP
    simp only [show hasN 36 1 = false from by decide, show hasN 36 2 = false from by decide, show hasN 36 12 = true from by decide, show hasN 36 16 = false from by decide, show hasN 36 32 = true from by decide, encT, if_true, Bool.false_eq_true, if_false, Int.toNat_natCast, List.append_assoc, List.nil_append])
  have HKK := Lib.hid (Agg.belowThen HW.out (Nat.le_refl _) HK.out)
  have hszw := HKK.out.size
  go_wp2_with fail
  refine (done_any g4 v18 _ _ (by simp only [List.length_append]; omega) HM.out).mono ?_
  rintro e w7 ⟨v7, rfl, ho7, hx7⟩
  rw [HE.out] at ho7
  have HO7 := Lib.hid (ho7.lower hszw)
  have HW7 := Lib.hid (Agg.belowThen HKK.out (Nat.le_refl _) hx7)
  clear ho7 hx7
  go_wp2_with fail
  go_ret2
  exact ⟨_, rfl, HO7.out, HW7.out⟩
set_option maxRecDepth 100000 in
set_option maxHeartbeats 4000000 in
theorem rput_8 (k u wh : Nat) (nm : List UInt8) (vb : Value) (bs ph pn ch : List UInt8) (hP : partsN k = 8) (hl : ph.length = 20) (hc : ch.length = 20) (hk : k ≤ 10) (hu : u ≤ 8) (hwh : wh ≤ 16) (hnm : nm.length ≤ 24) (hbs : bs.length ≤ 4096)
    (hr : rightN k u wh nm bs.length ph pn ch = true) (w : World) (hb : BytesAt w vb bs) :
    Calls Try.prog 22 #[.agg (rqG k u wh nm vb ph pn ch)] w fun e w' => ∃ v', e = .returned (.tuple #[v', .int .i64 0]) ∧ Own EB w.heap.size w' v' (putRq ⟨k, u, wh, nm, bs, ph, pn, ch⟩) ∧ Below w.heap.size w w' := by
  have HBLD := Lib.hid (fun W => (by kernel_rfl : (Instr.build 74 #[]).run Try.prog W = .ok (.agg (mkC (.slice none 0 0))) W))
  have HP := Lib.hid (fun W => (show Calls Try.prog 45 #[.int .i64 k] W fun e w' => e = .returned (.int .u8 8) ∧ w' = W by have := parts_any k W; rwa [hP] at this))
  have HPE := Lib.hid hP
  have HRT := Lib.hid (fun W (h : BytesAt W vb bs) => (show Calls Try.prog 23 #[.agg (rqG k u wh nm vb ph pn ch)] W fun e w' => e = .returned (.bool true) ∧ Below W.heap.size W w' by have := right_any k u wh nm vb bs ph pn ch hl hc W h; rwa [hr] at this))
  have HBY := Lib.hid hb
  have hek := encN_len (n := k) (by omega)
  have heu := encN_len (n := u) (by omega)
  have hew := encN_len (n := wh) (by omega)
  have HEN := Lib.hid (encN_len (n := nm.length) (by omega))
  have HEB := Lib.hid (encN_len (n := bs.length) (by omega))
  have hpl := pathS_le (n := pn) ph
  have HEP := Lib.hid (encN_len (n := (pathS ph pn).length) (by omega))
  clear hP hr hb
  go_enter Try.func22, Try.ntmps22
  go_wp2_with (first | (with_reducible refine Agg.wpList_box rfl 46 _ rfl (rqG k u wh nm vb ph pn ch) rfl ?_; intro g w1 hb1 hx1 hg; have HL := Lib.hid (RqG.of_blk hb1 hl hc); have HB := Lib.hid hb1; have HW := Lib.hid hx1; clear hb1 hx1 hg) | (with_reducible refine Agg.wpList_loadL HL.out.all rfl _ rfl rfl ?_))
  refine (HRT.out _ (HBY.out.below HW.out)).mono ?_
  rintro e w2 ⟨rfl, hx2⟩
  have HL := Lib.hid (HL.out.below hx2)
  have HB := Lib.hid (HB.out.below hx2)
  have HW := Lib.hid (Agg.belowThen HW.out (Nat.le_refl _) hx2)
  clear hx2
  go_wp2_with (first | (with_reducible refine Agg.wpList_loadL HL.out.kind rfl _ rfl rfl ?_))
  refine (HP.out _).mono ?_
  rintro e w3 ⟨rfl, rfl⟩
  have hsz := HW.out.size
  have HBY := Lib.hid (HBY.out.below HW.out)
  go_wp2_with (first | (with_reducible refine Agg.wpList_build0 74 rfl rfl (.agg (mkC (.slice none 0 0))) HBLD.out ?_) | (with_reducible refine Agg.wpList_box rfl 74 _ rfl (mkC (.slice none 0 0)) rfl ?_; intro g4 w4 hb4 hx4 hg4; have hlt4 := hb4.lt; have HB4 := Lib.hid hb4; have HX4 := Lib.hid hx4; have HL4 := Lib.hid (HL.out.below hx4); clear hb4 hx4) | (with_reducible refine Agg.wpList_loadL HL4.out.kind rfl _ rfl rfl ?_) | (with_reducible refine Agg.wpList_loadL HL4.out.user rfl _ rfl rfl ?_) | (refine Agg.wpList_slice2O (E := EI) rfl _ _ rfl k u rfl rfl ?_; intro xs w5 hxs hown5 hx5; have HXS := Lib.hid hxs; have HX5 := Lib.hid hx5; have HOW := Lib.hid hown5; clear hxs hx5 hown5))
  have hm5 : MkV g4 w5 (.slice none 0 0) [] := ⟨HB4.out.below HX5.out, Own.nil _ _ _⟩
  have hno : ∀ k, (Value.slice none 0 0).ownBlock ≠ some k := fun k h => by simp [Value.ownBlock] at h
  refine (num_any g4 _ xs [k, u] [] w5 (by intro n hn; simp only [List.mem_cons, List.not_mem_nil, or_false] at hn; rcases hn with rfl | rfl <;> omega) (by simp) (by simp) (Off.behind (w0 := w4) HXS.out HOW.out hlt4 (fun k hk => absurd hk (hno k))) hm5).mono ?_
  rintro e w6 ⟨rfl, v6, hm6, hs6⟩
  have h6 := hm5.stepBelow hs6
  have h36 : Below w3.heap.size w3 w6 := (Agg.belowThen HX4.out (Nat.le_refl _) HX5.out).trans (h6.mono hg4)
  have HM := Lib.hid (show MkV g4 w6 v6 (encN k ++ encN u) by simpa using hm6)
  have HK := Lib.hid h36
  clear hm5 hm6 hs6 h6 h36 hno
  have hv : ∀ k, v6.ownBlock = some k → w3.heap.size ≤ k := fun k hk => by have := HM.out.ge k hk; omega
  have HV := Lib.hid hv
  clear hv
  go_wp2_with fail
  refine (hasB (P := 8) (c := 1) (b := false) (by omega) (by omega) (by decide) _).mono ?_
  rintro e u8 ⟨rfl, rfl⟩
  go_wp2_with fail
  refine (hasB (P := 8) (c := 2) (b := false) (by omega) (by omega) (by decide) _).mono ?_
  rintro e u9 ⟨rfl, rfl⟩
  go_wp2_with fail
  refine (hasB (P := 8) (c := 12) (b := true) (by omega) (by omega) (by decide) _).mono ?_
  rintro e u10 ⟨rfl, rfl⟩
  have HLW := Lib.hid (HL.out.below HK.out)
  go_wp2_with (first | (with_reducible refine Agg.wpList_loadL HLW.out.path rfl _ rfl rfl ?_))
  refine (shown_any ph pn hl _).mono ?_
  rintro e w11 ⟨x11, y11, rfl, hy, hn, hx⟩
  have HN := Lib.hid hn
  have HX := Lib.hid hx
  have HY := Lib.hid hy
  obtain ⟨sv, hsv⟩ := newBytes_sv hn
  have HSV := Lib.hid hsv
  clear hn hx hsv hy
  go_wp2_with (first | (refine Agg.wpList_slice1 (E := EBB) (base := w11.heap.size) rfl _ rfl sv HSV.out (Nat.le_refl _) ?_; intro xs12 w12 hxs hx; have HXS := Lib.hid hxs; have HX2 := Lib.hid hx; clear hxs hx))
  have hx := Agg.belowThen HX.out (Nat.le_refl _) HX2.out
  have HM0 := Lib.hid (HM.out.below hx)
  refine (text_any g4 v6 xs12 sv (pathS ph pn) _ w12 (by simp only [List.length_append]; omega) (by omega) (Off.behind (w0 := u10) HXS.out.slice (fun k hk => Nat.le_trans HX.out.size (HXS.out.block k hk).1) HM.out.blk.lt HM.out.lt) (Off.behind (w0 := u10) (by rw [← HSV.out]; exact HN.out.slice.below HX2.out) (by rw [← HSV.out]; exact fun k hk => Nat.le_trans HY.out.size (newBytes_own HN.out k hk)) HM.out.blk.lt HM.out.lt) HM0.out).mono ?_
  rintro e w13 ⟨rfl, v13, hm, hs⟩
  have HK := Lib.hid (Agg.belowThen HK.out (Nat.le_refl _) hx)
  clear HLW HXS HX HX2 hx HN HSV HY
  have HK := Lib.hid (HK.out.trans ((HM0.out.stepBelow hs).mono hg4))
  have HM := Lib.hid (show MkV g4 w13 v13 ((encN k ++ encN u) ++ (encN (pathS ph pn).length ++ pathS ph pn)) from hm)
  have HV := Lib.hid (show ∀ k, v13.ownBlock = some k → w3.heap.size ≤ k from fun k hk => by have := HM.out.ge k hk; omega)
  clear hm hs HM0
  have hep := HEP.out
  go_wp2_with fail
  refine (hasB (P := 8) (c := 16) (b := false) (by omega) (by omega) (by decide) _).mono ?_
  rintro e u14 ⟨rfl, rfl⟩
  go_wp2_with fail
  refine (hasB (P := 8) (c := 32) (b := false) (by omega) (by omega) (by decide) _).mono ?_
  rintro e u15 ⟨rfl, rfl⟩
  have HE := Lib.hid (show ((encN k ++ encN u) ++ (encN (pathS ph pn).length ++ pathS ph pn)) = putRq ⟨k, u, wh, nm, bs, ph, pn, ch⟩ by
    unfold putRq
    simp only [HPE.out]
    unfold putP
    simp only [show hasN 8 1 = false from by decide, show hasN 8 2 = false from by decide, show hasN 8 12 = true from by decide, show hasN 8 16 = false from by decide, show hasN 8 32 = false from by decide, encT, if_true, Bool.false_eq_true, if_false, Int.toNat_natCast, List.append_assoc, List.nil_append, List.append_nil])
  have HKK := Lib.hid (Agg.belowThen HW.out (Nat.le_refl _) HK.out)
  have hszw := HKK.out.size
  go_wp2_with fail
  refine (done_any g4 v13 _ _ (by simp only [List.length_append]; omega) HM.out).mono ?_
  rintro e w7 ⟨v7, rfl, ho7, hx7⟩
  rw [HE.out] at ho7
  have HO7 := Lib.hid (ho7.lower hszw)
  have HW7 := Lib.hid (Agg.belowThen HKK.out (Nat.le_refl _) hx7)
  clear ho7 hx7
  go_wp2_with fail
  go_ret2
  exact ⟨_, rfl, HO7.out, HW7.out⟩
set_option maxRecDepth 100000 in
set_option maxHeartbeats 4000000 in
theorem rput_0 (k u wh : Nat) (nm : List UInt8) (vb : Value) (bs ph pn ch : List UInt8) (hP : partsN k = 0) (hl : ph.length = 20) (hc : ch.length = 20) (hk : k ≤ 10) (hu : u ≤ 8) (hwh : wh ≤ 16) (hnm : nm.length ≤ 24) (hbs : bs.length ≤ 4096)
    (hr : rightN k u wh nm bs.length ph pn ch = true) (w : World) (hb : BytesAt w vb bs) :
    Calls Try.prog 22 #[.agg (rqG k u wh nm vb ph pn ch)] w fun e w' => ∃ v', e = .returned (.tuple #[v', .int .i64 0]) ∧ Own EB w.heap.size w' v' (putRq ⟨k, u, wh, nm, bs, ph, pn, ch⟩) ∧ Below w.heap.size w w' := by
  have HBLD := Lib.hid (fun W => (by kernel_rfl : (Instr.build 74 #[]).run Try.prog W = .ok (.agg (mkC (.slice none 0 0))) W))
  have HP := Lib.hid (fun W => (show Calls Try.prog 45 #[.int .i64 k] W fun e w' => e = .returned (.int .u8 0) ∧ w' = W by have := parts_any k W; rwa [hP] at this))
  have HPE := Lib.hid hP
  have HRT := Lib.hid (fun W (h : BytesAt W vb bs) => (show Calls Try.prog 23 #[.agg (rqG k u wh nm vb ph pn ch)] W fun e w' => e = .returned (.bool true) ∧ Below W.heap.size W w' by have := right_any k u wh nm vb bs ph pn ch hl hc W h; rwa [hr] at this))
  have HBY := Lib.hid hb
  have hek := encN_len (n := k) (by omega)
  have heu := encN_len (n := u) (by omega)
  have hew := encN_len (n := wh) (by omega)
  have HEN := Lib.hid (encN_len (n := nm.length) (by omega))
  have HEB := Lib.hid (encN_len (n := bs.length) (by omega))
  have hpl := pathS_le (n := pn) ph
  have HEP := Lib.hid (encN_len (n := (pathS ph pn).length) (by omega))
  clear hP hr hb
  go_enter Try.func22, Try.ntmps22
  go_wp2_with (first | (with_reducible refine Agg.wpList_box rfl 46 _ rfl (rqG k u wh nm vb ph pn ch) rfl ?_; intro g w1 hb1 hx1 hg; have HL := Lib.hid (RqG.of_blk hb1 hl hc); have HB := Lib.hid hb1; have HW := Lib.hid hx1; clear hb1 hx1 hg) | (with_reducible refine Agg.wpList_loadL HL.out.all rfl _ rfl rfl ?_))
  refine (HRT.out _ (HBY.out.below HW.out)).mono ?_
  rintro e w2 ⟨rfl, hx2⟩
  have HL := Lib.hid (HL.out.below hx2)
  have HB := Lib.hid (HB.out.below hx2)
  have HW := Lib.hid (Agg.belowThen HW.out (Nat.le_refl _) hx2)
  clear hx2
  go_wp2_with (first | (with_reducible refine Agg.wpList_loadL HL.out.kind rfl _ rfl rfl ?_))
  refine (HP.out _).mono ?_
  rintro e w3 ⟨rfl, rfl⟩
  have hsz := HW.out.size
  have HBY := Lib.hid (HBY.out.below HW.out)
  go_wp2_with (first | (with_reducible refine Agg.wpList_build0 74 rfl rfl (.agg (mkC (.slice none 0 0))) HBLD.out ?_) | (with_reducible refine Agg.wpList_box rfl 74 _ rfl (mkC (.slice none 0 0)) rfl ?_; intro g4 w4 hb4 hx4 hg4; have hlt4 := hb4.lt; have HB4 := Lib.hid hb4; have HX4 := Lib.hid hx4; have HL4 := Lib.hid (HL.out.below hx4); clear hb4 hx4) | (with_reducible refine Agg.wpList_loadL HL4.out.kind rfl _ rfl rfl ?_) | (with_reducible refine Agg.wpList_loadL HL4.out.user rfl _ rfl rfl ?_) | (refine Agg.wpList_slice2O (E := EI) rfl _ _ rfl k u rfl rfl ?_; intro xs w5 hxs hown5 hx5; have HXS := Lib.hid hxs; have HX5 := Lib.hid hx5; have HOW := Lib.hid hown5; clear hxs hx5 hown5))
  have hm5 : MkV g4 w5 (.slice none 0 0) [] := ⟨HB4.out.below HX5.out, Own.nil _ _ _⟩
  have hno : ∀ k, (Value.slice none 0 0).ownBlock ≠ some k := fun k h => by simp [Value.ownBlock] at h
  refine (num_any g4 _ xs [k, u] [] w5 (by intro n hn; simp only [List.mem_cons, List.not_mem_nil, or_false] at hn; rcases hn with rfl | rfl <;> omega) (by simp) (by simp) (Off.behind (w0 := w4) HXS.out HOW.out hlt4 (fun k hk => absurd hk (hno k))) hm5).mono ?_
  rintro e w6 ⟨rfl, v6, hm6, hs6⟩
  have h6 := hm5.stepBelow hs6
  have h36 : Below w3.heap.size w3 w6 := (Agg.belowThen HX4.out (Nat.le_refl _) HX5.out).trans (h6.mono hg4)
  have HM := Lib.hid (show MkV g4 w6 v6 (encN k ++ encN u) by simpa using hm6)
  have HK := Lib.hid h36
  clear hm5 hm6 hs6 h6 h36 hno
  have hv : ∀ k, v6.ownBlock = some k → w3.heap.size ≤ k := fun k hk => by have := HM.out.ge k hk; omega
  have HV := Lib.hid hv
  clear hv
  go_wp2_with fail
  refine (hasB (P := 0) (c := 1) (b := false) (by omega) (by omega) (by decide) _).mono ?_
  rintro e u8 ⟨rfl, rfl⟩
  go_wp2_with fail
  refine (hasB (P := 0) (c := 2) (b := false) (by omega) (by omega) (by decide) _).mono ?_
  rintro e u9 ⟨rfl, rfl⟩
  go_wp2_with fail
  refine (hasB (P := 0) (c := 12) (b := false) (by omega) (by omega) (by decide) _).mono ?_
  rintro e u10 ⟨rfl, rfl⟩
  go_wp2_with fail
  refine (hasB (P := 0) (c := 16) (b := false) (by omega) (by omega) (by decide) _).mono ?_
  rintro e u11 ⟨rfl, rfl⟩
  go_wp2_with fail
  refine (hasB (P := 0) (c := 32) (b := false) (by omega) (by omega) (by decide) _).mono ?_
  rintro e u12 ⟨rfl, rfl⟩
  have HE := Lib.hid (show (encN k ++ encN u) = putRq ⟨k, u, wh, nm, bs, ph, pn, ch⟩ by
    unfold putRq
    simp only [HPE.out]
    unfold putP
    simp only [show hasN 0 1 = false from by decide, show hasN 0 2 = false from by decide, show hasN 0 12 = false from by decide, show hasN 0 16 = false from by decide, show hasN 0 32 = false from by decide, Bool.false_eq_true, if_false, Int.toNat_natCast, List.append_nil])
  have HKK := Lib.hid (Agg.belowThen HW.out (Nat.le_refl _) HK.out)
  have hszw := HKK.out.size
  go_wp2_with fail
  refine (done_any g4 v6 _ _ (by simp only [List.length_append]; omega) HM.out).mono ?_
  rintro e w7 ⟨v7, rfl, ho7, hx7⟩
  rw [HE.out] at ho7
  have HO7 := Lib.hid (ho7.lower hszw)
  have HW7 := Lib.hid (Agg.belowThen HKK.out (Nat.le_refl _) hx7)
  clear ho7 hx7
  go_wp2_with fail
  go_ret2
  exact ⟨_, rfl, HO7.out, HW7.out⟩
end Go.Proofs.Ytpnolgliklmnmaa
/-! wire.Put of any request. -/
namespace Go.Proofs.Ytpnolgliklmnmaa
open Go.RowKit Pl Go.Agg
set_option maxRecDepth 100000 in
set_option maxHeartbeats 4000000 in
theorem rput_bad (k u wh : Int) (nm : List UInt8) (vb : Value) (bs ph pn ch : List UInt8) (hl : ph.length = 20) (hc : ch.length = 20) (hr : rightN k u wh nm bs.length ph pn ch = false) (w : World) (hb : BytesAt w vb bs) :
    Calls Try.prog 22 #[.agg (rqG k u wh nm vb ph pn ch)] w fun e w' => e = .returned (.tuple #[.slice none 0 0, .int .i64 2]) ∧ Below w.heap.size w w' := by
  have HRT := Lib.hid (fun W (h : BytesAt W vb bs) => (show Calls Try.prog 23 #[.agg (rqG k u wh nm vb ph pn ch)] W fun e w' => e = .returned (.bool false) ∧ Below W.heap.size W w' by have := right_any k u wh nm vb bs ph pn ch hl hc W h; rwa [hr] at this))
  have HBY := Lib.hid hb
  clear hr hb
  go_enter Try.func22, Try.ntmps22
  go_wp2_with (first | (with_reducible refine Agg.wpList_box rfl 46 _ rfl (rqG k u wh nm vb ph pn ch) rfl ?_; intro g w1 hb1 hx1 hg; have HL := Lib.hid (RqG.of_blk hb1 hl hc); have HW := Lib.hid hx1; clear hb1 hx1 hg) | (with_reducible refine Agg.wpList_loadL HL.out.all rfl _ rfl rfl ?_))
  refine (HRT.out _ (HBY.out.below HW.out)).mono ?_
  rintro e w2 ⟨rfl, hx2⟩
  have HW := Lib.hid (Agg.belowThen HW.out (Nat.le_refl _) hx2)
  clear hx2
  go_wp2_with fail
  go_ret2
  exact ⟨rfl, HW.out⟩
/-- what Put tells -/
def rqBytes (q : Rq) : List UInt8 := if q.right then putRq q else []
def rqCode (q : Rq) : Nat := if q.right then 0 else 2
theorem right_bounds {k u wh : Int} {nm bs ph pn ch : List UInt8} (hr : rightN k u wh nm bs.length ph pn ch = true) : (1 ≤ k ∧ k ≤ 10) ∧ (1 ≤ u ∧ u ≤ 8) ∧ (0 ≤ wh ∧ wh ≤ 16) ∧ nm.length ≤ 24 ∧ bs.length ≤ 4096 := by
  have R := Rq.right_parts (q := ⟨k, u, wh, nm, bs, ph, pn, ch⟩) hr
  refine ⟨R.k, R.u, ?_, ?_, Nat.le_trans R.bs (most_le _)⟩
  · cases h : hasN (partsN k) 1 with
    | true => have := R.wh1 h; simp only at this; omega
    | false => have := R.wh0 h; simp only at this; omega
  · cases h : hasN (partsN k) 2 with
    | true => exact isName_le (R.nm1 h)
    | false => have := R.nm0 h; simp only at this; simp [this]
theorem rput_any (k u wh : Int) (nm : List UInt8) (vb : Value) (bs ph pn ch : List UInt8) (hl : ph.length = 20) (hc : ch.length = 20) (w : World) (hb : BytesAt w vb bs) :
    Calls Try.prog 22 #[.agg (rqG k u wh nm vb ph pn ch)] w fun e w' => ∃ v', e = .returned (.tuple #[v', .int .i64 (rqCode ⟨k, u, wh, nm, bs, ph, pn, ch⟩ : Int)]) ∧ Own EB w.heap.size w' v' (rqBytes ⟨k, u, wh, nm, bs, ph, pn, ch⟩) ∧ Below w.heap.size w w' := by
  have hq : Rq.right ⟨k, u, wh, nm, bs, ph, pn, ch⟩ = rightN k u wh nm bs.length ph pn ch := rfl
  unfold rqCode rqBytes
  rw [hq]
  cases hr : rightN k u wh nm bs.length ph pn ch with
  | false =>
    refine (rput_bad k u wh nm vb bs ph pn ch hl hc hr w hb).mono ?_
    rintro e w' ⟨rfl, hx⟩
    exact ⟨_, rfl, Own.nil _ _ _, hx⟩
  | true =>
    obtain ⟨h1, h2, h3, h4, h5⟩ := right_bounds hr
    obtain ⟨k, rfl⟩ : ∃ n : Nat, k = n := ⟨k.toNat, by omega⟩
    obtain ⟨u, rfl⟩ : ∃ n : Nat, u = n := ⟨u.toNat, by omega⟩
    obtain ⟨wh, rfl⟩ : ∃ n : Nat, wh = n := ⟨wh.toNat, by omega⟩
    simp only [if_true]
    rcases parts_cases (k : Int) with h | h | h | h | h | h | h | h | h
    · exact rput_34 k u wh nm vb bs ph pn ch h hl hc (by omega) (by omega) (by omega) h4 h5 hr w hb
    · exact rput_32 k u wh nm vb bs ph pn ch h hl hc (by omega) (by omega) (by omega) h4 h5 hr w hb
    · exact rput_16 k u wh nm vb bs ph pn ch h hl hc (by omega) (by omega) (by omega) h4 h5 hr w hb
    · exact rput_1 k u wh nm vb bs ph pn ch h hl hc (by omega) (by omega) (by omega) h4 h5 hr w hb
    · exact rput_6 k u wh nm vb bs ph pn ch h hl hc (by omega) (by omega) (by omega) h4 h5 hr w hb
    · exact rput_2 k u wh nm vb bs ph pn ch h hl hc (by omega) (by omega) (by omega) h4 h5 hr w hb
    · exact rput_36 k u wh nm vb bs ph pn ch h hl hc (by omega) (by omega) (by omega) h4 h5 hr w hb
    · exact rput_8 k u wh nm vb bs ph pn ch h hl hc (by omega) (by omega) (by omega) h4 h5 hr w hb
    · exact rput_0 k u wh nm vb bs ph pn ch h hl hc (by omega) (by omega) (by omega) h4 h5 hr w hb
end Go.Proofs.Ytpnolgliklmnmaa
/-! wire.PutReply: what it needs. -/
namespace Go.Agg
open Go.RowKit
variable {P : Program} {ops : Array Oper} {o : Oper} {a : Act} {w : World}
theorem exec_load {ty : TypeId} {x : Operand} {p v : Value} (ho : o.op = .load ty x) (hx : a.eval x = p) (hrun : (Instr.loadAt ty p).run P w = .ok v w) : (execOp a.eval o).run P w = .ok (.value v) w := by simp [execOp, ho, hx, hrun]
theorem exec_len {st : TypeId} {x : Operand} {v r : Value} (ho : o.op = .call { callee := .builtin .len, args := #[x], argTypes := #[st] }) (hx : a.eval x = v) (hrun : (Builtin.len_ #[st] o.type #[v]).run P w = .ok r w) : (execOp a.eval o).run P w = .ok (.value r) w := by
  simp [execOp, ho, resolve, invoke, builtin, hx, hrun]
end Go.Agg
namespace Go.Proofs.Ytpnolgliklmnmaa
open Go.RowKit Pl Go.Agg
/-- numbers in a slice, made ahead of a maker -/
structure PreI (w : World) (x : Value) (l : List Nat) : Prop where
  slice : SliceOf EI w x l
  lt : ∀ k, x.ownBlock = some k → k < w.heap.size
theorem PreI.below {w w' : World} {x : Value} {l : List Nat} (h : PreI w x l) (hb : Below w.heap.size w w') : PreI w' x l := ⟨h.slice.below hb, fun k hk => Nat.lt_of_lt_of_le (h.lt k hk) hb.size⟩
theorem PreI.off {w w' : World} {x : Value} {l : List Nat} {g : Nat} (h : PreI w x l) (hb : Below w.heap.size w w') (hg : w.heap.size ≤ g) : Off EI g w' (.slice none 0 0) x l :=
  ⟨h.slice.below hb, .inr fun k hk => ⟨Nat.lt_of_lt_of_le (h.lt k hk) hb.size, by have := h.lt k hk; omega, by simp [Value.ownBlock]⟩⟩
theorem step_ints3 {ops : Array Oper} {o : Oper} {a : Act} {w : World} {Q : Exit → Act → World → Prop} {K : Act → World → Prop} {F : Prop} (hg : o.guard = none) (x y z : Operand) (ho : o.op = .buildSlice 64 3 #[(0, x), (1, y), (2, z)]) (p q r : Nat) (hx : a.eval x = .int .i64 (p : Int)) (hy : a.eval y = .int .i64 (q : Int)) (hz : a.eval z = .int .i64 (r : Int))
    (h : ∀ v' w', PreI w' v' [p, q, r] → (∀ k, v'.ownBlock = some k → w.heap.size ≤ k) → Below w.heap.size w w' → K (a.put o.dst v') w') : if Region.wanted o (yielded ops a.tmps) = true then o.wp Try.prog a w K Q else F := by
  have hb : (Instr.buildSlice 64 3 #[(0, .int .i64 (p : Int)), (1, .int .i64 (q : Int)), (2, .int .i64 (r : Int))]).run Try.prog w = .ok (.slice (some ⟨w.heap.size, 0, none⟩) 3 3) (w.alloc (.cells #[.int .i64 (p : Int), .int .i64 (q : Int), .int .i64 (r : Int)] 3)) := by kernel_rfl
  have hB := Blk.new w 3 #[.int .i64 (p : Int), .int .i64 (q : Int), .int .i64 (r : Int)]
  refine step_val hg (v := .slice (some ⟨w.heap.size, 0, none⟩) 3 3) (w' := w.alloc (.cells #[.int .i64 (p : Int), .int .i64 (q : Int), .int .i64 (r : Int)] 3)) (by simp [execOp, ho, hx, hy, hz, hb]) (h _ _ ⟨SliceOf.of_cells (E := EI) (l := [p, q, r]) hB (by simp [Elem.flat, Elem.cs]; rfl), fun k hk => ?_⟩ (fun k hk => ?_) ((Below.refl _ _).alloc (Nat.le_refl _) _))
  · simp only [Value.ownBlock, Option.some.injEq] at hk
    subst hk
    exact hB.lt
  · simp only [Value.ownBlock, Option.some.injEq] at hk
    omega
theorem own_pre {B : Nat} {w : World} {x : Value} {l : List Nat} (h : Own EI B w x l) : PreI w x l := ⟨h.slice, fun k hk => by
  obtain ⟨_, cur, hc⟩ := h.block k hk
  exact Agg.heap_lt hc⟩
theorem rp_class_slice {w : World} {b : Nat} {e g m : Int} {pv : Value} {ph pn ch : List UInt8} (h : Blk w b 49 (rpG e ph pn ch g pv m)) (hl : ph.length = 20) (hc : ch.length = 20) : SliceOf EB w (.slice (some ⟨b, 22, none⟩) 20 20) ch := by
  refine .inr ⟨_, 20, by rw [hc], h.lt, fun j v hj => ?_⟩
  rw [add_plain, h.cell]
  refine rpG_class hl j v ?_
  rw [flat_bytes] at hj
  simpa [hC] using hj
theorem encP_le (p : P20) : (encP p).length ≤ 63 := by
  have h := pathS_le (n := p.1.2) p.1.1
  have := encN_len (n := (pathS p.1.1 p.1.2).length) (by omega)
  unfold encP encT
  rw [List.length_append]
  omega
theorem flatP_le : ∀ l : List P20, (l.flatMap encP).length ≤ l.length * 63
  | [] => by simp
  | p :: l => by
    have := encP_le p
    have := flatP_le l
    simp only [List.flatMap_cons, List.length_append, List.length_cons]
    omega
theorem take_flatP {l : List P20} {k : Nat} {x : P20} (h : l[k]? = some x) : (l.take (k + 1)).flatMap encP = (l.take k).flatMap encP ++ encP x := by
  rw [List.take_add_one, h]
  simp
/-- what stands ahead of a reply's paths -/
def rpHead (e g m : Nat) (ph pn ch : List UInt8) (n : Nat) : List UInt8 := encN e ++ (encN g ++ encN m) ++ (encN (pathS ph pn).length ++ pathS ph pn) ++ ch ++ encN n
theorem rpHead_eq (e g m : Nat) (ph pn ch : List UInt8) (l : List P20) : rpHead e g m ph pn ch l.length ++ l.flatMap encP = putRp ⟨e, ph, pn, ch, g, l, m⟩ := by
  simp only [rpHead, putRp, encT, Int.toNat_natCast, List.append_assoc]
theorem rpHead_le {e g m n : Nat} {ph pn ch : List UInt8} (he : e ≤ 1099511627776) (hg : g ≤ 1099511627776) (hm : m ≤ 1099511627776) (hn : n ≤ 1099511627776) (hc : ch.length = 20) : (rpHead e g m ph pn ch n).length ≤ 200 := by
  have h1 := encN_len he
  have h2 := encN_len hg
  have h3 := encN_len hm
  have h4 := encN_len hn
  have h5 := pathS_le (n := pn) ph
  have h6 := encN_len (n := (pathS ph pn).length) (by omega)
  simp only [rpHead, List.length_append]
  omega
end Go.Proofs.Ytpnolgliklmnmaa
/-! wire.PutReply of any reply. -/
namespace Go.Proofs.Ytpnolgliklmnmaa
open Go.RowKit Pl Go.Agg
set_option maxRecDepth 100000 in
set_option maxHeartbeats 8000000 in
theorem pputr_good (e g m : Nat) (ph pn ch : List UInt8) (pv : Value) (l : List P20) (hl : ph.length = 20) (hc : ch.length = 20) (he : e ≤ 63) (hg : g ≤ 1099511627776) (hm : m ≤ 1099511627776) (hll : l.length ≤ 2000) (hr : Rp.right ⟨e, ph, pn, ch, g, l, m⟩ = true) (w : World) (hs : ElemsAt w pv l) :
    Calls Try.prog 26 #[.agg (rpG e ph pn ch g pv m)] w fun x w' => ∃ v', x = .returned (.tuple #[v', .int .i64 0]) ∧ Own EB w.heap.size w' v' (putRp ⟨e, ph, pn, ch, g, l, m⟩) ∧ Below w.heap.size w w' := by
  have HRT := Lib.hid (fun W (h : ElemsAt W pv l) => (show Calls Try.prog 27 #[.agg (rpG e ph pn ch g pv m)] W fun x w' => x = .returned (.bool true) ∧ Below W.heap.size W w' by have := rright_any e g m ph pn ch pv l hl hc (by omega) W h; rwa [hr] at this))
  have HY := Lib.hid hs
  have h1 := encN_len (n := e) (by omega)
  have h2 := encN_len hg
  have h3 := encN_len hm
  have h4 := encN_len (n := l.length) (by omega)
  have h5 := pathS_le (n := pn) ph
  have h6 := encN_len (n := (pathS ph pn).length) (by omega)
  have HEN := Lib.hid (enters_of Try.func46 (by kernel_rfl) rfl : ∀ args w, (callFunc 46 args).run Try.prog w = .ok (.enter 46 args) w)
  have HES := Lib.hid (enters_of Try.func48 (by kernel_rfl) rfl : ∀ args w, (callFunc 48 args).run Try.prog w = .ok (.enter 48 args) w)
  have HET := Lib.hid (enters_of Try.func37 (by kernel_rfl) rfl : ∀ args w, (callFunc 37 args).run Try.prog w = .ok (.enter 37 args) w)
  have HER := Lib.hid (enters_of Try.func49 (by kernel_rfl) rfl : ∀ args w, (callFunc 49 args).run Try.prog w = .ok (.enter 49 args) w)
  clear hr hs
  go_enter Try.func26, Try.ntmps26
  go_wp2_with (first | (with_reducible refine Agg.wpList_box rfl 49 _ rfl (rpG e ph pn ch g pv m) rfl ?_; intro b w1 hb1 hx1 hgb; have HL := Lib.hid (RpG.of_blk hb1 hl hc); have HB := Lib.hid hb1; have HW := Lib.hid hx1; clear hb1 hx1 hgb) | (with_reducible refine Agg.wpList_loadL HL.out.all rfl _ rfl rfl ?_))
  refine (HRT.out _ (HY.out.below HW.out)).mono ?_
  rintro x w2 ⟨rfl, hx2⟩
  have HB := Lib.hid (HB.out.below hx2)
  have HW := Lib.hid (Agg.belowThen HW.out (Nat.le_refl _) hx2)
  have HE := Lib.hid (HY.out.below HW.out)
  clear hx2 HL
  go_wp2_with fail
  try simp only [Act.put, List.setIfInBounds_toArray, List.set_cons_succ, List.set_cons_zero]
  obtain ⟨w0, hw0⟩ : ∃ W, W = w2.drew := ⟨_, rfl⟩
  have hd : Below w2.heap.size w2 w0 := by rw [hw0]; exact (Below.refl _ _).drew
  refine Code.wp_mono (Q := fun ex a' w' => match ex with | .normal => ∃ g4 vd xs x22 ys xn, a' = { tmps := #[.agg (rpG e ph pn ch g pv m), .pointer (some ⟨b, 0, none⟩), .slice none 0 0, .int .i64 0, .pointer (some ⟨g4, 0, none⟩), undef, undef, .agg (rpG e ph pn ch g pv m), .bool true, .bool false, .agg (mkC (.slice none 0 0)), .pointer (some ⟨g4, 0, none⟩), .pointer (some ⟨b, 0, none⟩), .int .i64 (e : Int), .pointer (some ⟨b, 42, none⟩), .int .i64 (g : Int), .pointer (some ⟨b, 44, none⟩), .int .i64 (m : Int), xs, .pointer (some ⟨g4, 0, none⟩), .pointer (some ⟨b, 1, none⟩), .agg (pC ph pn), x22, ys, .pointer (some ⟨g4, 0, none⟩), .pointer (some ⟨b, 22, none⟩), .slice (some ⟨b, 22, none⟩) 20 20, .pointer (some ⟨g4, 0, none⟩), .pointer (some ⟨b, 43, none⟩), pv, .int .i64 (l.length : Int), xn, .pointer (some ⟨g4, 0, none⟩), undef, undef, undef, undef, undef, undef, undef, undef, undef, undef, undef, undef, undef, undef, undef, undef, undef], defers := [] } ∧ w0.heap.size ≤ g4 ∧ MkV g4 w' vd (rpHead e g m ph pn ch l.length) ∧ Below w0.heap.size w0 w' | _ => False) (fun ex a' w' h => ?_) ?_
  · cases ex with
    | normal =>
      obtain ⟨g4, vd, xs, x22, ys, xn, rfl, hgw, hmk, hk⟩ := h
      have HW := Lib.hid (Agg.belowThen HW.out (Nat.le_refl _) hd)
      have HM := Lib.hid hmk
      have HK := Lib.hid hk
      have HB := Lib.hid (HB.out.below hd)
      have HE := Lib.hid (HE.out.below hd)
      have hhd := rpHead_le (ph := ph) (pn := pn) (n := l.length) (show e ≤ 1099511627776 by omega) hg hm (by omega) hc
      have hlv := fun W => elems_len HE.out W
      have hgw2 : w2.heap.size ≤ w0.heap.size := hd.size
      clear hmk hk hd hw0
      go_wp2_with (first | (with_reducible refine Agg.wpList_loadL (RpG.of_blk (HB.out.below HK.out) hl hc).paths rfl _ rfl rfl ?_))
      go_loopw [36] (fun i wr => ∃ k : Nat, ∃ vk, k ≤ l.length ∧ i = .int .i64 k ∧ MkV g4 wr vk (rpHead e g m ph pn ch l.length ++ (l.take k).flatMap encP) ∧ Below w0.heap.size w0 wr) (fun i _ => l.length - (intOf i).toNat)
      case atStart => exact ⟨0, vd, by omega, rfl, by simpa using HM.out, HK.out⟩
      case round =>
        clear HM HK
        obtain ⟨wr1, rfl⟩ : ∃ x : World, x = wr := ⟨_, rfl⟩
        obtain ⟨k, vk, hk, rfl, hmk, hbk⟩ := hrel
        have HM := Lib.hid hmk
        have HK := Lib.hid hbk
        have hfl := flatP_le (l.take k)
        have hlk : (l.take k).length ≤ 2000 := by simp; omega
        clear hmk hbk
        by_cases hlt : k < l.length
        · obtain ⟨x, hxk⟩ : ∃ x, l[k]? = some x := ⟨_, List.getElem?_eq_getElem hlt⟩
          obtain ⟨q, hadr, hld, _⟩ := elem_at (HE.out.below HK.out) k x hxk
          have HLX := Lib.hid hld
          have HX := Lib.hid (take_flatP hxk)
          have HXL := Lib.hid x.2
          have h7 := pathS_le (n := x.1.2) x.1.1
          clear hld hxk
          go_wp2_with (first | (with_reducible refine Agg.wpList_loadL HLX.out rfl _ rfl rfl ?_) | (refine Agg.wpList_new rfl rfl rfl 44 6 39 rfl rfl rfl (by decide) (pC z20 []) (pC x.1.1 x.1.2) pC_zero (by rw [pC_size, pC_size, HXL.out]; rfl) (pC_info _ _ HXL.out) (pC_one _ _) rfl (by simp [Act.put]) ?_; intro g6 w6 hb6 hx6 hg6; have HP6 := Lib.hid (hb6.loads (P := Try.prog) pC_under rfl (pC_info _ _ HXL.out)); have HM6 := Lib.hid (HM.out.below hx6); have HK6 := Lib.hid (Agg.belowThen HK.out (Nat.le_refl _) hx6); clear hb6 hx6) | (with_reducible refine Agg.wpList_loadL HP6.out rfl _ rfl rfl ?_))
          refine (shown_any x.1.1 x.1.2 x.2 _).mono ?_
          rintro r w7 ⟨x7, y7, rfl, hy, hn, hx⟩
          obtain ⟨sv, rfl⟩ := newBytes_sv hn
          have HSO := Lib.hid (Off.behind (w0 := w6) hn.slice (fun k hk => Nat.le_trans hy.size (newBytes_own hn k hk)) HM6.out.blk.lt HM6.out.lt)
          have HM7 := Lib.hid (HM6.out.below hx)
          have HK7 := Lib.hid (Agg.belowThen HK6.out (Nat.le_refl _) hx)
          clear hy hn hx
          go_wp2_with (first | (refine Agg.wpList_slice1 (E := EBB) (base := w7.heap.size) rfl _ rfl sv rfl (Nat.le_refl _) ?_; intro ys8 w8 hys hx8; have HYO := Lib.hid (Off.behind (w0 := w7) hys.slice (fun k hk => (hys.block k hk).1) HM7.out.blk.lt HM7.out.lt); have HSO8 := Lib.hid (HSO.out.step (MkStep.of_below hx8)); have HM8 := Lib.hid (HM7.out.below hx8); have HK8 := Lib.hid (Agg.belowThen HK7.out (Nat.le_refl _) hx8); clear hys hx8))
          refine (text_any g4 vk ys8 sv (pathS x.1.1 x.1.2) _ _ (by simp only [List.length_append]; omega) (by omega) HYO.out HSO8.out HM8.out).mono ?_
          rintro r w9 ⟨rfl, v9, hm9, hs9⟩
          have HM9 := Lib.hid hm9
          have HK9 := Lib.hid (HK8.out.trans ((HM8.out.stepBelow hs9).mono hgw))
          clear hm9 hs9
          go_wp2_with fail
          go_roundw
          case rel => exact ⟨k + 1, v9, by omega, by go_num, by rw [HX.out]; simpa [encP, encT, List.append_assoc] using HM9.out, HK9.out⟩
          case measure => simp [intOf]; omega
        · obtain rfl : k = l.length := by omega
          rw [List.take_length] at HM hfl
          have HWK := Lib.hid (Agg.belowThen HW.out (Nat.le_refl _) HK.out)
          have hszw := HWK.out.size
          go_wp2_with fail
          refine (done_any g4 vk _ _ (by simp only [List.length_append]; omega) HM.out).mono ?_
          rintro r w7 ⟨v7, rfl, ho7, hx7⟩
          rw [rpHead_eq] at ho7
          have HO7 := Lib.hid (ho7.lower hszw)
          have HW7 := Lib.hid (Agg.belowThen HWK.out (Nat.le_refl _) hx7)
          clear ho7 hx7
          go_wp2_with fail
          go_ret2
          exact ⟨_, rfl, HO7.out, HW7.out⟩
    | _ => exact h.elim
  · have HB := Lib.hid (HB.out.below hd)
    have HE := Lib.hid (HE.out.below hd)
    have HK0 := Lib.hid (Below.refl w0.heap.size w0)
    refine wp_region_held_drew (S := fun W => RpG W b e ph pn ch g pv m) (by kernel_rfl) (by rw [← hw0]; exact RpG.of_blk HB.out hl hc) (fun hHeld => ?_)
    rw [← hw0] at hHeld ⊢
    clear hw0 hd
    refine Agg.held_take 0 (.agg (mkC (.slice none 0 0))) rfl (by kernel_rfl) (fun _ _ _ h => h) rfl (fun W _ => by kernel_rfl) (by assumption) ?_
    try simp only [Act.put, List.setIfInBounds_toArray, List.set_cons_succ, List.set_cons_zero]
    refine Agg.held_take 2 (.pointer (some ⟨b, 0, none⟩)) rfl (by kernel_rfl) (fun _ _ _ h => h) rfl (fun W _ => by kernel_rfl) (by assumption) ?_
    try simp only [Act.put, List.setIfInBounds_toArray, List.set_cons_succ, List.set_cons_zero]
    refine Agg.held_take 3 (.int .i64 (e : Int)) rfl (by kernel_rfl) (fun _ _ _ h => h) rfl (fun W hS => Agg.exec_load rfl rfl hS.err.now) (by assumption) ?_
    try simp only [Act.put, List.setIfInBounds_toArray, List.set_cons_succ, List.set_cons_zero]
    refine Agg.held_take 4 (.pointer (some ⟨b, 42, none⟩)) rfl (by kernel_rfl) (fun _ _ _ h => h) rfl (fun W _ => by kernel_rfl) (by assumption) ?_
    try simp only [Act.put, List.setIfInBounds_toArray, List.set_cons_succ, List.set_cons_zero]
    refine Agg.held_take 5 (.int .i64 (g : Int)) rfl (by kernel_rfl) (fun _ _ _ h => h) rfl (fun W hS => Agg.exec_load rfl rfl hS.goal.now) (by assumption) ?_
    try simp only [Act.put, List.setIfInBounds_toArray, List.set_cons_succ, List.set_cons_zero]
    refine Agg.held_take 6 (.pointer (some ⟨b, 44, none⟩)) rfl (by kernel_rfl) (fun _ _ _ h => h) rfl (fun W _ => by kernel_rfl) (by assumption) ?_
    try simp only [Act.put, List.setIfInBounds_toArray, List.set_cons_succ, List.set_cons_zero]
    refine Agg.held_take 7 (.int .i64 (m : Int)) rfl (by kernel_rfl) (fun _ _ _ h => h) rfl (fun W hS => Agg.exec_load rfl rfl hS.many.now) (by assumption) ?_
    try simp only [Act.put, List.setIfInBounds_toArray, List.set_cons_succ, List.set_cons_zero]
    refine Agg.held_take 10 (.pointer (some ⟨b, 1, none⟩)) rfl (by kernel_rfl) (fun _ _ _ h => h) rfl (fun W _ => by kernel_rfl) (by assumption) ?_
    try simp only [Act.put, List.setIfInBounds_toArray, List.set_cons_succ, List.set_cons_zero]
    refine Agg.held_take 11 (.agg (pC ph pn)) rfl (by kernel_rfl) (fun _ _ _ h => h) rfl (fun W hS => Agg.exec_load rfl rfl hS.path.now) (by assumption) ?_
    try simp only [Act.put, List.setIfInBounds_toArray, List.set_cons_succ, List.set_cons_zero]
    refine Agg.held_take 15 (.pointer (some ⟨b, 22, none⟩)) rfl (by kernel_rfl) (fun _ _ _ h => h) rfl (fun W _ => by kernel_rfl) (by assumption) ?_
    try simp only [Act.put, List.setIfInBounds_toArray, List.set_cons_succ, List.set_cons_zero]
    refine Agg.held_take 16 (.slice (some ⟨b, 22, none⟩) 20 20) rfl (by kernel_rfl) (fun _ _ _ h => h) rfl (fun W _ => by kernel_rfl) (by assumption) ?_
    try simp only [Act.put, List.setIfInBounds_toArray, List.set_cons_succ, List.set_cons_zero]
    refine Agg.held_take 18 (.pointer (some ⟨b, 43, none⟩)) rfl (by kernel_rfl) (fun _ _ _ h => h) rfl (fun W _ => by kernel_rfl) (by assumption) ?_
    try simp only [Act.put, List.setIfInBounds_toArray, List.set_cons_succ, List.set_cons_zero]
    refine Agg.held_take 19 (pv) rfl (by kernel_rfl) (fun _ _ _ h => h) rfl (fun W hS => Agg.exec_load rfl rfl hS.paths.now) (by assumption) ?_
    try simp only [Act.put, List.setIfInBounds_toArray, List.set_cons_succ, List.set_cons_zero]
    refine Agg.held_take 20 (.int .i64 (l.length : Int)) rfl (by kernel_rfl) (fun _ _ _ h => h) rfl (fun W _ => Agg.exec_len rfl rfl (elems_len HE.out W)) (by assumption) ?_
    try simp only [Act.put, List.setIfInBounds_toArray, List.set_cons_succ, List.set_cons_zero]
    refine Agg.held_ready [1, 8, 21] (by kernel_rfl) (by simp) ?_
    refine Agg.held_cons rfl ?_ ?_
    · refine Agg.step_box rfl 74 _ rfl (mkC (.slice none 0 0)) rfl ?_
      intro g4 w_1 hb4 hx4 hg4
      have hgw : w0.heap.size ≤ g4 := Nat.le_trans HK0.out.size hg4
      have HM_1 := Lib.hid (⟨hb4, Own.nil _ _ _⟩ : MkV g4 w_1 (.slice none 0 0) [])
      have HK_1 := Lib.hid (Agg.belowThen HK0.out (Nat.le_refl _) hx4)
      clear hb4 hx4
      refine ⟨RpG.of_blk (HB.out.below HK_1.out) hl hc, ?_⟩
      try simp only [Act.put, List.setIfInBounds_toArray, List.set_cons_succ, List.set_cons_zero]
      refine Agg.held_ready [8, 21] (by kernel_rfl) (by simp) ?_
      refine Agg.held_cons rfl ?_ ?_
      · refine step_ints3 rfl _ _ _ rfl e g m rfl rfl rfl ?_
        intro xs w_1_8 hpr how hx
        have HM_1_8 := Lib.hid (HM_1.out.below hx)
        have HK_1_8 := Lib.hid (Agg.belowThen HK_1.out (Nat.le_refl _) hx)
        have HX_1_8 := Lib.hid (Off.behind (w0 := w_1) hpr.slice how HM_1.out.blk.lt HM_1.out.lt)
        clear hpr how hx
        refine ⟨RpG.of_blk (HB.out.below HK_1_8.out) hl hc, ?_⟩
        try simp only [Act.put, List.setIfInBounds_toArray, List.set_cons_succ, List.set_cons_zero]
        refine Agg.held_ready [9, 21] (by kernel_rfl) (by simp) ?_
        refine Agg.held_cons rfl ?_ ?_
        · refine Agg.step_call rfl 46 _ _ rfl #[.pointer (some ⟨g4, 0, none⟩), xs] (by simp only [List.map_toArray, List.map_cons, List.map_nil]; rfl) (fun W => HEN.out _ W) ?_
          refine (num_any g4 (.slice none 0 0) xs [e, g, m] [] _ (by intro n hn; simp only [List.mem_cons, List.not_mem_nil, or_false] at hn; omega) (by simp) (by simp) HX_1_8.out HM_1_8.out).mono ?_
          rintro x w_1_8_9 ⟨rfl, va, hm, hs⟩
          have HM_1_8_9 := Lib.hid (show MkV g4 w_1_8_9 va (encN e ++ (encN g ++ encN m)) from by simpa using hm)
          have HK_1_8_9 := Lib.hid (HK_1_8.out.trans ((HM_1_8.out.stepBelow hs).mono hgw))
          clear hm hs
          refine ⟨_, rfl, ?_⟩
          refine ⟨RpG.of_blk (HB.out.below HK_1_8_9.out) hl hc, ?_⟩
          try simp only [Act.put, List.setIfInBounds_toArray, List.set_cons_succ, List.set_cons_zero]
          refine Agg.held_ready [12, 21] (by kernel_rfl) (by simp) ?_
          refine Agg.held_cons rfl ?_ ?_
          · refine Agg.step_call rfl 48 _ _ rfl #[.agg (pC ph pn)] (by simp only [List.map_toArray, List.map_cons, List.map_nil]; rfl) (fun W => HES.out _ W) ?_
            refine (shown_any ph pn hl _).mono ?_
            rintro x w_1_8_9_12 ⟨x12, y12, rfl, hy, hn, hx⟩
            obtain ⟨sv, rfl⟩ := newBytes_sv hn
            have HSO_1_8_9_12 := Lib.hid (Off.behind (w0 := w_1_8_9) hn.slice (fun k hk => Nat.le_trans hy.size (newBytes_own hn k hk)) HM_1_8_9.out.blk.lt HM_1_8_9.out.lt)
            have HM_1_8_9_12 := Lib.hid (HM_1_8_9.out.below hx)
            have HK_1_8_9_12 := Lib.hid (Agg.belowThen HK_1_8_9.out (Nat.le_refl _) hx)
            clear hn hx hy
            refine ⟨_, rfl, ?_⟩
            refine ⟨RpG.of_blk (HB.out.below HK_1_8_9_12.out) hl hc, ?_⟩
            try simp only [Act.put, List.setIfInBounds_toArray, List.set_cons_succ, List.set_cons_zero]
            refine Agg.held_ready [13, 21] (by kernel_rfl) (by simp) ?_
            refine Agg.held_cons rfl ?_ ?_
            · refine Agg.step_slice1 (E := EBB) rfl _ rfl sv rfl ?_
              intro ys w_1_8_9_12_13 hys hx
              have HYO_1_8_9_12_13 := Lib.hid (Off.behind (w0 := w_1_8_9_12) hys.slice (fun k hk => (hys.block k hk).1) HM_1_8_9_12.out.blk.lt HM_1_8_9_12.out.lt)
              have HM_1_8_9_12_13 := Lib.hid (HM_1_8_9_12.out.below hx)
              have HSO_1_8_9_12_13 := Lib.hid (HSO_1_8_9_12.out.step (MkStep.of_below hx))
              have HK_1_8_9_12_13 := Lib.hid (Agg.belowThen HK_1_8_9_12.out (Nat.le_refl _) hx)
              clear hys hx
              refine ⟨RpG.of_blk (HB.out.below HK_1_8_9_12_13.out) hl hc, ?_⟩
              try simp only [Act.put, List.setIfInBounds_toArray, List.set_cons_succ, List.set_cons_zero]
              refine Agg.held_ready [14, 21] (by kernel_rfl) (by simp) ?_
              refine Agg.held_cons rfl ?_ ?_
              · refine Agg.step_call rfl 37 _ _ rfl #[.pointer (some ⟨g4, 0, none⟩), ys] (by simp only [List.map_toArray, List.map_cons, List.map_nil]; rfl) (fun W => HET.out _ W) ?_
                refine (text_any g4 va ys sv (pathS ph pn) (encN e ++ (encN g ++ encN m)) _ (by simp only [List.length_append]; omega) (by omega) HYO_1_8_9_12_13.out HSO_1_8_9_12_13.out HM_1_8_9_12_13.out).mono ?_
                rintro x w_1_8_9_12_13_14 ⟨rfl, vb, hm, hs⟩
                have HM_1_8_9_12_13_14 := Lib.hid hm
                have HK_1_8_9_12_13_14 := Lib.hid (HK_1_8_9_12_13.out.trans ((HM_1_8_9_12_13.out.stepBelow hs).mono hgw))
                clear hm hs
                refine ⟨_, rfl, ?_⟩
                refine ⟨RpG.of_blk (HB.out.below HK_1_8_9_12_13_14.out) hl hc, ?_⟩
                try simp only [Act.put, List.setIfInBounds_toArray, List.set_cons_succ, List.set_cons_zero]
                refine Agg.held_ready [17, 21] (by kernel_rfl) (by simp) ?_
                refine Agg.held_cons rfl ?_ ?_
                · refine Agg.step_call rfl 49 _ _ rfl #[.pointer (some ⟨g4, 0, none⟩), .slice (some ⟨b, 22, none⟩) 20 20] (by simp only [List.map_toArray, List.map_cons, List.map_nil]; rfl) (fun W => HER.out _ W) ?_
                  refine (raw_any g4 vb _ ch ((encN e ++ (encN g ++ encN m)) ++ (encN (pathS ph pn).length ++ pathS ph pn)) _ (by simp only [List.length_append]; omega) (by omega) (rp_class_slice (HB.out.below HK_1_8_9_12_13_14.out) hl hc) HM_1_8_9_12_13_14.out).mono ?_
                  rintro x w_1_8_9_12_13_14_17 ⟨rfl, vc, hm, hs⟩
                  have HM_1_8_9_12_13_14_17 := Lib.hid hm
                  have HK_1_8_9_12_13_14_17 := Lib.hid (HK_1_8_9_12_13_14.out.trans ((HM_1_8_9_12_13_14.out.stepBelow hs).mono hgw))
                  clear hm hs
                  refine ⟨_, rfl, ?_⟩
                  refine ⟨RpG.of_blk (HB.out.below HK_1_8_9_12_13_14_17.out) hl hc, ?_⟩
                  try simp only [Act.put, List.setIfInBounds_toArray, List.set_cons_succ, List.set_cons_zero]
                  refine Agg.held_ready [21] (by kernel_rfl) (by simp) ?_
                  refine Agg.held_cons rfl ?_ ?_
                  · refine Agg.step_slice1 (E := EI) rfl _ rfl l.length rfl ?_
                    intro xn w_1_8_9_12_13_14_17_21 hown hx
                    have hpr := own_pre hown
                    have how := fun k hk => (hown.block k hk).1
                    clear hown
                    have HM_1_8_9_12_13_14_17_21 := Lib.hid (HM_1_8_9_12_13_14_17.out.below hx)
                    have HK_1_8_9_12_13_14_17_21 := Lib.hid (Agg.belowThen HK_1_8_9_12_13_14_17.out (Nat.le_refl _) hx)
                    have HN_1_8_9_12_13_14_17_21 := Lib.hid (Off.behind (w0 := w_1_8_9_12_13_14_17) hpr.slice how HM_1_8_9_12_13_14_17.out.blk.lt HM_1_8_9_12_13_14_17.out.lt)
                    clear hpr how hx
                    refine ⟨RpG.of_blk (HB.out.below HK_1_8_9_12_13_14_17_21.out) hl hc, ?_⟩
                    try simp only [Act.put, List.setIfInBounds_toArray, List.set_cons_succ, List.set_cons_zero]
                    refine Agg.held_ready [22] (by kernel_rfl) (by simp) ?_
                    refine Agg.held_cons rfl ?_ ?_
                    · refine Agg.step_call rfl 46 _ _ rfl #[.pointer (some ⟨g4, 0, none⟩), xn] (by simp only [List.map_toArray, List.map_cons, List.map_nil]; rfl) (fun W => HEN.out _ W) ?_
                      refine (num_any g4 vc xn [l.length] (((encN e ++ (encN g ++ encN m)) ++ (encN (pathS ph pn).length ++ pathS ph pn)) ++ ch) _ (by intro n hn; simp only [List.mem_cons, List.not_mem_nil, or_false] at hn; omega) (by simp) (by simp only [List.length_append]; omega) HN_1_8_9_12_13_14_17_21.out HM_1_8_9_12_13_14_17_21.out).mono ?_
                      rintro x w_1_8_9_12_13_14_17_21_22 ⟨rfl, vd, hm, hs⟩
                      have HM_1_8_9_12_13_14_17_21_22 := Lib.hid (show MkV g4 w_1_8_9_12_13_14_17_21_22 vd ((((encN e ++ (encN g ++ encN m)) ++ (encN (pathS ph pn).length ++ pathS ph pn)) ++ ch) ++ encN l.length) from by simpa using hm)
                      have HK_1_8_9_12_13_14_17_21_22 := Lib.hid (HK_1_8_9_12_13_14_17_21.out.trans ((HM_1_8_9_12_13_14_17_21.out.stepBelow hs).mono hgw))
                      clear hm hs
                      refine ⟨_, rfl, ?_⟩
                      have hSx := RpG.of_blk (HB.out.below HK_1_8_9_12_13_14_17_21_22.out) hl hc; refine ⟨hSx, ?_⟩
                      try simp only [Act.put, List.setIfInBounds_toArray, List.set_cons_succ, List.set_cons_zero]
                      refine Agg.held_take 23 (.pointer (some ⟨g4, 0, none⟩)) rfl (by kernel_rfl) (fun _ _ _ h => h) rfl (fun W _ => by kernel_rfl) (by assumption) ?_
                      try simp only [Act.put, List.setIfInBounds_toArray, List.set_cons_succ, List.set_cons_zero]
                      refine Agg.held_end (by kernel_rfl) ?_
                      exact ⟨g4, vd, xs, sv.1, ys, xn, rfl, hgw, HM_1_8_9_12_13_14_17_21_22.out, HK_1_8_9_12_13_14_17_21_22.out⟩
                    exact AllReadyH.nil
                  exact AllReadyH.nil
                refine Agg.held_cons rfl ?_ ?_
                · refine Agg.step_slice1 (E := EI) rfl _ rfl l.length rfl ?_
                  intro xn w_1_8_9_12_13_14_21 hown hx
                  have hpr := own_pre hown
                  have how := fun k hk => (hown.block k hk).1
                  clear hown
                  have HM_1_8_9_12_13_14_21 := Lib.hid (HM_1_8_9_12_13_14.out.below hx)
                  have HK_1_8_9_12_13_14_21 := Lib.hid (Agg.belowThen HK_1_8_9_12_13_14.out (Nat.le_refl _) hx)
                  have HN_1_8_9_12_13_14_21 := Lib.hid (Off.behind (w0 := w_1_8_9_12_13_14) hpr.slice how HM_1_8_9_12_13_14.out.blk.lt HM_1_8_9_12_13_14.out.lt)
                  clear hpr how hx
                  refine ⟨RpG.of_blk (HB.out.below HK_1_8_9_12_13_14_21.out) hl hc, ?_⟩
                  try simp only [Act.put, List.setIfInBounds_toArray, List.set_cons_succ, List.set_cons_zero]
                  refine Agg.held_ready [17] (by kernel_rfl) (by simp) ?_
                  refine Agg.held_cons rfl ?_ ?_
                  · refine Agg.step_call rfl 49 _ _ rfl #[.pointer (some ⟨g4, 0, none⟩), .slice (some ⟨b, 22, none⟩) 20 20] (by simp only [List.map_toArray, List.map_cons, List.map_nil]; rfl) (fun W => HER.out _ W) ?_
                    refine (raw_any g4 vb _ ch ((encN e ++ (encN g ++ encN m)) ++ (encN (pathS ph pn).length ++ pathS ph pn)) _ (by simp only [List.length_append]; omega) (by omega) (rp_class_slice (HB.out.below HK_1_8_9_12_13_14_21.out) hl hc) HM_1_8_9_12_13_14_21.out).mono ?_
                    rintro x w_1_8_9_12_13_14_17_21 ⟨rfl, vc, hm, hs⟩
                    have HM_1_8_9_12_13_14_17_21 := Lib.hid hm
                    have HN_1_8_9_12_13_14_17_21 := Lib.hid (HN_1_8_9_12_13_14_21.out.step hs)
                    have HK_1_8_9_12_13_14_17_21 := Lib.hid (HK_1_8_9_12_13_14_21.out.trans ((HM_1_8_9_12_13_14_21.out.stepBelow hs).mono hgw))
                    clear hm hs
                    refine ⟨_, rfl, ?_⟩
                    refine ⟨RpG.of_blk (HB.out.below HK_1_8_9_12_13_14_17_21.out) hl hc, ?_⟩
                    try simp only [Act.put, List.setIfInBounds_toArray, List.set_cons_succ, List.set_cons_zero]
                    refine Agg.held_ready [22] (by kernel_rfl) (by simp) ?_
                    refine Agg.held_cons rfl ?_ ?_
                    · refine Agg.step_call rfl 46 _ _ rfl #[.pointer (some ⟨g4, 0, none⟩), xn] (by simp only [List.map_toArray, List.map_cons, List.map_nil]; rfl) (fun W => HEN.out _ W) ?_
                      refine (num_any g4 vc xn [l.length] (((encN e ++ (encN g ++ encN m)) ++ (encN (pathS ph pn).length ++ pathS ph pn)) ++ ch) _ (by intro n hn; simp only [List.mem_cons, List.not_mem_nil, or_false] at hn; omega) (by simp) (by simp only [List.length_append]; omega) HN_1_8_9_12_13_14_17_21.out HM_1_8_9_12_13_14_17_21.out).mono ?_
                      rintro x w_1_8_9_12_13_14_17_21_22 ⟨rfl, vd, hm, hs⟩
                      have HM_1_8_9_12_13_14_17_21_22 := Lib.hid (show MkV g4 w_1_8_9_12_13_14_17_21_22 vd ((((encN e ++ (encN g ++ encN m)) ++ (encN (pathS ph pn).length ++ pathS ph pn)) ++ ch) ++ encN l.length) from by simpa using hm)
                      have HK_1_8_9_12_13_14_17_21_22 := Lib.hid (HK_1_8_9_12_13_14_17_21.out.trans ((HM_1_8_9_12_13_14_17_21.out.stepBelow hs).mono hgw))
                      clear hm hs
                      refine ⟨_, rfl, ?_⟩
                      have hSx := RpG.of_blk (HB.out.below HK_1_8_9_12_13_14_17_21_22.out) hl hc; refine ⟨hSx, ?_⟩
                      try simp only [Act.put, List.setIfInBounds_toArray, List.set_cons_succ, List.set_cons_zero]
                      refine Agg.held_take 23 (.pointer (some ⟨g4, 0, none⟩)) rfl (by kernel_rfl) (fun _ _ _ h => h) rfl (fun W _ => by kernel_rfl) (by assumption) ?_
                      try simp only [Act.put, List.setIfInBounds_toArray, List.set_cons_succ, List.set_cons_zero]
                      refine Agg.held_end (by kernel_rfl) ?_
                      exact ⟨g4, vd, xs, sv.1, ys, xn, rfl, hgw, HM_1_8_9_12_13_14_17_21_22.out, HK_1_8_9_12_13_14_17_21_22.out⟩
                    exact AllReadyH.nil
                  exact AllReadyH.nil
                exact AllReadyH.nil
              refine Agg.held_cons rfl ?_ ?_
              · refine Agg.step_slice1 (E := EI) rfl _ rfl l.length rfl ?_
                intro xn w_1_8_9_12_13_21 hown hx
                have hpr := own_pre hown
                have how := fun k hk => (hown.block k hk).1
                clear hown
                have HM_1_8_9_12_13_21 := Lib.hid (HM_1_8_9_12_13.out.below hx)
                have HSO_1_8_9_12_13_21 := Lib.hid (HSO_1_8_9_12_13.out.step (MkStep.of_below hx))
                have HYO_1_8_9_12_13_21 := Lib.hid (HYO_1_8_9_12_13.out.step (MkStep.of_below hx))
                have HK_1_8_9_12_13_21 := Lib.hid (Agg.belowThen HK_1_8_9_12_13.out (Nat.le_refl _) hx)
                have HN_1_8_9_12_13_21 := Lib.hid (Off.behind (w0 := w_1_8_9_12_13) hpr.slice how HM_1_8_9_12_13.out.blk.lt HM_1_8_9_12_13.out.lt)
                clear hpr how hx
                refine ⟨RpG.of_blk (HB.out.below HK_1_8_9_12_13_21.out) hl hc, ?_⟩
                try simp only [Act.put, List.setIfInBounds_toArray, List.set_cons_succ, List.set_cons_zero]
                refine Agg.held_ready [14] (by kernel_rfl) (by simp) ?_
                refine Agg.held_cons rfl ?_ ?_
                · refine Agg.step_call rfl 37 _ _ rfl #[.pointer (some ⟨g4, 0, none⟩), ys] (by simp only [List.map_toArray, List.map_cons, List.map_nil]; rfl) (fun W => HET.out _ W) ?_
                  refine (text_any g4 va ys sv (pathS ph pn) (encN e ++ (encN g ++ encN m)) _ (by simp only [List.length_append]; omega) (by omega) HYO_1_8_9_12_13_21.out HSO_1_8_9_12_13_21.out HM_1_8_9_12_13_21.out).mono ?_
                  rintro x w_1_8_9_12_13_14_21 ⟨rfl, vb, hm, hs⟩
                  have HM_1_8_9_12_13_14_21 := Lib.hid hm
                  have HN_1_8_9_12_13_14_21 := Lib.hid (HN_1_8_9_12_13_21.out.step hs)
                  have HK_1_8_9_12_13_14_21 := Lib.hid (HK_1_8_9_12_13_21.out.trans ((HM_1_8_9_12_13_21.out.stepBelow hs).mono hgw))
                  clear hm hs
                  refine ⟨_, rfl, ?_⟩
                  refine ⟨RpG.of_blk (HB.out.below HK_1_8_9_12_13_14_21.out) hl hc, ?_⟩
                  try simp only [Act.put, List.setIfInBounds_toArray, List.set_cons_succ, List.set_cons_zero]
                  refine Agg.held_ready [17] (by kernel_rfl) (by simp) ?_
                  refine Agg.held_cons rfl ?_ ?_
                  · refine Agg.step_call rfl 49 _ _ rfl #[.pointer (some ⟨g4, 0, none⟩), .slice (some ⟨b, 22, none⟩) 20 20] (by simp only [List.map_toArray, List.map_cons, List.map_nil]; rfl) (fun W => HER.out _ W) ?_
                    refine (raw_any g4 vb _ ch ((encN e ++ (encN g ++ encN m)) ++ (encN (pathS ph pn).length ++ pathS ph pn)) _ (by simp only [List.length_append]; omega) (by omega) (rp_class_slice (HB.out.below HK_1_8_9_12_13_14_21.out) hl hc) HM_1_8_9_12_13_14_21.out).mono ?_
                    rintro x w_1_8_9_12_13_14_17_21 ⟨rfl, vc, hm, hs⟩
                    have HM_1_8_9_12_13_14_17_21 := Lib.hid hm
                    have HN_1_8_9_12_13_14_17_21 := Lib.hid (HN_1_8_9_12_13_14_21.out.step hs)
                    have HK_1_8_9_12_13_14_17_21 := Lib.hid (HK_1_8_9_12_13_14_21.out.trans ((HM_1_8_9_12_13_14_21.out.stepBelow hs).mono hgw))
                    clear hm hs
                    refine ⟨_, rfl, ?_⟩
                    refine ⟨RpG.of_blk (HB.out.below HK_1_8_9_12_13_14_17_21.out) hl hc, ?_⟩
                    try simp only [Act.put, List.setIfInBounds_toArray, List.set_cons_succ, List.set_cons_zero]
                    refine Agg.held_ready [22] (by kernel_rfl) (by simp) ?_
                    refine Agg.held_cons rfl ?_ ?_
                    · refine Agg.step_call rfl 46 _ _ rfl #[.pointer (some ⟨g4, 0, none⟩), xn] (by simp only [List.map_toArray, List.map_cons, List.map_nil]; rfl) (fun W => HEN.out _ W) ?_
                      refine (num_any g4 vc xn [l.length] (((encN e ++ (encN g ++ encN m)) ++ (encN (pathS ph pn).length ++ pathS ph pn)) ++ ch) _ (by intro n hn; simp only [List.mem_cons, List.not_mem_nil, or_false] at hn; omega) (by simp) (by simp only [List.length_append]; omega) HN_1_8_9_12_13_14_17_21.out HM_1_8_9_12_13_14_17_21.out).mono ?_
                      rintro x w_1_8_9_12_13_14_17_21_22 ⟨rfl, vd, hm, hs⟩
                      have HM_1_8_9_12_13_14_17_21_22 := Lib.hid (show MkV g4 w_1_8_9_12_13_14_17_21_22 vd ((((encN e ++ (encN g ++ encN m)) ++ (encN (pathS ph pn).length ++ pathS ph pn)) ++ ch) ++ encN l.length) from by simpa using hm)
                      have HK_1_8_9_12_13_14_17_21_22 := Lib.hid (HK_1_8_9_12_13_14_17_21.out.trans ((HM_1_8_9_12_13_14_17_21.out.stepBelow hs).mono hgw))
                      clear hm hs
                      refine ⟨_, rfl, ?_⟩
                      have hSx := RpG.of_blk (HB.out.below HK_1_8_9_12_13_14_17_21_22.out) hl hc; refine ⟨hSx, ?_⟩
                      try simp only [Act.put, List.setIfInBounds_toArray, List.set_cons_succ, List.set_cons_zero]
                      refine Agg.held_take 23 (.pointer (some ⟨g4, 0, none⟩)) rfl (by kernel_rfl) (fun _ _ _ h => h) rfl (fun W _ => by kernel_rfl) (by assumption) ?_
                      try simp only [Act.put, List.setIfInBounds_toArray, List.set_cons_succ, List.set_cons_zero]
                      refine Agg.held_end (by kernel_rfl) ?_
                      exact ⟨g4, vd, xs, sv.1, ys, xn, rfl, hgw, HM_1_8_9_12_13_14_17_21_22.out, HK_1_8_9_12_13_14_17_21_22.out⟩
                    exact AllReadyH.nil
                  exact AllReadyH.nil
                exact AllReadyH.nil
              exact AllReadyH.nil
            refine Agg.held_cons rfl ?_ ?_
            · refine Agg.step_slice1 (E := EI) rfl _ rfl l.length rfl ?_
              intro xn w_1_8_9_12_21 hown hx
              have hpr := own_pre hown
              have how := fun k hk => (hown.block k hk).1
              clear hown
              have HM_1_8_9_12_21 := Lib.hid (HM_1_8_9_12.out.below hx)
              have HSO_1_8_9_12_21 := Lib.hid (HSO_1_8_9_12.out.step (MkStep.of_below hx))
              have HK_1_8_9_12_21 := Lib.hid (Agg.belowThen HK_1_8_9_12.out (Nat.le_refl _) hx)
              have HN_1_8_9_12_21 := Lib.hid (Off.behind (w0 := w_1_8_9_12) hpr.slice how HM_1_8_9_12.out.blk.lt HM_1_8_9_12.out.lt)
              clear hpr how hx
              refine ⟨RpG.of_blk (HB.out.below HK_1_8_9_12_21.out) hl hc, ?_⟩
              try simp only [Act.put, List.setIfInBounds_toArray, List.set_cons_succ, List.set_cons_zero]
              refine Agg.held_ready [13] (by kernel_rfl) (by simp) ?_
              refine Agg.held_cons rfl ?_ ?_
              · refine Agg.step_slice1 (E := EBB) rfl _ rfl sv rfl ?_
                intro ys w_1_8_9_12_13_21 hys hx
                have HYO_1_8_9_12_13_21 := Lib.hid (Off.behind (w0 := w_1_8_9_12_21) hys.slice (fun k hk => (hys.block k hk).1) HM_1_8_9_12_21.out.blk.lt HM_1_8_9_12_21.out.lt)
                have HN_1_8_9_12_13_21 := Lib.hid (HN_1_8_9_12_21.out.step (MkStep.of_below hx))
                have HM_1_8_9_12_13_21 := Lib.hid (HM_1_8_9_12_21.out.below hx)
                have HSO_1_8_9_12_13_21 := Lib.hid (HSO_1_8_9_12_21.out.step (MkStep.of_below hx))
                have HK_1_8_9_12_13_21 := Lib.hid (Agg.belowThen HK_1_8_9_12_21.out (Nat.le_refl _) hx)
                clear hys hx
                refine ⟨RpG.of_blk (HB.out.below HK_1_8_9_12_13_21.out) hl hc, ?_⟩
                try simp only [Act.put, List.setIfInBounds_toArray, List.set_cons_succ, List.set_cons_zero]
                refine Agg.held_ready [14] (by kernel_rfl) (by simp) ?_
                refine Agg.held_cons rfl ?_ ?_
                · refine Agg.step_call rfl 37 _ _ rfl #[.pointer (some ⟨g4, 0, none⟩), ys] (by simp only [List.map_toArray, List.map_cons, List.map_nil]; rfl) (fun W => HET.out _ W) ?_
                  refine (text_any g4 va ys sv (pathS ph pn) (encN e ++ (encN g ++ encN m)) _ (by simp only [List.length_append]; omega) (by omega) HYO_1_8_9_12_13_21.out HSO_1_8_9_12_13_21.out HM_1_8_9_12_13_21.out).mono ?_
                  rintro x w_1_8_9_12_13_14_21 ⟨rfl, vb, hm, hs⟩
                  have HM_1_8_9_12_13_14_21 := Lib.hid hm
                  have HN_1_8_9_12_13_14_21 := Lib.hid (HN_1_8_9_12_13_21.out.step hs)
                  have HK_1_8_9_12_13_14_21 := Lib.hid (HK_1_8_9_12_13_21.out.trans ((HM_1_8_9_12_13_21.out.stepBelow hs).mono hgw))
                  clear hm hs
                  refine ⟨_, rfl, ?_⟩
                  refine ⟨RpG.of_blk (HB.out.below HK_1_8_9_12_13_14_21.out) hl hc, ?_⟩
                  try simp only [Act.put, List.setIfInBounds_toArray, List.set_cons_succ, List.set_cons_zero]
                  refine Agg.held_ready [17] (by kernel_rfl) (by simp) ?_
                  refine Agg.held_cons rfl ?_ ?_
                  · refine Agg.step_call rfl 49 _ _ rfl #[.pointer (some ⟨g4, 0, none⟩), .slice (some ⟨b, 22, none⟩) 20 20] (by simp only [List.map_toArray, List.map_cons, List.map_nil]; rfl) (fun W => HER.out _ W) ?_
                    refine (raw_any g4 vb _ ch ((encN e ++ (encN g ++ encN m)) ++ (encN (pathS ph pn).length ++ pathS ph pn)) _ (by simp only [List.length_append]; omega) (by omega) (rp_class_slice (HB.out.below HK_1_8_9_12_13_14_21.out) hl hc) HM_1_8_9_12_13_14_21.out).mono ?_
                    rintro x w_1_8_9_12_13_14_17_21 ⟨rfl, vc, hm, hs⟩
                    have HM_1_8_9_12_13_14_17_21 := Lib.hid hm
                    have HN_1_8_9_12_13_14_17_21 := Lib.hid (HN_1_8_9_12_13_14_21.out.step hs)
                    have HK_1_8_9_12_13_14_17_21 := Lib.hid (HK_1_8_9_12_13_14_21.out.trans ((HM_1_8_9_12_13_14_21.out.stepBelow hs).mono hgw))
                    clear hm hs
                    refine ⟨_, rfl, ?_⟩
                    refine ⟨RpG.of_blk (HB.out.below HK_1_8_9_12_13_14_17_21.out) hl hc, ?_⟩
                    try simp only [Act.put, List.setIfInBounds_toArray, List.set_cons_succ, List.set_cons_zero]
                    refine Agg.held_ready [22] (by kernel_rfl) (by simp) ?_
                    refine Agg.held_cons rfl ?_ ?_
                    · refine Agg.step_call rfl 46 _ _ rfl #[.pointer (some ⟨g4, 0, none⟩), xn] (by simp only [List.map_toArray, List.map_cons, List.map_nil]; rfl) (fun W => HEN.out _ W) ?_
                      refine (num_any g4 vc xn [l.length] (((encN e ++ (encN g ++ encN m)) ++ (encN (pathS ph pn).length ++ pathS ph pn)) ++ ch) _ (by intro n hn; simp only [List.mem_cons, List.not_mem_nil, or_false] at hn; omega) (by simp) (by simp only [List.length_append]; omega) HN_1_8_9_12_13_14_17_21.out HM_1_8_9_12_13_14_17_21.out).mono ?_
                      rintro x w_1_8_9_12_13_14_17_21_22 ⟨rfl, vd, hm, hs⟩
                      have HM_1_8_9_12_13_14_17_21_22 := Lib.hid (show MkV g4 w_1_8_9_12_13_14_17_21_22 vd ((((encN e ++ (encN g ++ encN m)) ++ (encN (pathS ph pn).length ++ pathS ph pn)) ++ ch) ++ encN l.length) from by simpa using hm)
                      have HK_1_8_9_12_13_14_17_21_22 := Lib.hid (HK_1_8_9_12_13_14_17_21.out.trans ((HM_1_8_9_12_13_14_17_21.out.stepBelow hs).mono hgw))
                      clear hm hs
                      refine ⟨_, rfl, ?_⟩
                      have hSx := RpG.of_blk (HB.out.below HK_1_8_9_12_13_14_17_21_22.out) hl hc; refine ⟨hSx, ?_⟩
                      try simp only [Act.put, List.setIfInBounds_toArray, List.set_cons_succ, List.set_cons_zero]
                      refine Agg.held_take 23 (.pointer (some ⟨g4, 0, none⟩)) rfl (by kernel_rfl) (fun _ _ _ h => h) rfl (fun W _ => by kernel_rfl) (by assumption) ?_
                      try simp only [Act.put, List.setIfInBounds_toArray, List.set_cons_succ, List.set_cons_zero]
                      refine Agg.held_end (by kernel_rfl) ?_
                      exact ⟨g4, vd, xs, sv.1, ys, xn, rfl, hgw, HM_1_8_9_12_13_14_17_21_22.out, HK_1_8_9_12_13_14_17_21_22.out⟩
                    exact AllReadyH.nil
                  exact AllReadyH.nil
                exact AllReadyH.nil
              exact AllReadyH.nil
            exact AllReadyH.nil
          refine Agg.held_cons rfl ?_ ?_
          · refine Agg.step_slice1 (E := EI) rfl _ rfl l.length rfl ?_
            intro xn w_1_8_9_21 hown hx
            have hpr := own_pre hown
            have how := fun k hk => (hown.block k hk).1
            clear hown
            have HM_1_8_9_21 := Lib.hid (HM_1_8_9.out.below hx)
            have HK_1_8_9_21 := Lib.hid (Agg.belowThen HK_1_8_9.out (Nat.le_refl _) hx)
            have HN_1_8_9_21 := Lib.hid (Off.behind (w0 := w_1_8_9) hpr.slice how HM_1_8_9.out.blk.lt HM_1_8_9.out.lt)
            clear hpr how hx
            refine ⟨RpG.of_blk (HB.out.below HK_1_8_9_21.out) hl hc, ?_⟩
            try simp only [Act.put, List.setIfInBounds_toArray, List.set_cons_succ, List.set_cons_zero]
            refine Agg.held_ready [12] (by kernel_rfl) (by simp) ?_
            refine Agg.held_cons rfl ?_ ?_
            · refine Agg.step_call rfl 48 _ _ rfl #[.agg (pC ph pn)] (by simp only [List.map_toArray, List.map_cons, List.map_nil]; rfl) (fun W => HES.out _ W) ?_
              refine (shown_any ph pn hl _).mono ?_
              rintro x w_1_8_9_12_21 ⟨x12, y12, rfl, hy, hn, hx⟩
              obtain ⟨sv, rfl⟩ := newBytes_sv hn
              have HSO_1_8_9_12_21 := Lib.hid (Off.behind (w0 := w_1_8_9_21) hn.slice (fun k hk => Nat.le_trans hy.size (newBytes_own hn k hk)) HM_1_8_9_21.out.blk.lt HM_1_8_9_21.out.lt)
              have HN_1_8_9_12_21 := Lib.hid (HN_1_8_9_21.out.step (MkStep.of_below hx))
              have HM_1_8_9_12_21 := Lib.hid (HM_1_8_9_21.out.below hx)
              have HK_1_8_9_12_21 := Lib.hid (Agg.belowThen HK_1_8_9_21.out (Nat.le_refl _) hx)
              clear hn hx hy
              refine ⟨_, rfl, ?_⟩
              refine ⟨RpG.of_blk (HB.out.below HK_1_8_9_12_21.out) hl hc, ?_⟩
              try simp only [Act.put, List.setIfInBounds_toArray, List.set_cons_succ, List.set_cons_zero]
              refine Agg.held_ready [13] (by kernel_rfl) (by simp) ?_
              refine Agg.held_cons rfl ?_ ?_
              · refine Agg.step_slice1 (E := EBB) rfl _ rfl sv rfl ?_
                intro ys w_1_8_9_12_13_21 hys hx
                have HYO_1_8_9_12_13_21 := Lib.hid (Off.behind (w0 := w_1_8_9_12_21) hys.slice (fun k hk => (hys.block k hk).1) HM_1_8_9_12_21.out.blk.lt HM_1_8_9_12_21.out.lt)
                have HN_1_8_9_12_13_21 := Lib.hid (HN_1_8_9_12_21.out.step (MkStep.of_below hx))
                have HM_1_8_9_12_13_21 := Lib.hid (HM_1_8_9_12_21.out.below hx)
                have HSO_1_8_9_12_13_21 := Lib.hid (HSO_1_8_9_12_21.out.step (MkStep.of_below hx))
                have HK_1_8_9_12_13_21 := Lib.hid (Agg.belowThen HK_1_8_9_12_21.out (Nat.le_refl _) hx)
                clear hys hx
                refine ⟨RpG.of_blk (HB.out.below HK_1_8_9_12_13_21.out) hl hc, ?_⟩
                try simp only [Act.put, List.setIfInBounds_toArray, List.set_cons_succ, List.set_cons_zero]
                refine Agg.held_ready [14] (by kernel_rfl) (by simp) ?_
                refine Agg.held_cons rfl ?_ ?_
                · refine Agg.step_call rfl 37 _ _ rfl #[.pointer (some ⟨g4, 0, none⟩), ys] (by simp only [List.map_toArray, List.map_cons, List.map_nil]; rfl) (fun W => HET.out _ W) ?_
                  refine (text_any g4 va ys sv (pathS ph pn) (encN e ++ (encN g ++ encN m)) _ (by simp only [List.length_append]; omega) (by omega) HYO_1_8_9_12_13_21.out HSO_1_8_9_12_13_21.out HM_1_8_9_12_13_21.out).mono ?_
                  rintro x w_1_8_9_12_13_14_21 ⟨rfl, vb, hm, hs⟩
                  have HM_1_8_9_12_13_14_21 := Lib.hid hm
                  have HN_1_8_9_12_13_14_21 := Lib.hid (HN_1_8_9_12_13_21.out.step hs)
                  have HK_1_8_9_12_13_14_21 := Lib.hid (HK_1_8_9_12_13_21.out.trans ((HM_1_8_9_12_13_21.out.stepBelow hs).mono hgw))
                  clear hm hs
                  refine ⟨_, rfl, ?_⟩
                  refine ⟨RpG.of_blk (HB.out.below HK_1_8_9_12_13_14_21.out) hl hc, ?_⟩
                  try simp only [Act.put, List.setIfInBounds_toArray, List.set_cons_succ, List.set_cons_zero]
                  refine Agg.held_ready [17] (by kernel_rfl) (by simp) ?_
                  refine Agg.held_cons rfl ?_ ?_
                  · refine Agg.step_call rfl 49 _ _ rfl #[.pointer (some ⟨g4, 0, none⟩), .slice (some ⟨b, 22, none⟩) 20 20] (by simp only [List.map_toArray, List.map_cons, List.map_nil]; rfl) (fun W => HER.out _ W) ?_
                    refine (raw_any g4 vb _ ch ((encN e ++ (encN g ++ encN m)) ++ (encN (pathS ph pn).length ++ pathS ph pn)) _ (by simp only [List.length_append]; omega) (by omega) (rp_class_slice (HB.out.below HK_1_8_9_12_13_14_21.out) hl hc) HM_1_8_9_12_13_14_21.out).mono ?_
                    rintro x w_1_8_9_12_13_14_17_21 ⟨rfl, vc, hm, hs⟩
                    have HM_1_8_9_12_13_14_17_21 := Lib.hid hm
                    have HN_1_8_9_12_13_14_17_21 := Lib.hid (HN_1_8_9_12_13_14_21.out.step hs)
                    have HK_1_8_9_12_13_14_17_21 := Lib.hid (HK_1_8_9_12_13_14_21.out.trans ((HM_1_8_9_12_13_14_21.out.stepBelow hs).mono hgw))
                    clear hm hs
                    refine ⟨_, rfl, ?_⟩
                    refine ⟨RpG.of_blk (HB.out.below HK_1_8_9_12_13_14_17_21.out) hl hc, ?_⟩
                    try simp only [Act.put, List.setIfInBounds_toArray, List.set_cons_succ, List.set_cons_zero]
                    refine Agg.held_ready [22] (by kernel_rfl) (by simp) ?_
                    refine Agg.held_cons rfl ?_ ?_
                    · refine Agg.step_call rfl 46 _ _ rfl #[.pointer (some ⟨g4, 0, none⟩), xn] (by simp only [List.map_toArray, List.map_cons, List.map_nil]; rfl) (fun W => HEN.out _ W) ?_
                      refine (num_any g4 vc xn [l.length] (((encN e ++ (encN g ++ encN m)) ++ (encN (pathS ph pn).length ++ pathS ph pn)) ++ ch) _ (by intro n hn; simp only [List.mem_cons, List.not_mem_nil, or_false] at hn; omega) (by simp) (by simp only [List.length_append]; omega) HN_1_8_9_12_13_14_17_21.out HM_1_8_9_12_13_14_17_21.out).mono ?_
                      rintro x w_1_8_9_12_13_14_17_21_22 ⟨rfl, vd, hm, hs⟩
                      have HM_1_8_9_12_13_14_17_21_22 := Lib.hid (show MkV g4 w_1_8_9_12_13_14_17_21_22 vd ((((encN e ++ (encN g ++ encN m)) ++ (encN (pathS ph pn).length ++ pathS ph pn)) ++ ch) ++ encN l.length) from by simpa using hm)
                      have HK_1_8_9_12_13_14_17_21_22 := Lib.hid (HK_1_8_9_12_13_14_17_21.out.trans ((HM_1_8_9_12_13_14_17_21.out.stepBelow hs).mono hgw))
                      clear hm hs
                      refine ⟨_, rfl, ?_⟩
                      have hSx := RpG.of_blk (HB.out.below HK_1_8_9_12_13_14_17_21_22.out) hl hc; refine ⟨hSx, ?_⟩
                      try simp only [Act.put, List.setIfInBounds_toArray, List.set_cons_succ, List.set_cons_zero]
                      refine Agg.held_take 23 (.pointer (some ⟨g4, 0, none⟩)) rfl (by kernel_rfl) (fun _ _ _ h => h) rfl (fun W _ => by kernel_rfl) (by assumption) ?_
                      try simp only [Act.put, List.setIfInBounds_toArray, List.set_cons_succ, List.set_cons_zero]
                      refine Agg.held_end (by kernel_rfl) ?_
                      exact ⟨g4, vd, xs, sv.1, ys, xn, rfl, hgw, HM_1_8_9_12_13_14_17_21_22.out, HK_1_8_9_12_13_14_17_21_22.out⟩
                    exact AllReadyH.nil
                  exact AllReadyH.nil
                exact AllReadyH.nil
              exact AllReadyH.nil
            exact AllReadyH.nil
          exact AllReadyH.nil
        refine Agg.held_cons rfl ?_ ?_
        · refine Agg.step_slice1 (E := EI) rfl _ rfl l.length rfl ?_
          intro xn w_1_8_21 hown hx
          have hpr := own_pre hown
          have how := fun k hk => (hown.block k hk).1
          clear hown
          have HX_1_8_21 := Lib.hid (HX_1_8.out.step (MkStep.of_below hx))
          have HM_1_8_21 := Lib.hid (HM_1_8.out.below hx)
          have HK_1_8_21 := Lib.hid (Agg.belowThen HK_1_8.out (Nat.le_refl _) hx)
          have HN_1_8_21 := Lib.hid (Off.behind (w0 := w_1_8) hpr.slice how HM_1_8.out.blk.lt HM_1_8.out.lt)
          clear hpr how hx
          refine ⟨RpG.of_blk (HB.out.below HK_1_8_21.out) hl hc, ?_⟩
          try simp only [Act.put, List.setIfInBounds_toArray, List.set_cons_succ, List.set_cons_zero]
          refine Agg.held_ready [9] (by kernel_rfl) (by simp) ?_
          refine Agg.held_cons rfl ?_ ?_
          · refine Agg.step_call rfl 46 _ _ rfl #[.pointer (some ⟨g4, 0, none⟩), xs] (by simp only [List.map_toArray, List.map_cons, List.map_nil]; rfl) (fun W => HEN.out _ W) ?_
            refine (num_any g4 (.slice none 0 0) xs [e, g, m] [] _ (by intro n hn; simp only [List.mem_cons, List.not_mem_nil, or_false] at hn; omega) (by simp) (by simp) HX_1_8_21.out HM_1_8_21.out).mono ?_
            rintro x w_1_8_9_21 ⟨rfl, va, hm, hs⟩
            have HM_1_8_9_21 := Lib.hid (show MkV g4 w_1_8_9_21 va (encN e ++ (encN g ++ encN m)) from by simpa using hm)
            have HN_1_8_9_21 := Lib.hid (HN_1_8_21.out.step hs)
            have HK_1_8_9_21 := Lib.hid (HK_1_8_21.out.trans ((HM_1_8_21.out.stepBelow hs).mono hgw))
            clear hm hs
            refine ⟨_, rfl, ?_⟩
            refine ⟨RpG.of_blk (HB.out.below HK_1_8_9_21.out) hl hc, ?_⟩
            try simp only [Act.put, List.setIfInBounds_toArray, List.set_cons_succ, List.set_cons_zero]
            refine Agg.held_ready [12] (by kernel_rfl) (by simp) ?_
            refine Agg.held_cons rfl ?_ ?_
            · refine Agg.step_call rfl 48 _ _ rfl #[.agg (pC ph pn)] (by simp only [List.map_toArray, List.map_cons, List.map_nil]; rfl) (fun W => HES.out _ W) ?_
              refine (shown_any ph pn hl _).mono ?_
              rintro x w_1_8_9_12_21 ⟨x12, y12, rfl, hy, hn, hx⟩
              obtain ⟨sv, rfl⟩ := newBytes_sv hn
              have HSO_1_8_9_12_21 := Lib.hid (Off.behind (w0 := w_1_8_9_21) hn.slice (fun k hk => Nat.le_trans hy.size (newBytes_own hn k hk)) HM_1_8_9_21.out.blk.lt HM_1_8_9_21.out.lt)
              have HN_1_8_9_12_21 := Lib.hid (HN_1_8_9_21.out.step (MkStep.of_below hx))
              have HM_1_8_9_12_21 := Lib.hid (HM_1_8_9_21.out.below hx)
              have HK_1_8_9_12_21 := Lib.hid (Agg.belowThen HK_1_8_9_21.out (Nat.le_refl _) hx)
              clear hn hx hy
              refine ⟨_, rfl, ?_⟩
              refine ⟨RpG.of_blk (HB.out.below HK_1_8_9_12_21.out) hl hc, ?_⟩
              try simp only [Act.put, List.setIfInBounds_toArray, List.set_cons_succ, List.set_cons_zero]
              refine Agg.held_ready [13] (by kernel_rfl) (by simp) ?_
              refine Agg.held_cons rfl ?_ ?_
              · refine Agg.step_slice1 (E := EBB) rfl _ rfl sv rfl ?_
                intro ys w_1_8_9_12_13_21 hys hx
                have HYO_1_8_9_12_13_21 := Lib.hid (Off.behind (w0 := w_1_8_9_12_21) hys.slice (fun k hk => (hys.block k hk).1) HM_1_8_9_12_21.out.blk.lt HM_1_8_9_12_21.out.lt)
                have HN_1_8_9_12_13_21 := Lib.hid (HN_1_8_9_12_21.out.step (MkStep.of_below hx))
                have HM_1_8_9_12_13_21 := Lib.hid (HM_1_8_9_12_21.out.below hx)
                have HSO_1_8_9_12_13_21 := Lib.hid (HSO_1_8_9_12_21.out.step (MkStep.of_below hx))
                have HK_1_8_9_12_13_21 := Lib.hid (Agg.belowThen HK_1_8_9_12_21.out (Nat.le_refl _) hx)
                clear hys hx
                refine ⟨RpG.of_blk (HB.out.below HK_1_8_9_12_13_21.out) hl hc, ?_⟩
                try simp only [Act.put, List.setIfInBounds_toArray, List.set_cons_succ, List.set_cons_zero]
                refine Agg.held_ready [14] (by kernel_rfl) (by simp) ?_
                refine Agg.held_cons rfl ?_ ?_
                · refine Agg.step_call rfl 37 _ _ rfl #[.pointer (some ⟨g4, 0, none⟩), ys] (by simp only [List.map_toArray, List.map_cons, List.map_nil]; rfl) (fun W => HET.out _ W) ?_
                  refine (text_any g4 va ys sv (pathS ph pn) (encN e ++ (encN g ++ encN m)) _ (by simp only [List.length_append]; omega) (by omega) HYO_1_8_9_12_13_21.out HSO_1_8_9_12_13_21.out HM_1_8_9_12_13_21.out).mono ?_
                  rintro x w_1_8_9_12_13_14_21 ⟨rfl, vb, hm, hs⟩
                  have HM_1_8_9_12_13_14_21 := Lib.hid hm
                  have HN_1_8_9_12_13_14_21 := Lib.hid (HN_1_8_9_12_13_21.out.step hs)
                  have HK_1_8_9_12_13_14_21 := Lib.hid (HK_1_8_9_12_13_21.out.trans ((HM_1_8_9_12_13_21.out.stepBelow hs).mono hgw))
                  clear hm hs
                  refine ⟨_, rfl, ?_⟩
                  refine ⟨RpG.of_blk (HB.out.below HK_1_8_9_12_13_14_21.out) hl hc, ?_⟩
                  try simp only [Act.put, List.setIfInBounds_toArray, List.set_cons_succ, List.set_cons_zero]
                  refine Agg.held_ready [17] (by kernel_rfl) (by simp) ?_
                  refine Agg.held_cons rfl ?_ ?_
                  · refine Agg.step_call rfl 49 _ _ rfl #[.pointer (some ⟨g4, 0, none⟩), .slice (some ⟨b, 22, none⟩) 20 20] (by simp only [List.map_toArray, List.map_cons, List.map_nil]; rfl) (fun W => HER.out _ W) ?_
                    refine (raw_any g4 vb _ ch ((encN e ++ (encN g ++ encN m)) ++ (encN (pathS ph pn).length ++ pathS ph pn)) _ (by simp only [List.length_append]; omega) (by omega) (rp_class_slice (HB.out.below HK_1_8_9_12_13_14_21.out) hl hc) HM_1_8_9_12_13_14_21.out).mono ?_
                    rintro x w_1_8_9_12_13_14_17_21 ⟨rfl, vc, hm, hs⟩
                    have HM_1_8_9_12_13_14_17_21 := Lib.hid hm
                    have HN_1_8_9_12_13_14_17_21 := Lib.hid (HN_1_8_9_12_13_14_21.out.step hs)
                    have HK_1_8_9_12_13_14_17_21 := Lib.hid (HK_1_8_9_12_13_14_21.out.trans ((HM_1_8_9_12_13_14_21.out.stepBelow hs).mono hgw))
                    clear hm hs
                    refine ⟨_, rfl, ?_⟩
                    refine ⟨RpG.of_blk (HB.out.below HK_1_8_9_12_13_14_17_21.out) hl hc, ?_⟩
                    try simp only [Act.put, List.setIfInBounds_toArray, List.set_cons_succ, List.set_cons_zero]
                    refine Agg.held_ready [22] (by kernel_rfl) (by simp) ?_
                    refine Agg.held_cons rfl ?_ ?_
                    · refine Agg.step_call rfl 46 _ _ rfl #[.pointer (some ⟨g4, 0, none⟩), xn] (by simp only [List.map_toArray, List.map_cons, List.map_nil]; rfl) (fun W => HEN.out _ W) ?_
                      refine (num_any g4 vc xn [l.length] (((encN e ++ (encN g ++ encN m)) ++ (encN (pathS ph pn).length ++ pathS ph pn)) ++ ch) _ (by intro n hn; simp only [List.mem_cons, List.not_mem_nil, or_false] at hn; omega) (by simp) (by simp only [List.length_append]; omega) HN_1_8_9_12_13_14_17_21.out HM_1_8_9_12_13_14_17_21.out).mono ?_
                      rintro x w_1_8_9_12_13_14_17_21_22 ⟨rfl, vd, hm, hs⟩
                      have HM_1_8_9_12_13_14_17_21_22 := Lib.hid (show MkV g4 w_1_8_9_12_13_14_17_21_22 vd ((((encN e ++ (encN g ++ encN m)) ++ (encN (pathS ph pn).length ++ pathS ph pn)) ++ ch) ++ encN l.length) from by simpa using hm)
                      have HK_1_8_9_12_13_14_17_21_22 := Lib.hid (HK_1_8_9_12_13_14_17_21.out.trans ((HM_1_8_9_12_13_14_17_21.out.stepBelow hs).mono hgw))
                      clear hm hs
                      refine ⟨_, rfl, ?_⟩
                      have hSx := RpG.of_blk (HB.out.below HK_1_8_9_12_13_14_17_21_22.out) hl hc; refine ⟨hSx, ?_⟩
                      try simp only [Act.put, List.setIfInBounds_toArray, List.set_cons_succ, List.set_cons_zero]
                      refine Agg.held_take 23 (.pointer (some ⟨g4, 0, none⟩)) rfl (by kernel_rfl) (fun _ _ _ h => h) rfl (fun W _ => by kernel_rfl) (by assumption) ?_
                      try simp only [Act.put, List.setIfInBounds_toArray, List.set_cons_succ, List.set_cons_zero]
                      refine Agg.held_end (by kernel_rfl) ?_
                      exact ⟨g4, vd, xs, sv.1, ys, xn, rfl, hgw, HM_1_8_9_12_13_14_17_21_22.out, HK_1_8_9_12_13_14_17_21_22.out⟩
                    exact AllReadyH.nil
                  exact AllReadyH.nil
                exact AllReadyH.nil
              exact AllReadyH.nil
            exact AllReadyH.nil
          exact AllReadyH.nil
        exact AllReadyH.nil
      refine Agg.held_cons rfl ?_ ?_
      · refine Agg.step_slice1 (E := EI) rfl _ rfl l.length rfl ?_
        intro xn w_1_21 hown hx
        have hpr := own_pre hown
        have how := fun k hk => (hown.block k hk).1
        clear hown
        have HM_1_21 := Lib.hid (HM_1.out.below hx)
        have HK_1_21 := Lib.hid (Agg.belowThen HK_1.out (Nat.le_refl _) hx)
        have HN_1_21 := Lib.hid (Off.behind (w0 := w_1) hpr.slice how HM_1.out.blk.lt HM_1.out.lt)
        clear hpr how hx
        refine ⟨RpG.of_blk (HB.out.below HK_1_21.out) hl hc, ?_⟩
        try simp only [Act.put, List.setIfInBounds_toArray, List.set_cons_succ, List.set_cons_zero]
        refine Agg.held_ready [8] (by kernel_rfl) (by simp) ?_
        refine Agg.held_cons rfl ?_ ?_
        · refine step_ints3 rfl _ _ _ rfl e g m rfl rfl rfl ?_
          intro xs w_1_8_21 hpr how hx
          have HN_1_8_21 := Lib.hid (HN_1_21.out.step (MkStep.of_below hx))
          have HM_1_8_21 := Lib.hid (HM_1_21.out.below hx)
          have HK_1_8_21 := Lib.hid (Agg.belowThen HK_1_21.out (Nat.le_refl _) hx)
          have HX_1_8_21 := Lib.hid (Off.behind (w0 := w_1_21) hpr.slice how HM_1_21.out.blk.lt HM_1_21.out.lt)
          clear hpr how hx
          refine ⟨RpG.of_blk (HB.out.below HK_1_8_21.out) hl hc, ?_⟩
          try simp only [Act.put, List.setIfInBounds_toArray, List.set_cons_succ, List.set_cons_zero]
          refine Agg.held_ready [9] (by kernel_rfl) (by simp) ?_
          refine Agg.held_cons rfl ?_ ?_
          · refine Agg.step_call rfl 46 _ _ rfl #[.pointer (some ⟨g4, 0, none⟩), xs] (by simp only [List.map_toArray, List.map_cons, List.map_nil]; rfl) (fun W => HEN.out _ W) ?_
            refine (num_any g4 (.slice none 0 0) xs [e, g, m] [] _ (by intro n hn; simp only [List.mem_cons, List.not_mem_nil, or_false] at hn; omega) (by simp) (by simp) HX_1_8_21.out HM_1_8_21.out).mono ?_
            rintro x w_1_8_9_21 ⟨rfl, va, hm, hs⟩
            have HM_1_8_9_21 := Lib.hid (show MkV g4 w_1_8_9_21 va (encN e ++ (encN g ++ encN m)) from by simpa using hm)
            have HN_1_8_9_21 := Lib.hid (HN_1_8_21.out.step hs)
            have HK_1_8_9_21 := Lib.hid (HK_1_8_21.out.trans ((HM_1_8_21.out.stepBelow hs).mono hgw))
            clear hm hs
            refine ⟨_, rfl, ?_⟩
            refine ⟨RpG.of_blk (HB.out.below HK_1_8_9_21.out) hl hc, ?_⟩
            try simp only [Act.put, List.setIfInBounds_toArray, List.set_cons_succ, List.set_cons_zero]
            refine Agg.held_ready [12] (by kernel_rfl) (by simp) ?_
            refine Agg.held_cons rfl ?_ ?_
            · refine Agg.step_call rfl 48 _ _ rfl #[.agg (pC ph pn)] (by simp only [List.map_toArray, List.map_cons, List.map_nil]; rfl) (fun W => HES.out _ W) ?_
              refine (shown_any ph pn hl _).mono ?_
              rintro x w_1_8_9_12_21 ⟨x12, y12, rfl, hy, hn, hx⟩
              obtain ⟨sv, rfl⟩ := newBytes_sv hn
              have HSO_1_8_9_12_21 := Lib.hid (Off.behind (w0 := w_1_8_9_21) hn.slice (fun k hk => Nat.le_trans hy.size (newBytes_own hn k hk)) HM_1_8_9_21.out.blk.lt HM_1_8_9_21.out.lt)
              have HN_1_8_9_12_21 := Lib.hid (HN_1_8_9_21.out.step (MkStep.of_below hx))
              have HM_1_8_9_12_21 := Lib.hid (HM_1_8_9_21.out.below hx)
              have HK_1_8_9_12_21 := Lib.hid (Agg.belowThen HK_1_8_9_21.out (Nat.le_refl _) hx)
              clear hn hx hy
              refine ⟨_, rfl, ?_⟩
              refine ⟨RpG.of_blk (HB.out.below HK_1_8_9_12_21.out) hl hc, ?_⟩
              try simp only [Act.put, List.setIfInBounds_toArray, List.set_cons_succ, List.set_cons_zero]
              refine Agg.held_ready [13] (by kernel_rfl) (by simp) ?_
              refine Agg.held_cons rfl ?_ ?_
              · refine Agg.step_slice1 (E := EBB) rfl _ rfl sv rfl ?_
                intro ys w_1_8_9_12_13_21 hys hx
                have HYO_1_8_9_12_13_21 := Lib.hid (Off.behind (w0 := w_1_8_9_12_21) hys.slice (fun k hk => (hys.block k hk).1) HM_1_8_9_12_21.out.blk.lt HM_1_8_9_12_21.out.lt)
                have HN_1_8_9_12_13_21 := Lib.hid (HN_1_8_9_12_21.out.step (MkStep.of_below hx))
                have HM_1_8_9_12_13_21 := Lib.hid (HM_1_8_9_12_21.out.below hx)
                have HSO_1_8_9_12_13_21 := Lib.hid (HSO_1_8_9_12_21.out.step (MkStep.of_below hx))
                have HK_1_8_9_12_13_21 := Lib.hid (Agg.belowThen HK_1_8_9_12_21.out (Nat.le_refl _) hx)
                clear hys hx
                refine ⟨RpG.of_blk (HB.out.below HK_1_8_9_12_13_21.out) hl hc, ?_⟩
                try simp only [Act.put, List.setIfInBounds_toArray, List.set_cons_succ, List.set_cons_zero]
                refine Agg.held_ready [14] (by kernel_rfl) (by simp) ?_
                refine Agg.held_cons rfl ?_ ?_
                · refine Agg.step_call rfl 37 _ _ rfl #[.pointer (some ⟨g4, 0, none⟩), ys] (by simp only [List.map_toArray, List.map_cons, List.map_nil]; rfl) (fun W => HET.out _ W) ?_
                  refine (text_any g4 va ys sv (pathS ph pn) (encN e ++ (encN g ++ encN m)) _ (by simp only [List.length_append]; omega) (by omega) HYO_1_8_9_12_13_21.out HSO_1_8_9_12_13_21.out HM_1_8_9_12_13_21.out).mono ?_
                  rintro x w_1_8_9_12_13_14_21 ⟨rfl, vb, hm, hs⟩
                  have HM_1_8_9_12_13_14_21 := Lib.hid hm
                  have HN_1_8_9_12_13_14_21 := Lib.hid (HN_1_8_9_12_13_21.out.step hs)
                  have HK_1_8_9_12_13_14_21 := Lib.hid (HK_1_8_9_12_13_21.out.trans ((HM_1_8_9_12_13_21.out.stepBelow hs).mono hgw))
                  clear hm hs
                  refine ⟨_, rfl, ?_⟩
                  refine ⟨RpG.of_blk (HB.out.below HK_1_8_9_12_13_14_21.out) hl hc, ?_⟩
                  try simp only [Act.put, List.setIfInBounds_toArray, List.set_cons_succ, List.set_cons_zero]
                  refine Agg.held_ready [17] (by kernel_rfl) (by simp) ?_
                  refine Agg.held_cons rfl ?_ ?_
                  · refine Agg.step_call rfl 49 _ _ rfl #[.pointer (some ⟨g4, 0, none⟩), .slice (some ⟨b, 22, none⟩) 20 20] (by simp only [List.map_toArray, List.map_cons, List.map_nil]; rfl) (fun W => HER.out _ W) ?_
                    refine (raw_any g4 vb _ ch ((encN e ++ (encN g ++ encN m)) ++ (encN (pathS ph pn).length ++ pathS ph pn)) _ (by simp only [List.length_append]; omega) (by omega) (rp_class_slice (HB.out.below HK_1_8_9_12_13_14_21.out) hl hc) HM_1_8_9_12_13_14_21.out).mono ?_
                    rintro x w_1_8_9_12_13_14_17_21 ⟨rfl, vc, hm, hs⟩
                    have HM_1_8_9_12_13_14_17_21 := Lib.hid hm
                    have HN_1_8_9_12_13_14_17_21 := Lib.hid (HN_1_8_9_12_13_14_21.out.step hs)
                    have HK_1_8_9_12_13_14_17_21 := Lib.hid (HK_1_8_9_12_13_14_21.out.trans ((HM_1_8_9_12_13_14_21.out.stepBelow hs).mono hgw))
                    clear hm hs
                    refine ⟨_, rfl, ?_⟩
                    refine ⟨RpG.of_blk (HB.out.below HK_1_8_9_12_13_14_17_21.out) hl hc, ?_⟩
                    try simp only [Act.put, List.setIfInBounds_toArray, List.set_cons_succ, List.set_cons_zero]
                    refine Agg.held_ready [22] (by kernel_rfl) (by simp) ?_
                    refine Agg.held_cons rfl ?_ ?_
                    · refine Agg.step_call rfl 46 _ _ rfl #[.pointer (some ⟨g4, 0, none⟩), xn] (by simp only [List.map_toArray, List.map_cons, List.map_nil]; rfl) (fun W => HEN.out _ W) ?_
                      refine (num_any g4 vc xn [l.length] (((encN e ++ (encN g ++ encN m)) ++ (encN (pathS ph pn).length ++ pathS ph pn)) ++ ch) _ (by intro n hn; simp only [List.mem_cons, List.not_mem_nil, or_false] at hn; omega) (by simp) (by simp only [List.length_append]; omega) HN_1_8_9_12_13_14_17_21.out HM_1_8_9_12_13_14_17_21.out).mono ?_
                      rintro x w_1_8_9_12_13_14_17_21_22 ⟨rfl, vd, hm, hs⟩
                      have HM_1_8_9_12_13_14_17_21_22 := Lib.hid (show MkV g4 w_1_8_9_12_13_14_17_21_22 vd ((((encN e ++ (encN g ++ encN m)) ++ (encN (pathS ph pn).length ++ pathS ph pn)) ++ ch) ++ encN l.length) from by simpa using hm)
                      have HK_1_8_9_12_13_14_17_21_22 := Lib.hid (HK_1_8_9_12_13_14_17_21.out.trans ((HM_1_8_9_12_13_14_17_21.out.stepBelow hs).mono hgw))
                      clear hm hs
                      refine ⟨_, rfl, ?_⟩
                      have hSx := RpG.of_blk (HB.out.below HK_1_8_9_12_13_14_17_21_22.out) hl hc; refine ⟨hSx, ?_⟩
                      try simp only [Act.put, List.setIfInBounds_toArray, List.set_cons_succ, List.set_cons_zero]
                      refine Agg.held_take 23 (.pointer (some ⟨g4, 0, none⟩)) rfl (by kernel_rfl) (fun _ _ _ h => h) rfl (fun W _ => by kernel_rfl) (by assumption) ?_
                      try simp only [Act.put, List.setIfInBounds_toArray, List.set_cons_succ, List.set_cons_zero]
                      refine Agg.held_end (by kernel_rfl) ?_
                      exact ⟨g4, vd, xs, sv.1, ys, xn, rfl, hgw, HM_1_8_9_12_13_14_17_21_22.out, HK_1_8_9_12_13_14_17_21_22.out⟩
                    exact AllReadyH.nil
                  exact AllReadyH.nil
                exact AllReadyH.nil
              exact AllReadyH.nil
            exact AllReadyH.nil
          exact AllReadyH.nil
        exact AllReadyH.nil
      exact AllReadyH.nil
    refine Agg.held_cons rfl ?_ ?_
    · refine step_ints3 rfl _ _ _ rfl e g m rfl rfl rfl ?_
      intro xs w_8 hpr how hx
      have HK_8 := Lib.hid (Agg.belowThen HK0.out (Nat.le_refl _) hx)
      have HX_8 := Lib.hid hpr
      clear hpr how hx
      refine ⟨RpG.of_blk (HB.out.below HK_8.out) hl hc, ?_⟩
      try simp only [Act.put, List.setIfInBounds_toArray, List.set_cons_succ, List.set_cons_zero]
      refine Agg.held_ready [1, 21] (by kernel_rfl) (by simp) ?_
      refine Agg.held_cons rfl ?_ ?_
      · refine Agg.step_box rfl 74 _ rfl (mkC (.slice none 0 0)) rfl ?_
        intro g4 w_1_8 hb4 hx4 hg4
        have hgw : w0.heap.size ≤ g4 := Nat.le_trans HK_8.out.size hg4
        have HM_1_8 := Lib.hid (⟨hb4, Own.nil _ _ _⟩ : MkV g4 w_1_8 (.slice none 0 0) [])
        have HX_1_8 := Lib.hid (HX_8.out.off hx4 hg4)
        have HK_1_8 := Lib.hid (Agg.belowThen HK_8.out (Nat.le_refl _) hx4)
        clear hb4 hx4
        refine ⟨RpG.of_blk (HB.out.below HK_1_8.out) hl hc, ?_⟩
        try simp only [Act.put, List.setIfInBounds_toArray, List.set_cons_succ, List.set_cons_zero]
        refine Agg.held_ready [9, 21] (by kernel_rfl) (by simp) ?_
        refine Agg.held_cons rfl ?_ ?_
        · refine Agg.step_call rfl 46 _ _ rfl #[.pointer (some ⟨g4, 0, none⟩), xs] (by simp only [List.map_toArray, List.map_cons, List.map_nil]; rfl) (fun W => HEN.out _ W) ?_
          refine (num_any g4 (.slice none 0 0) xs [e, g, m] [] _ (by intro n hn; simp only [List.mem_cons, List.not_mem_nil, or_false] at hn; omega) (by simp) (by simp) HX_1_8.out HM_1_8.out).mono ?_
          rintro x w_1_8_9 ⟨rfl, va, hm, hs⟩
          have HM_1_8_9 := Lib.hid (show MkV g4 w_1_8_9 va (encN e ++ (encN g ++ encN m)) from by simpa using hm)
          have HK_1_8_9 := Lib.hid (HK_1_8.out.trans ((HM_1_8.out.stepBelow hs).mono hgw))
          clear hm hs
          refine ⟨_, rfl, ?_⟩
          refine ⟨RpG.of_blk (HB.out.below HK_1_8_9.out) hl hc, ?_⟩
          try simp only [Act.put, List.setIfInBounds_toArray, List.set_cons_succ, List.set_cons_zero]
          refine Agg.held_ready [12, 21] (by kernel_rfl) (by simp) ?_
          refine Agg.held_cons rfl ?_ ?_
          · refine Agg.step_call rfl 48 _ _ rfl #[.agg (pC ph pn)] (by simp only [List.map_toArray, List.map_cons, List.map_nil]; rfl) (fun W => HES.out _ W) ?_
            refine (shown_any ph pn hl _).mono ?_
            rintro x w_1_8_9_12 ⟨x12, y12, rfl, hy, hn, hx⟩
            obtain ⟨sv, rfl⟩ := newBytes_sv hn
            have HSO_1_8_9_12 := Lib.hid (Off.behind (w0 := w_1_8_9) hn.slice (fun k hk => Nat.le_trans hy.size (newBytes_own hn k hk)) HM_1_8_9.out.blk.lt HM_1_8_9.out.lt)
            have HM_1_8_9_12 := Lib.hid (HM_1_8_9.out.below hx)
            have HK_1_8_9_12 := Lib.hid (Agg.belowThen HK_1_8_9.out (Nat.le_refl _) hx)
            clear hn hx hy
            refine ⟨_, rfl, ?_⟩
            refine ⟨RpG.of_blk (HB.out.below HK_1_8_9_12.out) hl hc, ?_⟩
            try simp only [Act.put, List.setIfInBounds_toArray, List.set_cons_succ, List.set_cons_zero]
            refine Agg.held_ready [13, 21] (by kernel_rfl) (by simp) ?_
            refine Agg.held_cons rfl ?_ ?_
            · refine Agg.step_slice1 (E := EBB) rfl _ rfl sv rfl ?_
              intro ys w_1_8_9_12_13 hys hx
              have HYO_1_8_9_12_13 := Lib.hid (Off.behind (w0 := w_1_8_9_12) hys.slice (fun k hk => (hys.block k hk).1) HM_1_8_9_12.out.blk.lt HM_1_8_9_12.out.lt)
              have HM_1_8_9_12_13 := Lib.hid (HM_1_8_9_12.out.below hx)
              have HSO_1_8_9_12_13 := Lib.hid (HSO_1_8_9_12.out.step (MkStep.of_below hx))
              have HK_1_8_9_12_13 := Lib.hid (Agg.belowThen HK_1_8_9_12.out (Nat.le_refl _) hx)
              clear hys hx
              refine ⟨RpG.of_blk (HB.out.below HK_1_8_9_12_13.out) hl hc, ?_⟩
              try simp only [Act.put, List.setIfInBounds_toArray, List.set_cons_succ, List.set_cons_zero]
              refine Agg.held_ready [14, 21] (by kernel_rfl) (by simp) ?_
              refine Agg.held_cons rfl ?_ ?_
              · refine Agg.step_call rfl 37 _ _ rfl #[.pointer (some ⟨g4, 0, none⟩), ys] (by simp only [List.map_toArray, List.map_cons, List.map_nil]; rfl) (fun W => HET.out _ W) ?_
                refine (text_any g4 va ys sv (pathS ph pn) (encN e ++ (encN g ++ encN m)) _ (by simp only [List.length_append]; omega) (by omega) HYO_1_8_9_12_13.out HSO_1_8_9_12_13.out HM_1_8_9_12_13.out).mono ?_
                rintro x w_1_8_9_12_13_14 ⟨rfl, vb, hm, hs⟩
                have HM_1_8_9_12_13_14 := Lib.hid hm
                have HK_1_8_9_12_13_14 := Lib.hid (HK_1_8_9_12_13.out.trans ((HM_1_8_9_12_13.out.stepBelow hs).mono hgw))
                clear hm hs
                refine ⟨_, rfl, ?_⟩
                refine ⟨RpG.of_blk (HB.out.below HK_1_8_9_12_13_14.out) hl hc, ?_⟩
                try simp only [Act.put, List.setIfInBounds_toArray, List.set_cons_succ, List.set_cons_zero]
                refine Agg.held_ready [17, 21] (by kernel_rfl) (by simp) ?_
                refine Agg.held_cons rfl ?_ ?_
                · refine Agg.step_call rfl 49 _ _ rfl #[.pointer (some ⟨g4, 0, none⟩), .slice (some ⟨b, 22, none⟩) 20 20] (by simp only [List.map_toArray, List.map_cons, List.map_nil]; rfl) (fun W => HER.out _ W) ?_
                  refine (raw_any g4 vb _ ch ((encN e ++ (encN g ++ encN m)) ++ (encN (pathS ph pn).length ++ pathS ph pn)) _ (by simp only [List.length_append]; omega) (by omega) (rp_class_slice (HB.out.below HK_1_8_9_12_13_14.out) hl hc) HM_1_8_9_12_13_14.out).mono ?_
                  rintro x w_1_8_9_12_13_14_17 ⟨rfl, vc, hm, hs⟩
                  have HM_1_8_9_12_13_14_17 := Lib.hid hm
                  have HK_1_8_9_12_13_14_17 := Lib.hid (HK_1_8_9_12_13_14.out.trans ((HM_1_8_9_12_13_14.out.stepBelow hs).mono hgw))
                  clear hm hs
                  refine ⟨_, rfl, ?_⟩
                  refine ⟨RpG.of_blk (HB.out.below HK_1_8_9_12_13_14_17.out) hl hc, ?_⟩
                  try simp only [Act.put, List.setIfInBounds_toArray, List.set_cons_succ, List.set_cons_zero]
                  refine Agg.held_ready [21] (by kernel_rfl) (by simp) ?_
                  refine Agg.held_cons rfl ?_ ?_
                  · refine Agg.step_slice1 (E := EI) rfl _ rfl l.length rfl ?_
                    intro xn w_1_8_9_12_13_14_17_21 hown hx
                    have hpr := own_pre hown
                    have how := fun k hk => (hown.block k hk).1
                    clear hown
                    have HM_1_8_9_12_13_14_17_21 := Lib.hid (HM_1_8_9_12_13_14_17.out.below hx)
                    have HK_1_8_9_12_13_14_17_21 := Lib.hid (Agg.belowThen HK_1_8_9_12_13_14_17.out (Nat.le_refl _) hx)
                    have HN_1_8_9_12_13_14_17_21 := Lib.hid (Off.behind (w0 := w_1_8_9_12_13_14_17) hpr.slice how HM_1_8_9_12_13_14_17.out.blk.lt HM_1_8_9_12_13_14_17.out.lt)
                    clear hpr how hx
                    refine ⟨RpG.of_blk (HB.out.below HK_1_8_9_12_13_14_17_21.out) hl hc, ?_⟩
                    try simp only [Act.put, List.setIfInBounds_toArray, List.set_cons_succ, List.set_cons_zero]
                    refine Agg.held_ready [22] (by kernel_rfl) (by simp) ?_
                    refine Agg.held_cons rfl ?_ ?_
                    · refine Agg.step_call rfl 46 _ _ rfl #[.pointer (some ⟨g4, 0, none⟩), xn] (by simp only [List.map_toArray, List.map_cons, List.map_nil]; rfl) (fun W => HEN.out _ W) ?_
                      refine (num_any g4 vc xn [l.length] (((encN e ++ (encN g ++ encN m)) ++ (encN (pathS ph pn).length ++ pathS ph pn)) ++ ch) _ (by intro n hn; simp only [List.mem_cons, List.not_mem_nil, or_false] at hn; omega) (by simp) (by simp only [List.length_append]; omega) HN_1_8_9_12_13_14_17_21.out HM_1_8_9_12_13_14_17_21.out).mono ?_
                      rintro x w_1_8_9_12_13_14_17_21_22 ⟨rfl, vd, hm, hs⟩
                      have HM_1_8_9_12_13_14_17_21_22 := Lib.hid (show MkV g4 w_1_8_9_12_13_14_17_21_22 vd ((((encN e ++ (encN g ++ encN m)) ++ (encN (pathS ph pn).length ++ pathS ph pn)) ++ ch) ++ encN l.length) from by simpa using hm)
                      have HK_1_8_9_12_13_14_17_21_22 := Lib.hid (HK_1_8_9_12_13_14_17_21.out.trans ((HM_1_8_9_12_13_14_17_21.out.stepBelow hs).mono hgw))
                      clear hm hs
                      refine ⟨_, rfl, ?_⟩
                      have hSx := RpG.of_blk (HB.out.below HK_1_8_9_12_13_14_17_21_22.out) hl hc; refine ⟨hSx, ?_⟩
                      try simp only [Act.put, List.setIfInBounds_toArray, List.set_cons_succ, List.set_cons_zero]
                      refine Agg.held_take 23 (.pointer (some ⟨g4, 0, none⟩)) rfl (by kernel_rfl) (fun _ _ _ h => h) rfl (fun W _ => by kernel_rfl) (by assumption) ?_
                      try simp only [Act.put, List.setIfInBounds_toArray, List.set_cons_succ, List.set_cons_zero]
                      refine Agg.held_end (by kernel_rfl) ?_
                      exact ⟨g4, vd, xs, sv.1, ys, xn, rfl, hgw, HM_1_8_9_12_13_14_17_21_22.out, HK_1_8_9_12_13_14_17_21_22.out⟩
                    exact AllReadyH.nil
                  exact AllReadyH.nil
                refine Agg.held_cons rfl ?_ ?_
                · refine Agg.step_slice1 (E := EI) rfl _ rfl l.length rfl ?_
                  intro xn w_1_8_9_12_13_14_21 hown hx
                  have hpr := own_pre hown
                  have how := fun k hk => (hown.block k hk).1
                  clear hown
                  have HM_1_8_9_12_13_14_21 := Lib.hid (HM_1_8_9_12_13_14.out.below hx)
                  have HK_1_8_9_12_13_14_21 := Lib.hid (Agg.belowThen HK_1_8_9_12_13_14.out (Nat.le_refl _) hx)
                  have HN_1_8_9_12_13_14_21 := Lib.hid (Off.behind (w0 := w_1_8_9_12_13_14) hpr.slice how HM_1_8_9_12_13_14.out.blk.lt HM_1_8_9_12_13_14.out.lt)
                  clear hpr how hx
                  refine ⟨RpG.of_blk (HB.out.below HK_1_8_9_12_13_14_21.out) hl hc, ?_⟩
                  try simp only [Act.put, List.setIfInBounds_toArray, List.set_cons_succ, List.set_cons_zero]
                  refine Agg.held_ready [17] (by kernel_rfl) (by simp) ?_
                  refine Agg.held_cons rfl ?_ ?_
                  · refine Agg.step_call rfl 49 _ _ rfl #[.pointer (some ⟨g4, 0, none⟩), .slice (some ⟨b, 22, none⟩) 20 20] (by simp only [List.map_toArray, List.map_cons, List.map_nil]; rfl) (fun W => HER.out _ W) ?_
                    refine (raw_any g4 vb _ ch ((encN e ++ (encN g ++ encN m)) ++ (encN (pathS ph pn).length ++ pathS ph pn)) _ (by simp only [List.length_append]; omega) (by omega) (rp_class_slice (HB.out.below HK_1_8_9_12_13_14_21.out) hl hc) HM_1_8_9_12_13_14_21.out).mono ?_
                    rintro x w_1_8_9_12_13_14_17_21 ⟨rfl, vc, hm, hs⟩
                    have HM_1_8_9_12_13_14_17_21 := Lib.hid hm
                    have HN_1_8_9_12_13_14_17_21 := Lib.hid (HN_1_8_9_12_13_14_21.out.step hs)
                    have HK_1_8_9_12_13_14_17_21 := Lib.hid (HK_1_8_9_12_13_14_21.out.trans ((HM_1_8_9_12_13_14_21.out.stepBelow hs).mono hgw))
                    clear hm hs
                    refine ⟨_, rfl, ?_⟩
                    refine ⟨RpG.of_blk (HB.out.below HK_1_8_9_12_13_14_17_21.out) hl hc, ?_⟩
                    try simp only [Act.put, List.setIfInBounds_toArray, List.set_cons_succ, List.set_cons_zero]
                    refine Agg.held_ready [22] (by kernel_rfl) (by simp) ?_
                    refine Agg.held_cons rfl ?_ ?_
                    · refine Agg.step_call rfl 46 _ _ rfl #[.pointer (some ⟨g4, 0, none⟩), xn] (by simp only [List.map_toArray, List.map_cons, List.map_nil]; rfl) (fun W => HEN.out _ W) ?_
                      refine (num_any g4 vc xn [l.length] (((encN e ++ (encN g ++ encN m)) ++ (encN (pathS ph pn).length ++ pathS ph pn)) ++ ch) _ (by intro n hn; simp only [List.mem_cons, List.not_mem_nil, or_false] at hn; omega) (by simp) (by simp only [List.length_append]; omega) HN_1_8_9_12_13_14_17_21.out HM_1_8_9_12_13_14_17_21.out).mono ?_
                      rintro x w_1_8_9_12_13_14_17_21_22 ⟨rfl, vd, hm, hs⟩
                      have HM_1_8_9_12_13_14_17_21_22 := Lib.hid (show MkV g4 w_1_8_9_12_13_14_17_21_22 vd ((((encN e ++ (encN g ++ encN m)) ++ (encN (pathS ph pn).length ++ pathS ph pn)) ++ ch) ++ encN l.length) from by simpa using hm)
                      have HK_1_8_9_12_13_14_17_21_22 := Lib.hid (HK_1_8_9_12_13_14_17_21.out.trans ((HM_1_8_9_12_13_14_17_21.out.stepBelow hs).mono hgw))
                      clear hm hs
                      refine ⟨_, rfl, ?_⟩
                      have hSx := RpG.of_blk (HB.out.below HK_1_8_9_12_13_14_17_21_22.out) hl hc; refine ⟨hSx, ?_⟩
                      try simp only [Act.put, List.setIfInBounds_toArray, List.set_cons_succ, List.set_cons_zero]
                      refine Agg.held_take 23 (.pointer (some ⟨g4, 0, none⟩)) rfl (by kernel_rfl) (fun _ _ _ h => h) rfl (fun W _ => by kernel_rfl) (by assumption) ?_
                      try simp only [Act.put, List.setIfInBounds_toArray, List.set_cons_succ, List.set_cons_zero]
                      refine Agg.held_end (by kernel_rfl) ?_
                      exact ⟨g4, vd, xs, sv.1, ys, xn, rfl, hgw, HM_1_8_9_12_13_14_17_21_22.out, HK_1_8_9_12_13_14_17_21_22.out⟩
                    exact AllReadyH.nil
                  exact AllReadyH.nil
                exact AllReadyH.nil
              refine Agg.held_cons rfl ?_ ?_
              · refine Agg.step_slice1 (E := EI) rfl _ rfl l.length rfl ?_
                intro xn w_1_8_9_12_13_21 hown hx
                have hpr := own_pre hown
                have how := fun k hk => (hown.block k hk).1
                clear hown
                have HM_1_8_9_12_13_21 := Lib.hid (HM_1_8_9_12_13.out.below hx)
                have HSO_1_8_9_12_13_21 := Lib.hid (HSO_1_8_9_12_13.out.step (MkStep.of_below hx))
                have HYO_1_8_9_12_13_21 := Lib.hid (HYO_1_8_9_12_13.out.step (MkStep.of_below hx))
                have HK_1_8_9_12_13_21 := Lib.hid (Agg.belowThen HK_1_8_9_12_13.out (Nat.le_refl _) hx)
                have HN_1_8_9_12_13_21 := Lib.hid (Off.behind (w0 := w_1_8_9_12_13) hpr.slice how HM_1_8_9_12_13.out.blk.lt HM_1_8_9_12_13.out.lt)
                clear hpr how hx
                refine ⟨RpG.of_blk (HB.out.below HK_1_8_9_12_13_21.out) hl hc, ?_⟩
                try simp only [Act.put, List.setIfInBounds_toArray, List.set_cons_succ, List.set_cons_zero]
                refine Agg.held_ready [14] (by kernel_rfl) (by simp) ?_
                refine Agg.held_cons rfl ?_ ?_
                · refine Agg.step_call rfl 37 _ _ rfl #[.pointer (some ⟨g4, 0, none⟩), ys] (by simp only [List.map_toArray, List.map_cons, List.map_nil]; rfl) (fun W => HET.out _ W) ?_
                  refine (text_any g4 va ys sv (pathS ph pn) (encN e ++ (encN g ++ encN m)) _ (by simp only [List.length_append]; omega) (by omega) HYO_1_8_9_12_13_21.out HSO_1_8_9_12_13_21.out HM_1_8_9_12_13_21.out).mono ?_
                  rintro x w_1_8_9_12_13_14_21 ⟨rfl, vb, hm, hs⟩
                  have HM_1_8_9_12_13_14_21 := Lib.hid hm
                  have HN_1_8_9_12_13_14_21 := Lib.hid (HN_1_8_9_12_13_21.out.step hs)
                  have HK_1_8_9_12_13_14_21 := Lib.hid (HK_1_8_9_12_13_21.out.trans ((HM_1_8_9_12_13_21.out.stepBelow hs).mono hgw))
                  clear hm hs
                  refine ⟨_, rfl, ?_⟩
                  refine ⟨RpG.of_blk (HB.out.below HK_1_8_9_12_13_14_21.out) hl hc, ?_⟩
                  try simp only [Act.put, List.setIfInBounds_toArray, List.set_cons_succ, List.set_cons_zero]
                  refine Agg.held_ready [17] (by kernel_rfl) (by simp) ?_
                  refine Agg.held_cons rfl ?_ ?_
                  · refine Agg.step_call rfl 49 _ _ rfl #[.pointer (some ⟨g4, 0, none⟩), .slice (some ⟨b, 22, none⟩) 20 20] (by simp only [List.map_toArray, List.map_cons, List.map_nil]; rfl) (fun W => HER.out _ W) ?_
                    refine (raw_any g4 vb _ ch ((encN e ++ (encN g ++ encN m)) ++ (encN (pathS ph pn).length ++ pathS ph pn)) _ (by simp only [List.length_append]; omega) (by omega) (rp_class_slice (HB.out.below HK_1_8_9_12_13_14_21.out) hl hc) HM_1_8_9_12_13_14_21.out).mono ?_
                    rintro x w_1_8_9_12_13_14_17_21 ⟨rfl, vc, hm, hs⟩
                    have HM_1_8_9_12_13_14_17_21 := Lib.hid hm
                    have HN_1_8_9_12_13_14_17_21 := Lib.hid (HN_1_8_9_12_13_14_21.out.step hs)
                    have HK_1_8_9_12_13_14_17_21 := Lib.hid (HK_1_8_9_12_13_14_21.out.trans ((HM_1_8_9_12_13_14_21.out.stepBelow hs).mono hgw))
                    clear hm hs
                    refine ⟨_, rfl, ?_⟩
                    refine ⟨RpG.of_blk (HB.out.below HK_1_8_9_12_13_14_17_21.out) hl hc, ?_⟩
                    try simp only [Act.put, List.setIfInBounds_toArray, List.set_cons_succ, List.set_cons_zero]
                    refine Agg.held_ready [22] (by kernel_rfl) (by simp) ?_
                    refine Agg.held_cons rfl ?_ ?_
                    · refine Agg.step_call rfl 46 _ _ rfl #[.pointer (some ⟨g4, 0, none⟩), xn] (by simp only [List.map_toArray, List.map_cons, List.map_nil]; rfl) (fun W => HEN.out _ W) ?_
                      refine (num_any g4 vc xn [l.length] (((encN e ++ (encN g ++ encN m)) ++ (encN (pathS ph pn).length ++ pathS ph pn)) ++ ch) _ (by intro n hn; simp only [List.mem_cons, List.not_mem_nil, or_false] at hn; omega) (by simp) (by simp only [List.length_append]; omega) HN_1_8_9_12_13_14_17_21.out HM_1_8_9_12_13_14_17_21.out).mono ?_
                      rintro x w_1_8_9_12_13_14_17_21_22 ⟨rfl, vd, hm, hs⟩
                      have HM_1_8_9_12_13_14_17_21_22 := Lib.hid (show MkV g4 w_1_8_9_12_13_14_17_21_22 vd ((((encN e ++ (encN g ++ encN m)) ++ (encN (pathS ph pn).length ++ pathS ph pn)) ++ ch) ++ encN l.length) from by simpa using hm)
                      have HK_1_8_9_12_13_14_17_21_22 := Lib.hid (HK_1_8_9_12_13_14_17_21.out.trans ((HM_1_8_9_12_13_14_17_21.out.stepBelow hs).mono hgw))
                      clear hm hs
                      refine ⟨_, rfl, ?_⟩
                      have hSx := RpG.of_blk (HB.out.below HK_1_8_9_12_13_14_17_21_22.out) hl hc; refine ⟨hSx, ?_⟩
                      try simp only [Act.put, List.setIfInBounds_toArray, List.set_cons_succ, List.set_cons_zero]
                      refine Agg.held_take 23 (.pointer (some ⟨g4, 0, none⟩)) rfl (by kernel_rfl) (fun _ _ _ h => h) rfl (fun W _ => by kernel_rfl) (by assumption) ?_
                      try simp only [Act.put, List.setIfInBounds_toArray, List.set_cons_succ, List.set_cons_zero]
                      refine Agg.held_end (by kernel_rfl) ?_
                      exact ⟨g4, vd, xs, sv.1, ys, xn, rfl, hgw, HM_1_8_9_12_13_14_17_21_22.out, HK_1_8_9_12_13_14_17_21_22.out⟩
                    exact AllReadyH.nil
                  exact AllReadyH.nil
                exact AllReadyH.nil
              exact AllReadyH.nil
            refine Agg.held_cons rfl ?_ ?_
            · refine Agg.step_slice1 (E := EI) rfl _ rfl l.length rfl ?_
              intro xn w_1_8_9_12_21 hown hx
              have hpr := own_pre hown
              have how := fun k hk => (hown.block k hk).1
              clear hown
              have HM_1_8_9_12_21 := Lib.hid (HM_1_8_9_12.out.below hx)
              have HSO_1_8_9_12_21 := Lib.hid (HSO_1_8_9_12.out.step (MkStep.of_below hx))
              have HK_1_8_9_12_21 := Lib.hid (Agg.belowThen HK_1_8_9_12.out (Nat.le_refl _) hx)
              have HN_1_8_9_12_21 := Lib.hid (Off.behind (w0 := w_1_8_9_12) hpr.slice how HM_1_8_9_12.out.blk.lt HM_1_8_9_12.out.lt)
              clear hpr how hx
              refine ⟨RpG.of_blk (HB.out.below HK_1_8_9_12_21.out) hl hc, ?_⟩
              try simp only [Act.put, List.setIfInBounds_toArray, List.set_cons_succ, List.set_cons_zero]
              refine Agg.held_ready [13] (by kernel_rfl) (by simp) ?_
              refine Agg.held_cons rfl ?_ ?_
              · refine Agg.step_slice1 (E := EBB) rfl _ rfl sv rfl ?_
                intro ys w_1_8_9_12_13_21 hys hx
                have HYO_1_8_9_12_13_21 := Lib.hid (Off.behind (w0 := w_1_8_9_12_21) hys.slice (fun k hk => (hys.block k hk).1) HM_1_8_9_12_21.out.blk.lt HM_1_8_9_12_21.out.lt)
                have HN_1_8_9_12_13_21 := Lib.hid (HN_1_8_9_12_21.out.step (MkStep.of_below hx))
                have HM_1_8_9_12_13_21 := Lib.hid (HM_1_8_9_12_21.out.below hx)
                have HSO_1_8_9_12_13_21 := Lib.hid (HSO_1_8_9_12_21.out.step (MkStep.of_below hx))
                have HK_1_8_9_12_13_21 := Lib.hid (Agg.belowThen HK_1_8_9_12_21.out (Nat.le_refl _) hx)
                clear hys hx
                refine ⟨RpG.of_blk (HB.out.below HK_1_8_9_12_13_21.out) hl hc, ?_⟩
                try simp only [Act.put, List.setIfInBounds_toArray, List.set_cons_succ, List.set_cons_zero]
                refine Agg.held_ready [14] (by kernel_rfl) (by simp) ?_
                refine Agg.held_cons rfl ?_ ?_
                · refine Agg.step_call rfl 37 _ _ rfl #[.pointer (some ⟨g4, 0, none⟩), ys] (by simp only [List.map_toArray, List.map_cons, List.map_nil]; rfl) (fun W => HET.out _ W) ?_
                  refine (text_any g4 va ys sv (pathS ph pn) (encN e ++ (encN g ++ encN m)) _ (by simp only [List.length_append]; omega) (by omega) HYO_1_8_9_12_13_21.out HSO_1_8_9_12_13_21.out HM_1_8_9_12_13_21.out).mono ?_
                  rintro x w_1_8_9_12_13_14_21 ⟨rfl, vb, hm, hs⟩
                  have HM_1_8_9_12_13_14_21 := Lib.hid hm
                  have HN_1_8_9_12_13_14_21 := Lib.hid (HN_1_8_9_12_13_21.out.step hs)
                  have HK_1_8_9_12_13_14_21 := Lib.hid (HK_1_8_9_12_13_21.out.trans ((HM_1_8_9_12_13_21.out.stepBelow hs).mono hgw))
                  clear hm hs
                  refine ⟨_, rfl, ?_⟩
                  refine ⟨RpG.of_blk (HB.out.below HK_1_8_9_12_13_14_21.out) hl hc, ?_⟩
                  try simp only [Act.put, List.setIfInBounds_toArray, List.set_cons_succ, List.set_cons_zero]
                  refine Agg.held_ready [17] (by kernel_rfl) (by simp) ?_
                  refine Agg.held_cons rfl ?_ ?_
                  · refine Agg.step_call rfl 49 _ _ rfl #[.pointer (some ⟨g4, 0, none⟩), .slice (some ⟨b, 22, none⟩) 20 20] (by simp only [List.map_toArray, List.map_cons, List.map_nil]; rfl) (fun W => HER.out _ W) ?_
                    refine (raw_any g4 vb _ ch ((encN e ++ (encN g ++ encN m)) ++ (encN (pathS ph pn).length ++ pathS ph pn)) _ (by simp only [List.length_append]; omega) (by omega) (rp_class_slice (HB.out.below HK_1_8_9_12_13_14_21.out) hl hc) HM_1_8_9_12_13_14_21.out).mono ?_
                    rintro x w_1_8_9_12_13_14_17_21 ⟨rfl, vc, hm, hs⟩
                    have HM_1_8_9_12_13_14_17_21 := Lib.hid hm
                    have HN_1_8_9_12_13_14_17_21 := Lib.hid (HN_1_8_9_12_13_14_21.out.step hs)
                    have HK_1_8_9_12_13_14_17_21 := Lib.hid (HK_1_8_9_12_13_14_21.out.trans ((HM_1_8_9_12_13_14_21.out.stepBelow hs).mono hgw))
                    clear hm hs
                    refine ⟨_, rfl, ?_⟩
                    refine ⟨RpG.of_blk (HB.out.below HK_1_8_9_12_13_14_17_21.out) hl hc, ?_⟩
                    try simp only [Act.put, List.setIfInBounds_toArray, List.set_cons_succ, List.set_cons_zero]
                    refine Agg.held_ready [22] (by kernel_rfl) (by simp) ?_
                    refine Agg.held_cons rfl ?_ ?_
                    · refine Agg.step_call rfl 46 _ _ rfl #[.pointer (some ⟨g4, 0, none⟩), xn] (by simp only [List.map_toArray, List.map_cons, List.map_nil]; rfl) (fun W => HEN.out _ W) ?_
                      refine (num_any g4 vc xn [l.length] (((encN e ++ (encN g ++ encN m)) ++ (encN (pathS ph pn).length ++ pathS ph pn)) ++ ch) _ (by intro n hn; simp only [List.mem_cons, List.not_mem_nil, or_false] at hn; omega) (by simp) (by simp only [List.length_append]; omega) HN_1_8_9_12_13_14_17_21.out HM_1_8_9_12_13_14_17_21.out).mono ?_
                      rintro x w_1_8_9_12_13_14_17_21_22 ⟨rfl, vd, hm, hs⟩
                      have HM_1_8_9_12_13_14_17_21_22 := Lib.hid (show MkV g4 w_1_8_9_12_13_14_17_21_22 vd ((((encN e ++ (encN g ++ encN m)) ++ (encN (pathS ph pn).length ++ pathS ph pn)) ++ ch) ++ encN l.length) from by simpa using hm)
                      have HK_1_8_9_12_13_14_17_21_22 := Lib.hid (HK_1_8_9_12_13_14_17_21.out.trans ((HM_1_8_9_12_13_14_17_21.out.stepBelow hs).mono hgw))
                      clear hm hs
                      refine ⟨_, rfl, ?_⟩
                      have hSx := RpG.of_blk (HB.out.below HK_1_8_9_12_13_14_17_21_22.out) hl hc; refine ⟨hSx, ?_⟩
                      try simp only [Act.put, List.setIfInBounds_toArray, List.set_cons_succ, List.set_cons_zero]
                      refine Agg.held_take 23 (.pointer (some ⟨g4, 0, none⟩)) rfl (by kernel_rfl) (fun _ _ _ h => h) rfl (fun W _ => by kernel_rfl) (by assumption) ?_
                      try simp only [Act.put, List.setIfInBounds_toArray, List.set_cons_succ, List.set_cons_zero]
                      refine Agg.held_end (by kernel_rfl) ?_
                      exact ⟨g4, vd, xs, sv.1, ys, xn, rfl, hgw, HM_1_8_9_12_13_14_17_21_22.out, HK_1_8_9_12_13_14_17_21_22.out⟩
                    exact AllReadyH.nil
                  exact AllReadyH.nil
                exact AllReadyH.nil
              exact AllReadyH.nil
            exact AllReadyH.nil
          refine Agg.held_cons rfl ?_ ?_
          · refine Agg.step_slice1 (E := EI) rfl _ rfl l.length rfl ?_
            intro xn w_1_8_9_21 hown hx
            have hpr := own_pre hown
            have how := fun k hk => (hown.block k hk).1
            clear hown
            have HM_1_8_9_21 := Lib.hid (HM_1_8_9.out.below hx)
            have HK_1_8_9_21 := Lib.hid (Agg.belowThen HK_1_8_9.out (Nat.le_refl _) hx)
            have HN_1_8_9_21 := Lib.hid (Off.behind (w0 := w_1_8_9) hpr.slice how HM_1_8_9.out.blk.lt HM_1_8_9.out.lt)
            clear hpr how hx
            refine ⟨RpG.of_blk (HB.out.below HK_1_8_9_21.out) hl hc, ?_⟩
            try simp only [Act.put, List.setIfInBounds_toArray, List.set_cons_succ, List.set_cons_zero]
            refine Agg.held_ready [12] (by kernel_rfl) (by simp) ?_
            refine Agg.held_cons rfl ?_ ?_
            · refine Agg.step_call rfl 48 _ _ rfl #[.agg (pC ph pn)] (by simp only [List.map_toArray, List.map_cons, List.map_nil]; rfl) (fun W => HES.out _ W) ?_
              refine (shown_any ph pn hl _).mono ?_
              rintro x w_1_8_9_12_21 ⟨x12, y12, rfl, hy, hn, hx⟩
              obtain ⟨sv, rfl⟩ := newBytes_sv hn
              have HSO_1_8_9_12_21 := Lib.hid (Off.behind (w0 := w_1_8_9_21) hn.slice (fun k hk => Nat.le_trans hy.size (newBytes_own hn k hk)) HM_1_8_9_21.out.blk.lt HM_1_8_9_21.out.lt)
              have HN_1_8_9_12_21 := Lib.hid (HN_1_8_9_21.out.step (MkStep.of_below hx))
              have HM_1_8_9_12_21 := Lib.hid (HM_1_8_9_21.out.below hx)
              have HK_1_8_9_12_21 := Lib.hid (Agg.belowThen HK_1_8_9_21.out (Nat.le_refl _) hx)
              clear hn hx hy
              refine ⟨_, rfl, ?_⟩
              refine ⟨RpG.of_blk (HB.out.below HK_1_8_9_12_21.out) hl hc, ?_⟩
              try simp only [Act.put, List.setIfInBounds_toArray, List.set_cons_succ, List.set_cons_zero]
              refine Agg.held_ready [13] (by kernel_rfl) (by simp) ?_
              refine Agg.held_cons rfl ?_ ?_
              · refine Agg.step_slice1 (E := EBB) rfl _ rfl sv rfl ?_
                intro ys w_1_8_9_12_13_21 hys hx
                have HYO_1_8_9_12_13_21 := Lib.hid (Off.behind (w0 := w_1_8_9_12_21) hys.slice (fun k hk => (hys.block k hk).1) HM_1_8_9_12_21.out.blk.lt HM_1_8_9_12_21.out.lt)
                have HN_1_8_9_12_13_21 := Lib.hid (HN_1_8_9_12_21.out.step (MkStep.of_below hx))
                have HM_1_8_9_12_13_21 := Lib.hid (HM_1_8_9_12_21.out.below hx)
                have HSO_1_8_9_12_13_21 := Lib.hid (HSO_1_8_9_12_21.out.step (MkStep.of_below hx))
                have HK_1_8_9_12_13_21 := Lib.hid (Agg.belowThen HK_1_8_9_12_21.out (Nat.le_refl _) hx)
                clear hys hx
                refine ⟨RpG.of_blk (HB.out.below HK_1_8_9_12_13_21.out) hl hc, ?_⟩
                try simp only [Act.put, List.setIfInBounds_toArray, List.set_cons_succ, List.set_cons_zero]
                refine Agg.held_ready [14] (by kernel_rfl) (by simp) ?_
                refine Agg.held_cons rfl ?_ ?_
                · refine Agg.step_call rfl 37 _ _ rfl #[.pointer (some ⟨g4, 0, none⟩), ys] (by simp only [List.map_toArray, List.map_cons, List.map_nil]; rfl) (fun W => HET.out _ W) ?_
                  refine (text_any g4 va ys sv (pathS ph pn) (encN e ++ (encN g ++ encN m)) _ (by simp only [List.length_append]; omega) (by omega) HYO_1_8_9_12_13_21.out HSO_1_8_9_12_13_21.out HM_1_8_9_12_13_21.out).mono ?_
                  rintro x w_1_8_9_12_13_14_21 ⟨rfl, vb, hm, hs⟩
                  have HM_1_8_9_12_13_14_21 := Lib.hid hm
                  have HN_1_8_9_12_13_14_21 := Lib.hid (HN_1_8_9_12_13_21.out.step hs)
                  have HK_1_8_9_12_13_14_21 := Lib.hid (HK_1_8_9_12_13_21.out.trans ((HM_1_8_9_12_13_21.out.stepBelow hs).mono hgw))
                  clear hm hs
                  refine ⟨_, rfl, ?_⟩
                  refine ⟨RpG.of_blk (HB.out.below HK_1_8_9_12_13_14_21.out) hl hc, ?_⟩
                  try simp only [Act.put, List.setIfInBounds_toArray, List.set_cons_succ, List.set_cons_zero]
                  refine Agg.held_ready [17] (by kernel_rfl) (by simp) ?_
                  refine Agg.held_cons rfl ?_ ?_
                  · refine Agg.step_call rfl 49 _ _ rfl #[.pointer (some ⟨g4, 0, none⟩), .slice (some ⟨b, 22, none⟩) 20 20] (by simp only [List.map_toArray, List.map_cons, List.map_nil]; rfl) (fun W => HER.out _ W) ?_
                    refine (raw_any g4 vb _ ch ((encN e ++ (encN g ++ encN m)) ++ (encN (pathS ph pn).length ++ pathS ph pn)) _ (by simp only [List.length_append]; omega) (by omega) (rp_class_slice (HB.out.below HK_1_8_9_12_13_14_21.out) hl hc) HM_1_8_9_12_13_14_21.out).mono ?_
                    rintro x w_1_8_9_12_13_14_17_21 ⟨rfl, vc, hm, hs⟩
                    have HM_1_8_9_12_13_14_17_21 := Lib.hid hm
                    have HN_1_8_9_12_13_14_17_21 := Lib.hid (HN_1_8_9_12_13_14_21.out.step hs)
                    have HK_1_8_9_12_13_14_17_21 := Lib.hid (HK_1_8_9_12_13_14_21.out.trans ((HM_1_8_9_12_13_14_21.out.stepBelow hs).mono hgw))
                    clear hm hs
                    refine ⟨_, rfl, ?_⟩
                    refine ⟨RpG.of_blk (HB.out.below HK_1_8_9_12_13_14_17_21.out) hl hc, ?_⟩
                    try simp only [Act.put, List.setIfInBounds_toArray, List.set_cons_succ, List.set_cons_zero]
                    refine Agg.held_ready [22] (by kernel_rfl) (by simp) ?_
                    refine Agg.held_cons rfl ?_ ?_
                    · refine Agg.step_call rfl 46 _ _ rfl #[.pointer (some ⟨g4, 0, none⟩), xn] (by simp only [List.map_toArray, List.map_cons, List.map_nil]; rfl) (fun W => HEN.out _ W) ?_
                      refine (num_any g4 vc xn [l.length] (((encN e ++ (encN g ++ encN m)) ++ (encN (pathS ph pn).length ++ pathS ph pn)) ++ ch) _ (by intro n hn; simp only [List.mem_cons, List.not_mem_nil, or_false] at hn; omega) (by simp) (by simp only [List.length_append]; omega) HN_1_8_9_12_13_14_17_21.out HM_1_8_9_12_13_14_17_21.out).mono ?_
                      rintro x w_1_8_9_12_13_14_17_21_22 ⟨rfl, vd, hm, hs⟩
                      have HM_1_8_9_12_13_14_17_21_22 := Lib.hid (show MkV g4 w_1_8_9_12_13_14_17_21_22 vd ((((encN e ++ (encN g ++ encN m)) ++ (encN (pathS ph pn).length ++ pathS ph pn)) ++ ch) ++ encN l.length) from by simpa using hm)
                      have HK_1_8_9_12_13_14_17_21_22 := Lib.hid (HK_1_8_9_12_13_14_17_21.out.trans ((HM_1_8_9_12_13_14_17_21.out.stepBelow hs).mono hgw))
                      clear hm hs
                      refine ⟨_, rfl, ?_⟩
                      have hSx := RpG.of_blk (HB.out.below HK_1_8_9_12_13_14_17_21_22.out) hl hc; refine ⟨hSx, ?_⟩
                      try simp only [Act.put, List.setIfInBounds_toArray, List.set_cons_succ, List.set_cons_zero]
                      refine Agg.held_take 23 (.pointer (some ⟨g4, 0, none⟩)) rfl (by kernel_rfl) (fun _ _ _ h => h) rfl (fun W _ => by kernel_rfl) (by assumption) ?_
                      try simp only [Act.put, List.setIfInBounds_toArray, List.set_cons_succ, List.set_cons_zero]
                      refine Agg.held_end (by kernel_rfl) ?_
                      exact ⟨g4, vd, xs, sv.1, ys, xn, rfl, hgw, HM_1_8_9_12_13_14_17_21_22.out, HK_1_8_9_12_13_14_17_21_22.out⟩
                    exact AllReadyH.nil
                  exact AllReadyH.nil
                exact AllReadyH.nil
              exact AllReadyH.nil
            exact AllReadyH.nil
          exact AllReadyH.nil
        refine Agg.held_cons rfl ?_ ?_
        · refine Agg.step_slice1 (E := EI) rfl _ rfl l.length rfl ?_
          intro xn w_1_8_21 hown hx
          have hpr := own_pre hown
          have how := fun k hk => (hown.block k hk).1
          clear hown
          have HX_1_8_21 := Lib.hid (HX_1_8.out.step (MkStep.of_below hx))
          have HM_1_8_21 := Lib.hid (HM_1_8.out.below hx)
          have HK_1_8_21 := Lib.hid (Agg.belowThen HK_1_8.out (Nat.le_refl _) hx)
          have HN_1_8_21 := Lib.hid (Off.behind (w0 := w_1_8) hpr.slice how HM_1_8.out.blk.lt HM_1_8.out.lt)
          clear hpr how hx
          refine ⟨RpG.of_blk (HB.out.below HK_1_8_21.out) hl hc, ?_⟩
          try simp only [Act.put, List.setIfInBounds_toArray, List.set_cons_succ, List.set_cons_zero]
          refine Agg.held_ready [9] (by kernel_rfl) (by simp) ?_
          refine Agg.held_cons rfl ?_ ?_
          · refine Agg.step_call rfl 46 _ _ rfl #[.pointer (some ⟨g4, 0, none⟩), xs] (by simp only [List.map_toArray, List.map_cons, List.map_nil]; rfl) (fun W => HEN.out _ W) ?_
            refine (num_any g4 (.slice none 0 0) xs [e, g, m] [] _ (by intro n hn; simp only [List.mem_cons, List.not_mem_nil, or_false] at hn; omega) (by simp) (by simp) HX_1_8_21.out HM_1_8_21.out).mono ?_
            rintro x w_1_8_9_21 ⟨rfl, va, hm, hs⟩
            have HM_1_8_9_21 := Lib.hid (show MkV g4 w_1_8_9_21 va (encN e ++ (encN g ++ encN m)) from by simpa using hm)
            have HN_1_8_9_21 := Lib.hid (HN_1_8_21.out.step hs)
            have HK_1_8_9_21 := Lib.hid (HK_1_8_21.out.trans ((HM_1_8_21.out.stepBelow hs).mono hgw))
            clear hm hs
            refine ⟨_, rfl, ?_⟩
            refine ⟨RpG.of_blk (HB.out.below HK_1_8_9_21.out) hl hc, ?_⟩
            try simp only [Act.put, List.setIfInBounds_toArray, List.set_cons_succ, List.set_cons_zero]
            refine Agg.held_ready [12] (by kernel_rfl) (by simp) ?_
            refine Agg.held_cons rfl ?_ ?_
            · refine Agg.step_call rfl 48 _ _ rfl #[.agg (pC ph pn)] (by simp only [List.map_toArray, List.map_cons, List.map_nil]; rfl) (fun W => HES.out _ W) ?_
              refine (shown_any ph pn hl _).mono ?_
              rintro x w_1_8_9_12_21 ⟨x12, y12, rfl, hy, hn, hx⟩
              obtain ⟨sv, rfl⟩ := newBytes_sv hn
              have HSO_1_8_9_12_21 := Lib.hid (Off.behind (w0 := w_1_8_9_21) hn.slice (fun k hk => Nat.le_trans hy.size (newBytes_own hn k hk)) HM_1_8_9_21.out.blk.lt HM_1_8_9_21.out.lt)
              have HN_1_8_9_12_21 := Lib.hid (HN_1_8_9_21.out.step (MkStep.of_below hx))
              have HM_1_8_9_12_21 := Lib.hid (HM_1_8_9_21.out.below hx)
              have HK_1_8_9_12_21 := Lib.hid (Agg.belowThen HK_1_8_9_21.out (Nat.le_refl _) hx)
              clear hn hx hy
              refine ⟨_, rfl, ?_⟩
              refine ⟨RpG.of_blk (HB.out.below HK_1_8_9_12_21.out) hl hc, ?_⟩
              try simp only [Act.put, List.setIfInBounds_toArray, List.set_cons_succ, List.set_cons_zero]
              refine Agg.held_ready [13] (by kernel_rfl) (by simp) ?_
              refine Agg.held_cons rfl ?_ ?_
              · refine Agg.step_slice1 (E := EBB) rfl _ rfl sv rfl ?_
                intro ys w_1_8_9_12_13_21 hys hx
                have HYO_1_8_9_12_13_21 := Lib.hid (Off.behind (w0 := w_1_8_9_12_21) hys.slice (fun k hk => (hys.block k hk).1) HM_1_8_9_12_21.out.blk.lt HM_1_8_9_12_21.out.lt)
                have HN_1_8_9_12_13_21 := Lib.hid (HN_1_8_9_12_21.out.step (MkStep.of_below hx))
                have HM_1_8_9_12_13_21 := Lib.hid (HM_1_8_9_12_21.out.below hx)
                have HSO_1_8_9_12_13_21 := Lib.hid (HSO_1_8_9_12_21.out.step (MkStep.of_below hx))
                have HK_1_8_9_12_13_21 := Lib.hid (Agg.belowThen HK_1_8_9_12_21.out (Nat.le_refl _) hx)
                clear hys hx
                refine ⟨RpG.of_blk (HB.out.below HK_1_8_9_12_13_21.out) hl hc, ?_⟩
                try simp only [Act.put, List.setIfInBounds_toArray, List.set_cons_succ, List.set_cons_zero]
                refine Agg.held_ready [14] (by kernel_rfl) (by simp) ?_
                refine Agg.held_cons rfl ?_ ?_
                · refine Agg.step_call rfl 37 _ _ rfl #[.pointer (some ⟨g4, 0, none⟩), ys] (by simp only [List.map_toArray, List.map_cons, List.map_nil]; rfl) (fun W => HET.out _ W) ?_
                  refine (text_any g4 va ys sv (pathS ph pn) (encN e ++ (encN g ++ encN m)) _ (by simp only [List.length_append]; omega) (by omega) HYO_1_8_9_12_13_21.out HSO_1_8_9_12_13_21.out HM_1_8_9_12_13_21.out).mono ?_
                  rintro x w_1_8_9_12_13_14_21 ⟨rfl, vb, hm, hs⟩
                  have HM_1_8_9_12_13_14_21 := Lib.hid hm
                  have HN_1_8_9_12_13_14_21 := Lib.hid (HN_1_8_9_12_13_21.out.step hs)
                  have HK_1_8_9_12_13_14_21 := Lib.hid (HK_1_8_9_12_13_21.out.trans ((HM_1_8_9_12_13_21.out.stepBelow hs).mono hgw))
                  clear hm hs
                  refine ⟨_, rfl, ?_⟩
                  refine ⟨RpG.of_blk (HB.out.below HK_1_8_9_12_13_14_21.out) hl hc, ?_⟩
                  try simp only [Act.put, List.setIfInBounds_toArray, List.set_cons_succ, List.set_cons_zero]
                  refine Agg.held_ready [17] (by kernel_rfl) (by simp) ?_
                  refine Agg.held_cons rfl ?_ ?_
                  · refine Agg.step_call rfl 49 _ _ rfl #[.pointer (some ⟨g4, 0, none⟩), .slice (some ⟨b, 22, none⟩) 20 20] (by simp only [List.map_toArray, List.map_cons, List.map_nil]; rfl) (fun W => HER.out _ W) ?_
                    refine (raw_any g4 vb _ ch ((encN e ++ (encN g ++ encN m)) ++ (encN (pathS ph pn).length ++ pathS ph pn)) _ (by simp only [List.length_append]; omega) (by omega) (rp_class_slice (HB.out.below HK_1_8_9_12_13_14_21.out) hl hc) HM_1_8_9_12_13_14_21.out).mono ?_
                    rintro x w_1_8_9_12_13_14_17_21 ⟨rfl, vc, hm, hs⟩
                    have HM_1_8_9_12_13_14_17_21 := Lib.hid hm
                    have HN_1_8_9_12_13_14_17_21 := Lib.hid (HN_1_8_9_12_13_14_21.out.step hs)
                    have HK_1_8_9_12_13_14_17_21 := Lib.hid (HK_1_8_9_12_13_14_21.out.trans ((HM_1_8_9_12_13_14_21.out.stepBelow hs).mono hgw))
                    clear hm hs
                    refine ⟨_, rfl, ?_⟩
                    refine ⟨RpG.of_blk (HB.out.below HK_1_8_9_12_13_14_17_21.out) hl hc, ?_⟩
                    try simp only [Act.put, List.setIfInBounds_toArray, List.set_cons_succ, List.set_cons_zero]
                    refine Agg.held_ready [22] (by kernel_rfl) (by simp) ?_
                    refine Agg.held_cons rfl ?_ ?_
                    · refine Agg.step_call rfl 46 _ _ rfl #[.pointer (some ⟨g4, 0, none⟩), xn] (by simp only [List.map_toArray, List.map_cons, List.map_nil]; rfl) (fun W => HEN.out _ W) ?_
                      refine (num_any g4 vc xn [l.length] (((encN e ++ (encN g ++ encN m)) ++ (encN (pathS ph pn).length ++ pathS ph pn)) ++ ch) _ (by intro n hn; simp only [List.mem_cons, List.not_mem_nil, or_false] at hn; omega) (by simp) (by simp only [List.length_append]; omega) HN_1_8_9_12_13_14_17_21.out HM_1_8_9_12_13_14_17_21.out).mono ?_
                      rintro x w_1_8_9_12_13_14_17_21_22 ⟨rfl, vd, hm, hs⟩
                      have HM_1_8_9_12_13_14_17_21_22 := Lib.hid (show MkV g4 w_1_8_9_12_13_14_17_21_22 vd ((((encN e ++ (encN g ++ encN m)) ++ (encN (pathS ph pn).length ++ pathS ph pn)) ++ ch) ++ encN l.length) from by simpa using hm)
                      have HK_1_8_9_12_13_14_17_21_22 := Lib.hid (HK_1_8_9_12_13_14_17_21.out.trans ((HM_1_8_9_12_13_14_17_21.out.stepBelow hs).mono hgw))
                      clear hm hs
                      refine ⟨_, rfl, ?_⟩
                      have hSx := RpG.of_blk (HB.out.below HK_1_8_9_12_13_14_17_21_22.out) hl hc; refine ⟨hSx, ?_⟩
                      try simp only [Act.put, List.setIfInBounds_toArray, List.set_cons_succ, List.set_cons_zero]
                      refine Agg.held_take 23 (.pointer (some ⟨g4, 0, none⟩)) rfl (by kernel_rfl) (fun _ _ _ h => h) rfl (fun W _ => by kernel_rfl) (by assumption) ?_
                      try simp only [Act.put, List.setIfInBounds_toArray, List.set_cons_succ, List.set_cons_zero]
                      refine Agg.held_end (by kernel_rfl) ?_
                      exact ⟨g4, vd, xs, sv.1, ys, xn, rfl, hgw, HM_1_8_9_12_13_14_17_21_22.out, HK_1_8_9_12_13_14_17_21_22.out⟩
                    exact AllReadyH.nil
                  exact AllReadyH.nil
                exact AllReadyH.nil
              exact AllReadyH.nil
            exact AllReadyH.nil
          exact AllReadyH.nil
        exact AllReadyH.nil
      refine Agg.held_cons rfl ?_ ?_
      · refine Agg.step_slice1 (E := EI) rfl _ rfl l.length rfl ?_
        intro xn w_8_21 hown hx
        have hpr := own_pre hown
        have how := fun k hk => (hown.block k hk).1
        clear hown
        have HX_8_21 := Lib.hid (HX_8.out.below hx)
        have HK_8_21 := Lib.hid (Agg.belowThen HK_8.out (Nat.le_refl _) hx)
        have HN_8_21 := Lib.hid hpr
        clear hpr how hx
        refine ⟨RpG.of_blk (HB.out.below HK_8_21.out) hl hc, ?_⟩
        try simp only [Act.put, List.setIfInBounds_toArray, List.set_cons_succ, List.set_cons_zero]
        refine Agg.held_ready [1] (by kernel_rfl) (by simp) ?_
        refine Agg.held_cons rfl ?_ ?_
        · refine Agg.step_box rfl 74 _ rfl (mkC (.slice none 0 0)) rfl ?_
          intro g4 w_1_8_21 hb4 hx4 hg4
          have hgw : w0.heap.size ≤ g4 := Nat.le_trans HK_8_21.out.size hg4
          have HM_1_8_21 := Lib.hid (⟨hb4, Own.nil _ _ _⟩ : MkV g4 w_1_8_21 (.slice none 0 0) [])
          have HX_1_8_21 := Lib.hid (HX_8_21.out.off hx4 hg4)
          have HN_1_8_21 := Lib.hid (HN_8_21.out.off hx4 hg4)
          have HK_1_8_21 := Lib.hid (Agg.belowThen HK_8_21.out (Nat.le_refl _) hx4)
          clear hb4 hx4
          refine ⟨RpG.of_blk (HB.out.below HK_1_8_21.out) hl hc, ?_⟩
          try simp only [Act.put, List.setIfInBounds_toArray, List.set_cons_succ, List.set_cons_zero]
          refine Agg.held_ready [9] (by kernel_rfl) (by simp) ?_
          refine Agg.held_cons rfl ?_ ?_
          · refine Agg.step_call rfl 46 _ _ rfl #[.pointer (some ⟨g4, 0, none⟩), xs] (by simp only [List.map_toArray, List.map_cons, List.map_nil]; rfl) (fun W => HEN.out _ W) ?_
            refine (num_any g4 (.slice none 0 0) xs [e, g, m] [] _ (by intro n hn; simp only [List.mem_cons, List.not_mem_nil, or_false] at hn; omega) (by simp) (by simp) HX_1_8_21.out HM_1_8_21.out).mono ?_
            rintro x w_1_8_9_21 ⟨rfl, va, hm, hs⟩
            have HM_1_8_9_21 := Lib.hid (show MkV g4 w_1_8_9_21 va (encN e ++ (encN g ++ encN m)) from by simpa using hm)
            have HN_1_8_9_21 := Lib.hid (HN_1_8_21.out.step hs)
            have HK_1_8_9_21 := Lib.hid (HK_1_8_21.out.trans ((HM_1_8_21.out.stepBelow hs).mono hgw))
            clear hm hs
            refine ⟨_, rfl, ?_⟩
            refine ⟨RpG.of_blk (HB.out.below HK_1_8_9_21.out) hl hc, ?_⟩
            try simp only [Act.put, List.setIfInBounds_toArray, List.set_cons_succ, List.set_cons_zero]
            refine Agg.held_ready [12] (by kernel_rfl) (by simp) ?_
            refine Agg.held_cons rfl ?_ ?_
            · refine Agg.step_call rfl 48 _ _ rfl #[.agg (pC ph pn)] (by simp only [List.map_toArray, List.map_cons, List.map_nil]; rfl) (fun W => HES.out _ W) ?_
              refine (shown_any ph pn hl _).mono ?_
              rintro x w_1_8_9_12_21 ⟨x12, y12, rfl, hy, hn, hx⟩
              obtain ⟨sv, rfl⟩ := newBytes_sv hn
              have HSO_1_8_9_12_21 := Lib.hid (Off.behind (w0 := w_1_8_9_21) hn.slice (fun k hk => Nat.le_trans hy.size (newBytes_own hn k hk)) HM_1_8_9_21.out.blk.lt HM_1_8_9_21.out.lt)
              have HN_1_8_9_12_21 := Lib.hid (HN_1_8_9_21.out.step (MkStep.of_below hx))
              have HM_1_8_9_12_21 := Lib.hid (HM_1_8_9_21.out.below hx)
              have HK_1_8_9_12_21 := Lib.hid (Agg.belowThen HK_1_8_9_21.out (Nat.le_refl _) hx)
              clear hn hx hy
              refine ⟨_, rfl, ?_⟩
              refine ⟨RpG.of_blk (HB.out.below HK_1_8_9_12_21.out) hl hc, ?_⟩
              try simp only [Act.put, List.setIfInBounds_toArray, List.set_cons_succ, List.set_cons_zero]
              refine Agg.held_ready [13] (by kernel_rfl) (by simp) ?_
              refine Agg.held_cons rfl ?_ ?_
              · refine Agg.step_slice1 (E := EBB) rfl _ rfl sv rfl ?_
                intro ys w_1_8_9_12_13_21 hys hx
                have HYO_1_8_9_12_13_21 := Lib.hid (Off.behind (w0 := w_1_8_9_12_21) hys.slice (fun k hk => (hys.block k hk).1) HM_1_8_9_12_21.out.blk.lt HM_1_8_9_12_21.out.lt)
                have HN_1_8_9_12_13_21 := Lib.hid (HN_1_8_9_12_21.out.step (MkStep.of_below hx))
                have HM_1_8_9_12_13_21 := Lib.hid (HM_1_8_9_12_21.out.below hx)
                have HSO_1_8_9_12_13_21 := Lib.hid (HSO_1_8_9_12_21.out.step (MkStep.of_below hx))
                have HK_1_8_9_12_13_21 := Lib.hid (Agg.belowThen HK_1_8_9_12_21.out (Nat.le_refl _) hx)
                clear hys hx
                refine ⟨RpG.of_blk (HB.out.below HK_1_8_9_12_13_21.out) hl hc, ?_⟩
                try simp only [Act.put, List.setIfInBounds_toArray, List.set_cons_succ, List.set_cons_zero]
                refine Agg.held_ready [14] (by kernel_rfl) (by simp) ?_
                refine Agg.held_cons rfl ?_ ?_
                · refine Agg.step_call rfl 37 _ _ rfl #[.pointer (some ⟨g4, 0, none⟩), ys] (by simp only [List.map_toArray, List.map_cons, List.map_nil]; rfl) (fun W => HET.out _ W) ?_
                  refine (text_any g4 va ys sv (pathS ph pn) (encN e ++ (encN g ++ encN m)) _ (by simp only [List.length_append]; omega) (by omega) HYO_1_8_9_12_13_21.out HSO_1_8_9_12_13_21.out HM_1_8_9_12_13_21.out).mono ?_
                  rintro x w_1_8_9_12_13_14_21 ⟨rfl, vb, hm, hs⟩
                  have HM_1_8_9_12_13_14_21 := Lib.hid hm
                  have HN_1_8_9_12_13_14_21 := Lib.hid (HN_1_8_9_12_13_21.out.step hs)
                  have HK_1_8_9_12_13_14_21 := Lib.hid (HK_1_8_9_12_13_21.out.trans ((HM_1_8_9_12_13_21.out.stepBelow hs).mono hgw))
                  clear hm hs
                  refine ⟨_, rfl, ?_⟩
                  refine ⟨RpG.of_blk (HB.out.below HK_1_8_9_12_13_14_21.out) hl hc, ?_⟩
                  try simp only [Act.put, List.setIfInBounds_toArray, List.set_cons_succ, List.set_cons_zero]
                  refine Agg.held_ready [17] (by kernel_rfl) (by simp) ?_
                  refine Agg.held_cons rfl ?_ ?_
                  · refine Agg.step_call rfl 49 _ _ rfl #[.pointer (some ⟨g4, 0, none⟩), .slice (some ⟨b, 22, none⟩) 20 20] (by simp only [List.map_toArray, List.map_cons, List.map_nil]; rfl) (fun W => HER.out _ W) ?_
                    refine (raw_any g4 vb _ ch ((encN e ++ (encN g ++ encN m)) ++ (encN (pathS ph pn).length ++ pathS ph pn)) _ (by simp only [List.length_append]; omega) (by omega) (rp_class_slice (HB.out.below HK_1_8_9_12_13_14_21.out) hl hc) HM_1_8_9_12_13_14_21.out).mono ?_
                    rintro x w_1_8_9_12_13_14_17_21 ⟨rfl, vc, hm, hs⟩
                    have HM_1_8_9_12_13_14_17_21 := Lib.hid hm
                    have HN_1_8_9_12_13_14_17_21 := Lib.hid (HN_1_8_9_12_13_14_21.out.step hs)
                    have HK_1_8_9_12_13_14_17_21 := Lib.hid (HK_1_8_9_12_13_14_21.out.trans ((HM_1_8_9_12_13_14_21.out.stepBelow hs).mono hgw))
                    clear hm hs
                    refine ⟨_, rfl, ?_⟩
                    refine ⟨RpG.of_blk (HB.out.below HK_1_8_9_12_13_14_17_21.out) hl hc, ?_⟩
                    try simp only [Act.put, List.setIfInBounds_toArray, List.set_cons_succ, List.set_cons_zero]
                    refine Agg.held_ready [22] (by kernel_rfl) (by simp) ?_
                    refine Agg.held_cons rfl ?_ ?_
                    · refine Agg.step_call rfl 46 _ _ rfl #[.pointer (some ⟨g4, 0, none⟩), xn] (by simp only [List.map_toArray, List.map_cons, List.map_nil]; rfl) (fun W => HEN.out _ W) ?_
                      refine (num_any g4 vc xn [l.length] (((encN e ++ (encN g ++ encN m)) ++ (encN (pathS ph pn).length ++ pathS ph pn)) ++ ch) _ (by intro n hn; simp only [List.mem_cons, List.not_mem_nil, or_false] at hn; omega) (by simp) (by simp only [List.length_append]; omega) HN_1_8_9_12_13_14_17_21.out HM_1_8_9_12_13_14_17_21.out).mono ?_
                      rintro x w_1_8_9_12_13_14_17_21_22 ⟨rfl, vd, hm, hs⟩
                      have HM_1_8_9_12_13_14_17_21_22 := Lib.hid (show MkV g4 w_1_8_9_12_13_14_17_21_22 vd ((((encN e ++ (encN g ++ encN m)) ++ (encN (pathS ph pn).length ++ pathS ph pn)) ++ ch) ++ encN l.length) from by simpa using hm)
                      have HK_1_8_9_12_13_14_17_21_22 := Lib.hid (HK_1_8_9_12_13_14_17_21.out.trans ((HM_1_8_9_12_13_14_17_21.out.stepBelow hs).mono hgw))
                      clear hm hs
                      refine ⟨_, rfl, ?_⟩
                      have hSx := RpG.of_blk (HB.out.below HK_1_8_9_12_13_14_17_21_22.out) hl hc; refine ⟨hSx, ?_⟩
                      try simp only [Act.put, List.setIfInBounds_toArray, List.set_cons_succ, List.set_cons_zero]
                      refine Agg.held_take 23 (.pointer (some ⟨g4, 0, none⟩)) rfl (by kernel_rfl) (fun _ _ _ h => h) rfl (fun W _ => by kernel_rfl) (by assumption) ?_
                      try simp only [Act.put, List.setIfInBounds_toArray, List.set_cons_succ, List.set_cons_zero]
                      refine Agg.held_end (by kernel_rfl) ?_
                      exact ⟨g4, vd, xs, sv.1, ys, xn, rfl, hgw, HM_1_8_9_12_13_14_17_21_22.out, HK_1_8_9_12_13_14_17_21_22.out⟩
                    exact AllReadyH.nil
                  exact AllReadyH.nil
                exact AllReadyH.nil
              exact AllReadyH.nil
            exact AllReadyH.nil
          exact AllReadyH.nil
        exact AllReadyH.nil
      exact AllReadyH.nil
    refine Agg.held_cons rfl ?_ ?_
    · refine Agg.step_slice1 (E := EI) rfl _ rfl l.length rfl ?_
      intro xn w_21 hown hx
      have hpr := own_pre hown
      have how := fun k hk => (hown.block k hk).1
      clear hown
      have HK_21 := Lib.hid (Agg.belowThen HK0.out (Nat.le_refl _) hx)
      have HN_21 := Lib.hid hpr
      clear hpr how hx
      refine ⟨RpG.of_blk (HB.out.below HK_21.out) hl hc, ?_⟩
      try simp only [Act.put, List.setIfInBounds_toArray, List.set_cons_succ, List.set_cons_zero]
      refine Agg.held_ready [1, 8] (by kernel_rfl) (by simp) ?_
      refine Agg.held_cons rfl ?_ ?_
      · refine Agg.step_box rfl 74 _ rfl (mkC (.slice none 0 0)) rfl ?_
        intro g4 w_1_21 hb4 hx4 hg4
        have hgw : w0.heap.size ≤ g4 := Nat.le_trans HK_21.out.size hg4
        have HM_1_21 := Lib.hid (⟨hb4, Own.nil _ _ _⟩ : MkV g4 w_1_21 (.slice none 0 0) [])
        have HN_1_21 := Lib.hid (HN_21.out.off hx4 hg4)
        have HK_1_21 := Lib.hid (Agg.belowThen HK_21.out (Nat.le_refl _) hx4)
        clear hb4 hx4
        refine ⟨RpG.of_blk (HB.out.below HK_1_21.out) hl hc, ?_⟩
        try simp only [Act.put, List.setIfInBounds_toArray, List.set_cons_succ, List.set_cons_zero]
        refine Agg.held_ready [8] (by kernel_rfl) (by simp) ?_
        refine Agg.held_cons rfl ?_ ?_
        · refine step_ints3 rfl _ _ _ rfl e g m rfl rfl rfl ?_
          intro xs w_1_8_21 hpr how hx
          have HN_1_8_21 := Lib.hid (HN_1_21.out.step (MkStep.of_below hx))
          have HM_1_8_21 := Lib.hid (HM_1_21.out.below hx)
          have HK_1_8_21 := Lib.hid (Agg.belowThen HK_1_21.out (Nat.le_refl _) hx)
          have HX_1_8_21 := Lib.hid (Off.behind (w0 := w_1_21) hpr.slice how HM_1_21.out.blk.lt HM_1_21.out.lt)
          clear hpr how hx
          refine ⟨RpG.of_blk (HB.out.below HK_1_8_21.out) hl hc, ?_⟩
          try simp only [Act.put, List.setIfInBounds_toArray, List.set_cons_succ, List.set_cons_zero]
          refine Agg.held_ready [9] (by kernel_rfl) (by simp) ?_
          refine Agg.held_cons rfl ?_ ?_
          · refine Agg.step_call rfl 46 _ _ rfl #[.pointer (some ⟨g4, 0, none⟩), xs] (by simp only [List.map_toArray, List.map_cons, List.map_nil]; rfl) (fun W => HEN.out _ W) ?_
            refine (num_any g4 (.slice none 0 0) xs [e, g, m] [] _ (by intro n hn; simp only [List.mem_cons, List.not_mem_nil, or_false] at hn; omega) (by simp) (by simp) HX_1_8_21.out HM_1_8_21.out).mono ?_
            rintro x w_1_8_9_21 ⟨rfl, va, hm, hs⟩
            have HM_1_8_9_21 := Lib.hid (show MkV g4 w_1_8_9_21 va (encN e ++ (encN g ++ encN m)) from by simpa using hm)
            have HN_1_8_9_21 := Lib.hid (HN_1_8_21.out.step hs)
            have HK_1_8_9_21 := Lib.hid (HK_1_8_21.out.trans ((HM_1_8_21.out.stepBelow hs).mono hgw))
            clear hm hs
            refine ⟨_, rfl, ?_⟩
            refine ⟨RpG.of_blk (HB.out.below HK_1_8_9_21.out) hl hc, ?_⟩
            try simp only [Act.put, List.setIfInBounds_toArray, List.set_cons_succ, List.set_cons_zero]
            refine Agg.held_ready [12] (by kernel_rfl) (by simp) ?_
            refine Agg.held_cons rfl ?_ ?_
            · refine Agg.step_call rfl 48 _ _ rfl #[.agg (pC ph pn)] (by simp only [List.map_toArray, List.map_cons, List.map_nil]; rfl) (fun W => HES.out _ W) ?_
              refine (shown_any ph pn hl _).mono ?_
              rintro x w_1_8_9_12_21 ⟨x12, y12, rfl, hy, hn, hx⟩
              obtain ⟨sv, rfl⟩ := newBytes_sv hn
              have HSO_1_8_9_12_21 := Lib.hid (Off.behind (w0 := w_1_8_9_21) hn.slice (fun k hk => Nat.le_trans hy.size (newBytes_own hn k hk)) HM_1_8_9_21.out.blk.lt HM_1_8_9_21.out.lt)
              have HN_1_8_9_12_21 := Lib.hid (HN_1_8_9_21.out.step (MkStep.of_below hx))
              have HM_1_8_9_12_21 := Lib.hid (HM_1_8_9_21.out.below hx)
              have HK_1_8_9_12_21 := Lib.hid (Agg.belowThen HK_1_8_9_21.out (Nat.le_refl _) hx)
              clear hn hx hy
              refine ⟨_, rfl, ?_⟩
              refine ⟨RpG.of_blk (HB.out.below HK_1_8_9_12_21.out) hl hc, ?_⟩
              try simp only [Act.put, List.setIfInBounds_toArray, List.set_cons_succ, List.set_cons_zero]
              refine Agg.held_ready [13] (by kernel_rfl) (by simp) ?_
              refine Agg.held_cons rfl ?_ ?_
              · refine Agg.step_slice1 (E := EBB) rfl _ rfl sv rfl ?_
                intro ys w_1_8_9_12_13_21 hys hx
                have HYO_1_8_9_12_13_21 := Lib.hid (Off.behind (w0 := w_1_8_9_12_21) hys.slice (fun k hk => (hys.block k hk).1) HM_1_8_9_12_21.out.blk.lt HM_1_8_9_12_21.out.lt)
                have HN_1_8_9_12_13_21 := Lib.hid (HN_1_8_9_12_21.out.step (MkStep.of_below hx))
                have HM_1_8_9_12_13_21 := Lib.hid (HM_1_8_9_12_21.out.below hx)
                have HSO_1_8_9_12_13_21 := Lib.hid (HSO_1_8_9_12_21.out.step (MkStep.of_below hx))
                have HK_1_8_9_12_13_21 := Lib.hid (Agg.belowThen HK_1_8_9_12_21.out (Nat.le_refl _) hx)
                clear hys hx
                refine ⟨RpG.of_blk (HB.out.below HK_1_8_9_12_13_21.out) hl hc, ?_⟩
                try simp only [Act.put, List.setIfInBounds_toArray, List.set_cons_succ, List.set_cons_zero]
                refine Agg.held_ready [14] (by kernel_rfl) (by simp) ?_
                refine Agg.held_cons rfl ?_ ?_
                · refine Agg.step_call rfl 37 _ _ rfl #[.pointer (some ⟨g4, 0, none⟩), ys] (by simp only [List.map_toArray, List.map_cons, List.map_nil]; rfl) (fun W => HET.out _ W) ?_
                  refine (text_any g4 va ys sv (pathS ph pn) (encN e ++ (encN g ++ encN m)) _ (by simp only [List.length_append]; omega) (by omega) HYO_1_8_9_12_13_21.out HSO_1_8_9_12_13_21.out HM_1_8_9_12_13_21.out).mono ?_
                  rintro x w_1_8_9_12_13_14_21 ⟨rfl, vb, hm, hs⟩
                  have HM_1_8_9_12_13_14_21 := Lib.hid hm
                  have HN_1_8_9_12_13_14_21 := Lib.hid (HN_1_8_9_12_13_21.out.step hs)
                  have HK_1_8_9_12_13_14_21 := Lib.hid (HK_1_8_9_12_13_21.out.trans ((HM_1_8_9_12_13_21.out.stepBelow hs).mono hgw))
                  clear hm hs
                  refine ⟨_, rfl, ?_⟩
                  refine ⟨RpG.of_blk (HB.out.below HK_1_8_9_12_13_14_21.out) hl hc, ?_⟩
                  try simp only [Act.put, List.setIfInBounds_toArray, List.set_cons_succ, List.set_cons_zero]
                  refine Agg.held_ready [17] (by kernel_rfl) (by simp) ?_
                  refine Agg.held_cons rfl ?_ ?_
                  · refine Agg.step_call rfl 49 _ _ rfl #[.pointer (some ⟨g4, 0, none⟩), .slice (some ⟨b, 22, none⟩) 20 20] (by simp only [List.map_toArray, List.map_cons, List.map_nil]; rfl) (fun W => HER.out _ W) ?_
                    refine (raw_any g4 vb _ ch ((encN e ++ (encN g ++ encN m)) ++ (encN (pathS ph pn).length ++ pathS ph pn)) _ (by simp only [List.length_append]; omega) (by omega) (rp_class_slice (HB.out.below HK_1_8_9_12_13_14_21.out) hl hc) HM_1_8_9_12_13_14_21.out).mono ?_
                    rintro x w_1_8_9_12_13_14_17_21 ⟨rfl, vc, hm, hs⟩
                    have HM_1_8_9_12_13_14_17_21 := Lib.hid hm
                    have HN_1_8_9_12_13_14_17_21 := Lib.hid (HN_1_8_9_12_13_14_21.out.step hs)
                    have HK_1_8_9_12_13_14_17_21 := Lib.hid (HK_1_8_9_12_13_14_21.out.trans ((HM_1_8_9_12_13_14_21.out.stepBelow hs).mono hgw))
                    clear hm hs
                    refine ⟨_, rfl, ?_⟩
                    refine ⟨RpG.of_blk (HB.out.below HK_1_8_9_12_13_14_17_21.out) hl hc, ?_⟩
                    try simp only [Act.put, List.setIfInBounds_toArray, List.set_cons_succ, List.set_cons_zero]
                    refine Agg.held_ready [22] (by kernel_rfl) (by simp) ?_
                    refine Agg.held_cons rfl ?_ ?_
                    · refine Agg.step_call rfl 46 _ _ rfl #[.pointer (some ⟨g4, 0, none⟩), xn] (by simp only [List.map_toArray, List.map_cons, List.map_nil]; rfl) (fun W => HEN.out _ W) ?_
                      refine (num_any g4 vc xn [l.length] (((encN e ++ (encN g ++ encN m)) ++ (encN (pathS ph pn).length ++ pathS ph pn)) ++ ch) _ (by intro n hn; simp only [List.mem_cons, List.not_mem_nil, or_false] at hn; omega) (by simp) (by simp only [List.length_append]; omega) HN_1_8_9_12_13_14_17_21.out HM_1_8_9_12_13_14_17_21.out).mono ?_
                      rintro x w_1_8_9_12_13_14_17_21_22 ⟨rfl, vd, hm, hs⟩
                      have HM_1_8_9_12_13_14_17_21_22 := Lib.hid (show MkV g4 w_1_8_9_12_13_14_17_21_22 vd ((((encN e ++ (encN g ++ encN m)) ++ (encN (pathS ph pn).length ++ pathS ph pn)) ++ ch) ++ encN l.length) from by simpa using hm)
                      have HK_1_8_9_12_13_14_17_21_22 := Lib.hid (HK_1_8_9_12_13_14_17_21.out.trans ((HM_1_8_9_12_13_14_17_21.out.stepBelow hs).mono hgw))
                      clear hm hs
                      refine ⟨_, rfl, ?_⟩
                      have hSx := RpG.of_blk (HB.out.below HK_1_8_9_12_13_14_17_21_22.out) hl hc; refine ⟨hSx, ?_⟩
                      try simp only [Act.put, List.setIfInBounds_toArray, List.set_cons_succ, List.set_cons_zero]
                      refine Agg.held_take 23 (.pointer (some ⟨g4, 0, none⟩)) rfl (by kernel_rfl) (fun _ _ _ h => h) rfl (fun W _ => by kernel_rfl) (by assumption) ?_
                      try simp only [Act.put, List.setIfInBounds_toArray, List.set_cons_succ, List.set_cons_zero]
                      refine Agg.held_end (by kernel_rfl) ?_
                      exact ⟨g4, vd, xs, sv.1, ys, xn, rfl, hgw, HM_1_8_9_12_13_14_17_21_22.out, HK_1_8_9_12_13_14_17_21_22.out⟩
                    exact AllReadyH.nil
                  exact AllReadyH.nil
                exact AllReadyH.nil
              exact AllReadyH.nil
            exact AllReadyH.nil
          exact AllReadyH.nil
        exact AllReadyH.nil
      refine Agg.held_cons rfl ?_ ?_
      · refine step_ints3 rfl _ _ _ rfl e g m rfl rfl rfl ?_
        intro xs w_8_21 hpr how hx
        have HN_8_21 := Lib.hid (HN_21.out.below hx)
        have HK_8_21 := Lib.hid (Agg.belowThen HK_21.out (Nat.le_refl _) hx)
        have HX_8_21 := Lib.hid hpr
        clear hpr how hx
        refine ⟨RpG.of_blk (HB.out.below HK_8_21.out) hl hc, ?_⟩
        try simp only [Act.put, List.setIfInBounds_toArray, List.set_cons_succ, List.set_cons_zero]
        refine Agg.held_ready [1] (by kernel_rfl) (by simp) ?_
        refine Agg.held_cons rfl ?_ ?_
        · refine Agg.step_box rfl 74 _ rfl (mkC (.slice none 0 0)) rfl ?_
          intro g4 w_1_8_21 hb4 hx4 hg4
          have hgw : w0.heap.size ≤ g4 := Nat.le_trans HK_8_21.out.size hg4
          have HM_1_8_21 := Lib.hid (⟨hb4, Own.nil _ _ _⟩ : MkV g4 w_1_8_21 (.slice none 0 0) [])
          have HX_1_8_21 := Lib.hid (HX_8_21.out.off hx4 hg4)
          have HN_1_8_21 := Lib.hid (HN_8_21.out.off hx4 hg4)
          have HK_1_8_21 := Lib.hid (Agg.belowThen HK_8_21.out (Nat.le_refl _) hx4)
          clear hb4 hx4
          refine ⟨RpG.of_blk (HB.out.below HK_1_8_21.out) hl hc, ?_⟩
          try simp only [Act.put, List.setIfInBounds_toArray, List.set_cons_succ, List.set_cons_zero]
          refine Agg.held_ready [9] (by kernel_rfl) (by simp) ?_
          refine Agg.held_cons rfl ?_ ?_
          · refine Agg.step_call rfl 46 _ _ rfl #[.pointer (some ⟨g4, 0, none⟩), xs] (by simp only [List.map_toArray, List.map_cons, List.map_nil]; rfl) (fun W => HEN.out _ W) ?_
            refine (num_any g4 (.slice none 0 0) xs [e, g, m] [] _ (by intro n hn; simp only [List.mem_cons, List.not_mem_nil, or_false] at hn; omega) (by simp) (by simp) HX_1_8_21.out HM_1_8_21.out).mono ?_
            rintro x w_1_8_9_21 ⟨rfl, va, hm, hs⟩
            have HM_1_8_9_21 := Lib.hid (show MkV g4 w_1_8_9_21 va (encN e ++ (encN g ++ encN m)) from by simpa using hm)
            have HN_1_8_9_21 := Lib.hid (HN_1_8_21.out.step hs)
            have HK_1_8_9_21 := Lib.hid (HK_1_8_21.out.trans ((HM_1_8_21.out.stepBelow hs).mono hgw))
            clear hm hs
            refine ⟨_, rfl, ?_⟩
            refine ⟨RpG.of_blk (HB.out.below HK_1_8_9_21.out) hl hc, ?_⟩
            try simp only [Act.put, List.setIfInBounds_toArray, List.set_cons_succ, List.set_cons_zero]
            refine Agg.held_ready [12] (by kernel_rfl) (by simp) ?_
            refine Agg.held_cons rfl ?_ ?_
            · refine Agg.step_call rfl 48 _ _ rfl #[.agg (pC ph pn)] (by simp only [List.map_toArray, List.map_cons, List.map_nil]; rfl) (fun W => HES.out _ W) ?_
              refine (shown_any ph pn hl _).mono ?_
              rintro x w_1_8_9_12_21 ⟨x12, y12, rfl, hy, hn, hx⟩
              obtain ⟨sv, rfl⟩ := newBytes_sv hn
              have HSO_1_8_9_12_21 := Lib.hid (Off.behind (w0 := w_1_8_9_21) hn.slice (fun k hk => Nat.le_trans hy.size (newBytes_own hn k hk)) HM_1_8_9_21.out.blk.lt HM_1_8_9_21.out.lt)
              have HN_1_8_9_12_21 := Lib.hid (HN_1_8_9_21.out.step (MkStep.of_below hx))
              have HM_1_8_9_12_21 := Lib.hid (HM_1_8_9_21.out.below hx)
              have HK_1_8_9_12_21 := Lib.hid (Agg.belowThen HK_1_8_9_21.out (Nat.le_refl _) hx)
              clear hn hx hy
              refine ⟨_, rfl, ?_⟩
              refine ⟨RpG.of_blk (HB.out.below HK_1_8_9_12_21.out) hl hc, ?_⟩
              try simp only [Act.put, List.setIfInBounds_toArray, List.set_cons_succ, List.set_cons_zero]
              refine Agg.held_ready [13] (by kernel_rfl) (by simp) ?_
              refine Agg.held_cons rfl ?_ ?_
              · refine Agg.step_slice1 (E := EBB) rfl _ rfl sv rfl ?_
                intro ys w_1_8_9_12_13_21 hys hx
                have HYO_1_8_9_12_13_21 := Lib.hid (Off.behind (w0 := w_1_8_9_12_21) hys.slice (fun k hk => (hys.block k hk).1) HM_1_8_9_12_21.out.blk.lt HM_1_8_9_12_21.out.lt)
                have HN_1_8_9_12_13_21 := Lib.hid (HN_1_8_9_12_21.out.step (MkStep.of_below hx))
                have HM_1_8_9_12_13_21 := Lib.hid (HM_1_8_9_12_21.out.below hx)
                have HSO_1_8_9_12_13_21 := Lib.hid (HSO_1_8_9_12_21.out.step (MkStep.of_below hx))
                have HK_1_8_9_12_13_21 := Lib.hid (Agg.belowThen HK_1_8_9_12_21.out (Nat.le_refl _) hx)
                clear hys hx
                refine ⟨RpG.of_blk (HB.out.below HK_1_8_9_12_13_21.out) hl hc, ?_⟩
                try simp only [Act.put, List.setIfInBounds_toArray, List.set_cons_succ, List.set_cons_zero]
                refine Agg.held_ready [14] (by kernel_rfl) (by simp) ?_
                refine Agg.held_cons rfl ?_ ?_
                · refine Agg.step_call rfl 37 _ _ rfl #[.pointer (some ⟨g4, 0, none⟩), ys] (by simp only [List.map_toArray, List.map_cons, List.map_nil]; rfl) (fun W => HET.out _ W) ?_
                  refine (text_any g4 va ys sv (pathS ph pn) (encN e ++ (encN g ++ encN m)) _ (by simp only [List.length_append]; omega) (by omega) HYO_1_8_9_12_13_21.out HSO_1_8_9_12_13_21.out HM_1_8_9_12_13_21.out).mono ?_
                  rintro x w_1_8_9_12_13_14_21 ⟨rfl, vb, hm, hs⟩
                  have HM_1_8_9_12_13_14_21 := Lib.hid hm
                  have HN_1_8_9_12_13_14_21 := Lib.hid (HN_1_8_9_12_13_21.out.step hs)
                  have HK_1_8_9_12_13_14_21 := Lib.hid (HK_1_8_9_12_13_21.out.trans ((HM_1_8_9_12_13_21.out.stepBelow hs).mono hgw))
                  clear hm hs
                  refine ⟨_, rfl, ?_⟩
                  refine ⟨RpG.of_blk (HB.out.below HK_1_8_9_12_13_14_21.out) hl hc, ?_⟩
                  try simp only [Act.put, List.setIfInBounds_toArray, List.set_cons_succ, List.set_cons_zero]
                  refine Agg.held_ready [17] (by kernel_rfl) (by simp) ?_
                  refine Agg.held_cons rfl ?_ ?_
                  · refine Agg.step_call rfl 49 _ _ rfl #[.pointer (some ⟨g4, 0, none⟩), .slice (some ⟨b, 22, none⟩) 20 20] (by simp only [List.map_toArray, List.map_cons, List.map_nil]; rfl) (fun W => HER.out _ W) ?_
                    refine (raw_any g4 vb _ ch ((encN e ++ (encN g ++ encN m)) ++ (encN (pathS ph pn).length ++ pathS ph pn)) _ (by simp only [List.length_append]; omega) (by omega) (rp_class_slice (HB.out.below HK_1_8_9_12_13_14_21.out) hl hc) HM_1_8_9_12_13_14_21.out).mono ?_
                    rintro x w_1_8_9_12_13_14_17_21 ⟨rfl, vc, hm, hs⟩
                    have HM_1_8_9_12_13_14_17_21 := Lib.hid hm
                    have HN_1_8_9_12_13_14_17_21 := Lib.hid (HN_1_8_9_12_13_14_21.out.step hs)
                    have HK_1_8_9_12_13_14_17_21 := Lib.hid (HK_1_8_9_12_13_14_21.out.trans ((HM_1_8_9_12_13_14_21.out.stepBelow hs).mono hgw))
                    clear hm hs
                    refine ⟨_, rfl, ?_⟩
                    refine ⟨RpG.of_blk (HB.out.below HK_1_8_9_12_13_14_17_21.out) hl hc, ?_⟩
                    try simp only [Act.put, List.setIfInBounds_toArray, List.set_cons_succ, List.set_cons_zero]
                    refine Agg.held_ready [22] (by kernel_rfl) (by simp) ?_
                    refine Agg.held_cons rfl ?_ ?_
                    · refine Agg.step_call rfl 46 _ _ rfl #[.pointer (some ⟨g4, 0, none⟩), xn] (by simp only [List.map_toArray, List.map_cons, List.map_nil]; rfl) (fun W => HEN.out _ W) ?_
                      refine (num_any g4 vc xn [l.length] (((encN e ++ (encN g ++ encN m)) ++ (encN (pathS ph pn).length ++ pathS ph pn)) ++ ch) _ (by intro n hn; simp only [List.mem_cons, List.not_mem_nil, or_false] at hn; omega) (by simp) (by simp only [List.length_append]; omega) HN_1_8_9_12_13_14_17_21.out HM_1_8_9_12_13_14_17_21.out).mono ?_
                      rintro x w_1_8_9_12_13_14_17_21_22 ⟨rfl, vd, hm, hs⟩
                      have HM_1_8_9_12_13_14_17_21_22 := Lib.hid (show MkV g4 w_1_8_9_12_13_14_17_21_22 vd ((((encN e ++ (encN g ++ encN m)) ++ (encN (pathS ph pn).length ++ pathS ph pn)) ++ ch) ++ encN l.length) from by simpa using hm)
                      have HK_1_8_9_12_13_14_17_21_22 := Lib.hid (HK_1_8_9_12_13_14_17_21.out.trans ((HM_1_8_9_12_13_14_17_21.out.stepBelow hs).mono hgw))
                      clear hm hs
                      refine ⟨_, rfl, ?_⟩
                      have hSx := RpG.of_blk (HB.out.below HK_1_8_9_12_13_14_17_21_22.out) hl hc; refine ⟨hSx, ?_⟩
                      try simp only [Act.put, List.setIfInBounds_toArray, List.set_cons_succ, List.set_cons_zero]
                      refine Agg.held_take 23 (.pointer (some ⟨g4, 0, none⟩)) rfl (by kernel_rfl) (fun _ _ _ h => h) rfl (fun W _ => by kernel_rfl) (by assumption) ?_
                      try simp only [Act.put, List.setIfInBounds_toArray, List.set_cons_succ, List.set_cons_zero]
                      refine Agg.held_end (by kernel_rfl) ?_
                      exact ⟨g4, vd, xs, sv.1, ys, xn, rfl, hgw, HM_1_8_9_12_13_14_17_21_22.out, HK_1_8_9_12_13_14_17_21_22.out⟩
                    exact AllReadyH.nil
                  exact AllReadyH.nil
                exact AllReadyH.nil
              exact AllReadyH.nil
            exact AllReadyH.nil
          exact AllReadyH.nil
        exact AllReadyH.nil
      exact AllReadyH.nil
    exact AllReadyH.nil
theorem pputr_bad (e g m : Int) (ph pn ch : List UInt8) (pv : Value) (l : List P20) (hl : ph.length = 20) (hc : ch.length = 20) (hll : l.length ≤ 1048576) (hr : Rp.right ⟨e, ph, pn, ch, g, l, m⟩ = false) (w : World) (hs : ElemsAt w pv l) :
    Calls Try.prog 26 #[.agg (rpG e ph pn ch g pv m)] w fun x w' => x = .returned (.tuple #[.slice none 0 0, .int .i64 2]) ∧ Below w.heap.size w w' := by
  have HRT := Lib.hid (fun W (h : ElemsAt W pv l) => (show Calls Try.prog 27 #[.agg (rpG e ph pn ch g pv m)] W fun x w' => x = .returned (.bool false) ∧ Below W.heap.size W w' by have := rright_any e g m ph pn ch pv l hl hc hll W h; rwa [hr] at this))
  have HY := Lib.hid hs
  clear hr hs
  go_enter Try.func26, Try.ntmps26
  go_wp2_with (first | (with_reducible refine Agg.wpList_box rfl 49 _ rfl (rpG e ph pn ch g pv m) rfl ?_; intro b w1 hb1 hx1 hgb; have HL := Lib.hid (RpG.of_blk hb1 hl hc); have HW := Lib.hid hx1; clear hb1 hx1 hgb) | (with_reducible refine Agg.wpList_loadL HL.out.all rfl _ rfl rfl ?_))
  refine (HRT.out _ (HY.out.below HW.out)).mono ?_
  rintro x w2 ⟨rfl, hx2⟩
  have HW := Lib.hid (Agg.belowThen HW.out (Nat.le_refl _) hx2)
  clear hx2
  go_wp2_with fail
  go_ret2
  exact ⟨rfl, HW.out⟩
/-- what PutReply tells -/
def rpBytes (q : Rp) : List UInt8 := if q.right then putRp q else []
def rpCode (q : Rp) : Nat := if q.right then 0 else 2
theorem pputr_any (e g m : Int) (ph pn ch : List UInt8) (pv : Value) (l : List P20) (hl : ph.length = 20) (hc : ch.length = 20) (hll : l.length ≤ 1048576) (w : World) (hs : ElemsAt w pv l) :
    Calls Try.prog 26 #[.agg (rpG e ph pn ch g pv m)] w fun x w' => ∃ v', x = .returned (.tuple #[v', .int .i64 (rpCode ⟨e, ph, pn, ch, g, l, m⟩ : Int)]) ∧ Own EB w.heap.size w' v' (rpBytes ⟨e, ph, pn, ch, g, l, m⟩) ∧ Below w.heap.size w w' := by
  unfold rpCode rpBytes
  cases hr : Rp.right ⟨e, ph, pn, ch, g, l, m⟩ with
  | false =>
    refine (pputr_bad e g m ph pn ch pv l hl hc hll hr w hs).mono ?_
    rintro x w' ⟨rfl, hx⟩
    exact ⟨_, rfl, Own.nil _ _ _, hx⟩
  | true =>
    obtain ⟨h1, h2, h3, _, h5, _⟩ := Rp.right_parts hr
    simp only at h1 h2 h3 h5
    obtain ⟨e, rfl⟩ : ∃ n : Nat, e = n := ⟨e.toNat, by omega⟩
    obtain ⟨g, rfl⟩ : ∃ n : Nat, g = n := ⟨g.toNat, by omega⟩
    obtain ⟨m, rfl⟩ : ∃ n : Nat, m = n := ⟨m.toNat, by omega⟩
    simp only [if_true]
    exact pputr_good e g m ph pn ch pv l hl hc (by omega) (by omega) (by omega) h5 hr w hs
end Go.Proofs.Ytpnolgliklmnmaa
