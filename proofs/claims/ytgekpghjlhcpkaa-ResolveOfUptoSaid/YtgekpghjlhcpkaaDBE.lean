/- spenceref20: first, Of. -/
import Derived.Test.YtgekpghjlhcpkaaDBA
import Derived.Test.YtgekpghjlhcpkaaDBC
import Derived.Test.YtgekpghjlhcpkaaDBD
import Derived.Test.YtgekpghjlhcpkaaDAP
namespace Go.Proofs.Ytgekpghjlhcpkaa
open Go.RowKit Pl Go.Agg Go.Mp
theorem first_step {l : List Md} {k : Nat} {c : H20} (h : firstP (l.take k) c = none) (hk : l.length ≤ k) : firstP l c = none := by rwa [List.take_of_length_le hk] at h
theorem first_more {l : List Md} {k : Nat} {c : H20} {x : Md} (hx : l[k]? = some x) (h : firstP (l.take k) c = none) (hn : ¬ x.1 = c) : firstP (l.take (k + 1)) c = none := by
  unfold firstP at *
  rw [List.take_add_one, hx, List.find?_append]
  simp only [Option.map_eq_none_iff] at h ⊢
  rw [h]
  simp [hn]
theorem first_hit {l : List Md} {k : Nat} {c : H20} {x : Md} (hx : l[k]? = some x) (h : firstP (l.take k) c = none) (hn : x.1 = c) : firstP l c = some x.2 := by
  have e : l = l.take k ++ (x :: l.drop (k + 1)) := by
    obtain ⟨hk, rfl⟩ := List.getElem?_eq_some_iff.1 hx
    rw [← List.drop_eq_getElem_cons hk, List.take_append_drop]
  unfold firstP at *
  rw [e, List.find?_append]
  simp only [Option.map_eq_none_iff] at h
  rw [h]
  simp [hn]
set_option maxRecDepth 100000 in
set_option maxHeartbeats 4000000 in
theorem first20_any (v : Value) (l : List Md) (c : H20) (hn : l.length ≤ 1048576) (w : World) (h : MdsAt w v l) :
    Calls Try.prog 37 #[v, .agg (hC c.1)] w fun e w' => e = .returned (.tuple #[.agg (pC ((firstP l c).getD zP).1.1 ((firstP l c).getD zP).1.2), .bool (firstP l c).isSome]) ∧ Below w.heap.size w w' := by
  have hlv := mds_len h
  have HM := Lib.hid h
  clear h
  go_enter Try.func37, Try.ntmps37
  go_wp2_with (first | (with_reducible refine Agg.wpList_box rfl 45 _ rfl (hC c.1) rfl ?_; intro g3 w1 hb hx1 hg; have HH1 := Lib.hid hb; have HX1 := Lib.hid hx1; clear hb hx1 hg) | (with_reducible refine wpList_zero rfl 47 rfl (pC z20 []) pC_zero ?_; intro g4 w2 hb hx hg; have HP2 := Lib.hid hb; have HH2 := Lib.hid (HH1.out.below hx); have HX2 := Lib.hid (Agg.belowThen HX1.out (Nat.le_refl _) hx); have HG4 := Lib.hid (Nat.le_trans HX1.out.size hg); clear hb hx hg))
  go_loopw [6] (fun i wr => ∃ k : Nat, k ≤ l.length ∧ i = .int .i64 k ∧ firstP (l.take k) c = none ∧ Blk wr g3 45 (hC c.1) ∧ Blk wr g4 47 (pC z20 []) ∧ Below w.heap.size w wr) (fun i _ => l.length - (intOf i).toNat)
  case atStart => exact ⟨0, by omega, rfl, rfl, HH2.out, HP2.out, HX2.out⟩
  case round =>
    obtain ⟨w3, rfl⟩ : ∃ y : World, y = wr := ⟨_, rfl⟩
    obtain ⟨k, hk, rfl, hf, hh, hp, hw⟩ := hrel
    have HF := Lib.hid hf
    have HH := Lib.hid hh
    have HP := Lib.hid hp
    have HW := Lib.hid hw
    have HLH := Lib.hid (hh.loads (P := Try.prog) Try.underlying45 rfl (hash_info1 _ c.2))
    clear hf hh hp hw
    by_cases hlt : k < l.length
    · have hd1 : decide ((k : Int) < (l.length : Int)) = true := by simp; omega
      obtain ⟨x, hxk⟩ : ∃ x, l[k]? = some x := ⟨_, List.getElem?_eq_getElem hlt⟩
      obtain ⟨p, hadr, hpb, hpc, _⟩ := (SliceOf.below HM.out HW.out).at_ k x hxk
      have hadr' : ∀ W, (Instr.indexAt 26 v (.int .i64 (k : Int))).run Try.prog W = .ok (.pointer (some p)) W := hadr
      have HLC := Lib.hid (show LoadsL Try.prog w3 45 (some (p.add 0)) (.agg (hC x.1.1)) from LoadsL.of_cells (by rw [add_block]; exact hpb) (fun j u hj => by rw [add_add]; exact hpc _ _ (mC_cl x j u hj)) Try.underlying45 rfl (hash_info1 _ x.1.2))
      have HLP := Lib.hid (show LoadsL Try.prog w3 47 (some (p.add 20)) (.agg (pC x.2.1.1 x.2.1.2)) from LoadsL.of_cells (by rw [add_block]; exact hpb) (fun j u hj => by rw [add_add]; exact hpc _ _ (mC_pa x j u hj)) pC_under rfl (pC_info _ _ x.2.2))
      have HXK := Lib.hid hxk
      clear hadr hpb hpc hxk
      by_cases hc : x.1 = c
      · have HEQ := Lib.hid (fun W => (show (binOp .eql 45 (.agg (hC x.1.1)) (.agg (hC c.1))).run Try.prog W = .ok (.bool true) W by rw [eqlHB, decide_eq_true hc]))
        have HR := Lib.hid (first_hit HXK.out HF.out hc)
        clear hc
        go_wp2_with fail
        try simp only [Act.put, List.setIfInBounds_toArray, List.set_cons_succ, List.set_cons_zero]
        refine Agg.wp_region_later_lit (by kernel_rfl) (by kernel_rfl) ?_
        repeat (first | go_big_quiet_skip | ((first | (with_reducible refine Agg.wpQuiet_loadL HLC.out rfl _ rfl rfl ?_) | (with_reducible refine Agg.wpQuiet_loadL HLH.out rfl _ rfl rfl ?_) | (with_reducible refine Agg.wpQuiet_eql rfl 45 45 _ _ rfl (hC x.1.1) (hC c.1) rfl rfl true (by kernel_rfl) HEQ.out ?_)); simp only [Act.put, List.setIfInBounds_toArray, List.set_cons_succ, List.set_cons_zero]) | go_big_quiet_step (fail))
        refine wpQuiet_nil ?_
        intro _ hw'
        obtain ⟨x1, rfl⟩ := hw'
        have HLP1 := Lib.hid (HLP.out.below x1.h)
        have HP1 := Lib.hid (HP.out.below x1.h)
        go_wp2_with (first | (with_reducible refine Agg.wpList_loadL HLP1.out rfl _ rfl rfl ?_) | ((with_reducible refine wpList_put rfl rfl 47 _ _ rfl g4 (pC x.2.1.1 x.2.1.2) (pC z20 []) rfl rfl HP1.out (pC_info _ _ x.2.2) (by rw [pC_size, pC_size, x.2.2, z20_length]) (pC_one _ _) ?_); intro w8 hb8 hx8 _ _))
        exact Agg.post_row_tmp rfl rfl rfl hb8 pC_under rfl (pC_info _ _ x.2.2) rfl ⟨by rw [HR.out]; rfl, (Agg.belowThen HW.out (Nat.le_refl _) x1.h).trans (hx8.mono HG4.out)⟩
      · have HEQ := Lib.hid (fun W => (show (binOp .eql 45 (.agg (hC x.1.1)) (.agg (hC c.1))).run Try.prog W = .ok (.bool false) W by rw [eqlHB, decide_eq_false hc]))
        have HR := Lib.hid (first_more HXK.out HF.out hc)
        clear hc
        go_wp2_with fail
        try simp only [Act.put, List.setIfInBounds_toArray, List.set_cons_succ, List.set_cons_zero]
        refine Agg.wp_region_later_lit (by kernel_rfl) (by kernel_rfl) ?_
        repeat (first | go_big_quiet_skip | ((first | (with_reducible refine Agg.wpQuiet_loadL HLC.out rfl _ rfl rfl ?_) | (with_reducible refine Agg.wpQuiet_loadL HLH.out rfl _ rfl rfl ?_) | (with_reducible refine Agg.wpQuiet_eql rfl 45 45 _ _ rfl (hC x.1.1) (hC c.1) rfl rfl false (by kernel_rfl) HEQ.out ?_)); simp only [Act.put, List.setIfInBounds_toArray, List.set_cons_succ, List.set_cons_zero]) | go_big_quiet_step (fail))
        refine wpQuiet_nil ?_
        intro _ hw'
        obtain ⟨x1, rfl⟩ := hw'
        go_wp2_with fail
        go_roundw
        case rel => exact ⟨k + 1, by omega, by go_num, HR.out, HH.out.below x1.h, HP.out.below x1.h, Agg.belowThen HW.out (Nat.le_refl _) x1.h⟩
        case measure => simp [intOf]; omega
    · have hd1 : decide ((k : Int) < (l.length : Int)) = false := by simp; omega
      have HR := Lib.hid (first_step HF.out (by omega))
      go_wp2_with (first | (with_reducible refine Agg.wpList_build0 47 rfl (by kernel_rfl) (.agg (pC zP.1.1 zP.1.2)) build_zP ?_) | ((with_reducible refine wpList_put rfl rfl 47 _ _ rfl g4 (pC zP.1.1 zP.1.2) (pC z20 []) rfl rfl HP.out (pC_info _ _ zP.2) rfl (pC_one _ _) ?_); intro w8 hb8 hx8 _ _))
      exact Agg.post_row_tmp rfl rfl rfl hb8 pC_under rfl (pC_info _ _ zP.2) rfl ⟨by rw [HR.out]; rfl, HW.out.trans (hx8.mono HG4.out)⟩
theorem rinfBuilt : ∀ parts, Try.prog.built 85 parts = Instr.fill (#[(0, 1), (1, 21)][·]?) (riC zR) parts := fun _ => by kernel_rfl
theorem build_rinf (n : List UInt8) (p : P20) (w : World) : (Instr.build 85 #[(0, .string ⟨n.toArray⟩), (1, .agg (pC p.1.1 p.1.2))]).run Try.prog w = .ok (.agg (riC (n, p))) w := by
  have h1 : (pC p.1.1 p.1.2).size = 21 := by rw [pC_size, p.2]
  have hz : (riC zR).size = 22 := riC_size _
  have hs1 : (Go.Agg.splice (riC zR) 0 #[.string ⟨n.toArray⟩]).size = 22 := by rw [Go.Agg.splice_size _ _ _ (by simp; omega), hz]
  refine run_build w _ _ _ ?_
  rw [rinfBuilt]
  rw [fill_cons (off := 0) (size := 1) rfl rfl (by omega)]
  rw [fill_cons (off := 1) (size := 21) rfl (by simp only [Value.cells]; exact h1) (by simp only [Value.cells]; omega)]
  rw [fill_nil]
  refine congrArg some ?_
  clear hs1
  simp only [Value.cells]
  generalize riC zR = Z at *
  apply Array.ext'
  have l3 : Z.toList.length = 22 := by rw [Array.length_toList]; exact hz
  simp [Go.Agg.splice, riC, h1, l3, List.drop_eq_nil_of_le]
theorem build_rfz (w : World) : (Instr.build 39 #[]).run Try.prog w = .ok (.agg (rsC [] (.slice none 0 0) (.slice none 0 0))) w := by kernel_rfl
set_option maxRecDepth 100000 in
set_option maxHeartbeats 16000000 in
theorem refOf_any (dv v : Value) (d : Drv) (made : List Md) (h1 : d.1.length ≤ 1048576) (hdl : d.2.1.length ≤ 1048576) (hsz : namsSz d.2.1 ≤ 4194304) (hrl : d.2.2.length ≤ 33554432) (hml : made.length ≤ 1048576) (hmn : ∀ x ∈ made, x.2.1.2.length ≤ 1048576) (w : World) (hd : DrvAt w dv d) (hm : MdsAt w v made) :
    Calls Try.prog 11 #[dv, v] w fun e w' => ∃ vi vr, e = .returned (.tuple #[.agg (rsC (ofP d made).1.1 vi vr), .int .i64 ((ofP d made).2 : Int)]) ∧ Agg.Own ERf w.heap.size w' vi (ofP d made).1.2.1 ∧ Agg.Own EB w.heap.size w' vr (ofP d made).1.2.2 ∧ Below w.heap.size w w' := by
  obtain ⟨vn, vr, rfl, hvn, hvr⟩ := hd
  have hln := nams_len hvn
  have hlm := mds_len hm
  have HDV := Lib.hid (And.intro hvn hvr)
  have HMD := Lib.hid hm
  clear hvn hvr hm
  go_enter Try.func11, Try.ntmps11
  go_wp2_with (first | (with_reducible refine Agg.wpList_box rfl 25 _ rfl (#[.string ⟨d.1.toArray⟩, vn, vr]) rfl ?_; intro g2 w1 hb hx1 hg; have HB1 := Lib.hid hb; have HX1 := Lib.hid hx1; clear hb hx1 hg) | (with_reducible refine Agg.wpList_zero rfl 39 rfl (rsC [] (.slice none 0 0) (.slice none 0 0)) rfC_zero0 ?_; intro g4 w2 hb hx hg; have HR2 := Lib.hid hb; have HB2 := Lib.hid (HB1.out.below hx); have HX2 := Lib.hid (Agg.belowThen HX1.out (Nat.le_refl _) hx); have HG4 := Lib.hid (Nat.le_trans HX1.out.size hg); have HLD2 := Lib.hid (DrvL.of_blk HB2.out); clear hb hx hg) | (with_reducible refine Agg.wpList_loadL HLD2.out.all rfl _ rfl rfl ?_))
  refine (refCan_any _ d h1 hdl hsz w2 ⟨vn, vr, rfl, HDV.out.1.below HX2.out, HDV.out.2.below HX2.out⟩).mono ?_
  rintro e w3 ⟨rfl, hx3⟩
  have HR3 := Lib.hid (HR2.out.below hx3)
  have HB3 := Lib.hid (HB2.out.below hx3)
  have HDL := Lib.hid (HLD2.out.below hx3)
  have HX3 := Lib.hid (Agg.belowThen HX2.out (Nat.le_refl _) hx3)
  clear hx3
  cases hcan : canDrv d with
  | false =>
    have HO := Lib.hid (show ofP d made = (zRv, 2) by simp [ofP, hcan])
    clear hcan
    go_wp2_with (first | (with_reducible refine Agg.wpList_build0 39 rfl (by kernel_rfl) (.agg (rsC [] (.slice none 0 0) (.slice none 0 0))) build_rfz ?_) | ((with_reducible refine wpList_put rfl rfl 39 _ _ rfl g4 (rsC [] (.slice none 0 0) (.slice none 0 0)) (rsC [] (.slice none 0 0) (.slice none 0 0)) rfl rfl HR3.out (rf_info _ _ _) rfl rsC_z ?_); intro w8 hb8 hx8 _ _))
    exact Agg.post_row_tmp rfl rfl rfl hb8 rf_under rfl (by kernel_rfl) rfl ⟨_, _, by rw [HO.out]; rfl, by rw [HO.out]; exact Agg.Own.nil _ _ _, by rw [HO.out]; exact Agg.Own.nil _ _ _, HX3.out.trans (hx8.mono HG4.out)⟩
  | true =>
  have HCN := Lib.hid hcan
  clear hcan
  go_wp2_with fail
  go_loopw [6] (fun i wr => ∃ k : Nat, k ≤ made.length ∧ i = .int .i64 k ∧ madesName (made.take k) = true ∧ wr = w3) (fun i _ => made.length - (intOf i).toNat)
  case atStart => exact ⟨0, by omega, rfl, rfl, rfl⟩
  case round =>
    obtain ⟨k, hk, rfl, hmk, hwr⟩ := hrel
    replace hwr := hwr.symm
    subst hwr
    have HMK := Lib.hid hmk
    clear hmk
    by_cases hlt : k < made.length
    · have hd1 : decide ((k : Int) < (made.length : Int)) = true := by simp; omega
      obtain ⟨x, hxk⟩ : ∃ x, made[k]? = some x := ⟨_, List.getElem?_eq_getElem hlt⟩
      have hxl := hmn x (List.mem_of_getElem? hxk)
      obtain ⟨p, hadr, hpb, hpc, _⟩ := (SliceOf.below HMD.out HX3.out).at_ k x hxk
      have hadr' : ∀ W, (Instr.indexAt 26 v (.int .i64 (k : Int))).run Try.prog W = .ok (.pointer (some p)) W := hadr
      have HLN := Lib.hid (show LoadsL Try.prog w3 9 (some ((p.add 20).add 20)) (.string ⟨x.2.1.2.toArray⟩) from LoadsL.of_cell (by rw [add_add]; exact hpc 40 _ (mC_pa x 20 _ (pC_name _ _ x.2.2))) Try.underlying9 rfl)
      have HXK := Lib.hid hxk
      clear hadr hpb hpc hxk
      go_wp2_with (first | (with_reducible refine Agg.wpList_loadL HLN.out rfl _ rfl rfl ?_))
      refine (refName_any x.2.1.2 (by omega) _).mono ?_
      rintro e w4 ⟨rfl, rfl⟩
      cases hnm : isName x.2.1.2 with
      | true =>
        have HN := Lib.hid hnm
        clear hnm
        go_wp2_with fail
        go_roundw
        case rel => exact ⟨k + 1, by omega, by go_num, madesName_succ HXK.out HMK.out HN.out, by trivial⟩
        case measure => simp [intOf]; omega
      | false =>
        have HO := Lib.hid (show ofP d made = (zRv, 2) by unfold ofP; rw [madesName_false HXK.out hnm, Bool.and_false]; rfl)
        clear hnm
        go_wp2_with (first | (with_reducible refine Agg.wpList_build0 39 rfl (by kernel_rfl) (.agg (rsC [] (.slice none 0 0) (.slice none 0 0))) build_rfz ?_) | ((with_reducible refine wpList_put rfl rfl 39 _ _ rfl g4 (rsC [] (.slice none 0 0) (.slice none 0 0)) (rsC [] (.slice none 0 0) (.slice none 0 0)) rfl rfl HR3.out (rf_info _ _ _) rfl rsC_z ?_); intro w8 hb8 hx8 _ _))
        exact Agg.post_row_tmp rfl rfl rfl hb8 rf_under rfl (by kernel_rfl) rfl ⟨_, _, by rw [HO.out]; rfl, by rw [HO.out]; exact Agg.Own.nil _ _ _, by rw [HO.out]; exact Agg.Own.nil _ _ _, HX3.out.trans (hx8.mono HG4.out)⟩
    · obtain rfl : k = made.length := by omega
      have hd1 : decide ((made.length : Int) < (made.length : Int)) = false := by simp
      have HMN := Lib.hid (show madesName made = true by have := HMK.out; rwa [List.take_length] at this)
      go_wp2_with fail
      have HDR := Lib.hid (HDV.out.2.below HX3.out)
      refine Agg.wp_cutR (fun a a' w' => ∃ g7 vb, Blk w' g7 39 (rsC d.1 (.slice none 0 0) vb) ∧ Agg.Own EB w3.heap.size w' vb d.2.2 ∧ Below w3.heap.size w3 w' ∧ w3.heap.size ≤ g7 ∧ ExPut [32, 33, 34, 35, 36, 37, 38] (a.put (some 7) (.pointer (some ⟨g7, 0, none⟩))) a') ?_ ?_
      · try simp only [Act.put, List.setIfInBounds_toArray, List.set_cons_succ, List.set_cons_zero]
        obtain ⟨we, hwe⟩ : ∃ W, W = w3.drew := ⟨_, rfl⟩
        have hde : Below w3.heap.size w3 we := by rw [hwe]; exact (Below.refl _ _).drew
        have HXd := Lib.hid hde
        refine wp_region_held_drew (S := fun W => Below w3.heap.size w3 W) (by kernel_rfl) (by rw [← hwe]; exact HXd.out) (fun hHeld => ?_)
        rw [← hwe] at hHeld ⊢
        clear hwe hde
        refine Agg.held_take 0 (.pointer (some ⟨g2, 0, none⟩)) rfl (by kernel_rfl) (fun _ _ _ h => h) rfl (fun W _ => by kernel_rfl) (by assumption) ?_
        try simp only [Act.put, List.setIfInBounds_toArray, List.set_cons_succ, List.set_cons_zero]
        refine Agg.held_take 1 (.string ⟨d.1.toArray⟩) rfl (by kernel_rfl) (fun _ _ _ h => h) rfl (fun W hS => exec_loadC rfl rfl (HDL.out.below hS).name.now) (by assumption) ?_
        try simp only [Act.put, List.setIfInBounds_toArray, List.set_cons_succ, List.set_cons_zero]
        refine Agg.held_take 3 (.pointer (some ⟨g2, 2, none⟩)) rfl (by kernel_rfl) (fun _ _ _ h => h) rfl (fun W _ => by kernel_rfl) (by assumption) ?_
        try simp only [Act.put, List.setIfInBounds_toArray, List.set_cons_succ, List.set_cons_zero]
        refine Agg.held_take 4 (vr) rfl (by kernel_rfl) (fun _ _ _ h => h) rfl (fun W hS => exec_loadC rfl rfl (HDL.out.below hS).rcp.now) (by assumption) ?_
        try simp only [Act.put, List.setIfInBounds_toArray, List.set_cons_succ, List.set_cons_zero]
        refine Agg.held_ready [2, 7] (by kernel_rfl) (by simp) ?_
        refine Agg.held_cons rfl ?_ ?_
        · refine Agg.step_slice0 EB rfl rfl ?_
          intro va wp_2 ho hx
          have HX_2 := Lib.hid (Agg.belowThen HXd.out (Nat.le_refl _) hx)
          have HO_2 := Lib.hid (ho.lower HXd.out.size)
          clear ho hx
          refine ⟨HX_2.out, ?_⟩
          try simp only [Act.put, List.setIfInBounds_toArray, List.set_cons_succ, List.set_cons_zero]
          refine Agg.held_ready [5, 7] (by kernel_rfl) (by simp) ?_
          refine Agg.held_cons rfl ?_ ?_
          · refine Agg.step_appendS (E := EB) (base := w3.heap.size) rfl _ _ rfl vr rfl rfl d.2.2 HO_2.out (SliceOf.below HDR.out HX_2.out) (by simp; omega) (by decide) HX_2.out.size ?_
            intro vb wp_2_5 ho hp
            have hx := hp.below w3.heap.size (Nat.le_refl _) HX_2.out.size
            have HX_2_5 := Lib.hid (HX_2.out.trans hx)
            have HO_2_5 := Lib.hid ho
            obtain ⟨pb, cb, hfb⟩ := ho.slice.form
            have HFB := Lib.hid hfb
            have HBF := Lib.hid (fun W => (show (Instr.build 39 #[(0, .string ⟨d.1.toArray⟩), (2, vb)]).run Try.prog W = .ok (.agg (rsC d.1 (.slice none 0 0) vb)) W by rw [hfb]; exact build_rf _ _ _ _ _))
            clear ho hp hx hfb
            refine ⟨HX_2_5.out, ?_⟩
            try simp only [Act.put, List.setIfInBounds_toArray, List.set_cons_succ, List.set_cons_zero]
            refine Agg.held_take 6 (.agg (rsC d.1 (.slice none 0 0) vb)) rfl (by kernel_rfl) (fun _ _ _ h => h) rfl (fun W _ => exec_build2C rfl rfl rfl (HBF.out W)) (by assumption) ?_
            try simp only [Act.put, List.setIfInBounds_toArray, List.set_cons_succ, List.set_cons_zero]
            refine Agg.held_ready [7] (by kernel_rfl) (by simp) ?_
            refine Agg.held_cons rfl ?_ ?_
            · refine Agg.step_zero rfl 39 rfl (rsC [] (.slice none 0 0) (.slice none 0 0)) rfC_zero0 ?_
              intro g7 wp_2_5_7 hb hx hg
              have HX_2_5_7 := Lib.hid (Agg.belowThen HX_2_5.out (Nat.le_refl _) hx)
              have HO_2_5_7 := Lib.hid (HO_2_5.out.below hx)
              have HB_2_5_7 := Lib.hid hb
              have HG7 := Lib.hid (Nat.le_trans HX_2_5.out.size hg)
              clear hb hx hg
              refine ⟨HX_2_5_7.out, ?_⟩
              try simp only [Act.put, List.setIfInBounds_toArray, List.set_cons_succ, List.set_cons_zero]
              refine Agg.held_ready [8] (by kernel_rfl) (by simp) ?_
              refine Agg.held_cons rfl ?_ ?_
              · refine Agg.step_put rfl rfl 39 _ _ rfl g7 (rsC d.1 (.slice none 0 0) vb) _ rfl rfl HB_2_5_7.out (rf_info _ _ _) (rsC_ss _ _ _ _ _ _) (by rw [HFB.out]; simp [rsC, Value.oneCell']) ?_
                intro wz hbz hxz hsz hkz
                have HBZ := Lib.hid hbz
                have HXZ := Lib.hid (HX_2_5_7.out.trans (hxz.mono HG7.out))
                have HOZ := Lib.hid (Only.of_eq hxz hsz hkz rfl : Only (· = g7) _ _)
                have HRZ := Lib.hid (HO_2_5_7.out.onlyB HOZ.out HB_2_5_7.out (by decide))
                clear hbz hxz hsz hkz
                refine ⟨HXZ.out, ?_⟩
                try simp only [Act.put, List.setIfInBounds_toArray, List.set_cons_succ, List.set_cons_zero]
                refine Agg.held_end (by kernel_rfl) ?_
                refine ⟨g7, vb, HBZ.out, HRZ.out, HXZ.out, HG7.out, ?_⟩
                simp only [Agg.ExPut, Act.put, List.setIfInBounds_toArray, List.set_cons_succ, List.set_cons_zero]
                exact ⟨_, _, _, _, _, _, _, rfl⟩
              exact AllReadyH.nil
            exact AllReadyH.nil
          refine Agg.held_cons rfl ?_ ?_
          · refine Agg.step_zero rfl 39 rfl (rsC [] (.slice none 0 0) (.slice none 0 0)) rfC_zero0 ?_
            intro g7 wp_2_7 hb hx hg
            have HX_2_7 := Lib.hid (Agg.belowThen HX_2.out (Nat.le_refl _) hx)
            have HO_2_7 := Lib.hid (HO_2.out.below hx)
            have HB_2_7 := Lib.hid hb
            have HG7 := Lib.hid (Nat.le_trans HX_2.out.size hg)
            clear hb hx hg
            refine ⟨HX_2_7.out, ?_⟩
            try simp only [Act.put, List.setIfInBounds_toArray, List.set_cons_succ, List.set_cons_zero]
            refine Agg.held_ready [5] (by kernel_rfl) (by simp) ?_
            refine Agg.held_cons rfl ?_ ?_
            · refine Agg.step_appendS (E := EB) (base := w3.heap.size) rfl _ _ rfl vr rfl rfl d.2.2 HO_2_7.out (SliceOf.below HDR.out HX_2_7.out) (by simp; omega) (by decide) HX_2_7.out.size ?_
              intro vb wp_2_5_7 ho hp
              have hx := hp.below w3.heap.size (Nat.le_refl _) HX_2_7.out.size
              have HX_2_5_7 := Lib.hid (HX_2_7.out.trans hx)
              have HO_2_5_7 := Lib.hid ho
              have HB_2_5_7 := Lib.hid (HB_2_7.out.pushedB hp (by decide))
              obtain ⟨pb, cb, hfb⟩ := ho.slice.form
              have HFB := Lib.hid hfb
              have HBF := Lib.hid (fun W => (show (Instr.build 39 #[(0, .string ⟨d.1.toArray⟩), (2, vb)]).run Try.prog W = .ok (.agg (rsC d.1 (.slice none 0 0) vb)) W by rw [hfb]; exact build_rf _ _ _ _ _))
              clear ho hp hx hfb
              refine ⟨HX_2_5_7.out, ?_⟩
              try simp only [Act.put, List.setIfInBounds_toArray, List.set_cons_succ, List.set_cons_zero]
              refine Agg.held_take 6 (.agg (rsC d.1 (.slice none 0 0) vb)) rfl (by kernel_rfl) (fun _ _ _ h => h) rfl (fun W _ => exec_build2C rfl rfl rfl (HBF.out W)) (by assumption) ?_
              try simp only [Act.put, List.setIfInBounds_toArray, List.set_cons_succ, List.set_cons_zero]
              refine Agg.held_ready [8] (by kernel_rfl) (by simp) ?_
              refine Agg.held_cons rfl ?_ ?_
              · refine Agg.step_put rfl rfl 39 _ _ rfl g7 (rsC d.1 (.slice none 0 0) vb) _ rfl rfl HB_2_5_7.out (rf_info _ _ _) (rsC_ss _ _ _ _ _ _) (by rw [HFB.out]; simp [rsC, Value.oneCell']) ?_
                intro wz hbz hxz hsz hkz
                have HBZ := Lib.hid hbz
                have HXZ := Lib.hid (HX_2_5_7.out.trans (hxz.mono HG7.out))
                have HOZ := Lib.hid (Only.of_eq hxz hsz hkz rfl : Only (· = g7) _ _)
                have HRZ := Lib.hid (HO_2_5_7.out.onlyB HOZ.out HB_2_5_7.out (by decide))
                clear hbz hxz hsz hkz
                refine ⟨HXZ.out, ?_⟩
                try simp only [Act.put, List.setIfInBounds_toArray, List.set_cons_succ, List.set_cons_zero]
                refine Agg.held_end (by kernel_rfl) ?_
                refine ⟨g7, vb, HBZ.out, HRZ.out, HXZ.out, HG7.out, ?_⟩
                simp only [Agg.ExPut, Act.put, List.setIfInBounds_toArray, List.set_cons_succ, List.set_cons_zero]
                exact ⟨_, _, _, _, _, _, _, rfl⟩
              exact AllReadyH.nil
            exact AllReadyH.nil
          exact AllReadyH.nil
        refine Agg.held_cons rfl ?_ ?_
        · refine Agg.step_zero rfl 39 rfl (rsC [] (.slice none 0 0) (.slice none 0 0)) rfC_zero0 ?_
          intro g7 wp_7 hb hx hg
          have HX_7 := Lib.hid (Agg.belowThen HXd.out (Nat.le_refl _) hx)
          have HB_7 := Lib.hid hb
          have HG7 := Lib.hid (Nat.le_trans HXd.out.size hg)
          clear hb hx hg
          refine ⟨HX_7.out, ?_⟩
          try simp only [Act.put, List.setIfInBounds_toArray, List.set_cons_succ, List.set_cons_zero]
          refine Agg.held_ready [2] (by kernel_rfl) (by simp) ?_
          refine Agg.held_cons rfl ?_ ?_
          · refine Agg.step_slice0 EB rfl rfl ?_
            intro va wp_2_7 ho hx
            have HX_2_7 := Lib.hid (Agg.belowThen HX_7.out (Nat.le_refl _) hx)
            have HB_2_7 := Lib.hid (HB_7.out.below hx)
            have HO_2_7 := Lib.hid (ho.lower HX_7.out.size)
            clear ho hx
            refine ⟨HX_2_7.out, ?_⟩
            try simp only [Act.put, List.setIfInBounds_toArray, List.set_cons_succ, List.set_cons_zero]
            refine Agg.held_ready [5] (by kernel_rfl) (by simp) ?_
            refine Agg.held_cons rfl ?_ ?_
            · refine Agg.step_appendS (E := EB) (base := w3.heap.size) rfl _ _ rfl vr rfl rfl d.2.2 HO_2_7.out (SliceOf.below HDR.out HX_2_7.out) (by simp; omega) (by decide) HX_2_7.out.size ?_
              intro vb wp_2_5_7 ho hp
              have hx := hp.below w3.heap.size (Nat.le_refl _) HX_2_7.out.size
              have HX_2_5_7 := Lib.hid (HX_2_7.out.trans hx)
              have HO_2_5_7 := Lib.hid ho
              have HB_2_5_7 := Lib.hid (HB_2_7.out.pushedB hp (by decide))
              obtain ⟨pb, cb, hfb⟩ := ho.slice.form
              have HFB := Lib.hid hfb
              have HBF := Lib.hid (fun W => (show (Instr.build 39 #[(0, .string ⟨d.1.toArray⟩), (2, vb)]).run Try.prog W = .ok (.agg (rsC d.1 (.slice none 0 0) vb)) W by rw [hfb]; exact build_rf _ _ _ _ _))
              clear ho hp hx hfb
              refine ⟨HX_2_5_7.out, ?_⟩
              try simp only [Act.put, List.setIfInBounds_toArray, List.set_cons_succ, List.set_cons_zero]
              refine Agg.held_take 6 (.agg (rsC d.1 (.slice none 0 0) vb)) rfl (by kernel_rfl) (fun _ _ _ h => h) rfl (fun W _ => exec_build2C rfl rfl rfl (HBF.out W)) (by assumption) ?_
              try simp only [Act.put, List.setIfInBounds_toArray, List.set_cons_succ, List.set_cons_zero]
              refine Agg.held_ready [8] (by kernel_rfl) (by simp) ?_
              refine Agg.held_cons rfl ?_ ?_
              · refine Agg.step_put rfl rfl 39 _ _ rfl g7 (rsC d.1 (.slice none 0 0) vb) _ rfl rfl HB_2_5_7.out (rf_info _ _ _) (rsC_ss _ _ _ _ _ _) (by rw [HFB.out]; simp [rsC, Value.oneCell']) ?_
                intro wz hbz hxz hsz hkz
                have HBZ := Lib.hid hbz
                have HXZ := Lib.hid (HX_2_5_7.out.trans (hxz.mono HG7.out))
                have HOZ := Lib.hid (Only.of_eq hxz hsz hkz rfl : Only (· = g7) _ _)
                have HRZ := Lib.hid (HO_2_5_7.out.onlyB HOZ.out HB_2_5_7.out (by decide))
                clear hbz hxz hsz hkz
                refine ⟨HXZ.out, ?_⟩
                try simp only [Act.put, List.setIfInBounds_toArray, List.set_cons_succ, List.set_cons_zero]
                refine Agg.held_end (by kernel_rfl) ?_
                refine ⟨g7, vb, HBZ.out, HRZ.out, HXZ.out, HG7.out, ?_⟩
                simp only [Agg.ExPut, Act.put, List.setIfInBounds_toArray, List.set_cons_succ, List.set_cons_zero]
                exact ⟨_, _, _, _, _, _, _, rfl⟩
              exact AllReadyH.nil
            exact AllReadyH.nil
          exact AllReadyH.nil
        exact AllReadyH.nil
      rintro a' w4 ⟨g7, vb, hb7, hob, hx4, hg7, hput⟩
      simp only [Agg.ExPut] at hput
      obtain ⟨x32, x33, x34, x35, x36, x37, x38, rfl⟩ := hput
      simp only [Act.put, List.setIfInBounds_toArray, List.set_cons_succ, List.set_cons_zero]
      have R7_4 := Lib.hid hb7
      have V_4 := Lib.hid hob
      have R4_4 := Lib.hid (HR3.out.below hx4)
      have B_4 := Lib.hid (HB3.out.below hx4)
      have X_4 := Lib.hid (Agg.belowThen HX3.out (Nat.le_refl _) hx4)
      have HG7 := Lib.hid (Nat.le_trans HX3.out.size hg7)
      have HN27 := Lib.hid (show ¬ g2 = g7 from fun e => by have := HB3.out.lt; omega)
      have HN47 := Lib.hid (show ¬ g4 = g7 from fun e => by have := HR3.out.lt; omega)
      clear hb7 hob hx4 hg7
      go_wp2_with fail
      go_loopw [8] (fun i wr => ∃ (k : Nat) (vi : Value) (q : List Rin), k ≤ d.2.1.length ∧ i = .int .i64 (k : Int) ∧ inputsOf made (d.2.1.take k) = some q ∧ q.length = k ∧ Agg.Own ERf w.heap.size wr vi q ∧ Agg.Own EB w3.heap.size wr vb d.2.2 ∧ Blk wr g7 39 (rsC d.1 vi vb) ∧ Blk wr g4 39 (rsC [] (.slice none 0 0) (.slice none 0 0)) ∧ Blk wr g2 25 #[.string ⟨d.1.toArray⟩, vn, vr] ∧ Below w.heap.size w wr) (fun i _ => d.2.1.length - (intOf i).toNat)
      case atStart => exact ⟨0, _, [], by omega, rfl, rfl, rfl, Agg.Own.nil _ _ _, V_4.out, R7_4.out, R4_4.out, B_4.out, X_4.out⟩
      case round =>
        obtain ⟨w5, rfl⟩ : ∃ y : World, y = wr := ⟨_, rfl⟩
        obtain ⟨k, vi, q, hk, rfl, hin, hql, ho, hv, hr7, hr4, hb, hw⟩ := hrel
        have HIN := Lib.hid hin
        have HQL := Lib.hid hql
        have O_5 := Lib.hid ho
        have V_5 := Lib.hid hv
        have R7_5 := Lib.hid hr7
        have R4_5 := Lib.hid hr4
        have B_5 := Lib.hid hb
        have X_5 := Lib.hid hw
        have HLD := Lib.hid (DrvL.of_blk hb)
        clear hin hql ho hv hr7 hr4 hb hw
        by_cases hlt : k < d.2.1.length
        · have hd1 : decide ((k : Int) < (d.2.1.length : Int)) = true := by simp; omega
          obtain ⟨x, hxk⟩ : ∃ x, d.2.1[k]? = some x := ⟨_, List.getElem?_eq_getElem hlt⟩
          obtain ⟨p, hadr, hld⟩ := nam_at (HDV.out.1.below X_5.out) k x hxk
          have HLX := Lib.hid hld.all
          have HIS := Lib.hid (inputsOf_succ made hxk HIN.out)
          have HXK := Lib.hid hxk
          clear hld hxk
          obtain ⟨bb, hbb⟩ : ∃ bb, x.2.2.2 = bb := ⟨_, rfl⟩
          have HBB := Lib.hid hbb
          cases bb with
          | false =>
            have HPO := Lib.hid (show pathOf made x.2 = some x.2.1 by unfold pathOf; rw [hbb]; rfl)
            clear hbb
            have HIS2 := Lib.hid (show inputsOf made (d.2.1.take (k + 1)) = some (q ++ [(x.1, x.2.1)]) by rw [HIS.out, HPO.out])
            go_wp2_with (first | (with_reducible refine Agg.wpList_loadL HLD.out.inp rfl _ rfl rfl ?_) | (with_reducible refine Agg.wpList_loadL HLX.out rfl _ rfl rfl ?_) | (refine Agg.wpList_new rfl rfl rfl 58 9 50 rfl rfl rfl (by decide) (nmC zN) (nmC x) nmC_zero (by rw [nmC_size, nmC_size]) (nmC_info x) (nmC_one x) rfl (by first | (simp; done) | simp [Act.put]) ?_; intro g9 w6 hb hx hg; have O_6 := Lib.hid (O_5.out.below hx); have V_6 := Lib.hid (V_5.out.below hx); have R7_6 := Lib.hid (R7_5.out.below hx); have R4_6 := Lib.hid (R4_5.out.below hx); have B_6 := Lib.hid (B_5.out.below hx); have X_6 := Lib.hid (Agg.belowThen X_5.out (Nat.le_refl _) hx); have N9_6 := Lib.hid (hb); have HNB := Lib.hid (NamB.of_blk hb); clear hb hx hg O_5 V_5 R7_5 R4_5 B_5 X_5) | (with_reducible refine Agg.wpList_loadL HNB.out.src rfl _ rfl rfl ?_) | (refine Agg.wpList_new rfl rfl rfl 47 10 53 rfl rfl rfl (by decide) (pC z20 []) (pC x.2.1.1.1 x.2.1.1.2) pC_zero (by rw [pC_size, pC_size, x.2.1.2]; rfl) (pC_info _ _ x.2.1.2) (pC_one _ _) rfl (by first | (simp; done) | simp [Act.put]) ?_; intro g10 w7 hb hx hg; have O_7 := Lib.hid (O_6.out.below hx); have V_7 := Lib.hid (V_6.out.below hx); have R7_7 := Lib.hid (R7_6.out.below hx); have R4_7 := Lib.hid (R4_6.out.below hx); have B_7 := Lib.hid (B_6.out.below hx); have X_7 := Lib.hid (Agg.belowThen X_6.out (Nat.le_refl _) hx); have N9_7 := Lib.hid (N9_6.out.below hx); have P10_7 := Lib.hid (hb); have HN7 := Lib.hid (show ¬ g7 = g10 from fun e => by have := R7_6.out.lt; omega); have HN4 := Lib.hid (show ¬ g4 = g10 from fun e => by have := R4_6.out.lt; omega); have HN2 := Lib.hid (show ¬ g2 = g10 from fun e => by have := B_6.out.lt; omega); have HN9 := Lib.hid (show ¬ g9 = g10 from fun e => by have := N9_6.out.lt; omega); have HG10 := Lib.hid (Nat.le_trans X_6.out.size hg); have HNC := Lib.hid (HNB.out.below hx); have HISB := Lib.hid (show LoadsL Try.prog w7 4 (some ⟨g9, 42, none⟩) (.bool false) by have h := HNC.out.is; rw [HBB.out] at h; exact h); have HLR := Lib.hid (RfB.of_blk R7_7.out); have HLN := Lib.hid (NamB.of_blk N9_7.out); have HLP := Lib.hid (Agg.Blk.loads (P := Try.prog) P10_7.out pC_under rfl (pC_info _ _ x.2.1.2)); clear hb hx hg O_6 V_6 R7_6 R4_6 B_6 X_6 N9_6) | (with_reducible refine Agg.wpList_loadL HISB.out rfl _ rfl rfl ?_) | (with_reducible refine Agg.wpList_loadL HLR.out.inp rfl _ rfl rfl ?_) | (with_reducible refine Agg.wpList_loadL HLN.out.name rfl _ rfl rfl ?_) | (with_reducible refine Agg.wpList_loadL HLP.out rfl _ rfl rfl ?_) | (refine Agg.wpList_build2 85 0 _ 1 _ rfl rfl (.string ⟨x.1.toArray⟩) (.agg (pC x.2.1.1.1 x.2.1.1.2)) rfl rfl (.agg (riC (x.1, x.2.1))) (build_rinf x.1 x.2.1) ?_) | (refine Agg.wpList_push (E := ERf) (base := w.heap.size) rfl rfl 75 rfl _ rfl _ rfl (x.1, x.2.1) rfl (fun _ => rfl) (by first | (simp; done) | simp [Act.put]) O_7.out (by rw [HQL.out]; omega) (by decide) X_7.out.size ?_; intro u5 v9 w9 ho9 hp9; have HR9 := Lib.hid (R7_7.out.pushedB hp9 (by decide)); have HF9 := Lib.hid (R4_7.out.pushedB hp9 (by decide)); have HB9 := Lib.hid (B_7.out.pushedB hp9 (by decide)); have HV9 := Lib.hid (Agg.Own.keepT V_7.out fun g cur fr hg => hp9.blk g _ _ _ (by decide) hg); have HO9 := Lib.hid ho9; have HW9 := Lib.hid (X_7.out.trans (hp9.below w.heap.size (Nat.le_refl _) X_7.out.size)); obtain ⟨p9, c9, hf9⟩ := ho9.slice.form; obtain ⟨w10, hr10, hb10, ho10⟩ := Blk.run_one (P := Try.prog) (ty := 37) HR9.out 1 (rsC_lt _ _ _ _ (by decide)) v9 (by rw [hf9]; rfl) (by rw [hf9]; rfl) (by kernel_rfl) (rsC d.1 v9 vb) rfl; have HR10 := Lib.hid hb10; have HX10 := Lib.hid ho10; clear ho9 hp9 hf9 hb10 ho10) | (refine wpList_store rfl rfl 37 _ _ rfl (.pointer (some ⟨g7, 1, none⟩)) v9 rfl rfl hr10 ?_))
            go_roundw
            case rel => exact ⟨k + 1, v9, q ++ [(x.1, x.2.1)], by omega, by go_num, HIS2.out, by rw [List.length_append, HQL.out]; rfl, HO9.out.onlyB HX10.out HR9.out (by decide), HV9.out.onlyB HX10.out HR9.out (by decide), HR10.out, HF9.out.onlyQ HX10.out HN47.out, HB9.out.onlyQ HX10.out HN27.out, HW9.out.trans (HX10.out.below (B := w.heap.size) HW9.out.size (fun i hi => by subst hi; exact HG7.out))⟩
            case measure => simp [intOf]; omega
          | true =>
            have HPF := Lib.hid (show pathOf made x.2 = firstP made x.2.2.1 by unfold pathOf; rw [hbb]; rfl)
            clear hbb
            go_wp2_with (first | (with_reducible refine Agg.wpList_loadL HLD.out.inp rfl _ rfl rfl ?_) | (with_reducible refine Agg.wpList_loadL HLX.out rfl _ rfl rfl ?_) | (refine Agg.wpList_new rfl rfl rfl 58 9 50 rfl rfl rfl (by decide) (nmC zN) (nmC x) nmC_zero (by rw [nmC_size, nmC_size]) (nmC_info x) (nmC_one x) rfl (by first | (simp; done) | simp [Act.put]) ?_; intro g9 w6 hb hx hg; have O_6 := Lib.hid (O_5.out.below hx); have V_6 := Lib.hid (V_5.out.below hx); have R7_6 := Lib.hid (R7_5.out.below hx); have R4_6 := Lib.hid (R4_5.out.below hx); have B_6 := Lib.hid (B_5.out.below hx); have X_6 := Lib.hid (Agg.belowThen X_5.out (Nat.le_refl _) hx); have N9_6 := Lib.hid (hb); have HNB := Lib.hid (NamB.of_blk hb); clear hb hx hg O_5 V_5 R7_5 R4_5 B_5 X_5) | (with_reducible refine Agg.wpList_loadL HNB.out.src rfl _ rfl rfl ?_) | (refine Agg.wpList_new rfl rfl rfl 47 10 53 rfl rfl rfl (by decide) (pC z20 []) (pC x.2.1.1.1 x.2.1.1.2) pC_zero (by rw [pC_size, pC_size, x.2.1.2]; rfl) (pC_info _ _ x.2.1.2) (pC_one _ _) rfl (by first | (simp; done) | simp [Act.put]) ?_; intro g10 w7 hb hx hg; have O_7 := Lib.hid (O_6.out.below hx); have V_7 := Lib.hid (V_6.out.below hx); have R7_7 := Lib.hid (R7_6.out.below hx); have R4_7 := Lib.hid (R4_6.out.below hx); have B_7 := Lib.hid (B_6.out.below hx); have X_7 := Lib.hid (Agg.belowThen X_6.out (Nat.le_refl _) hx); have N9_7 := Lib.hid (N9_6.out.below hx); have P10_7 := Lib.hid (hb); have HN7 := Lib.hid (show ¬ g7 = g10 from fun e => by have := R7_6.out.lt; omega); have HN4 := Lib.hid (show ¬ g4 = g10 from fun e => by have := R4_6.out.lt; omega); have HN2 := Lib.hid (show ¬ g2 = g10 from fun e => by have := B_6.out.lt; omega); have HN9 := Lib.hid (show ¬ g9 = g10 from fun e => by have := N9_6.out.lt; omega); have HG10 := Lib.hid (Nat.le_trans X_6.out.size hg); have HNC := Lib.hid (HNB.out.below hx); have HISB := Lib.hid (show LoadsL Try.prog w7 4 (some ⟨g9, 42, none⟩) (.bool true) by have h := HNC.out.is; rw [HBB.out] at h; exact h); clear hb hx hg O_6 V_6 R7_6 R4_6 B_6 X_6 N9_6) | (with_reducible refine Agg.wpList_loadL HISB.out rfl _ rfl rfl ?_) | (with_reducible refine Agg.wpList_loadL HNC.out.cls rfl _ rfl rfl ?_))
            refine (first20_any v made x.2.2.1 hml _ (SliceOf.below HMD.out X_7.out)).mono ?_
            rintro e w8 ⟨rfl, hx⟩
            have O_8 := Lib.hid (O_7.out.below hx)
            have V_8 := Lib.hid (V_7.out.below hx)
            have R7_8 := Lib.hid (R7_7.out.below hx)
            have R4_8 := Lib.hid (R4_7.out.below hx)
            have B_8 := Lib.hid (B_7.out.below hx)
            have X_8 := Lib.hid (Agg.belowThen X_7.out (Nat.le_refl _) hx)
            have N9_8 := Lib.hid (N9_7.out.below hx)
            have P10_8 := Lib.hid (P10_7.out.below hx)
            clear hx  O_7 V_7 R7_7 R4_7 B_7 X_7 N9_7 P10_7
            cases hfp : firstP made x.2.2.1 with
            | none =>
              have HOF := Lib.hid (show ofP d made = (zRv, 5) from ofP_none HCN.out HMN.out (inputsOf_none made HXK.out HIN.out (HPF.out.trans hfp)))
              clear hfp
              go_wp2_with (first | (refine Agg.wpList_new rfl rfl rfl 47 11 63 rfl rfl rfl (by decide) (pC z20 []) (pC zP.1.1 zP.1.2) pC_zero (by rw [pC_size, pC_size, zP.2]; rfl) (pC_info _ _ zP.2) (pC_one _ _) rfl (by first | (simp; done) | simp [Act.put]) ?_; intro g11 w9 hb hx hg; have O_9 := Lib.hid (O_8.out.below hx); have V_9 := Lib.hid (V_8.out.below hx); have R7_9 := Lib.hid (R7_8.out.below hx); have R4_9 := Lib.hid (R4_8.out.below hx); have B_9 := Lib.hid (B_8.out.below hx); have X_9 := Lib.hid (Agg.belowThen X_8.out (Nat.le_refl _) hx); have N9_9 := Lib.hid (N9_8.out.below hx); have P10_9 := Lib.hid (P10_8.out.below hx); have P11_9 := Lib.hid (hb); clear hb hx hg O_8 V_8 R7_8 R4_8 B_8 X_8 N9_8 P10_8) | (with_reducible refine Agg.wpList_build0 39 rfl (by kernel_rfl) (.agg (rsC [] (.slice none 0 0) (.slice none 0 0))) build_rfz ?_) | ((with_reducible refine wpList_put rfl rfl 39 _ _ rfl g4 (rsC [] (.slice none 0 0) (.slice none 0 0)) (rsC [] (.slice none 0 0) (.slice none 0 0)) rfl rfl R4_9.out (rf_info _ _ _) rfl rsC_z ?_); intro w90 hb8 hx8 _ _))
              exact Agg.post_row_tmp rfl rfl rfl hb8 rf_under rfl (by kernel_rfl) rfl ⟨_, _, by rw [HOF.out]; rfl, by rw [HOF.out]; exact Agg.Own.nil _ _ _, by rw [HOF.out]; exact Agg.Own.nil _ _ _, X_9.out.trans (hx8.mono HG4.out)⟩
            | some q1 =>
              have HPO := Lib.hid (HPF.out.trans hfp)
              clear hfp
              have HIS2 := Lib.hid (show inputsOf made (d.2.1.take (k + 1)) = some (q ++ [(x.1, q1)]) by rw [HIS.out, HPO.out])
              go_wp2_with (first | (refine Agg.wpList_new rfl rfl rfl 47 11 63 rfl rfl rfl (by decide) (pC z20 []) (pC q1.1.1 q1.1.2) pC_zero (by rw [pC_size, pC_size, q1.2]; rfl) (pC_info _ _ q1.2) (pC_one _ _) rfl (by first | (simp; done) | simp [Act.put]) ?_; intro g11 w9 hb hx hg; have O_9 := Lib.hid (O_8.out.below hx); have V_9 := Lib.hid (V_8.out.below hx); have R7_9 := Lib.hid (R7_8.out.below hx); have R4_9 := Lib.hid (R4_8.out.below hx); have B_9 := Lib.hid (B_8.out.below hx); have X_9 := Lib.hid (Agg.belowThen X_8.out (Nat.le_refl _) hx); have N9_9 := Lib.hid (N9_8.out.below hx); have P10_9 := Lib.hid (P10_8.out.below hx); have P11_9 := Lib.hid (hb); have HL11 := Lib.hid (Agg.Blk.loads (P := Try.prog) hb pC_under rfl (pC_info _ _ q1.2)); clear hb hx hg O_8 V_8 R7_8 R4_8 B_8 X_8 N9_8 P10_8) | (with_reducible refine Agg.wpList_loadL HL11.out rfl _ rfl rfl ?_) | ((with_reducible refine wpList_put rfl rfl 47 _ _ rfl g10 (pC q1.1.1 q1.1.2) (pC x.2.1.1.1 x.2.1.1.2) rfl rfl P10_9.out (pC_info _ _ q1.2) (by rw [pC_size, pC_size, q1.2, x.2.1.2]) (pC_one _ _) ?_); intro w10 hb8 hx8 hs8 hk8; have ho8 : Only (· = g10) w9 w10 := ⟨hx8.os, hx8.tape, hx8.output, by rw [hs8]; exact Nat.le_refl _, fun k _ hk => hk8 k hk⟩; have O_10 := Lib.hid (Agg.Own.onlyB O_9.out ho8 P10_9.out (by decide)); have V_10 := Lib.hid (Agg.Own.onlyB V_9.out ho8 P10_9.out (by decide)); have R7_10 := Lib.hid (Agg.Blk.onlyQ R7_9.out ho8 HN7.out); have R4_10 := Lib.hid (Agg.Blk.onlyQ R4_9.out ho8 HN4.out); have B_10 := Lib.hid (Agg.Blk.onlyQ B_9.out ho8 HN2.out); have N9_10 := Lib.hid (Agg.Blk.onlyQ N9_9.out ho8 HN9.out); have P10_10 := Lib.hid hb8; have X_10 := Lib.hid (X_9.out.trans (hx8.mono HG10.out)); have HLR := Lib.hid (RfB.of_blk R7_10.out); have HLN := Lib.hid (NamB.of_blk N9_10.out); have HLP := Lib.hid (Agg.Blk.loads (P := Try.prog) P10_10.out pC_under rfl (pC_info _ _ q1.2)); clear hb8 hx8 hs8 hk8 ho8 O_9 V_9 R7_9 R4_9 B_9 X_9 N9_9 P10_9 P11_9) | (with_reducible refine Agg.wpList_loadL HLR.out.inp rfl _ rfl rfl ?_) | (with_reducible refine Agg.wpList_loadL HLN.out.name rfl _ rfl rfl ?_) | (with_reducible refine Agg.wpList_loadL HLP.out rfl _ rfl rfl ?_) | (refine Agg.wpList_build2 85 0 _ 1 _ rfl rfl (.string ⟨x.1.toArray⟩) (.agg (pC q1.1.1 q1.1.2)) rfl rfl (.agg (riC (x.1, q1))) (build_rinf x.1 q1) ?_) | (refine Agg.wpList_push (E := ERf) (base := w.heap.size) rfl rfl 75 rfl _ rfl _ rfl (x.1, q1) rfl (fun _ => rfl) (by first | (simp; done) | simp [Act.put]) O_10.out (by rw [HQL.out]; omega) (by decide) X_10.out.size ?_; intro u5 v9 w9 ho9 hp9; have HR9 := Lib.hid (R7_10.out.pushedB hp9 (by decide)); have HF9 := Lib.hid (R4_10.out.pushedB hp9 (by decide)); have HB9 := Lib.hid (B_10.out.pushedB hp9 (by decide)); have HV9 := Lib.hid (Agg.Own.keepT V_10.out fun g cur fr hg => hp9.blk g _ _ _ (by decide) hg); have HO9 := Lib.hid ho9; have HW9 := Lib.hid (X_10.out.trans (hp9.below w.heap.size (Nat.le_refl _) X_10.out.size)); obtain ⟨p9, c9, hf9⟩ := ho9.slice.form; obtain ⟨w10, hr10, hb10, ho10⟩ := Blk.run_one (P := Try.prog) (ty := 37) HR9.out 1 (rsC_lt _ _ _ _ (by decide)) v9 (by rw [hf9]; rfl) (by rw [hf9]; rfl) (by kernel_rfl) (rsC d.1 v9 vb) rfl; have HR10 := Lib.hid hb10; have HX10 := Lib.hid ho10; clear ho9 hp9 hf9 hb10 ho10) | (refine wpList_store rfl rfl 37 _ _ rfl (.pointer (some ⟨g7, 1, none⟩)) v9 rfl rfl hr10 ?_))
              go_roundw
              case rel => exact ⟨k + 1, v9, q ++ [(x.1, q1)], by omega, by go_num, HIS2.out, by rw [List.length_append, HQL.out]; rfl, HO9.out.onlyB HX10.out HR9.out (by decide), HV9.out.onlyB HX10.out HR9.out (by decide), HR10.out, HF9.out.onlyQ HX10.out HN47.out, HB9.out.onlyQ HX10.out HN27.out, HW9.out.trans (HX10.out.below (B := w.heap.size) HW9.out.size (fun i hi => by subst hi; exact HG7.out))⟩
              case measure => simp [intOf]; omega
        · obtain rfl : k = d.2.1.length := by omega
          have hd1 : decide ((d.2.1.length : Int) < (d.2.1.length : Int)) = false := by simp
          have HRR := Lib.hid (show ofP d made = ((d.1, q, d.2.2), 0) from ofP_some HCN.out HMN.out (by have := HIN.out; rwa [List.take_length] at this))
          have HL7 := Lib.hid (RfB.of_blk R7_5.out)
          go_wp2_with (first | (with_reducible refine Agg.wpList_loadL HLD.out.inp rfl _ rfl rfl ?_) | (with_reducible refine Agg.wpList_loadL HL7.out.all rfl _ rfl rfl ?_) | ((with_reducible refine wpList_put rfl rfl 39 _ _ rfl g4 (rsC d.1 vi vb) (rsC [] (.slice none 0 0) (.slice none 0 0)) rfl rfl R4_5.out (rf_info _ _ _) (rsC_ss _ _ _ _ _ _) (by obtain ⟨p1, c1, e1⟩ := O_5.out.slice.form; obtain ⟨p2, c2, e2⟩ := V_5.out.slice.form; rw [e1, e2]; simp [rsC, Value.oneCell']) ?_); intro w8 hb8 hx8 hs8 hk8))
          have ho8 : Only (· = g4) w5 w8 := ⟨hx8.os, hx8.tape, hx8.output, by rw [hs8]; exact Nat.le_refl _, fun k _ hk => hk8 k hk⟩
          refine Agg.post_row_tmp rfl rfl rfl hb8 rf_under rfl (by kernel_rfl) rfl ⟨vi, vb, ?_, ?_, ?_, X_5.out.trans (hx8.mono HG4.out)⟩
          · rw [HRR.out]; rfl
          · rw [HRR.out]; exact O_5.out.onlyB ho8 R4_5.out (by decide)
          · rw [HRR.out]; exact (V_5.out.onlyB ho8 R4_5.out (by decide)).lower HX3.out.size
end Go.Proofs.Ytgekpghjlhcpkaa
