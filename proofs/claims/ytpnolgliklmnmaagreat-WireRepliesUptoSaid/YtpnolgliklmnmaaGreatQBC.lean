/- spencekit.ApartBytes. (Several texts in one.) -/
import Derived.Test.YtpnolgliklmnmaaGreatQAS
import Derived.Test.YtpnolgliklmnmaaGreatQAL
import Derived.Test.YtpnolgliklmnmaaGreatQAR
import Derived.Test.YtpnolgliklmnmaaGreatQAV
import Derived.Test.YtpnolgliklmnmaaGreatQAZ
import Derived.Test.YtpnolgliklmnmaaGreatQAE
import Derived.Test.YtpnolgliklmnmaaGreatQAA
/-! wire.GetReply of any bytes. -/
namespace Go.Proofs.YtpnolgliklmnmaaGreat
open Go.RowKit Pl Go.Agg
set_option maxRecDepth 100000 in
set_option maxHeartbeats 4000000 in
theorem rgetp_any (v : Value) (b : List UInt8) (m0 : Int) (w : World) (hl : b.length ≤ 16777216) (hm : w.cell? ⟨0, 0, none⟩ = some (.int .i64 m0)) (hb : BytesAt w v b) :
    Calls Tryz.prog 24 #[v] w fun x w' => ∃ pv, x = .returned (.tuple #[.agg (rpG (rpOut b).e (rpOut b).ph (rpOut b).pn (rpOut b).ch (rpOut b).g pv (rpOut b).m), .int .i64 (rpErr b : Int)]) ∧ Own E20 w.heap.size w' pv (rpOut b).l ∧ Below w.heap.size w w' := by
  obtain ⟨e, s1, q1⟩ : ∃ k s, sNum 63 (some b) = (k, s) := ⟨_, _, rfl⟩
  obtain ⟨g, s2, q2⟩ : ∃ k s, sNum 1099511627776 s1 = (k, s) := ⟨_, _, rfl⟩
  obtain ⟨m, s3, q3⟩ : ∃ k s, sNum 1099511627776 s2 = (k, s) := ⟨_, _, rfl⟩
  obtain ⟨t, s4, q4⟩ : ∃ k s, sText 57 s3 = (k, s) := ⟨_, _, rfl⟩
  obtain ⟨ch, s5, q5⟩ : ∃ k s, sHash s4 = (k, s) := ⟨_, _, rfl⟩
  obtain ⟨n, s6, q6⟩ : ∃ k s, sNum 2000 s5 = (k, s) := ⟨_, _, rfl⟩
  have h0 : stLen (some b) ≤ 16777216 := hl
  have h1 : stLen s1 ≤ 16777216 := by have := sNum_len 63 (some b); rw [q1] at this; exact Nat.le_trans this h0
  have h2 : stLen s2 ≤ 16777216 := by have := sNum_len 1099511627776 s1; rw [q2] at this; exact Nat.le_trans this h1
  have h3 : stLen s3 ≤ 16777216 := by have := sNum_len 1099511627776 s2; rw [q3] at this; exact Nat.le_trans this h2
  have h4 : stLen s4 ≤ 16777216 := by have := sText_len 57 s3; rw [q4] at this; exact Nat.le_trans this h3
  have h5 : stLen s5 ≤ 16777216 := by have := sHash_len s4; rw [q5] at this; exact Nat.le_trans this h4
  have h6 : stLen s6 ≤ 16777216 := by have := sNum_len 2000 s5; rw [q6] at this; exact Nat.le_trans this h5
  have hn : n ≤ 2000 := by have := sNum_le 2000 s5; rw [q6] at this; exact this
  have HCL := Lib.hid (show ch.length = 20 by have := sHash_length s4; rw [q5] at this; exact this)
  have HPL := Lib.hid (parseH_length t)
  have HQ1 := Lib.hid q1
  have HQ2 := Lib.hid q2
  have HQ3 := Lib.hid q3
  have HQ4 := Lib.hid q4
  have HQ5 := Lib.hid q5
  have HQ6 := Lib.hid q6
  have HM := Lib.hid hm
  have HBY := Lib.hid hb
  clear q1 q2 q3 q4 q5 q6 hm hb
  go_enter Tryz.func24, Tryz.ntmps24
  go_wp2_with (first | (with_reducible refine Agg.wpList_zero rfl 46 rfl (rpG 0 z20 [] z20 0 (.slice none 0 0) 0) rp_zero ?_; intro gr w1 hb1 hx1 hgr; have hlt1 := hb1.lt; have HB1 := Lib.hid hb1; have HX1 := Lib.hid hx1; clear hb1 hx1))
  refine (over_any v b _ hl (HBY.out.below HX1.out)).mono ?_
  rintro x w2 ⟨gc, v2, rfl, hgc, hcu, hx2⟩
  have HC2 := Lib.hid (CuS.good hcu)
  have hltc := hcu.blk.lt
  have HB2 := Lib.hid (HB1.out.below hx2)
  have HK2 := Lib.hid (Agg.belowThen HX1.out (Nat.le_refl _) hx2)
  have hs1 := HX1.out.size
  have hs2 := hx2.size
  clear hcu hx2
  go_wp2_with (first | (with_reducible refine Agg.wpList_build1 89 0 _ rfl rfl (.pointer (some ⟨gc, 0, none⟩)) rfl (.agg (gtC gc false)) (gt_build gc) ?_) | (with_reducible refine Agg.wpList_box rfl 89 _ rfl (gtC gc false) rfl ?_; intro gg w3 hb3 hx3 hgg; have HS3 := Lib.hid (⟨⟨hb3, HC2.out.below hx3⟩, HB2.out.below hx3, Agg.belowThen HK2.out (Nat.le_refl _) hx3, by omega, by omega, hgr, by omega, by omega⟩ : GeS 46 w w1.heap.size gr gg gc w3 (some b) false (rpG 0 z20 [] z20 0 (.slice none 0 0) 0)); clear hb3 hx3))
  have hcell : w3.cell? ⟨gg, 0, none⟩ = some (.pointer (some ⟨gc, 0, none⟩)) := by rw [HS3.out.gt.blk.cell]; rfl
  go_region_held3 (fun w' => w'.cell? ⟨gg, 0, none⟩ = some (.pointer (some ⟨gc, 0, none⟩))) (first | assumption | go_keep)
    (first
      | (go_at_call 52; refine (snum_any w1.heap.size gc 63 (some b) _ h0 (by omega) (HS3.out.later ((Below.refl _ _).drew)).gt.cur).mono ?_; rintro x w4 ⟨rfl, hc, ho⟩; rw [HQ1.out] at hc ⊢; have HS4 := Lib.hid ((HS3.out.later ((Below.refl _ _).drew)).step ho hc); have hcellw4 : w4.cell? ⟨gg, 0, none⟩ = some (.pointer (some ⟨gc, 0, none⟩)) := (by rw [HS4.out.gt.blk.cell]; rfl); clear hc ho HS3)
      | (go_at_call 52; refine (snum_40 w1.heap.size gc s1 _ h1 HS4.out.gt.cur).mono ?_; rintro x w5 ⟨rfl, hc, ho⟩; rw [HQ2.out] at hc ⊢; have HS5 := Lib.hid (HS4.out.step ho hc); have hcellw5 : w5.cell? ⟨gg, 0, none⟩ = some (.pointer (some ⟨gc, 0, none⟩)) := (by rw [HS5.out.gt.blk.cell]; rfl); clear hc ho HS4)
      | (go_at_call 52; refine (snum_40 w1.heap.size gc s2 _ h2 HS5.out.gt.cur).mono ?_; rintro x w6 ⟨rfl, hc, ho⟩; rw [HQ3.out] at hc ⊢; have HS6 := Lib.hid (HS5.out.step ho hc); have hcellw6 : w6.cell? ⟨gg, 0, none⟩ = some (.pointer (some ⟨gc, 0, none⟩)) := (by rw [HS6.out.gt.blk.cell]; rfl); clear hc ho HS5; have hst0 := HS6.out.cellR 0 (v := .int .i64 0) (by unfold rpG; rw [Array.getElem?_append_left (by simp)]; rfl); have hc0 := hst0.1; have hf0 := hst0.2; clear hst0; have HS7 := Lib.hid (HS6.out.setR 0 (.int .i64 (e : Int)) (rpG e z20 [] z20 0 (.slice none 0 0) 0) (by simp [rpG]) (by decide) (by decide) (by decide)); have hcell0 : (w6.setCell ⟨gr, 0, none⟩ (.int .i64 (e : Int))).cell? ⟨gg, 0, none⟩ = some (.pointer (some ⟨gc, 0, none⟩)) := (by rw [HS7.out.gt.blk.cell]; rfl); clear HS6; have hst42 := HS7.out.cellR 42 (v := .int .i64 0) ((rpG_tail z20_length z20_length 0).trans rfl); have hc42 := hst42.1; have hf42 := hst42.2; clear hst42; have HS8 := Lib.hid (HS7.out.setR 42 (.int .i64 (g : Int)) (rpG e z20 [] z20 g (.slice none 0 0) 0) (rpG_set z20_length z20_length 0 _) (by decide) (by decide) (by decide)); have hcell42 : ((w6.setCell ⟨gr, 0, none⟩ (.int .i64 (e : Int))).setCell ⟨gr, 42, none⟩ (.int .i64 (g : Int))).cell? ⟨gg, 0, none⟩ = some (.pointer (some ⟨gc, 0, none⟩)) := (by rw [HS8.out.gt.blk.cell]; rfl); clear HS7; have hst44 := HS8.out.cellR 44 (v := .int .i64 0) ((rpG_tail z20_length z20_length 2).trans rfl); have hc44 := hst44.1; have hf44 := hst44.2; clear hst44; have HS9 := Lib.hid (HS8.out.setR 44 (.int .i64 (m : Int)) (rpG e z20 [] z20 g (.slice none 0 0) m) (rpG_set z20_length z20_length 2 _) (by decide) (by decide) (by decide)); have hcell44 : (((w6.setCell ⟨gr, 0, none⟩ (.int .i64 (e : Int))).setCell ⟨gr, 42, none⟩ (.int .i64 (g : Int))).setCell ⟨gr, 44, none⟩ (.int .i64 (m : Int))).cell? ⟨gg, 0, none⟩ = some (.pointer (some ⟨gc, 0, none⟩)) := (by rw [HS9.out.gt.blk.cell]; rfl); clear HS8))
  clear hcell hcellw4 hcellw5 hcellw6 hcell0 hcell42 hcell44 hc0 hf0 hc42 hf42 hc44 hf44
  go_wp2_with fail
  refine (gpath_any w1.heap.size gg gc s3 false m0 _ h3 (HS9.out.cell HM.out) HS9.out.gt).mono ?_
  rintro x w10 ⟨rfl, hg, ho⟩
  rw [HQ4.out] at hg ⊢
  rw [Bool.false_or] at hg
  have HS10 := Lib.hid (HS9.out.stepG ho (fun _ h => h) hg)
  clear hg ho HS9
  go_wp2_with fail
  refine (ghash_any w1.heap.size gg gc s4 _ _ h4 HS10.out.gt).mono ?_
  rintro x w11 ⟨rfl, hg, ho⟩
  rw [HQ5.out] at hg ⊢
  have HS11 := Lib.hid (HS10.out.stepG ho (fun _ h => .inl h) hg)
  clear hg ho HS10
  go_wp2_with (first | (obtain ⟨w12, hrun, hb, ho⟩ := rpB_path HS11.out.blk z20_length (parseH t) (parseN t) HPL.out; refine Agg.wpList_store rfl rfl 27 _ _ rfl (.pointer (some ⟨gr, 1, none⟩)) _ rfl rfl hrun ?_; have HS12 := Lib.hid (HS11.out.store hb ho (by decide) (by decide) (by decide)); clear hb ho hrun HS11) | (obtain ⟨w13, hrun, hb, ho⟩ := rpB_class HS12.out.blk HPL.out z20_length ch HCL.out; refine Agg.wpList_store rfl rfl 25 _ _ rfl (.pointer (some ⟨gr, 22, none⟩)) _ rfl rfl hrun ?_; have HS13 := Lib.hid (HS12.out.store hb ho (by decide) (by decide) (by decide)); clear hb ho hrun HS12) | (with_reducible refine Agg.wpList_loadL HS13.out.gt.ptr rfl _ rfl rfl ?_))
  refine (snum_any w1.heap.size gc 2000 s5 _ h5 (by omega) HS13.out.gt.cur).mono ?_
  rintro x w14 ⟨rfl, hc, ho⟩
  rw [HQ6.out] at hc ⊢
  have HS14 := Lib.hid (HS13.out.step ho hc)
  clear hc ho HS13
  go_wp2_with fail
  go_loopw [38] (fun i wr => ∃ k : Nat, ∃ pv : Value, k ≤ n ∧ i = .int .i64 k ∧ GeS 46 w w1.heap.size gr gg gc wr (sTexts k s6).2 (textOdd t || (sTexts k s6).1.any textOdd) (rpG e (parseH t) (parseN t) ch g pv m) ∧ Own E20 w.heap.size wr pv ((sTexts k s6).1.map textP)) (fun i _ => n - (intOf i).toNat)
  case atStart => exact ⟨0, .slice none 0 0, by omega, rfl, by simpa [sTexts] using HS14.out, by simpa [sTexts] using Own.nil E20 _ _⟩
  case round =>
    clear HS14
    obtain ⟨wr1, rfl⟩ : ∃ x : World, x = wr := ⟨_, rfl⟩
    obtain ⟨k, pv, hk, rfl, hs, ho⟩ := hrel
    obtain ⟨ts, s', hts⟩ : ∃ a c, sTexts k s6 = (a, c) := ⟨_, _, rfl⟩
    have hsn := sTexts_snoc k s6
    have hln := sTexts_len k s6
    rw [hts] at hs ho hsn hln
    obtain ⟨od, hod⟩ : ∃ x, (textOdd t || ts.any textOdd) = x := ⟨_, rfl⟩
    rw [show (textOdd t || (ts, s').1.any textOdd) = od from hod] at hs
    have hlt1 : ts.length = k := hln.1
    have hls : stLen s' ≤ 16777216 := Nat.le_trans hln.2 h6
    have HS := Lib.hid hs
    have HO := Lib.hid ho
    have HTS := Lib.hid hts
    have HOD := Lib.hid hod
    have HSN := Lib.hid hsn
    clear hs ho hts hsn hln hod
    by_cases hlt : k < n
    · obtain ⟨t', s'', hk'⟩ : ∃ a c, sText 57 s' = (a, c) := ⟨_, _, rfl⟩
      have HSN' := Lib.hid (show sTexts (k + 1) s6 = (ts ++ [t'], s'') by rw [HSN.out, hk'])
      have HQ := Lib.hid hk'
      have HPL' := Lib.hid (textP t').2
      have hc1 := (HS.out.cellR 43 (v := pv) ((rpG_tail HPL.out HCL.out 1).trans rfl)).1
      have h63 : (ts.map textP).length + [textP t'].length ≤ 1099511627776 / 8 := by rw [List.length_map, hlt1]; simp; omega
      have HEN := Lib.hid (enters_of Tryz.func54 (by kernel_rfl) rfl : ∀ args w, (callFunc 54 args).run Tryz.prog w = .ok (.enter 54 args) w)
      have HSD := Lib.hid (HS.out.later ((Below.refl _ _).drew))
      have HOD1 := Lib.hid (HO.out.below ((Below.refl _ _).drew))
      have HLDa := Lib.hid (RpG.of_blk HSD.out.blk HPL.out HCL.out).paths.now
      clear hk' hc1
      go_wp2_with fail
      refine wp_region_any (by kernel_rfl) ?_
      refine Agg.any_take 0 (.pointer (some ⟨gr, 43, none⟩)) rfl (by kernel_rfl) (fun _ _ _ h => h) rfl (fun W => by kernel_rfl) ?_
      try simp only [Act.put, List.setIfInBounds_toArray, List.set_cons_succ, List.set_cons_zero]
      refine Agg.any_take 2 (.pointer (some ⟨gg, 0, none⟩)) rfl (by kernel_rfl) (fun _ _ _ h => h) rfl (fun W => by kernel_rfl) ?_
      try simp only [Act.put, List.setIfInBounds_toArray, List.set_cons_succ, List.set_cons_zero]
      refine Agg.any_ready [1, 3] (by kernel_rfl) (by simp) ?_
      refine Agg.any_cons rfl ?_ ?_
      · refine Agg.step_load rfl 44 _ rfl _ pv rfl HLDa.out ?_
        try simp only [Act.put, List.setIfInBounds_toArray, List.set_cons_succ, List.set_cons_zero]
        refine Agg.any_ready [3] (by kernel_rfl) (by simp) ?_
        refine Agg.any_cons rfl ?_ ?_
        · refine Agg.step_call rfl 54 _ _ rfl #[.pointer (some ⟨gg, 0, none⟩)] (by simp only [List.map_toArray, List.map_cons, List.map_nil]; rfl) (fun W => HEN.out _ W) ?_
          refine (gpath_any w1.heap.size gg gc s' od m0 _ hls (HSD.out.cell HM.out) HSD.out.gt).mono ?_
          rintro x w2 ⟨rfl, hg, ho⟩
          rw [HQ.out] at hg ⊢
          have HS2 := Lib.hid (HSD.out.stepG ho (fun _ h => h) hg)
          have HO2 := Lib.hid (paths_keepG HOD1.out HSD.out ho (fun _ h => h))
          have HLDb := Lib.hid (RpG.of_blk HS2.out.blk HPL.out HCL.out).paths.now
          refine ⟨_, rfl, ?_⟩
          try simp only [Act.put, List.setIfInBounds_toArray, List.set_cons_succ, List.set_cons_zero]
          refine Agg.any_ready [4] (by kernel_rfl) (by simp) ?_
          refine Agg.any_cons rfl ?_ ?_
          · refine Agg.step_slice1 (E := E20) rfl _ rfl (textP t') rfl ?_
            intro x3 w3 hx3 hb3
            have HS3 := Lib.hid (HS2.out.later hb3)
            have HO3 := Lib.hid (HO2.out.below hb3)
            have HX3 := Lib.hid hx3.slice
            have HLDc := Lib.hid (RpG.of_blk HS3.out.blk HPL.out HCL.out).paths.now
            try simp only [Act.put, List.setIfInBounds_toArray, List.set_cons_succ, List.set_cons_zero]
            refine Agg.any_ready [5] (by kernel_rfl) (by simp) ?_
            refine Agg.any_cons rfl ?_ ?_
            · refine Agg.step_appendS (E := E20) (base := w.heap.size) rfl _ _ rfl x3 rfl rfl [textP t'] HO3.out HX3.out h63 (by decide) HS3.out.below.size ?_
              intro v4 w4 ho4 hp4
              have HS4 := Lib.hid (HS3.out.pushed hp4 (by decide))
              have HO4 := Lib.hid ho4
              try simp only [Act.put, List.setIfInBounds_toArray, List.set_cons_succ, List.set_cons_zero]
              refine Agg.any_take 6 (.pointer (some ⟨gr, 43, none⟩)) rfl (by kernel_rfl) (fun _ _ _ h => h) rfl (fun W => by kernel_rfl) ?_
              try simp only [Act.put, List.setIfInBounds_toArray, List.set_cons_succ, List.set_cons_zero]
              refine Agg.any_ready [7] (by kernel_rfl) (by simp) ?_
              refine Agg.any_cons rfl ?_ ?_
              · obtain ⟨w5, hrun, hb5, ho5⟩ := rpB_paths HS4.out.blk HPL.out HCL.out v4 (elems_cell HO4.out.slice).1 (elems_cell HO4.out.slice).2
                refine Agg.step_store rfl rfl 44 _ _ rfl (.pointer (some ⟨gr, 43, none⟩)) _ rfl rfl hrun ?_
                have HS5 := Lib.hid (HS4.out.store hb5 ho5 (by decide) (by decide) (by decide))
                have HO5 := Lib.hid (paths_keepR HO4.out HS4.out ho5 (by decide))
                clear hrun hb5 ho5
                try simp only [Act.put, List.setIfInBounds_toArray, List.set_cons_succ, List.set_cons_zero]
                refine Agg.any_end (by kernel_rfl) ?_
                go_wp2_with fail
                go_roundw
                case rel => exact ⟨k + 1, v4, by omega, by go_num, by rw [HSN'.out]; have h := HS5.out; rw [← HOD.out, Bool.or_assoc] at h; simpa [List.any_append] using h, by rw [HSN'.out]; simpa using HO5.out⟩
                case measure => simp [intOf]; omega
              exact AllReady.nil
            exact AllReady.nil
          exact AllReady.nil
        exact AllReady.nil
      refine Agg.any_cons rfl ?_ ?_
      · refine Agg.step_call rfl 54 _ _ rfl #[.pointer (some ⟨gg, 0, none⟩)] (by simp only [List.map_toArray, List.map_cons, List.map_nil]; rfl) (fun W => HEN.out _ W) ?_
        refine (gpath_any w1.heap.size gg gc s' od m0 _ hls (HSD.out.cell HM.out) HSD.out.gt).mono ?_
        rintro x w2 ⟨rfl, hg, ho⟩
        rw [HQ.out] at hg ⊢
        have HS2 := Lib.hid (HSD.out.stepG ho (fun _ h => h) hg)
        have HO2 := Lib.hid (paths_keepG HOD1.out HSD.out ho (fun _ h => h))
        have HLDb := Lib.hid (RpG.of_blk HS2.out.blk HPL.out HCL.out).paths.now
        refine ⟨_, rfl, ?_⟩
        try simp only [Act.put, List.setIfInBounds_toArray, List.set_cons_succ, List.set_cons_zero]
        refine Agg.any_ready [1, 4] (by kernel_rfl) (by simp) ?_
        refine Agg.any_cons rfl ?_ ?_
        · refine Agg.step_load rfl 44 _ rfl _ pv rfl HLDb.out ?_
          try simp only [Act.put, List.setIfInBounds_toArray, List.set_cons_succ, List.set_cons_zero]
          refine Agg.any_ready [4] (by kernel_rfl) (by simp) ?_
          refine Agg.any_cons rfl ?_ ?_
          · refine Agg.step_slice1 (E := E20) rfl _ rfl (textP t') rfl ?_
            intro x3 w3 hx3 hb3
            have HS3 := Lib.hid (HS2.out.later hb3)
            have HO3 := Lib.hid (HO2.out.below hb3)
            have HX3 := Lib.hid hx3.slice
            have HLDc := Lib.hid (RpG.of_blk HS3.out.blk HPL.out HCL.out).paths.now
            try simp only [Act.put, List.setIfInBounds_toArray, List.set_cons_succ, List.set_cons_zero]
            refine Agg.any_ready [5] (by kernel_rfl) (by simp) ?_
            refine Agg.any_cons rfl ?_ ?_
            · refine Agg.step_appendS (E := E20) (base := w.heap.size) rfl _ _ rfl x3 rfl rfl [textP t'] HO3.out HX3.out h63 (by decide) HS3.out.below.size ?_
              intro v4 w4 ho4 hp4
              have HS4 := Lib.hid (HS3.out.pushed hp4 (by decide))
              have HO4 := Lib.hid ho4
              try simp only [Act.put, List.setIfInBounds_toArray, List.set_cons_succ, List.set_cons_zero]
              refine Agg.any_take 6 (.pointer (some ⟨gr, 43, none⟩)) rfl (by kernel_rfl) (fun _ _ _ h => h) rfl (fun W => by kernel_rfl) ?_
              try simp only [Act.put, List.setIfInBounds_toArray, List.set_cons_succ, List.set_cons_zero]
              refine Agg.any_ready [7] (by kernel_rfl) (by simp) ?_
              refine Agg.any_cons rfl ?_ ?_
              · obtain ⟨w5, hrun, hb5, ho5⟩ := rpB_paths HS4.out.blk HPL.out HCL.out v4 (elems_cell HO4.out.slice).1 (elems_cell HO4.out.slice).2
                refine Agg.step_store rfl rfl 44 _ _ rfl (.pointer (some ⟨gr, 43, none⟩)) _ rfl rfl hrun ?_
                have HS5 := Lib.hid (HS4.out.store hb5 ho5 (by decide) (by decide) (by decide))
                have HO5 := Lib.hid (paths_keepR HO4.out HS4.out ho5 (by decide))
                clear hrun hb5 ho5
                try simp only [Act.put, List.setIfInBounds_toArray, List.set_cons_succ, List.set_cons_zero]
                refine Agg.any_end (by kernel_rfl) ?_
                go_wp2_with fail
                go_roundw
                case rel => exact ⟨k + 1, v4, by omega, by go_num, by rw [HSN'.out]; have h := HS5.out; rw [← HOD.out, Bool.or_assoc] at h; simpa [List.any_append] using h, by rw [HSN'.out]; simpa using HO5.out⟩
                case measure => simp [intOf]; omega
              exact AllReady.nil
            exact AllReady.nil
          exact AllReady.nil
        refine Agg.any_cons rfl ?_ ?_
        · refine Agg.step_slice1 (E := E20) rfl _ rfl (textP t') rfl ?_
          intro x3 w3 hx3 hb3
          have HS3 := Lib.hid (HS2.out.later hb3)
          have HO3 := Lib.hid (HO2.out.below hb3)
          have HX3 := Lib.hid hx3.slice
          have HLDc := Lib.hid (RpG.of_blk HS3.out.blk HPL.out HCL.out).paths.now
          try simp only [Act.put, List.setIfInBounds_toArray, List.set_cons_succ, List.set_cons_zero]
          refine Agg.any_ready [1] (by kernel_rfl) (by simp) ?_
          refine Agg.any_cons rfl ?_ ?_
          · refine Agg.step_load rfl 44 _ rfl _ pv rfl HLDc.out ?_
            try simp only [Act.put, List.setIfInBounds_toArray, List.set_cons_succ, List.set_cons_zero]
            refine Agg.any_ready [5] (by kernel_rfl) (by simp) ?_
            refine Agg.any_cons rfl ?_ ?_
            · refine Agg.step_appendS (E := E20) (base := w.heap.size) rfl _ _ rfl x3 rfl rfl [textP t'] HO3.out HX3.out h63 (by decide) HS3.out.below.size ?_
              intro v4 w4 ho4 hp4
              have HS4 := Lib.hid (HS3.out.pushed hp4 (by decide))
              have HO4 := Lib.hid ho4
              try simp only [Act.put, List.setIfInBounds_toArray, List.set_cons_succ, List.set_cons_zero]
              refine Agg.any_take 6 (.pointer (some ⟨gr, 43, none⟩)) rfl (by kernel_rfl) (fun _ _ _ h => h) rfl (fun W => by kernel_rfl) ?_
              try simp only [Act.put, List.setIfInBounds_toArray, List.set_cons_succ, List.set_cons_zero]
              refine Agg.any_ready [7] (by kernel_rfl) (by simp) ?_
              refine Agg.any_cons rfl ?_ ?_
              · obtain ⟨w5, hrun, hb5, ho5⟩ := rpB_paths HS4.out.blk HPL.out HCL.out v4 (elems_cell HO4.out.slice).1 (elems_cell HO4.out.slice).2
                refine Agg.step_store rfl rfl 44 _ _ rfl (.pointer (some ⟨gr, 43, none⟩)) _ rfl rfl hrun ?_
                have HS5 := Lib.hid (HS4.out.store hb5 ho5 (by decide) (by decide) (by decide))
                have HO5 := Lib.hid (paths_keepR HO4.out HS4.out ho5 (by decide))
                clear hrun hb5 ho5
                try simp only [Act.put, List.setIfInBounds_toArray, List.set_cons_succ, List.set_cons_zero]
                refine Agg.any_end (by kernel_rfl) ?_
                go_wp2_with fail
                go_roundw
                case rel => exact ⟨k + 1, v4, by omega, by go_num, by rw [HSN'.out]; have h := HS5.out; rw [← HOD.out, Bool.or_assoc] at h; simpa [List.any_append] using h, by rw [HSN'.out]; simpa using HO5.out⟩
                case measure => simp [intOf]; omega
              exact AllReady.nil
            exact AllReady.nil
          exact AllReady.nil
        exact AllReady.nil
      exact AllReady.nil
    · obtain rfl : k = n := by omega
      have HS15 := Lib.hid HS.out
      have HPO := Lib.hid HO.out
      clear hlt
      go_wp2_with fail
      refine (gok_any w1.heap.size gg gc s' od _ HS15.out.gt).mono ?_
      rintro x wk ⟨rfl, rfl⟩
      have HG := Lib.hid (getRp_parts HQ1.out HQ2.out HQ3.out HQ4.out HQ5.out HQ6.out HTS.out)
      have hnl : (ts.map textP).length ≤ 1048576 := by rw [List.length_map, hlt1]; omega
      obtain ⟨ok, hok⟩ : ∃ x, (decide (s' = some []) && !od) = x := ⟨_, rfl⟩
      rw [hok]
      have HOK := Lib.hid hok
      clear hok
      cases ok with
      | false =>
        have HN := Lib.hid (show getRp b = none from by
          have h := HOK.out
          rw [HG.out, if_neg]
          rintro ⟨h1, h2, _⟩
          rw [HOD.out] at h2
          simp only [h1, h2, decide_true, Bool.not_false, Bool.and_true, reduceCtorEq] at h)
        go_wp2_with (first | (with_reducible refine Agg.wpList_build0 46 rfl rfl (.agg (rpG 0 z20 [] z20 0 (.slice none 0 0) 0)) rp_build0 ?_) | (refine Agg.wpList_put rfl rfl 46 _ _ rfl gr (rpG 0 z20 [] z20 0 (.slice none 0 0) 0) _ rfl rfl HS15.out.blk (rp_info z20_length z20_length) (by rw [rpG_size HPL.out HCL.out, rpG_size z20_length z20_length]) (by kernel_rfl) ?_; intro w90 hb90 hx90 hs90 hk90))
        have hx := HS15.out.below.trans (hx90.mono HS15.out.gr_ge)
        refine Agg.post_row_tmp rfl rfl rfl hb90 rp_under rfl (rp_info z20_length z20_length) rfl ⟨.slice none 0 0, ?_, ?_, hx⟩
        · rw [(rpOut_none HN.out).1, (rpOut_none HN.out).2]; rfl
        · rw [(rpOut_none HN.out).1]; exact Own.nil _ _ _
      | true =>
        go_wp2_with (first | (with_reducible refine Agg.wpList_loadL (RpG.of_blk HS15.out.blk HPL.out HCL.out).all rfl _ rfl rfl ?_))
        refine (rright_any e g m (parseH t) (parseN t) ch pv (ts.map textP) HPL.out HCL.out hnl _ HPO.out.slice).mono ?_
        rintro x w91 ⟨rfl, hx91⟩
        have HS91 := Lib.hid (HS15.out.later hx91)
        have HO91 := Lib.hid (HPO.out.below hx91)
        clear hx91
        cases hr : Rp.right ⟨e, parseH t, parseN t, ch, g, ts.map textP, m⟩ with
        | false =>
          have HN := Lib.hid (show getRp b = none from by
            rw [HG.out, if_neg]
            rintro ⟨_, _, h3⟩
            rw [hr] at h3
            exact absurd h3 (by decide))
          go_wp2_with (first | (with_reducible refine Agg.wpList_build0 46 rfl rfl (.agg (rpG 0 z20 [] z20 0 (.slice none 0 0) 0)) rp_build0 ?_) | (refine Agg.wpList_put rfl rfl 46 _ _ rfl gr (rpG 0 z20 [] z20 0 (.slice none 0 0) 0) _ rfl rfl HS91.out.blk (rp_info z20_length z20_length) (by rw [rpG_size HPL.out HCL.out, rpG_size z20_length z20_length]) (by kernel_rfl) ?_; intro w90 hb90 hx90 hs90 hk90))
          have hx := HS91.out.below.trans (hx90.mono HS91.out.gr_ge)
          refine Agg.post_row_tmp rfl rfl rfl hb90 rp_under rfl (rp_info z20_length z20_length) rfl ⟨.slice none 0 0, ?_, ?_, hx⟩
          · rw [(rpOut_none HN.out).1, (rpOut_none HN.out).2]; rfl
          · rw [(rpOut_none HN.out).1]; exact Own.nil _ _ _
        | true =>
          have HY := Lib.hid (show getRp b = some ⟨e, parseH t, parseN t, ch, g, ts.map textP, m⟩ from by
            have h := HOK.out
            simp only [Bool.and_eq_true, decide_eq_true_eq, Bool.not_eq_true'] at h
            exact HG.out.trans (if_pos ⟨h.1, HOD.out.trans h.2, hr⟩))
          go_wp2_with (first | (with_reducible refine Agg.wpList_loadL (RpG.of_blk HS91.out.blk HPL.out HCL.out).all rfl _ rfl rfl ?_) | (refine Agg.wpList_put rfl rfl 46 _ _ rfl gr (rpG e (parseH t) (parseN t) ch g pv m) _ rfl rfl HS91.out.blk (rp_info HPL.out HCL.out) rfl (rp_one HPO.out.slice _ _ _ _ _ _) ?_; intro w90 hb90 hx90 hs90 hk90))
          have hx := HS91.out.below.trans (hx90.mono HS91.out.gr_ge)
          have ho90 : Only (· = gr) _ w90 := Only.of_eq hx90 hs90 hk90 rfl
          refine Agg.post_row_tmp rfl rfl rfl hb90 rp_under rfl (rp_info HPL.out HCL.out) rfl ⟨pv, ?_, ?_, hx⟩
          · rw [(rpOut_some HY.out).1, (rpOut_some HY.out).2]; rfl
          · rw [(rpOut_some HY.out).1]; exact paths_keepR HO91.out HS91.out ho90 (by decide)
end Go.Proofs.YtpnolgliklmnmaaGreat
/-! wire.GetReply, PutReply: there and back, as the theorem asks it. -/
namespace Go.Proofs.YtpnolgliklmnmaaGreat
open Go.RowKit Pl Go.Agg
theorem rpOut_hash (b : List UInt8) : (rpOut b).ph.length = 20 ∧ (rpOut b).ch.length = 20 := by
  cases h : getRp b with
  | none => rw [(rpOut_none h).1]; exact ⟨rfl, rfl⟩
  | some q => rw [(rpOut_some h).1]; exact ⟨(putRp_get h).2.2.1, (putRp_get h).2.2.2⟩
theorem rpOut_len (b : List UInt8) : (rpOut b).l.length ≤ 2000 := by
  cases h : getRp b with
  | none => rw [(rpOut_none h).1]; simp [Rp.zero]
  | some q => rw [(rpOut_some h).1]; exact (Rp.right_parts (putRp_get h).1).len
theorem rp_back (b : List UInt8) : rpErr b = 4 ∨ (rpErr b = 0 ∧ rpCode (rpOut b) = 0 ∧ rpBytes (rpOut b) = b) := by
  cases h : getRp b with
  | none => exact .inl (rpOut_none h).2
  | some q =>
    refine .inr ⟨(rpOut_some h).2, ?_⟩
    rw [(rpOut_some h).1]
    obtain ⟨h1, h2, _⟩ := putRp_get h
    simp [rpCode, rpBytes, h1, h2]
theorem rp_got {q : Rp} (hr : q.right = true) (hp : q.ph.length = 20) (hc : q.ch.length = 20) : rpOut (putRp q) = q ∧ rpErr (putRp q) = 0 := rpOut_some (getRp_put hr hp hc)
theorem rp_less {q : Rp} (hr : q.right = true) (hp : q.ph.length = 20) (hc : q.ch.length = 20) {j : Nat} (hj : (putRp q).length = j + 1) : rpOut ((putRp q).take j) = Rp.zero ∧ rpErr ((putRp q).take j) = 4 := by
  refine rpOut_none (getRp_less hr hp hc (x := (putRp q).take j) (y := (putRp q).drop j) (fun h => ?_) (List.take_append_drop _ _).symm)
  have := congrArg List.length h
  simp only [List.length_drop, List.length_nil] at this
  omega
theorem rp_more {q : Rp} (hr : q.right = true) (hp : q.ph.length = 20) (hc : q.ch.length = 20) : rpOut (putRp q ++ [0]) = Rp.zero ∧ rpErr (putRp q ++ [0]) = 4 := rpOut_none (getRp_more hr hp hc (by simp))
theorem putRp_len {q : Rp} (hr : q.right = true) (hc : q.ch.length = 20) : (putRp q).length ≤ 200000 := by
  obtain ⟨he, hg, hm, _, hl, _⟩ := Rp.right_parts hr
  obtain ⟨e, ph, pn, ch, g, l, m⟩ := q
  simp only at he hg hm hl hc
  obtain ⟨e, rfl⟩ : ∃ n : Nat, e = n := ⟨e.toNat, by omega⟩
  obtain ⟨g, rfl⟩ : ∃ n : Nat, g = n := ⟨g.toNat, by omega⟩
  obtain ⟨m, rfl⟩ : ∃ n : Nat, m = n := ⟨m.toNat, by omega⟩
  rw [← rpHead_eq, List.length_append]
  have h1 := rpHead_le (e := e) (g := g) (m := m) (n := l.length) (ph := ph) (pn := pn) (by omega) (by omega) (by omega) (by omega) hc
  have h2 := flatP_le l
  omega
theorem rgetp_of {b : List UInt8} {q : Rp} {c : Nat} (hq : rpOut b = q ∧ rpErr b = c) (v : Value) (m : Int) (w : World) (hl : b.length ≤ 16777216) (hm : w.cell? ⟨0, 0, none⟩ = some (.int .i64 m)) (hb : BytesAt w v b) :
    Calls Tryz.prog 24 #[v] w fun e w' => ∃ pv, e = .returned (.tuple #[.agg (rpG q.e q.ph q.pn q.ch q.g pv q.m), .int .i64 (c : Int)]) ∧ Own E20 w.heap.size w' pv q.l ∧ Below w.heap.size w w' := by
  obtain ⟨rfl, rfl⟩ := hq
  exact rgetp_any v b m w hl hm hb
theorem pputr_of {q : Rp} {c : Nat} {b : List UInt8} (hq : rpCode q = c ∧ rpBytes q = b) (pv : Value) (hl : q.ph.length = 20) (hc : q.ch.length = 20) (hll : q.l.length ≤ 1048576) (w : World) (hb : ElemsAt w pv q.l) :
    Calls Tryz.prog 22 #[.agg (rpG q.e q.ph q.pn q.ch q.g pv q.m)] w fun e w' => ∃ v', e = .returned (.tuple #[v', .int .i64 (c : Int)]) ∧ Own EB w.heap.size w' v' b ∧ Below w.heap.size w w' := by
  obtain ⟨rfl, rfl⟩ := hq
  exact pputr_any q.e q.g q.m q.ph q.pn q.ch pv q.l hl hc hll w hb
end Go.Proofs.YtpnolgliklmnmaaGreat
/-! (*spencekit.bag).apart of rows of bytes alone. -/
namespace Go.Proofs.YtpnolgliklmnmaaGreat
open Go.RowKit Pl Go.Agg
def bagC (v0 : Value) : Array Value := #[.slice none 0 0, .slice none 0 0, .slice none 0 0, .slice none 0 0, .slice none 0 0, v0, .slice none 0 0, .slice none 0 0, .slice none 0 0, .slice none 0 0, .slice none 0 0, .slice none 0 0, .slice none 0 0, .slice none 0 0, .slice none 0 0, .slice none 0 0, .slice none 0 0, .slice none 0 0, .slice none 0 0, .slice none 0 0, .slice none 0 0]
/-- what apart may do -/
def ApC (w : World) (vs : List SV) (f : Nat → List UInt8) (w' : World) : Prop := Only (SS vs) w w' ∧ ∃ f', RoomsOf EB w' vs f' ∧ ∀ j, (f' j).length = (f j).length
theorem ApC.below {w : World} {vs : List SV} {f : Nat → List UInt8} (a b : World) (h : ApC w vs f a) (hb : Below a.heap.size a b) : ApC w vs f b := by
  obtain ⟨h1, f', h2, h3⟩ := h
  exact ⟨h1.trans (Only.of_below (S := fun _ => False) hb) (fun _ _ h => h.elim), f', h2.below hb, h3⟩
set_option maxRecDepth 100000 in
set_option maxHeartbeats 2000000 in
theorem apart_any (g : Nat) (v0 : Value) (vs : List SV) (f : Nat → List UInt8) (w : World) (hg : Blk w g 124 (bagC v0)) (hgS : ¬ SS vs g) (he : BBAt w v0 vs) (hr : RoomsOf EB w vs f) (hd : Dist vs) (hsep : ∀ b, v0.ownBlock = some b → ¬ SS vs b) (hn : vs.length ≤ 4194304) (hf : ∀ j, (f j).length ≤ 8388608) :
    Calls Tryz.prog 69 #[.pointer (some ⟨g, 0, none⟩)] w fun e w' => e = .returned (.bool true) ∧ ApC w vs f w' := by
  have hld : ∀ (k : Nat) (v : Value) (ty : TypeId) (d : TypeDesc), (bagC v0)[k]? = some v → Tryz.prog.underlying ty = some d → (match d with | .struct _ | .array _ _ => true | _ => false) = false →
      ∀ w', ApC w vs f w' → LoadsL Tryz.prog w' ty (some ⟨g, k, none⟩) v := by
    intro k v ty d hk hu hd w' hx
    have hb : Blk w' g 124 (bagC v0) := (hx.1.block g hg.lt hgS).trans hg
    exact hb.one (P := Tryz.prog) k hk hu (by cases d <;> first | rfl | cases hd)
  have HLD := Lib.hid hld
  clear hld
  have HCC : Hid (∀ a b, ApC w vs f a → Below a.heap.size a b → ApC w vs f b) := Lib.hid ApC.below
  have HCB : Hid (∀ x : Cls (ApC w vs f), Calls Tryz.prog 100 #[v0] x.w fun e w' => e = .returned (.bool true) ∧ ApC w vs f w') := Lib.hid (fun x => by
    obtain ⟨x, h1, f', h2, h3⟩ := x
    refine (flatBytes_any v0 vs f' x (SliceOf.onlyS he h1 hsep) h2 hd hsep hn (fun j => by rw [h3]; exact hf j)).mono ?_
    rintro e w' ⟨rfl, h4, f2, h5, h6⟩
    exact ⟨rfl, h1.trans h4 (fun _ _ h => h), f2, h5, fun j => by rw [h6, h3]⟩)
  have h0 : ApC w vs f w := ⟨Only.refl _ _, f, hr, fun _ => rfl⟩
  have HC := Lib.hid h0
  clear h0 hr hd hsep hf he hg
  go_enter Tryz.func69, Tryz.ntmps69
  simp only [List.append_eq, List.cons_append, List.nil_append]
  have HL := Lib.hid (HLD.out 0 (.slice none 0 0) 104 _ rfl Tryz.underlying104 rfl _ HC.out)
  go_wp2_with (first | (with_reducible refine Agg.wpList_loadL HL.out rfl _ rfl rfl ?_))
  clear HL
  refine (flatLimbs_nil _).mono ?_
  rintro e w1 ⟨rfl, h1⟩
  have HC := Lib.hid (HCC.out _ _ HC.out h1)
  clear h1
  have HL := Lib.hid (HLD.out 1 (.slice none 0 0) 105 _ rfl Tryz.underlying105 rfl _ HC.out)
  go_wp2_with (first | (with_reducible refine Agg.wpList_loadL HL.out rfl _ rfl rfl ?_))
  clear HL
  refine (flatWords_nil _).mono ?_
  rintro e w2 ⟨rfl, h2⟩
  have HC := Lib.hid (HCC.out _ _ HC.out h2)
  clear h2
  have HL := Lib.hid (HLD.out 2 (.slice none 0 0) 106 _ rfl Tryz.underlying106 rfl _ HC.out)
  go_wp2_with (first | (with_reducible refine Agg.wpList_loadL HL.out rfl _ rfl rfl ?_))
  clear HL
  refine (flatInts_nil _).mono ?_
  rintro e w3 ⟨rfl, h3⟩
  have HC := Lib.hid (HCC.out _ _ HC.out h3)
  clear h3
  have HL := Lib.hid (HLD.out 3 (.slice none 0 0) 107 _ rfl Tryz.underlying107 rfl _ HC.out)
  go_wp2_with (first | (with_reducible refine Agg.wpList_loadL HL.out rfl _ rfl rfl ?_))
  clear HL
  refine (flatLongs_nil _).mono ?_
  rintro e w4 ⟨rfl, h4⟩
  have HC := Lib.hid (HCC.out _ _ HC.out h4)
  clear h4
  have HL := Lib.hid (HLD.out 4 (.slice none 0 0) 108 _ rfl Tryz.underlying108 rfl _ HC.out)
  go_wp2_with (first | (with_reducible refine Agg.wpList_loadL HL.out rfl _ rfl rfl ?_))
  clear HL
  refine (flatTexts_nil _).mono ?_
  rintro e w5 ⟨rfl, h5⟩
  have HC := Lib.hid (HCC.out _ _ HC.out h5)
  clear h5
  have HL := Lib.hid (HLD.out 5 (v0) 42 _ rfl Tryz.underlying42 rfl _ HC.out)
  go_wp2_with (first | (with_reducible refine Agg.wpList_loadL HL.out rfl _ rfl rfl ?_))
  clear HL
  refine (HCB.out ⟨_, HC.out⟩).mono ?_
  rintro e w6 ⟨rfl, h6⟩
  have HC := Lib.hid h6
  clear h6
  have HL := Lib.hid (HLD.out 6 (.slice none 0 0) 109 _ rfl Tryz.underlying109 rfl _ HC.out)
  go_wp2_with (first | (with_reducible refine Agg.wpList_loadL HL.out rfl _ rfl rfl ?_))
  clear HL
  refine (flatTruths_nil _).mono ?_
  rintro e w7 ⟨rfl, h7⟩
  have HC := Lib.hid (HCC.out _ _ HC.out h7)
  clear h7
  have HL := Lib.hid (HLD.out 7 (.slice none 0 0) 110 _ rfl Tryz.underlying110 rfl _ HC.out)
  go_wp2_with (first | (with_reducible refine Agg.wpList_loadL HL.out rfl _ rfl rfl ?_))
  clear HL
  refine (flatPaths_nil _).mono ?_
  rintro e w8 ⟨rfl, h8⟩
  have HC := Lib.hid (HCC.out _ _ HC.out h8)
  clear h8
  have HL := Lib.hid (HLD.out 8 (.slice none 0 0) 111 _ rfl Tryz.underlying111 rfl _ HC.out)
  go_wp2_with (first | (with_reducible refine Agg.wpList_loadL HL.out rfl _ rfl rfl ?_))
  clear HL
  refine (flatKids_nil _).mono ?_
  rintro e w9 ⟨rfl, h9⟩
  have HC := Lib.hid (HCC.out _ _ HC.out h9)
  clear h9
  have HL := Lib.hid (HLD.out 9 (.slice none 0 0) 112 _ rfl Tryz.underlying112 rfl _ HC.out)
  go_wp2_with (first | (with_reducible refine Agg.wpList_loadL HL.out rfl _ rfl rfl ?_))
  clear HL
  refine (flatNodes_nil _).mono ?_
  rintro e w10 ⟨rfl, h10⟩
  have HC := Lib.hid (HCC.out _ _ HC.out h10)
  clear h10
  have HL := Lib.hid (HLD.out 10 (.slice none 0 0) 113 _ rfl Tryz.underlying113 rfl _ HC.out)
  go_wp2_with (first | (with_reducible refine Agg.wpList_loadL HL.out rfl _ rfl rfl ?_))
  clear HL
  refine (flatLines_nil _).mono ?_
  rintro e w11 ⟨rfl, h11⟩
  have HC := Lib.hid (HCC.out _ _ HC.out h11)
  clear h11
  have HL := Lib.hid (HLD.out 11 (.slice none 0 0) 114 _ rfl Tryz.underlying114 rfl _ HC.out)
  go_wp2_with (first | (with_reducible refine Agg.wpList_loadL HL.out rfl _ rfl rfl ?_))
  clear HL
  refine (flatChanges_nil _).mono ?_
  rintro e w12 ⟨rfl, h12⟩
  have HC := Lib.hid (HCC.out _ _ HC.out h12)
  clear h12
  have HL := Lib.hid (HLD.out 12 (.slice none 0 0) 115 _ rfl Tryz.underlying115 rfl _ HC.out)
  go_wp2_with (first | (with_reducible refine Agg.wpList_loadL HL.out rfl _ rfl rfl ?_))
  clear HL
  refine (flatRuns_nil _).mono ?_
  rintro e w13 ⟨rfl, h13⟩
  have HC := Lib.hid (HCC.out _ _ HC.out h13)
  clear h13
  have HL := Lib.hid (HLD.out 13 (.slice none 0 0) 116 _ rfl Tryz.underlying116 rfl _ HC.out)
  go_wp2_with (first | (with_reducible refine Agg.wpList_loadL HL.out rfl _ rfl rfl ?_))
  clear HL
  refine (flatObjects_nil _).mono ?_
  rintro e w14 ⟨rfl, h14⟩
  have HC := Lib.hid (HCC.out _ _ HC.out h14)
  clear h14
  have HL := Lib.hid (HLD.out 14 (.slice none 0 0) 117 _ rfl Tryz.underlying117 rfl _ HC.out)
  go_wp2_with (first | (with_reducible refine Agg.wpList_loadL HL.out rfl _ rfl rfl ?_))
  clear HL
  refine (flatQuotas_nil _).mono ?_
  rintro e w15 ⟨rfl, h15⟩
  have HC := Lib.hid (HCC.out _ _ HC.out h15)
  clear h15
  have HL := Lib.hid (HLD.out 15 (.slice none 0 0) 118 _ rfl Tryz.underlying118 rfl _ HC.out)
  go_wp2_with (first | (with_reducible refine Agg.wpList_loadL HL.out rfl _ rfl rfl ?_))
  clear HL
  refine (flatNameds_nil _).mono ?_
  rintro e w16 ⟨rfl, h16⟩
  have HC := Lib.hid (HCC.out _ _ HC.out h16)
  clear h16
  have HL := Lib.hid (HLD.out 16 (.slice none 0 0) 119 _ rfl Tryz.underlying119 rfl _ HC.out)
  go_wp2_with (first | (with_reducible refine Agg.wpList_loadL HL.out rfl _ rfl rfl ?_))
  clear HL
  refine (flatDrvs_nil _).mono ?_
  rintro e w17 ⟨rfl, h17⟩
  have HC := Lib.hid (HCC.out _ _ HC.out h17)
  clear h17
  have HL := Lib.hid (HLD.out 17 (.slice none 0 0) 120 _ rfl Tryz.underlying120 rfl _ HC.out)
  go_wp2_with (first | (with_reducible refine Agg.wpList_loadL HL.out rfl _ rfl rfl ?_))
  clear HL
  refine (flatMades_nil _).mono ?_
  rintro e w18 ⟨rfl, h18⟩
  have HC := Lib.hid (HCC.out _ _ HC.out h18)
  clear h18
  have HL := Lib.hid (HLD.out 18 (.slice none 0 0) 121 _ rfl Tryz.underlying121 rfl _ HC.out)
  go_wp2_with (first | (with_reducible refine Agg.wpList_loadL HL.out rfl _ rfl rfl ?_))
  clear HL
  refine (flatBuilts_nil _).mono ?_
  rintro e w19 ⟨rfl, h19⟩
  have HC := Lib.hid (HCC.out _ _ HC.out h19)
  clear h19
  have HL := Lib.hid (HLD.out 19 (.slice none 0 0) 122 _ rfl Tryz.underlying122 rfl _ HC.out)
  go_wp2_with (first | (with_reducible refine Agg.wpList_loadL HL.out rfl _ rfl rfl ?_))
  clear HL
  refine (flatRequests_nil _).mono ?_
  rintro e w20 ⟨rfl, h20⟩
  have HC := Lib.hid (HCC.out _ _ HC.out h20)
  clear h20
  have HL := Lib.hid (HLD.out 20 (.slice none 0 0) 56 _ rfl Tryz.underlying56 rfl _ HC.out)
  go_wp2_with (first | (with_reducible refine Agg.wpList_loadL HL.out rfl _ rfl rfl ?_))
  clear HL
  refine (flatReplies_nil _).mono ?_
  rintro e w21 ⟨rfl, h21⟩
  have HC := Lib.hid (HCC.out _ _ HC.out h21)
  clear h21
  go_wp2_with fail
  go_ret
  exact ⟨rfl, HC.out⟩
end Go.Proofs.YtpnolgliklmnmaaGreat
/-! One cell of a block written; (*bag).putBytes. -/
namespace Go.Proofs.YtpnolgliklmnmaaGreat
open Go.RowKit Pl Go.Agg
theorem bag_put {w w1 : World} {g : Nat} {v0 v1 : Value} {l : List SV} (hg : Blk w g 124 (bagC v0)) (ho : Own EBB (g + 1) w1 v1 l) (hp : Pushed EBB (g + 1) w w1 v0) :
    ∃ w2, (Instr.storeAt 42 (.pointer (some ⟨g, 5, none⟩)) v1).run Tryz.prog w1 = .ok () w2 ∧ Blk w2 g 124 (bagC v1) ∧ Own EBB (g + 1) w2 v1 l ∧ Below g w w2 := by
  have h1 : Blk w1 g 124 (bagC v0) := hp.blk g _ _ _ (by decide) hg
  obtain ⟨p, c, rfl⟩ := ho.slice.form
  refine ⟨_, h1.run_put 5 (by simp [bagC]) _ rfl rfl (by kernel_rfl), h1.set 5 _, ho.keep fun k cur t fr hk hb => ?_, ?_⟩
  · rw [Below.heap_setCell _ _ _ _ (by show k ≠ g; omega)]; exact hb
  · have hb := hp.below g (by omega) (Nat.le_of_lt hg.lt)
    exact hb.setCell (Nat.le_refl _) _
set_option maxRecDepth 100000 in
set_option maxHeartbeats 1000000 in
theorem putBytes_any (g : Nat) (v0 : Value) (vs : List SV) (x : SV) (w : World) (hg : Blk w g 124 (bagC v0)) (ho : Own EBB (g + 1) w v0 vs) (hn : vs.length ≤ 4194304) :
    Calls Tryz.prog 68 #[.pointer (some ⟨g, 0, none⟩), x.1] w fun e w' => (∃ r, e = .returned r) ∧ ∃ v', Blk w' g 124 (bagC v') ∧ Own EBB (g + 1) w' v' (vs ++ [x]) ∧ Below g w w' := by
  have hl : LoadsL Tryz.prog w 42 (some ⟨g, 5, none⟩) v0 := hg.one (P := Tryz.prog) 5 rfl (by kernel_rfl : Tryz.prog.underlying 42 = some (.slice 23)) rfl
  have HL := Lib.hid hl
  have HG := Lib.hid hg
  have HO := Lib.hid ho
  have hlt := hg.lt
  have h63 : vs.length + 1 ≤ 1099511627776 / 8 := by omega
  have hbase : g + 1 ≤ w.heap.size := hlt
  clear hl hg ho
  go_enter Tryz.func68, Tryz.ntmps68
  go_wp2_with (first | (with_reducible refine Agg.wpList_loadL HL.out rfl _ rfl rfl ?_) | (refine Agg.wpList_push (E := EBB) (base := g + 1) rfl rfl 10 rfl _ rfl _ rfl x rfl (fun _ => rfl) (by simp) HO.out h63 (by decide) hbase ?_; intro u1 v1 w1 ho1 hp1; obtain ⟨w2, hrun, hfin⟩ := bag_put HG.out ho1 hp1; have HFIN := Lib.hid hfin; clear ho1 hp1 hfin) | (refine Agg.wpList_store rfl rfl 42 _ _ rfl (.pointer (some ⟨g, 5, none⟩)) _ rfl rfl hrun ?_))
  refine bodyPost_end (results_none rfl _ _ _) rfl ?_
  exact ⟨⟨_, rfl⟩, _, HFIN.out.1, HFIN.out.2.1, HFIN.out.2.2⟩
end Go.Proofs.YtpnolgliklmnmaaGreat
/-! spencekit.ApartBytes. -/
namespace Go.Proofs.YtpnolgliklmnmaaGreat
open Go.RowKit Pl Go.Agg
set_option maxRecDepth 100000 in
set_option maxHeartbeats 1000000 in
theorem apartBytes_any (v0 : Value) (vs : List SV) (f : Nat → List UInt8) (w : World) (he : BBAt w v0 vs) (hr : RoomsOf EB w vs f) (hd : Dist vs) (hn : vs.length ≤ 4194304) (hf : ∀ j, (f j).length ≤ 8388608) :
    Calls Tryz.prog 17 #[v0] w fun e w' => e = .returned (.bool true) ∧ Only (SS vs) w w' := by
  have hlv := fun W => bb_len he W
  have HE := Lib.hid he
  have HR := Lib.hid hr
  have HD := Lib.hid hd
  clear he hr hd
  have hbld : ∀ W, (Instr.build 124 #[]).run Tryz.prog W = .ok (.agg (bagC (.slice none 0 0))) W := fun W => by kernel_rfl
  have HBLD := Lib.hid hbld
  clear hbld
  go_enter Tryz.func17, Tryz.ntmps17
  go_wp2_with (first | (with_reducible refine Agg.wpList_build0 124 rfl rfl (.agg (bagC (.slice none 0 0))) HBLD.out ?_) | (with_reducible refine Agg.wpList_box rfl 124 _ rfl (bagC (.slice none 0 0)) rfl ?_; intro g w1 hb1 hx1 hlt1))
  go_loopw [4] (fun i wr => ∃ k : Nat, k ≤ vs.length ∧ i = .int .i64 k ∧ ∃ u, Blk wr g 124 (bagC u) ∧ Own EBB (g + 1) wr u (vs.take k) ∧ Below w.heap.size w wr) (fun i _ => vs.length - (intOf i).toNat)
  case atStart => exact ⟨0, by omega, rfl, _, hb1, Own.nil _ _ _, hx1⟩
  case round =>
    clear hb1 hx1
    obtain ⟨w2, rfl⟩ : ∃ w2 : World, w2 = wr := ⟨_, rfl⟩
    obtain ⟨k, hk, rfl, u, hb, ho, hw⟩ := hrel
    have HB := Lib.hid hb
    have HO := Lib.hid ho
    have HW := Lib.hid hw
    clear hb ho hw
    by_cases hlt : k < vs.length
    · obtain ⟨v, hvk⟩ : ∃ v, vs[k]? = some v := ⟨_, List.getElem?_eq_getElem hlt⟩
      have HV := Lib.hid hvk
      obtain ⟨q, hadr, hld⟩ := bb_at (SliceOf.below HE.out HW.out) k v hvk
      have HL := Lib.hid hld
      have hkl : (vs.take k).length ≤ k := List.length_take_le _ _
      clear hvk hld
      go_wp2_with (first | (with_reducible refine Agg.wpList_loadL HL.out rfl _ rfl rfl ?_))
      refine (putBytes_any g u (vs.take k) v w2 HB.out HO.out (by omega)).mono ?_
      rintro e w3 ⟨⟨r, rfl⟩, u3, hb3, ho3, hw3⟩
      have ht : vs.take k ++ [v] = vs.take (k + 1) := by rw [List.take_add_one, HV.out]; rfl
      rw [ht] at ho3
      go_wp2_with fail
      go_roundw
      case rel => exact ⟨k + 1, by omega, by go_num, _, hb3, ho3, HW.out.trans (hw3.mono hlt1)⟩
      case measure => simp [intOf]; omega
    · obtain rfl : k = vs.length := by omega
      have ho := HO.out
      rw [List.take_length] at ho
      have hss : ∀ b, SS vs b → b < w.heap.size := HR.out.lt
      have hsep : ∀ b, u.ownBlock = some b → ¬ SS vs b := fun b hb h => by
        have h1 := (ho.block b hb).1
        have h2 := hss b h
        omega
      have hgS : ¬ SS vs g := fun h => by have := hss g h; omega
      have HA := Lib.hid (apart_any g u vs f w2 HB.out hgS ho.slice (HR.out.below HW.out) HD.out hsep hn hf)
      clear ho hss hsep hgS
      go_wp2_with fail
      refine HA.out.mono ?_
      rintro e w3 ⟨rfl, h3, _⟩
      go_wp2_with fail
      go_ret
      exact ⟨rfl, (Only.of_below HW.out).trans h3 (fun _ _ h => h)⟩
end Go.Proofs.YtpnolgliklmnmaaGreat
