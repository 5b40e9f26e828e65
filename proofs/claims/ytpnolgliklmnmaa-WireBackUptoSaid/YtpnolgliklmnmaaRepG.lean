/- wire.GetReply of any bytes. -/
import Derived.Test.YtpnolgliklmnmaaGetB
namespace Go.Proofs.Ytpnolgliklmnmaa
open Go.RowKit Pl Go.Agg
set_option maxRecDepth 100000 in
set_option maxHeartbeats 4000000 in
theorem rgetp_any (v : Value) (b : List UInt8) (m0 : Int) (w : World) (hl : b.length ≤ 16777216) (hm : w.cell? ⟨0, 0, none⟩ = some (.int .i64 m0)) (hb : BytesAt w v b) :
    Calls Try.prog 28 #[v] w fun x w' => ∃ pv, x = .returned (.tuple #[.agg (rpG (rpOut b).e (rpOut b).ph (rpOut b).pn (rpOut b).ch (rpOut b).g pv (rpOut b).m), .int .i64 (rpErr b : Int)]) ∧ Own E20 w.heap.size w' pv (rpOut b).l ∧ Below w.heap.size w w' := by
  obtain ⟨e, s1, q1⟩ : ∃ k s, sNum 63 (some b) = (k, s) := ⟨_, _, rfl⟩
  obtain ⟨g, s2, q2⟩ : ∃ k s, sNum 1099511627776 s1 = (k, s) := ⟨_, _, rfl⟩
  obtain ⟨m, s3, q3⟩ : ∃ k s, sNum 1099511627776 s2 = (k, s) := ⟨_, _, rfl⟩
  obtain ⟨t, s4, q4⟩ : ∃ k s, sText 57 s3 = (k, s) := ⟨_, _, rfl⟩
  obtain ⟨ch, s5, q5⟩ : ∃ k s, sHash s4 = (k, s) := ⟨_, _, rfl⟩
  obtain ⟨n, s6, q6⟩ : ∃ k s, sNum 2000 s5 = (k, s) := ⟨_, _, rfl⟩
  have h0 : stLen (some b) ≤ 16777216 := hl
  have h1 : stLen s1 ≤ 16777216 := by have := sNum_len 63 (some b); rw [q1] at this; exact Nat.le_trans this h0
  have h2 : stLen s2 ≤ 16777216 := by have := sNum_len 1099511627776 s1; rw [q2] at this; exact Nat.le_trans this h1
  have h3 : stLen s3 ≤ 16777216 := by have := sNum_len 1099511627776 s2; rw [q3] at this; exact Nat.le_trans this h2
  have h4 : stLen s4 ≤ 16777216 := by have := sText_len 57 s3; rw [q4] at this; exact Nat.le_trans this h3
  have h5 : stLen s5 ≤ 16777216 := by have := sHash_len s4; rw [q5] at this; exact Nat.le_trans this h4
  have h6 : stLen s6 ≤ 16777216 := by have := sNum_len 2000 s5; rw [q6] at this; exact Nat.le_trans this h5
  have hn : n ≤ 2000 := by have := sNum_le 2000 s5; rw [q6] at this; exact this
  have HCL := Lib.hid (show ch.length = 20 by have := sHash_length s4; rw [q5] at this; exact this)
  have HPL := Lib.hid (parseH_length t)
  have HQ1 := Lib.hid q1
  have HQ2 := Lib.hid q2
  have HQ3 := Lib.hid q3
  have HQ4 := Lib.hid q4
  have HQ5 := Lib.hid q5
  have HQ6 := Lib.hid q6
  have HM := Lib.hid hm
  have HBY := Lib.hid hb
  clear q1 q2 q3 q4 q5 q6 hm hb
  go_enter Try.func28, Try.ntmps28
  go_wp2_with (first | (with_reducible refine Agg.wpList_zero rfl 49 rfl (rpG 0 z20 [] z20 0 (.slice none 0 0) 0) rp_zero ?_; intro gr w1 hb1 hx1 hgr; have hlt1 := hb1.lt; have HB1 := Lib.hid hb1; have HX1 := Lib.hid hx1; clear hb1 hx1))
  refine (over_any v b _ hl (HBY.out.below HX1.out)).mono ?_
  rintro x w2 ⟨gc, v2, rfl, hgc, hcu, hx2⟩
  have HC2 := Lib.hid (CuS.good hcu)
  have hltc := hcu.blk.lt
  have HB2 := Lib.hid (HB1.out.below hx2)
  have HK2 := Lib.hid (Agg.belowThen HX1.out (Nat.le_refl _) hx2)
  have hs1 := HX1.out.size
  have hs2 := hx2.size
  clear hcu hx2
  go_wp2_with (first | (with_reducible refine Agg.wpList_build1 118 0 _ rfl rfl (.pointer (some ⟨gc, 0, none⟩)) rfl (.agg (gtC gc false)) (gt_build gc) ?_) | (with_reducible refine Agg.wpList_box rfl 118 _ rfl (gtC gc false) rfl ?_; intro gg w3 hb3 hx3 hgg; have HS3 := Lib.hid (⟨⟨hb3, HC2.out.below hx3⟩, HB2.out.below hx3, Agg.belowThen HK2.out (Nat.le_refl _) hx3, by omega, by omega, hgr, by omega, by omega⟩ : GeS 49 w w1.heap.size gr gg gc w3 (some b) false (rpG 0 z20 [] z20 0 (.slice none 0 0) 0)); clear hb3 hx3))
  have hcell : w3.cell? ⟨gg, 0, none⟩ = some (.pointer (some ⟨gc, 0, none⟩)) := by rw [HS3.out.gt.blk.cell]; rfl
  go_region_held3 (fun w' => w'.cell? ⟨gg, 0, none⟩ = some (.pointer (some ⟨gc, 0, none⟩))) (first | assumption | go_keep)
    (first
      | (go_at_call 55; refine (snum_any w1.heap.size gc 63 (some b) _ h0 (by omega) (HS3.out.later ((Below.refl _ _).drew)).gt.cur).mono ?_; rintro x w4 ⟨rfl, hc, ho⟩; rw [HQ1.out] at hc ⊢; have HS4 := Lib.hid ((HS3.out.later ((Below.refl _ _).drew)).step ho hc); have hcellw4 : w4.cell? ⟨gg, 0, none⟩ = some (.pointer (some ⟨gc, 0, none⟩)) := (by rw [HS4.out.gt.blk.cell]; rfl); clear hc ho HS3)
      | (go_at_call 55; refine (snum_40 w1.heap.size gc s1 _ h1 HS4.out.gt.cur).mono ?_; rintro x w5 ⟨rfl, hc, ho⟩; rw [HQ2.out] at hc ⊢; have HS5 := Lib.hid (HS4.out.step ho hc); have hcellw5 : w5.cell? ⟨gg, 0, none⟩ = some (.pointer (some ⟨gc, 0, none⟩)) := (by rw [HS5.out.gt.blk.cell]; rfl); clear hc ho HS4)
      | (go_at_call 55; refine (snum_40 w1.heap.size gc s2 _ h2 HS5.out.gt.cur).mono ?_; rintro x w6 ⟨rfl, hc, ho⟩; rw [HQ3.out] at hc ⊢; have HS6 := Lib.hid (HS5.out.step ho hc); have hcellw6 : w6.cell? ⟨gg, 0, none⟩ = some (.pointer (some ⟨gc, 0, none⟩)) := (by rw [HS6.out.gt.blk.cell]; rfl); clear hc ho HS5; have hst0 := HS6.out.cellR 0 (v := .int .i64 0) (by unfold rpG; rw [Array.getElem?_append_left (by simp)]; rfl); have hc0 := hst0.1; have hf0 := hst0.2; clear hst0; have HS7 := Lib.hid (HS6.out.setR 0 (.int .i64 (e : Int)) (rpG e z20 [] z20 0 (.slice none 0 0) 0) (by simp [rpG]) (by decide) (by decide) (by decide)); have hcell0 : (w6.setCell ⟨gr, 0, none⟩ (.int .i64 (e : Int))).cell? ⟨gg, 0, none⟩ = some (.pointer (some ⟨gc, 0, none⟩)) := (by rw [HS7.out.gt.blk.cell]; rfl); clear HS6; have hst42 := HS7.out.cellR 42 (v := .int .i64 0) ((rpG_tail z20_length z20_length 0).trans rfl); have hc42 := hst42.1; have hf42 := hst42.2; clear hst42; have HS8 := Lib.hid (HS7.out.setR 42 (.int .i64 (g : Int)) (rpG e z20 [] z20 g (.slice none 0 0) 0) (rpG_set z20_length z20_length 0 _) (by decide) (by decide) (by decide)); have hcell42 : ((w6.setCell ⟨gr, 0, none⟩ (.int .i64 (e : Int))).setCell ⟨gr, 42, none⟩ (.int .i64 (g : Int))).cell? ⟨gg, 0, none⟩ = some (.pointer (some ⟨gc, 0, none⟩)) := (by rw [HS8.out.gt.blk.cell]; rfl); clear HS7; have hst44 := HS8.out.cellR 44 (v := .int .i64 0) ((rpG_tail z20_length z20_length 2).trans rfl); have hc44 := hst44.1; have hf44 := hst44.2; clear hst44; have HS9 := Lib.hid (HS8.out.setR 44 (.int .i64 (m : Int)) (rpG e z20 [] z20 g (.slice none 0 0) m) (rpG_set z20_length z20_length 2 _) (by decide) (by decide) (by decide)); have hcell44 : (((w6.setCell ⟨gr, 0, none⟩ (.int .i64 (e : Int))).setCell ⟨gr, 42, none⟩ (.int .i64 (g : Int))).setCell ⟨gr, 44, none⟩ (.int .i64 (m : Int))).cell? ⟨gg, 0, none⟩ = some (.pointer (some ⟨gc, 0, none⟩)) := (by rw [HS9.out.gt.blk.cell]; rfl); clear HS8))
  clear hcell hcellw4 hcellw5 hcellw6 hcell0 hcell42 hcell44 hc0 hf0 hc42 hf42 hc44 hf44
  go_wp2_with fail
  refine (gpath_any w1.heap.size gg gc s3 false m0 _ h3 (HS9.out.cell HM.out) HS9.out.gt).mono ?_
  rintro x w10 ⟨rfl, hg, ho⟩
  rw [HQ4.out] at hg ⊢
  rw [Bool.false_or] at hg
  have HS10 := Lib.hid (HS9.out.stepG ho (fun _ h => h) hg)
  clear hg ho HS9
  go_wp2_with fail
  refine (ghash_any w1.heap.size gg gc s4 _ _ h4 HS10.out.gt).mono ?_
  rintro x w11 ⟨rfl, hg, ho⟩
  rw [HQ5.out] at hg ⊢
  have HS11 := Lib.hid (HS10.out.stepG ho (fun _ h => .inl h) hg)
  clear hg ho HS10
  go_wp2_with (first | (obtain ⟨w12, hrun, hb, ho⟩ := rpB_path HS11.out.blk z20_length (parseH t) (parseN t) HPL.out; refine Agg.wpList_store rfl rfl 44 _ _ rfl (.pointer (some ⟨gr, 1, none⟩)) _ rfl rfl hrun ?_; have HS12 := Lib.hid (HS11.out.store hb ho (by decide) (by decide) (by decide)); clear hb ho hrun HS11) | (obtain ⟨w13, hrun, hb, ho⟩ := rpB_class HS12.out.blk HPL.out z20_length ch HCL.out; refine Agg.wpList_store rfl rfl 42 _ _ rfl (.pointer (some ⟨gr, 22, none⟩)) _ rfl rfl hrun ?_; have HS13 := Lib.hid (HS12.out.store hb ho (by decide) (by decide) (by decide)); clear hb ho hrun HS12) | (with_reducible refine Agg.wpList_loadL HS13.out.gt.ptr rfl _ rfl rfl ?_))
  refine (snum_any w1.heap.size gc 2000 s5 _ h5 (by omega) HS13.out.gt.cur).mono ?_
  rintro x w14 ⟨rfl, hc, ho⟩
  rw [HQ6.out] at hc ⊢
  have HS14 := Lib.hid (HS13.out.step ho hc)
  clear hc ho HS13
  go_wp2_with fail
  go_loopw [38] (fun i wr => ∃ k : Nat, ∃ pv : Value, k ≤ n ∧ i = .int .i64 k ∧ GeS 49 w w1.heap.size gr gg gc wr (sTexts k s6).2 (textOdd t || (sTexts k s6).1.any textOdd) (rpG e (parseH t) (parseN t) ch g pv m) ∧ Own E20 w.heap.size wr pv ((sTexts k s6).1.map textP)) (fun i _ => n - (intOf i).toNat)
  case atStart => exact ⟨0, .slice none 0 0, by omega, rfl, by simpa [sTexts] using HS14.out, by simpa [sTexts] using Own.nil E20 _ _⟩
  case round =>
    clear HS14
    obtain ⟨wr1, rfl⟩ : ∃ x : World, x = wr := ⟨_, rfl⟩
    obtain ⟨k, pv, hk, rfl, hs, ho⟩ := hrel
    obtain ⟨ts, s', hts⟩ : ∃ a c, sTexts k s6 = (a, c) := ⟨_, _, rfl⟩
    have hsn := sTexts_snoc k s6
    have hln := sTexts_len k s6
    rw [hts] at hs ho hsn hln
    obtain ⟨od, hod⟩ : ∃ x, (textOdd t || ts.any textOdd) = x := ⟨_, rfl⟩
    rw [show (textOdd t || (ts, s').1.any textOdd) = od from hod] at hs
    have hlt1 : ts.length = k := hln.1
    have hls : stLen s' ≤ 16777216 := Nat.le_trans hln.2 h6
    have HS := Lib.hid hs
    have HO := Lib.hid ho
    have HTS := Lib.hid hts
    have HOD := Lib.hid hod
    have HSN := Lib.hid hsn
    clear hs ho hts hsn hln hod
    by_cases hlt : k < n
    · obtain ⟨t', s'', hk'⟩ : ∃ a c, sText 57 s' = (a, c) := ⟨_, _, rfl⟩
      have HSN' := Lib.hid (show sTexts (k + 1) s6 = (ts ++ [t'], s'') by rw [HSN.out, hk'])
      have HQ := Lib.hid hk'
      have HPL' := Lib.hid (textP t').2
      have hc1 := (HS.out.cellR 43 (v := pv) ((rpG_tail HPL.out HCL.out 1).trans rfl)).1
      have h63 : (ts.map textP).length + [textP t'].length ≤ 1099511627776 / 8 := by rw [List.length_map, hlt1]; simp; omega
      have HEN := Lib.hid (enters_of Try.func57 (by kernel_rfl) rfl : ∀ args w, (callFunc 57 args).run Try.prog w = .ok (.enter 57 args) w)
      have HSD := Lib.hid (HS.out.later ((Below.refl _ _).drew))
      have HOD1 := Lib.hid (HO.out.below ((Below.refl _ _).drew))
      have HLDa := Lib.hid (RpG.of_blk HSD.out.blk HPL.out HCL.out).paths.now
      clear hk' hc1
      go_wp2_with fail
      refine wp_region_any (by kernel_rfl) ?_
      refine Agg.any_take 0 (.pointer (some ⟨gr, 43, none⟩)) rfl (by kernel_rfl) (fun _ _ _ h => h) rfl (fun W => by kernel_rfl) ?_
      try simp only [Act.put, List.setIfInBounds_toArray, List.set_cons_succ, List.set_cons_zero]
      refine Agg.any_take 2 (.pointer (some ⟨gg, 0, none⟩)) rfl (by kernel_rfl) (fun _ _ _ h => h) rfl (fun W => by kernel_rfl) ?_
      try simp only [Act.put, List.setIfInBounds_toArray, List.set_cons_succ, List.set_cons_zero]
      refine Agg.any_ready [1, 3] (by kernel_rfl) (by simp) ?_
      refine Agg.any_cons rfl ?_ ?_
      · refine Agg.step_load rfl 47 _ rfl _ pv rfl HLDa.out ?_
        try simp only [Act.put, List.setIfInBounds_toArray, List.set_cons_succ, List.set_cons_zero]
        refine Agg.any_ready [3] (by kernel_rfl) (by simp) ?_
        refine Agg.any_cons rfl ?_ ?_
        · refine Agg.step_call rfl 57 _ _ rfl #[.pointer (some ⟨gg, 0, none⟩)] (by simp only [List.map_toArray, List.map_cons, List.map_nil]; rfl) (fun W => HEN.out _ W) ?_
          refine (gpath_any w1.heap.size gg gc s' od m0 _ hls (HSD.out.cell HM.out) HSD.out.gt).mono ?_
          rintro x w2 ⟨rfl, hg, ho⟩
          rw [HQ.out] at hg ⊢
          have HS2 := Lib.hid (HSD.out.stepG ho (fun _ h => h) hg)
          have HO2 := Lib.hid (paths_keepG HOD1.out HSD.out ho (fun _ h => h))
          have HLDb := Lib.hid (RpG.of_blk HS2.out.blk HPL.out HCL.out).paths.now
          refine ⟨_, rfl, ?_⟩
          try simp only [Act.put, List.setIfInBounds_toArray, List.set_cons_succ, List.set_cons_zero]
          refine Agg.any_ready [4] (by kernel_rfl) (by simp) ?_
          refine Agg.any_cons rfl ?_ ?_
          · refine Agg.step_slice1 (E := E20) rfl _ rfl (textP t') rfl ?_
            intro x3 w3 hx3 hb3
            have HS3 := Lib.hid (HS2.out.later hb3)
            have HO3 := Lib.hid (HO2.out.below hb3)
            have HX3 := Lib.hid hx3.slice
            have HLDc := Lib.hid (RpG.of_blk HS3.out.blk HPL.out HCL.out).paths.now
            try simp only [Act.put, List.setIfInBounds_toArray, List.set_cons_succ, List.set_cons_zero]
            refine Agg.any_ready [5] (by kernel_rfl) (by simp) ?_
            refine Agg.any_cons rfl ?_ ?_
            · refine Agg.step_appendS (E := E20) (base := w.heap.size) rfl _ _ rfl x3 rfl rfl [textP t'] HO3.out HX3.out h63 (by decide) HS3.out.below.size ?_
              intro v4 w4 ho4 hp4
              have HS4 := Lib.hid (HS3.out.pushed hp4 (by decide))
              have HO4 := Lib.hid ho4
              try simp only [Act.put, List.setIfInBounds_toArray, List.set_cons_succ, List.set_cons_zero]
              refine Agg.any_take 6 (.pointer (some ⟨gr, 43, none⟩)) rfl (by kernel_rfl) (fun _ _ _ h => h) rfl (fun W => by kernel_rfl) ?_
              try simp only [Act.put, List.setIfInBounds_toArray, List.set_cons_succ, List.set_cons_zero]
              refine Agg.any_ready [7] (by kernel_rfl) (by simp) ?_
              refine Agg.any_cons rfl ?_ ?_
              · obtain ⟨w5, hrun, hb5, ho5⟩ := rpB_paths HS4.out.blk HPL.out HCL.out v4 (elems_cell HO4.out.slice).1 (elems_cell HO4.out.slice).2
                refine Agg.step_store rfl rfl 47 _ _ rfl (.pointer (some ⟨gr, 43, none⟩)) _ rfl rfl hrun ?_
                have HS5 := Lib.hid (HS4.out.store hb5 ho5 (by decide) (by decide) (by decide))
                have HO5 := Lib.hid (paths_keepR HO4.out HS4.out ho5 (by decide))
                clear hrun hb5 ho5
                try simp only [Act.put, List.setIfInBounds_toArray, List.set_cons_succ, List.set_cons_zero]
                refine Agg.any_end (by kernel_rfl) ?_
                go_wp2_with fail
                go_roundw
                case rel => exact ⟨k + 1, v4, by omega, by go_num, by rw [HSN'.out]; have h := HS5.out; rw [← HOD.out, Bool.or_assoc] at h; simpa [List.any_append] using h, by rw [HSN'.out]; simpa using HO5.out⟩
                case measure => simp [intOf]; omega
              exact AllReady.nil
            exact AllReady.nil
          exact AllReady.nil
        exact AllReady.nil
      refine Agg.any_cons rfl ?_ ?_
      · refine Agg.step_call rfl 57 _ _ rfl #[.pointer (some ⟨gg, 0, none⟩)] (by simp only [List.map_toArray, List.map_cons, List.map_nil]; rfl) (fun W => HEN.out _ W) ?_
        refine (gpath_any w1.heap.size gg gc s' od m0 _ hls (HSD.out.cell HM.out) HSD.out.gt).mono ?_
        rintro x w2 ⟨rfl, hg, ho⟩
        rw [HQ.out] at hg ⊢
        have HS2 := Lib.hid (HSD.out.stepG ho (fun _ h => h) hg)
        have HO2 := Lib.hid (paths_keepG HOD1.out HSD.out ho (fun _ h => h))
        have HLDb := Lib.hid (RpG.of_blk HS2.out.blk HPL.out HCL.out).paths.now
        refine ⟨_, rfl, ?_⟩
        try simp only [Act.put, List.setIfInBounds_toArray, List.set_cons_succ, List.set_cons_zero]
        refine Agg.any_ready [1, 4] (by kernel_rfl) (by simp) ?_
        refine Agg.any_cons rfl ?_ ?_
        · refine Agg.step_load rfl 47 _ rfl _ pv rfl HLDb.out ?_
          try simp only [Act.put, List.setIfInBounds_toArray, List.set_cons_succ, List.set_cons_zero]
          refine Agg.any_ready [4] (by kernel_rfl) (by simp) ?_
          refine Agg.any_cons rfl ?_ ?_
          · refine Agg.step_slice1 (E := E20) rfl _ rfl (textP t') rfl ?_
            intro x3 w3 hx3 hb3
            have HS3 := Lib.hid (HS2.out.later hb3)
            have HO3 := Lib.hid (HO2.out.below hb3)
            have HX3 := Lib.hid hx3.slice
            have HLDc := Lib.hid (RpG.of_blk HS3.out.blk HPL.out HCL.out).paths.now
            try simp only [Act.put, List.setIfInBounds_toArray, List.set_cons_succ, List.set_cons_zero]
            refine Agg.any_ready [5] (by kernel_rfl) (by simp) ?_
            refine Agg.any_cons rfl ?_ ?_
            · refine Agg.step_appendS (E := E20) (base := w.heap.size) rfl _ _ rfl x3 rfl rfl [textP t'] HO3.out HX3.out h63 (by decide) HS3.out.below.size ?_
              intro v4 w4 ho4 hp4
              have HS4 := Lib.hid (HS3.out.pushed hp4 (by decide))
              have HO4 := Lib.hid ho4
              try simp only [Act.put, List.setIfInBounds_toArray, List.set_cons_succ, List.set_cons_zero]
              refine Agg.any_take 6 (.pointer (some ⟨gr, 43, none⟩)) rfl (by kernel_rfl) (fun _ _ _ h => h) rfl (fun W => by kernel_rfl) ?_
              try simp only [Act.put, List.setIfInBounds_toArray, List.set_cons_succ, List.set_cons_zero]
              refine Agg.any_ready [7] (by kernel_rfl) (by simp) ?_
              refine Agg.any_cons rfl ?_ ?_
              · obtain ⟨w5, hrun, hb5, ho5⟩ := rpB_paths HS4.out.blk HPL.out HCL.out v4 (elems_cell HO4.out.slice).1 (elems_cell HO4.out.slice).2
                refine Agg.step_store rfl rfl 47 _ _ rfl (.pointer (some ⟨gr, 43, none⟩)) _ rfl rfl hrun ?_
                have HS5 := Lib.hid (HS4.out.store hb5 ho5 (by decide) (by decide) (by decide))
                have HO5 := Lib.hid (paths_keepR HO4.out HS4.out ho5 (by decide))
                clear hrun hb5 ho5
                try simp only [Act.put, List.setIfInBounds_toArray, List.set_cons_succ, List.set_cons_zero]
                refine Agg.any_end (by kernel_rfl) ?_
                go_wp2_with fail
                go_roundw
                case rel => exact ⟨k + 1, v4, by omega, by go_num, by rw [HSN'.out]; have h := HS5.out; rw [← HOD.out, Bool.or_assoc] at h; simpa [List.any_append] using h, by rw [HSN'.out]; simpa using HO5.out⟩
                case measure => simp [intOf]; omega
              exact AllReady.nil
            exact AllReady.nil
          exact AllReady.nil
        refine Agg.any_cons rfl ?_ ?_
        · refine Agg.step_slice1 (E := E20) rfl _ rfl (textP t') rfl ?_
          intro x3 w3 hx3 hb3
          have HS3 := Lib.hid (HS2.out.later hb3)
          have HO3 := Lib.hid (HO2.out.below hb3)
          have HX3 := Lib.hid hx3.slice
          have HLDc := Lib.hid (RpG.of_blk HS3.out.blk HPL.out HCL.out).paths.now
          try simp only [Act.put, List.setIfInBounds_toArray, List.set_cons_succ, List.set_cons_zero]
          refine Agg.any_ready [1] (by kernel_rfl) (by simp) ?_
          refine Agg.any_cons rfl ?_ ?_
          · refine Agg.step_load rfl 47 _ rfl _ pv rfl HLDc.out ?_
            try simp only [Act.put, List.setIfInBounds_toArray, List.set_cons_succ, List.set_cons_zero]
            refine Agg.any_ready [5] (by kernel_rfl) (by simp) ?_
            refine Agg.any_cons rfl ?_ ?_
            · refine Agg.step_appendS (E := E20) (base := w.heap.size) rfl _ _ rfl x3 rfl rfl [textP t'] HO3.out HX3.out h63 (by decide) HS3.out.below.size ?_
              intro v4 w4 ho4 hp4
              have HS4 := Lib.hid (HS3.out.pushed hp4 (by decide))
              have HO4 := Lib.hid ho4
              try simp only [Act.put, List.setIfInBounds_toArray, List.set_cons_succ, List.set_cons_zero]
              refine Agg.any_take 6 (.pointer (some ⟨gr, 43, none⟩)) rfl (by kernel_rfl) (fun _ _ _ h => h) rfl (fun W => by kernel_rfl) ?_
              try simp only [Act.put, List.setIfInBounds_toArray, List.set_cons_succ, List.set_cons_zero]
              refine Agg.any_ready [7] (by kernel_rfl) (by simp) ?_
              refine Agg.any_cons rfl ?_ ?_
              · obtain ⟨w5, hrun, hb5, ho5⟩ := rpB_paths HS4.out.blk HPL.out HCL.out v4 (elems_cell HO4.out.slice).1 (elems_cell HO4.out.slice).2
                refine Agg.step_store rfl rfl 47 _ _ rfl (.pointer (some ⟨gr, 43, none⟩)) _ rfl rfl hrun ?_
                have HS5 := Lib.hid (HS4.out.store hb5 ho5 (by decide) (by decide) (by decide))
                have HO5 := Lib.hid (paths_keepR HO4.out HS4.out ho5 (by decide))
                clear hrun hb5 ho5
                try simp only [Act.put, List.setIfInBounds_toArray, List.set_cons_succ, List.set_cons_zero]
                refine Agg.any_end (by kernel_rfl) ?_
                go_wp2_with fail
                go_roundw
                case rel => exact ⟨k + 1, v4, by omega, by go_num, by rw [HSN'.out]; have h := HS5.out; rw [← HOD.out, Bool.or_assoc] at h; simpa [List.any_append] using h, by rw [HSN'.out]; simpa using HO5.out⟩
                case measure => simp [intOf]; omega
              exact AllReady.nil
            exact AllReady.nil
          exact AllReady.nil
        exact AllReady.nil
      exact AllReady.nil
    · obtain rfl : k = n := by omega
      have HS15 := Lib.hid HS.out
      have HPO := Lib.hid HO.out
      clear hlt
      go_wp2_with fail
      refine (gok_any w1.heap.size gg gc s' od _ HS15.out.gt).mono ?_
      rintro x wk ⟨rfl, rfl⟩
      have HG := Lib.hid (getRp_parts HQ1.out HQ2.out HQ3.out HQ4.out HQ5.out HQ6.out HTS.out)
      have hnl : (ts.map textP).length ≤ 1048576 := by rw [List.length_map, hlt1]; omega
      obtain ⟨ok, hok⟩ : ∃ x, (decide (s' = some []) && !od) = x := ⟨_, rfl⟩
      rw [hok]
      have HOK := Lib.hid hok
      clear hok
      cases ok with
      | false =>
        have HN := Lib.hid (show getRp b = none from by
          have h := HOK.out
          rw [HG.out, if_neg]
          rintro ⟨h1, h2, _⟩
          rw [HOD.out] at h2
          simp only [h1, h2, decide_true, Bool.not_false, Bool.and_true, reduceCtorEq] at h)
        go_wp2_with (first | (with_reducible refine Agg.wpList_build0 49 rfl rfl (.agg (rpG 0 z20 [] z20 0 (.slice none 0 0) 0)) rp_build0 ?_) | (refine Agg.wpList_put rfl rfl 49 _ _ rfl gr (rpG 0 z20 [] z20 0 (.slice none 0 0) 0) _ rfl rfl HS15.out.blk (rp_info z20_length z20_length) (by rw [rpG_size HPL.out HCL.out, rpG_size z20_length z20_length]) (by kernel_rfl) ?_; intro w90 hb90 hx90 hs90 hk90))
        have hx := HS15.out.below.trans (hx90.mono HS15.out.gr_ge)
        refine Agg.post_row_tmp rfl rfl rfl hb90 rp_under rfl (rp_info z20_length z20_length) rfl ⟨.slice none 0 0, ?_, ?_, hx⟩
        · rw [(rpOut_none HN.out).1, (rpOut_none HN.out).2]; rfl
        · rw [(rpOut_none HN.out).1]; exact Own.nil _ _ _
      | true =>
        go_wp2_with (first | (with_reducible refine Agg.wpList_loadL (RpG.of_blk HS15.out.blk HPL.out HCL.out).all rfl _ rfl rfl ?_))
        refine (rright_any e g m (parseH t) (parseN t) ch pv (ts.map textP) HPL.out HCL.out hnl _ HPO.out.slice).mono ?_
        rintro x w91 ⟨rfl, hx91⟩
        have HS91 := Lib.hid (HS15.out.later hx91)
        have HO91 := Lib.hid (HPO.out.below hx91)
        clear hx91
        cases hr : Rp.right ⟨e, parseH t, parseN t, ch, g, ts.map textP, m⟩ with
        | false =>
          have HN := Lib.hid (show getRp b = none from by
            rw [HG.out, if_neg]
            rintro ⟨_, _, h3⟩
            rw [hr] at h3
            exact absurd h3 (by decide))
          go_wp2_with (first | (with_reducible refine Agg.wpList_build0 49 rfl rfl (.agg (rpG 0 z20 [] z20 0 (.slice none 0 0) 0)) rp_build0 ?_) | (refine Agg.wpList_put rfl rfl 49 _ _ rfl gr (rpG 0 z20 [] z20 0 (.slice none 0 0) 0) _ rfl rfl HS91.out.blk (rp_info z20_length z20_length) (by rw [rpG_size HPL.out HCL.out, rpG_size z20_length z20_length]) (by kernel_rfl) ?_; intro w90 hb90 hx90 hs90 hk90))
          have hx := HS91.out.below.trans (hx90.mono HS91.out.gr_ge)
          refine Agg.post_row_tmp rfl rfl rfl hb90 rp_under rfl (rp_info z20_length z20_length) rfl ⟨.slice none 0 0, ?_, ?_, hx⟩
          · rw [(rpOut_none HN.out).1, (rpOut_none HN.out).2]; rfl
          · rw [(rpOut_none HN.out).1]; exact Own.nil _ _ _
        | true =>
          have HY := Lib.hid (show getRp b = some ⟨e, parseH t, parseN t, ch, g, ts.map textP, m⟩ from by
            have h := HOK.out
            simp only [Bool.and_eq_true, decide_eq_true_eq, Bool.not_eq_true'] at h
            exact HG.out.trans (if_pos ⟨h.1, HOD.out.trans h.2, hr⟩))
          go_wp2_with (first | (with_reducible refine Agg.wpList_loadL (RpG.of_blk HS91.out.blk HPL.out HCL.out).all rfl _ rfl rfl ?_) | (refine Agg.wpList_put rfl rfl 49 _ _ rfl gr (rpG e (parseH t) (parseN t) ch g pv m) _ rfl rfl HS91.out.blk (rp_info HPL.out HCL.out) rfl (rp_one HPO.out.slice _ _ _ _ _ _) ?_; intro w90 hb90 hx90 hs90 hk90))
          have hx := HS91.out.below.trans (hx90.mono HS91.out.gr_ge)
          have ho90 : Only (· = gr) _ w90 := Only.of_eq hx90 hs90 hk90 rfl
          refine Agg.post_row_tmp rfl rfl rfl hb90 rp_under rfl (rp_info HPL.out HCL.out) rfl ⟨pv, ?_, ?_, hx⟩
          · rw [(rpOut_some HY.out).1, (rpOut_some HY.out).2]; rfl
          · rw [(rpOut_some HY.out).1]; exact paths_keepR HO91.out HS91.out ho90 (by decide)
end Go.Proofs.Ytpnolgliklmnmaa
