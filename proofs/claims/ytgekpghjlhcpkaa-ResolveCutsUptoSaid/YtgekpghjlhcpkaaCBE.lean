/- spencelaw20.ResolveCuts. -/
import Derived.Test.YtgekpghjlhcpkaaCBB
import Derived.Test.YtgekpghjlhcpkaaCBC
import Derived.Test.YtgekpghjlhcpkaaCAY
import Derived.Test.YtgekpghjlhcpkaaCBD
import Derived.Test.YtgekpghjlhcpkaaCAQ
namespace Go.Proofs.Ytgekpghjlhcpkaa
open Go.RowKit Pl Go.Agg
theorem build_rszC (w : World) : (Instr.build 33 #[]).run Try.prog w = .ok (.agg (rsC [] (.slice none 0 0) (.slice none 0 0))) w := by kernel_rfl
set_option maxRecDepth 100000 in
set_option maxHeartbeats 64000000 in
theorem resolveCuts_any (v0 v1 v2 : Value) (d : Drv) (made more : List Md) (hd1 : d.1.length ≤ 1048576) (hd2 : d.2.1.length ≤ 1048576) (hd3 : d.2.2.length ≤ 1048576) (hd4 : namsSz d.2.1 ≤ 4194304) (hm1 : made.length ≤ 1048576) (hm2 : more.length ≤ 1048576) (w0 : World) (h1 : DrvAt w0 v0 d) (h2 : MdsAt w0 v1 made) (h3 : MdsAt w0 v2 more) :
    Calls Try.prog 4 #[v0, v1, v2] w0 fun e w' => e = .returned (.bool true) ∧ Below w0.heap.size w0 w' := by
  obtain ⟨vn, vr, rfl, hvn, hvr⟩ := h1
  have hln := nams_len hvn
  have hl1 := mds_len h2
  have hl2 := mds_len h3
  obtain ⟨pr, cr, hfr⟩ := hvr.form
  have HBV := Lib.hid (fun W => (show (Instr.build 25 #[(0, .string ⟨d.1.toArray⟩), (2, vr)]).run Try.prog W = .ok (.agg #[.string ⟨d.1.toArray⟩, .slice none 0 0, vr]) W by rw [hfr]; exact build_drv2 _ _ _ _ _))
  have HON := Lib.hid (show ∀ vi, (∃ p n c, vi = .slice p n c) → (#[.string ⟨d.1.toArray⟩, vi, vr] : Array Value).all (·.oneCell') = true by rintro _ ⟨p, n, c, rfl⟩; rw [hfr]; simp [Value.oneCell'])
  have HD0 := Lib.hid (And.intro hvn hvr)
  have HM0 := Lib.hid (And.intro h2 h3)
  have DN_0 := Lib.hid hvn
  have DR_0 := Lib.hid hvr
  have M1_0 := Lib.hid h2
  have M2_0 := Lib.hid h3
  have X_0 := Lib.hid (Below.refl w0.heap.size w0)
  have HRC := Lib.hid (show d.2.2.length ≤ 33554432 by omega)
  have HEO := Lib.hid (enters_of Try.func10 (by kernel_rfl) rfl : ∀ args w, (callFunc 10 args).run Try.prog w = .ok (.enter 10 args) w)
  clear hvn hvr h2 h3 hfr
  go_enter Try.func4, Try.ntmps4
  go_wp2_with (first | (with_reducible refine Agg.wpList_box rfl 25 _ rfl (#[.string ⟨d.1.toArray⟩, vn, vr]) rfl ?_; intro g3 w1 hb hx hg; have DN_1 := Lib.hid (SliceOf.below DN_0.out hx); have DR_1 := Lib.hid (SliceOf.below DR_0.out hx); have M1_1 := Lib.hid (SliceOf.below M1_0.out hx); have M2_1 := Lib.hid (SliceOf.below M2_0.out hx); have X_1 := Lib.hid (Agg.belowThen X_0.out (Nat.le_refl _) hx); have DB_1 := Lib.hid (DrvL.of_blk hb); clear hb hx hg DN_0 DR_0 M1_0 M2_0 X_0))
  refine (awake20_any _).mono ?_
  rintro e w2 ⟨rfl, hx⟩
  have DN_2 := Lib.hid (SliceOf.below DN_1.out hx)
  have DR_2 := Lib.hid (SliceOf.below DR_1.out hx)
  have M1_2 := Lib.hid (SliceOf.below M1_1.out hx)
  have M2_2 := Lib.hid (SliceOf.below M2_1.out hx)
  have X_2 := Lib.hid (Agg.belowThen X_1.out (Nat.le_refl _) hx)
  have DB_2 := Lib.hid (DB_1.out.below hx)
  clear hx  DN_1 DR_1 M1_1 M2_1 X_1 DB_1
  go_wp2_with (first | (with_reducible refine Agg.wpList_loadL DB_2.out.all rfl _ rfl rfl ?_))
  refine (drvOf_any _ d 3000 (by omega) hd1 hd3 hd2 hd4 _ ⟨vn, vr, rfl, DN_2.out, DR_2.out⟩).mono ?_
  rintro e w3 ⟨rfl, hx⟩
  have DN_3 := Lib.hid (SliceOf.below DN_2.out hx)
  have DR_3 := Lib.hid (SliceOf.below DR_2.out hx)
  have M1_3 := Lib.hid (SliceOf.below M1_2.out hx)
  have M2_3 := Lib.hid (SliceOf.below M2_2.out hx)
  have X_3 := Lib.hid (Agg.belowThen X_2.out (Nat.le_refl _) hx)
  have DB_3 := Lib.hid (DB_2.out.below hx)
  clear hx  DN_2 DR_2 M1_2 M2_2 X_2 DB_2
  obtain ⟨dn, hdn⟩ : ∃ q, drvN 3000 d = q := ⟨_, rfl⟩
  rw [hdn]
  clear hdn
  by_cases hb1 : 3000 < dn
  · have hc1 : decide (3000 < (dn : Int)) = true := by simp; omega
    go_wp2_with fail
    go_ret
    exact ⟨rfl, X_3.out⟩
  have hc1 : decide (3000 < (dn : Int)) = false := by simp; omega
  by_cases hb2 : 3000 < made.length + more.length
  · have hc2 : decide (3000 < (made.length : Int) + (more.length : Int)) = true := by simp; omega
    go_wp2_with fail
    go_ret
    exact ⟨rfl, X_3.out⟩
  have hc2 : decide (3000 < (made.length : Int) + (more.length : Int)) = false := by simp; omega
  go_wp2_with (first | (with_reducible refine Agg.wpList_loadL DB_3.out.all rfl _ rfl rfl ?_))
  refine (rof2_any _ v1 d made hd2 (by omega) (by omega) _ ⟨vn, vr, rfl, DN_3.out, DR_3.out⟩ M1_3.out).mono ?_
  rintro e w4 ⟨vi, ri, rfl, hvi, hri, hx⟩
  have DN_4 := Lib.hid (SliceOf.below DN_3.out hx)
  have DR_4 := Lib.hid (SliceOf.below DR_3.out hx)
  have M1_4 := Lib.hid (SliceOf.below M1_3.out hx)
  have M2_4 := Lib.hid (SliceOf.below M2_3.out hx)
  have X_4 := Lib.hid (Agg.belowThen X_3.out (Nat.le_refl _) hx)
  have DB_4 := Lib.hid (DB_3.out.below hx)
  have RI_4 := Lib.hid (hvi.slice)
  have RR_4 := Lib.hid (hri.slice)
  clear hx hvi hri DN_3 DR_3 M1_3 M2_3 X_3 DB_3
  rcases cuts_cases d made more with ⟨q, hq⟩ | hq | ⟨hq, hcd⟩
  · have HQ := Lib.hid hq
    have hql : q.length = d.2.1.length := by have := congrArg List.length hq.names; simpa using this
    have hq8 : q.length ≤ 8 := (can_parts hq.can).inp
    rw [hq.of_] at RI_4 RR_4
    rw [hq.of_]
    clear hq
    go_wp2_with (first | (refine Agg.wpList_new rfl rfl rfl 33 7 36 rfl rfl rfl (by decide) (rsC [] (.slice none 0 0) (.slice none 0 0)) (rsC d.1 vi ri) rsC_zero (rsC_ss _ _ _ _ _ _) (rsC_info _ _ _) (rsC_one _ RI_4.out RR_4.out) rfl (by first | (simp; done) | simp [Act.put]) ?_; intro g7 w5 hb hx hg; have DN_5 := Lib.hid (SliceOf.below DN_4.out hx); have DR_5 := Lib.hid (SliceOf.below DR_4.out hx); have M1_5 := Lib.hid (SliceOf.below M1_4.out hx); have M2_5 := Lib.hid (SliceOf.below M2_4.out hx); have X_5 := Lib.hid (Agg.belowThen X_4.out (Nat.le_refl _) hx); have DB_5 := Lib.hid (DB_4.out.below hx); have RI_5 := Lib.hid (SliceOf.below RI_4.out hx); have RR_5 := Lib.hid (SliceOf.below RR_4.out hx); have RB_5 := Lib.hid (RvB.of_blk hb); clear hb hx hg DN_4 DR_4 M1_4 M2_4 X_4 DB_4 RI_4 RR_4) | (with_reducible refine Agg.wpList_loadL DB_5.out.name rfl _ rfl rfl ?_) | (with_reducible refine Agg.wpList_loadL DB_5.out.rcp rfl _ rfl rfl ?_) | (with_reducible refine Agg.wpList_build2 25 0 _ 2 _ rfl rfl (.string ⟨d.1.toArray⟩) vr rfl rfl (.agg #[.string ⟨d.1.toArray⟩, .slice none 0 0, vr]) HBV.out ?_) | (refine Agg.wpList_new rfl rfl rfl 25 9 59 rfl rfl rfl (by decide) #[.string ⟨#[]⟩, .slice none 0 0, .slice none 0 0] #[.string ⟨d.1.toArray⟩, .slice none 0 0, vr] drv_zero0 rfl (drv_info3 _ _ _) (HON.out _ ⟨_, _, _, rfl⟩) rfl (by first | (simp; done) | simp [Act.put]) ?_; intro g9 w49 hb hx hg; have HB9 := Lib.hid (show Blk w49 g9 25 #[.string ⟨d.1.toArray⟩, .slice none 0 0, vr] from hb); have HX9 := Lib.hid hx; have HG9 := Lib.hid hg; clear hb hx hg))
    go_loopw [10] (fun i wr => ∃ (k : Nat) (pv : Value), k ≤ d.2.1.length ∧ i = .int .i64 (k : Int) ∧ Agg.Own ENm w5.heap.size wr pv (plainN (q.take k)) ∧ Blk wr g9 25 #[.string ⟨d.1.toArray⟩, pv, vr] ∧ Below w5.heap.size w5 wr) (fun i _ => d.2.1.length - (intOf i).toNat)
    case atStart => exact ⟨0, _, by omega, rfl, Agg.Own.nil _ _ _, HB9.out, HX9.out⟩
    case round =>
      obtain ⟨w50, rfl⟩ : ∃ y : World, y = wr := ⟨_, rfl⟩
      obtain ⟨k, pv, hk, rfl, ho, hb, hx⟩ := hrel
      have HO := Lib.hid ho
      have HB := Lib.hid hb
      have HX := Lib.hid hx
      have DB_50 := Lib.hid (DB_5.out.below hx)
      have RB_50 := Lib.hid (RB_5.out.below hx)
      have hlq := ris_len RI_5.out
      clear ho hb hx
      by_cases hlt : k < d.2.1.length
      · have hcl : decide ((k : Int) < (d.2.1.length : Int)) = true := by simp; omega
        have hcq : decide (d.2.1.length ≤ k) = false := by simp; omega
        obtain ⟨x, hxk⟩ : ∃ x, d.2.1[k]? = some x := ⟨_, List.getElem?_eq_getElem hlt⟩
        obtain ⟨y, hyk⟩ : ∃ y, q[k]? = some y := ⟨_, List.getElem?_eq_getElem (by omega)⟩
        have hxy : y.1 = x.1 := by
          have h := congrArg (fun l : List (List UInt8) => l[k]?) HQ.out.names
          simpa [hxk, hyk] using h
        obtain ⟨p, hadr, hld⟩ := nam_at DN_5.out k x hxk
        obtain ⟨p2, hadq, _, hlq2⟩ := ri_at RI_5.out k y hyk
        have HLA := Lib.hid hld
        have HLB := Lib.hid hlq2
        have HLX := Lib.hid (hld.below HX.out)
        have HLY := Lib.hid (hlq2.below HX.out)
        have HQN := Lib.hid (show (!decide (y.1 = x.1)) = false by simp [hxy])
        have HTK := Lib.hid (show plainN (q.take (k + 1)) = plainN (q.take k) ++ [(x.1, (y.2, zH, false))] by rw [List.take_add_one, hyk, ← hxy]; simp [plainN])
        have h63 : (plainN (q.take k)).length + [((x.1, (y.2, zH, false)) : Nam)].length ≤ 1099511627776 / 8 := by simp [plainN]; omega
        clear hxk hyk hld hlq2 hxy
        go_wp2_with (first | (with_reducible refine Agg.wpList_loadL DB_50.out.inp rfl _ rfl rfl ?_))
        try simp only [Act.put, List.setIfInBounds_toArray, List.set_cons_succ, List.set_cons_zero]
        refine Agg.wp_region_later_lit (by kernel_rfl) (by kernel_rfl) ?_
        repeat (first | go_big_quiet_skip | ((first | (with_reducible refine Agg.wpQuiet_loadL RB_50.out.inp rfl _ rfl rfl ?_) | (with_reducible refine Agg.wpQuiet_loadL HLY.out.name rfl _ rfl rfl ?_) | (with_reducible refine Agg.wpQuiet_loadL DB_50.out.inp rfl _ rfl rfl ?_) | (with_reducible refine Agg.wpQuiet_loadL HLX.out.name rfl _ rfl rfl ?_) | (refine Agg.wpQuiet_neqS (s := y.1) (r := x.1) rfl rfl rfl rfl false HQN.out ?_)); simp only [Act.put, List.setIfInBounds_toArray, List.set_cons_succ, List.set_cons_zero]) | go_big_quiet_step (fail))
        refine wpQuiet_nil ?_
        intro _ hw'
        obtain ⟨x1, rfl⟩ := hw'
        obtain ⟨w51, hw51⟩ : ∃ W, W = x1.w := ⟨_, rfl⟩
        have hx51 : Below w50.heap.size w50 w51 := by rw [hw51]; exact x1.h
        rw [← hw51]
        have HO1 := Lib.hid (HO.out.below hx51)
        have HB1 := Lib.hid (HB.out.below hx51)
        have HX1 := Lib.hid (Agg.belowThen HX.out (Nat.le_refl _) hx51)
        clear hw51 hx51
        go_wp2_with fail
        try simp only [Act.put, List.setIfInBounds_toArray, List.set_cons_succ, List.set_cons_zero]
        obtain ⟨wd, hwd⟩ : ∃ W, W = w51.drew := ⟨_, rfl⟩
        have hdd : Below w51.heap.size w51 wd := by rw [hwd]; exact (Below.refl _ _).drew
        have HOd := Lib.hid (HO1.out.below hdd)
        have HBd := Lib.hid (HB1.out.below hdd)
        have HXd := Lib.hid (Agg.belowThen HX1.out (Nat.le_refl _) hdd)
        refine wp_region_held_drew (S := fun W => Below w5.heap.size w5 W) (by kernel_rfl) (by rw [← hwd]; exact HXd.out) (fun hHeld => ?_)
        rw [← hwd] at hHeld ⊢
        clear hwd hdd
        refine Agg.held_take 0 (.pointer (some ⟨g9, 1, none⟩)) rfl (by kernel_rfl) (fun _ _ _ h => h) rfl (fun W _ => by kernel_rfl) (by assumption) ?_
        try simp only [Act.put, List.setIfInBounds_toArray, List.set_cons_succ, List.set_cons_zero]
        refine Agg.held_take 2 (.pointer (some ⟨g3, 1, none⟩)) rfl (by kernel_rfl) (fun _ _ _ h => h) rfl (fun W _ => by kernel_rfl) (by assumption) ?_
        try simp only [Act.put, List.setIfInBounds_toArray, List.set_cons_succ, List.set_cons_zero]
        refine Agg.held_take 3 (vn) rfl (by kernel_rfl) (fun _ _ _ h => h) rfl (fun W hS => exec_loadC rfl rfl (DB_5.out.below hS).inp.now) (by assumption) ?_
        try simp only [Act.put, List.setIfInBounds_toArray, List.set_cons_succ, List.set_cons_zero]
        refine Agg.held_take 4 (.int .i64 (k : Int)) rfl (by kernel_rfl) (fun _ _ _ h => h) rfl (fun W _ => by kernel_rfl) (by assumption) ?_
        try simp only [Act.put, List.setIfInBounds_toArray, List.set_cons_succ, List.set_cons_zero]
        refine Agg.held_take 5 (.pointer (some p)) rfl (by kernel_rfl) (fun _ _ _ h => h) rfl (fun W _ => exec_indexC rfl rfl rfl (hadr W)) (by assumption) ?_
        try simp only [Act.put, List.setIfInBounds_toArray, List.set_cons_succ, List.set_cons_zero]
        refine Agg.held_take 6 (.pointer (some (p.add 0))) rfl (by kernel_rfl) (fun _ _ _ h => h) rfl (fun W _ => by kernel_rfl) (by assumption) ?_
        try simp only [Act.put, List.setIfInBounds_toArray, List.set_cons_succ, List.set_cons_zero]
        refine Agg.held_take 7 (.string ⟨x.1.toArray⟩) rfl (by kernel_rfl) (fun _ _ _ h => h) rfl (fun W hS => exec_loadC rfl rfl (HLA.out.below hS).name.now) (by assumption) ?_
        try simp only [Act.put, List.setIfInBounds_toArray, List.set_cons_succ, List.set_cons_zero]
        refine Agg.held_take 8 (.pointer (some ⟨g7, 1, none⟩)) rfl (by kernel_rfl) (fun _ _ _ h => h) rfl (fun W _ => by kernel_rfl) (by assumption) ?_
        try simp only [Act.put, List.setIfInBounds_toArray, List.set_cons_succ, List.set_cons_zero]
        refine Agg.held_take 9 (vi) rfl (by kernel_rfl) (fun _ _ _ h => h) rfl (fun W hS => exec_loadC rfl rfl (RB_5.out.below hS).inp.now) (by assumption) ?_
        try simp only [Act.put, List.setIfInBounds_toArray, List.set_cons_succ, List.set_cons_zero]
        refine Agg.held_take 10 (.int .i64 (k : Int)) rfl (by kernel_rfl) (fun _ _ _ h => h) rfl (fun W _ => by kernel_rfl) (by assumption) ?_
        try simp only [Act.put, List.setIfInBounds_toArray, List.set_cons_succ, List.set_cons_zero]
        refine Agg.held_take 11 (.pointer (some p2)) rfl (by kernel_rfl) (fun _ _ _ h => h) rfl (fun W _ => exec_indexC rfl rfl rfl (hadq W)) (by assumption) ?_
        try simp only [Act.put, List.setIfInBounds_toArray, List.set_cons_succ, List.set_cons_zero]
        refine Agg.held_take 12 (.pointer (some (p2.add 1))) rfl (by kernel_rfl) (fun _ _ _ h => h) rfl (fun W _ => by kernel_rfl) (by assumption) ?_
        try simp only [Act.put, List.setIfInBounds_toArray, List.set_cons_succ, List.set_cons_zero]
        refine Agg.held_take 13 (.agg (pC y.2.1.1 y.2.1.2)) rfl (by kernel_rfl) (fun _ _ _ h => h) rfl (fun W hS => exec_loadC rfl rfl (HLB.out.below hS).path.now) (by assumption) ?_
        try simp only [Act.put, List.setIfInBounds_toArray, List.set_cons_succ, List.set_cons_zero]
        refine Agg.held_take 14 (.agg (iC (y.2, zH, false))) rfl (by kernel_rfl) (fun _ _ _ h => h) rfl (fun W _ => exec_build1C rfl rfl (build_src y.2 W)) (by assumption) ?_
        try simp only [Act.put, List.setIfInBounds_toArray, List.set_cons_succ, List.set_cons_zero]
        refine Agg.held_take 15 (.agg (nmC (x.1, (y.2, zH, false)))) rfl (by kernel_rfl) (fun _ _ _ h => h) rfl (fun W _ => exec_build2C rfl rfl rfl (build_nam x.1 (y.2, zH, false) W)) (by assumption) ?_
        try simp only [Act.put, List.setIfInBounds_toArray, List.set_cons_succ, List.set_cons_zero]
        refine Agg.held_ready [1, 16] (by kernel_rfl) (by simp) ?_
        refine Agg.held_cons rfl ?_ ?_
        · refine Agg.step_load rfl 22 _ rfl _ pv rfl (DrvL.of_blk HBd.out).inp.now ?_
          have HB_1 := HBd
          have HO_1 := HOd
          have HX_1 := HXd
          refine ⟨HX_1.out, ?_⟩
          try simp only [Act.put, List.setIfInBounds_toArray, List.set_cons_succ, List.set_cons_zero]
          refine Agg.held_ready [16] (by kernel_rfl) (by simp) ?_
          refine Agg.held_cons rfl ?_ ?_
          · refine Agg.step_slice1 (E := ENm) rfl _ rfl (x.1, (y.2, zH, false)) rfl ?_
            intro x4 w_1_16 hx4 hb4
            have HB_1_16 := Lib.hid (HB_1.out.below hb4)
            have HO_1_16 := Lib.hid (HO_1.out.below hb4)
            have HX_1_16 := Lib.hid (Agg.belowThen HX_1.out (Nat.le_refl _) hb4)
            have HS_1_16 := Lib.hid hx4.slice
            clear hx4 hb4
            refine ⟨HX_1_16.out, ?_⟩
            try simp only [Act.put, List.setIfInBounds_toArray, List.set_cons_succ, List.set_cons_zero]
            refine Agg.held_ready [17] (by kernel_rfl) (by simp) ?_
            refine Agg.held_cons rfl ?_ ?_
            · refine Agg.step_appendS (E := ENm) (base := w5.heap.size) rfl _ _ rfl x4 rfl rfl [(x.1, (y.2, zH, false))] HO_1_16.out HS_1_16.out h63 (by decide) HX_1_16.out.size ?_
              intro v5 w_1_16_17 ho5 hp5
              have HB_1_16_17 := Lib.hid (HB_1_16.out.pushedB hp5 (by decide))
              have HO_1_16_17 := Lib.hid ho5
              have HX_1_16_17 := Lib.hid (HX_1_16.out.trans (hp5.below w5.heap.size (Nat.le_refl _) HX_1_16.out.size))
              obtain ⟨p5, c5, hf5⟩ := ho5.slice.form
              have HF5 := Lib.hid hf5
              clear ho5 hp5 hf5
              refine ⟨HX_1_16_17.out, ?_⟩
              try simp only [Act.put, List.setIfInBounds_toArray, List.set_cons_succ, List.set_cons_zero]
              refine Agg.held_take 18 (.pointer (some ⟨g9, 1, none⟩)) rfl (by kernel_rfl) (fun _ _ _ h => h) rfl (fun W _ => by kernel_rfl) (by assumption) ?_
              try simp only [Act.put, List.setIfInBounds_toArray, List.set_cons_succ, List.set_cons_zero]
              refine Agg.held_ready [19] (by kernel_rfl) (by simp) ?_
              refine Agg.held_cons rfl ?_ ?_
              · obtain ⟨w7, hrun, hb7, ho7⟩ := Blk.run_one (P := Try.prog) (ty := 22) HB_1_16_17.out 1 (by show 1 < 3; decide) v5 (by rw [HF5.out]; rfl) (by rw [HF5.out]; rfl) (by kernel_rfl) #[.string ⟨d.1.toArray⟩, v5, vr] rfl
                refine Agg.step_store rfl rfl 22 _ _ rfl (.pointer (some ⟨g9, 1, none⟩)) v5 rfl rfl hrun ?_
                have HB7 := Lib.hid hb7
                have HO7 := Lib.hid (HO_1_16_17.out.onlyB ho7 HB_1_16_17.out (by decide))
                have HX7 := Lib.hid (HX_1_16_17.out.trans (ho7.below (B := w5.heap.size) HX_1_16_17.out.size (fun i hi => by subst hi; exact HG9.out)))
                clear hrun hb7 ho7
                refine ⟨HX7.out, ?_⟩
                try simp only [Act.put, List.setIfInBounds_toArray, List.set_cons_succ, List.set_cons_zero]
                refine Agg.held_end (by kernel_rfl) ?_
                go_wp2_with fail
                go_roundw
                case rel => exact ⟨k + 1, v5, by omega, by go_num, by rw [HTK.out]; exact HO7.out, HB7.out, HX7.out⟩
                case measure => simp [intOf]; omega
              exact AllReadyH.nil
            exact AllReadyH.nil
          exact AllReadyH.nil
        refine Agg.held_cons rfl ?_ ?_
        · refine Agg.step_slice1 (E := ENm) rfl _ rfl (x.1, (y.2, zH, false)) rfl ?_
          intro x4 w_16 hx4 hb4
          have HB_16 := Lib.hid (HBd.out.below hb4)
          have HO_16 := Lib.hid (HOd.out.below hb4)
          have HX_16 := Lib.hid (Agg.belowThen HXd.out (Nat.le_refl _) hb4)
          have HS_16 := Lib.hid hx4.slice
          clear hx4 hb4
          refine ⟨HX_16.out, ?_⟩
          try simp only [Act.put, List.setIfInBounds_toArray, List.set_cons_succ, List.set_cons_zero]
          refine Agg.held_ready [1] (by kernel_rfl) (by simp) ?_
          refine Agg.held_cons rfl ?_ ?_
          · refine Agg.step_load rfl 22 _ rfl _ pv rfl (DrvL.of_blk HB_16.out).inp.now ?_
            have HB_1_16 := HB_16
            have HO_1_16 := HO_16
            have HX_1_16 := HX_16
            have HS_1_16 := HS_16
            refine ⟨HX_1_16.out, ?_⟩
            try simp only [Act.put, List.setIfInBounds_toArray, List.set_cons_succ, List.set_cons_zero]
            refine Agg.held_ready [17] (by kernel_rfl) (by simp) ?_
            refine Agg.held_cons rfl ?_ ?_
            · refine Agg.step_appendS (E := ENm) (base := w5.heap.size) rfl _ _ rfl x4 rfl rfl [(x.1, (y.2, zH, false))] HO_1_16.out HS_1_16.out h63 (by decide) HX_1_16.out.size ?_
              intro v5 w_1_16_17 ho5 hp5
              have HB_1_16_17 := Lib.hid (HB_1_16.out.pushedB hp5 (by decide))
              have HO_1_16_17 := Lib.hid ho5
              have HX_1_16_17 := Lib.hid (HX_1_16.out.trans (hp5.below w5.heap.size (Nat.le_refl _) HX_1_16.out.size))
              obtain ⟨p5, c5, hf5⟩ := ho5.slice.form
              have HF5 := Lib.hid hf5
              clear ho5 hp5 hf5
              refine ⟨HX_1_16_17.out, ?_⟩
              try simp only [Act.put, List.setIfInBounds_toArray, List.set_cons_succ, List.set_cons_zero]
              refine Agg.held_take 18 (.pointer (some ⟨g9, 1, none⟩)) rfl (by kernel_rfl) (fun _ _ _ h => h) rfl (fun W _ => by kernel_rfl) (by assumption) ?_
              try simp only [Act.put, List.setIfInBounds_toArray, List.set_cons_succ, List.set_cons_zero]
              refine Agg.held_ready [19] (by kernel_rfl) (by simp) ?_
              refine Agg.held_cons rfl ?_ ?_
              · obtain ⟨w7, hrun, hb7, ho7⟩ := Blk.run_one (P := Try.prog) (ty := 22) HB_1_16_17.out 1 (by show 1 < 3; decide) v5 (by rw [HF5.out]; rfl) (by rw [HF5.out]; rfl) (by kernel_rfl) #[.string ⟨d.1.toArray⟩, v5, vr] rfl
                refine Agg.step_store rfl rfl 22 _ _ rfl (.pointer (some ⟨g9, 1, none⟩)) v5 rfl rfl hrun ?_
                have HB7 := Lib.hid hb7
                have HO7 := Lib.hid (HO_1_16_17.out.onlyB ho7 HB_1_16_17.out (by decide))
                have HX7 := Lib.hid (HX_1_16_17.out.trans (ho7.below (B := w5.heap.size) HX_1_16_17.out.size (fun i hi => by subst hi; exact HG9.out)))
                clear hrun hb7 ho7
                refine ⟨HX7.out, ?_⟩
                try simp only [Act.put, List.setIfInBounds_toArray, List.set_cons_succ, List.set_cons_zero]
                refine Agg.held_end (by kernel_rfl) ?_
                go_wp2_with fail
                go_roundw
                case rel => exact ⟨k + 1, v5, by omega, by go_num, by rw [HTK.out]; exact HO7.out, HB7.out, HX7.out⟩
                case measure => simp [intOf]; omega
              exact AllReadyH.nil
            exact AllReadyH.nil
          exact AllReadyH.nil
        exact AllReadyH.nil
      · obtain rfl : k = d.2.1.length := by omega
        have hcl : decide ((d.2.1.length : Int) < (d.2.1.length : Int)) = false := by simp
        rw [← hql, List.take_length] at HO
        have DN_50 := Lib.hid (SliceOf.below DN_5.out HX.out)
        have DR_50 := Lib.hid (SliceOf.below DR_5.out HX.out)
        have M1_50 := Lib.hid (SliceOf.below M1_5.out HX.out)
        have M2_50 := Lib.hid (SliceOf.below M2_5.out HX.out)
        have RI_50 := Lib.hid (SliceOf.below RI_5.out HX.out)
        have RR_50 := Lib.hid (SliceOf.below RR_5.out HX.out)
        have X_50 := Lib.hid (Agg.belowThen X_5.out (Nat.le_refl _) HX.out)
        have PL_50 := Lib.hid HO.out.slice
        have PB_50 := Lib.hid (DrvL.of_blk HB.out)
        clear HO HB HX
        go_wp2_with (first | (with_reducible refine Agg.wpList_loadL DB_50.out.inp rfl _ rfl rfl ?_) | (with_reducible refine Agg.wpList_loadL PB_50.out.all rfl _ rfl rfl ?_))
        refine (rof2_any _ (.slice none 0 0) (plainD d q) [] (by simp [plainD, plainN]; omega) HRC.out (by decide) _ ⟨pv, vr, rfl, PL_50.out, DR_50.out⟩ (SliceOf.nil _ _ _)).mono ?_
        rintro e w51 ⟨si, sr, rfl, hvi, hri, hx⟩
        have DN_51 := Lib.hid (SliceOf.below DN_50.out hx)
        have DR_51 := Lib.hid (SliceOf.below DR_50.out hx)
        have M1_51 := Lib.hid (SliceOf.below M1_50.out hx)
        have M2_51 := Lib.hid (SliceOf.below M2_50.out hx)
        have X_51 := Lib.hid (Agg.belowThen X_50.out (Nat.le_refl _) hx)
        have DB_51 := Lib.hid (DB_50.out.below hx)
        have RI_51 := Lib.hid (SliceOf.below RI_50.out hx)
        have RR_51 := Lib.hid (SliceOf.below RR_50.out hx)
        have RB_51 := Lib.hid (RB_50.out.below hx)
        have PL_51 := Lib.hid (SliceOf.below PL_50.out hx)
        have PB_51 := Lib.hid (PB_50.out.below hx)
        have SI_51 := Lib.hid (hvi.slice)
        have SR_51 := Lib.hid (hri.slice)
        clear hx hvi hri DN_50 DR_50 M1_50 M2_50 X_50 DB_50 RI_50 RR_50 RB_50 PL_50 PB_50
        rw [HQ.out.plain] at SI_51 SR_51
        rw [HQ.out.plain]
        go_wp2_with (first | (refine Agg.wpList_new rfl rfl rfl 33 11 109 rfl rfl rfl (by decide) (rsC [] (.slice none 0 0) (.slice none 0 0)) (rsC d.1 si sr) rsC_zero (rsC_ss _ _ _ _ _ _) (rsC_info _ _ _) (rsC_one _ SI_51.out SR_51.out) rfl (by first | (simp; done) | simp [Act.put]) ?_; intro g11 w52 hb hx hg; have DN_52 := Lib.hid (SliceOf.below DN_51.out hx); have DR_52 := Lib.hid (SliceOf.below DR_51.out hx); have M1_52 := Lib.hid (SliceOf.below M1_51.out hx); have M2_52 := Lib.hid (SliceOf.below M2_51.out hx); have X_52 := Lib.hid (Agg.belowThen X_51.out (Nat.le_refl _) hx); have DB_52 := Lib.hid (DB_51.out.below hx); have RI_52 := Lib.hid (SliceOf.below RI_51.out hx); have RR_52 := Lib.hid (SliceOf.below RR_51.out hx); have RB_52 := Lib.hid (RB_51.out.below hx); have SI_52 := Lib.hid (SliceOf.below SI_51.out hx); have SR_52 := Lib.hid (SliceOf.below SR_51.out hx); have SB_52 := Lib.hid (RvB.of_blk hb); clear hb hx hg DN_51 DR_51 M1_51 M2_51 X_51 DB_51 RI_51 RR_51 RB_51 SI_51 SR_51))
        refine Agg.wp_cutR (fun a a' w' => ∃ g13 ti tr, RvB w' g13 (ofP d (made ++ more)).1.1 ti tr ∧ SliceOf ERi w' ti (ofP d (made ++ more)).1.2.1 ∧ BytesAt w' tr (ofP d (made ++ more)).1.2.2 ∧ Below w52.heap.size w52 w' ∧ ExPut [111, 112, 113, 114, 115, 116, 117, 118, 119, 120] ((a.put (some 13) (.pointer (some ⟨g13, 0, none⟩))).put (some 14) (.int .i64 ((ofP d (made ++ more)).2 : Int))) a') ?_ ?_
        · try simp only [Act.put, List.setIfInBounds_toArray, List.set_cons_succ, List.set_cons_zero]
          obtain ⟨we, hwe⟩ : ∃ W, W = w52.drew := ⟨_, rfl⟩
          have hde : Below w52.heap.size w52 we := by rw [hwe]; exact (Below.refl _ _).drew
          have HXD := Lib.hid hde
          refine wp_region_held_drew (S := fun W => Below w52.heap.size w52 W) (by kernel_rfl) (by rw [← hwe]; exact HXD.out) (fun hHeld => ?_)
          rw [← hwe] at hHeld ⊢
          clear hwe hde
          refine Agg.held_take 0 (.agg #[.string ⟨d.1.toArray⟩, vn, vr]) rfl (by kernel_rfl) (fun _ _ _ h => h) rfl (fun W hS => exec_loadC rfl rfl (DB_52.out.below hS).all.now) (by assumption) ?_
          try simp only [Act.put, List.setIfInBounds_toArray, List.set_cons_succ, List.set_cons_zero]
          refine Agg.held_take 2 (v1) rfl (by kernel_rfl) (fun _ _ _ h => h) rfl (fun W _ => by kernel_rfl) (by assumption) ?_
          try simp only [Act.put, List.setIfInBounds_toArray, List.set_cons_succ, List.set_cons_zero]
          refine Agg.held_take 4 (v2) rfl (by kernel_rfl) (fun _ _ _ h => h) rfl (fun W _ => by kernel_rfl) (by assumption) ?_
          try simp only [Act.put, List.setIfInBounds_toArray, List.set_cons_succ, List.set_cons_zero]
          refine Agg.held_ready [1, 10] (by kernel_rfl) (by simp) ?_
          refine Agg.held_cons rfl ?_ ?_
          · refine Agg.step_slice0 EMd rfl rfl ?_
            intro va wq_1 ho hx
            have HX_1 := Lib.hid (Agg.belowThen HXD.out (Nat.le_refl _) hx)
            have HO_1 := Lib.hid (ho.lower HXD.out.size)
            clear ho hx
            refine ⟨HX_1.out, ?_⟩
            try simp only [Act.put, List.setIfInBounds_toArray, List.set_cons_succ, List.set_cons_zero]
            refine Agg.held_ready [3, 10] (by kernel_rfl) (by simp) ?_
            refine Agg.held_cons rfl ?_ ?_
            · refine Agg.step_appendS (E := EMd) (base := w52.heap.size) rfl _ _ rfl v1 rfl rfl made HO_1.out (SliceOf.below M1_52.out HX_1.out) (by simp; omega) (by decide) HX_1.out.size ?_
              intro vb wq_1_3 ho hp
              have hx := hp.below w52.heap.size (Nat.le_refl _) HX_1.out.size
              have HX_1_3 := Lib.hid (HX_1.out.trans hx)
              have HO_1_3 := Lib.hid ho
              clear ho hp hx
              refine ⟨HX_1_3.out, ?_⟩
              try simp only [Act.put, List.setIfInBounds_toArray, List.set_cons_succ, List.set_cons_zero]
              refine Agg.held_ready [5, 10] (by kernel_rfl) (by simp) ?_
              refine Agg.held_cons rfl ?_ ?_
              · refine Agg.step_appendS (E := EMd) (base := w52.heap.size) rfl _ _ rfl v2 rfl rfl more HO_1_3.out (SliceOf.below M2_52.out HX_1_3.out) (by simp; omega) (by decide) HX_1_3.out.size ?_
                intro vc wq_1_3_5 ho hp
                have hx := hp.below w52.heap.size (Nat.le_refl _) HX_1_3.out.size
                have HX_1_3_5 := Lib.hid (HX_1_3.out.trans hx)
                have HO_1_3_5 := Lib.hid ho
                clear ho hp hx
                refine ⟨HX_1_3_5.out, ?_⟩
                try simp only [Act.put, List.setIfInBounds_toArray, List.set_cons_succ, List.set_cons_zero]
                refine Agg.held_ready [6, 10] (by kernel_rfl) (by simp) ?_
                refine Agg.held_cons rfl ?_ ?_
                · refine Agg.step_call rfl 10 _ _ rfl #[.agg #[.string ⟨d.1.toArray⟩, vn, vr], vc] (by simp only [List.map_toArray, List.map_cons, List.map_nil]; rfl) (fun W => HEO.out _ W) ?_
                  refine (rof2_any _ vc d (made ++ more) hd2 HRC.out (by simp; omega) _ ⟨vn, vr, rfl, SliceOf.below DN_52.out HX_1_3_5.out, SliceOf.below DR_52.out HX_1_3_5.out⟩ (by have := HO_1_3_5.out.slice; simpa using this)).mono ?_
                  rintro x wq_1_3_5_6 ⟨ti, tr, rfl, hi, hr, hx⟩
                  have HX_1_3_5_6 := Lib.hid (Agg.belowThen HX_1_3_5.out (Nat.le_refl _) hx)
                  have HI_1_3_5_6 := Lib.hid hi
                  have HR_1_3_5_6 := Lib.hid hr
                  clear hi hr hx
                  refine ⟨_, rfl, ?_⟩
                  refine ⟨HX_1_3_5_6.out, ?_⟩
                  try simp only [Act.put, List.setIfInBounds_toArray, List.set_cons_succ, List.set_cons_zero]
                  refine Agg.held_take 7 (.tuple #[.agg (rsC (ofP d (made ++ more)).1.1 ti tr), .int .i64 ((ofP d (made ++ more)).2 : Int)]) rfl (by kernel_rfl) (fun _ _ _ h => h) rfl (fun W _ => by kernel_rfl) (by assumption) ?_
                  try simp only [Act.put, List.setIfInBounds_toArray, List.set_cons_succ, List.set_cons_zero]
                  refine Agg.held_take 8 (.agg (rsC (ofP d (made ++ more)).1.1 ti tr)) rfl (by kernel_rfl) (fun _ _ _ h => h) rfl (fun W _ => by kernel_rfl) (by assumption) ?_
                  try simp only [Act.put, List.setIfInBounds_toArray, List.set_cons_succ, List.set_cons_zero]
                  refine Agg.held_take 9 (.int .i64 ((ofP d (made ++ more)).2 : Int)) rfl (by kernel_rfl) (fun _ _ _ h => h) rfl (fun W _ => by kernel_rfl) (by assumption) ?_
                  try simp only [Act.put, List.setIfInBounds_toArray, List.set_cons_succ, List.set_cons_zero]
                  refine Agg.held_ready [10] (by kernel_rfl) (by simp) ?_
                  refine Agg.held_cons rfl ?_ ?_
                  · refine Agg.step_zero rfl 33 rfl (rsC [] (.slice none 0 0) (.slice none 0 0)) rsC_zero ?_
                    intro g13 wq_1_3_5_6_10 hb hx hg
                    have HX_1_3_5_6_10 := Lib.hid (Agg.belowThen HX_1_3_5_6.out (Nat.le_refl _) hx)
                    have HI_1_3_5_6_10 := Lib.hid (HI_1_3_5_6.out.below hx)
                    have HR_1_3_5_6_10 := Lib.hid (HR_1_3_5_6.out.below hx)
                    have HB_1_3_5_6_10 := Lib.hid hb
                    have HG13 := Lib.hid (Nat.le_trans HX_1_3_5_6.out.size hg)
                    clear hb hx hg
                    refine ⟨HX_1_3_5_6_10.out, ?_⟩
                    try simp only [Act.put, List.setIfInBounds_toArray, List.set_cons_succ, List.set_cons_zero]
                    refine Agg.held_ready [11] (by kernel_rfl) (by simp) ?_
                    refine Agg.held_cons rfl ?_ ?_
                    · refine Agg.step_put rfl rfl 33 _ _ rfl g13 (rsC (ofP d (made ++ more)).1.1 ti tr) _ rfl rfl HB_1_3_5_6_10.out (rsC_info _ _ _) (rsC_ss _ _ _ _ _ _) (rsC_one _ HI_1_3_5_6_10.out.slice HR_1_3_5_6_10.out.slice) ?_
                      intro wz hbz hxz hsz hkz
                      have HBZ := Lib.hid hbz
                      have HXZ := Lib.hid (HX_1_3_5_6_10.out.trans (hxz.mono HG13.out))
                      have HOZ := Lib.hid (Only.of_eq hxz hsz hkz rfl : Only (· = g13) _ _)
                      have HIZ := Lib.hid (HI_1_3_5_6_10.out.onlyB HOZ.out HB_1_3_5_6_10.out (by decide)).slice
                      have HRZ := Lib.hid (HR_1_3_5_6_10.out.onlyB HOZ.out HB_1_3_5_6_10.out (by decide)).slice
                      clear hbz hxz hsz hkz
                      refine ⟨HXZ.out, ?_⟩
                      try simp only [Act.put, List.setIfInBounds_toArray, List.set_cons_succ, List.set_cons_zero]
                      refine Agg.held_take 12 (.int .i64 ((ofP d (made ++ more)).2 : Int)) rfl (by kernel_rfl) (fun _ _ _ h => h) rfl (fun W _ => by kernel_rfl) (by assumption) ?_
                      try simp only [Act.put, List.setIfInBounds_toArray, List.set_cons_succ, List.set_cons_zero]
                      refine Agg.held_end (by kernel_rfl) ?_
                      refine ⟨g13, ti, tr, RvB.of_blk HBZ.out, HIZ.out, HRZ.out, HXZ.out, ?_⟩
                      simp only [Agg.ExPut, Act.put, List.setIfInBounds_toArray, List.set_cons_succ, List.set_cons_zero]
                      exact ⟨_, _, _, _, _, _, _, _, _, _, rfl⟩
                    exact AllReadyH.nil
                  exact AllReadyH.nil
                refine Agg.held_cons rfl ?_ ?_
                · refine Agg.step_zero rfl 33 rfl (rsC [] (.slice none 0 0) (.slice none 0 0)) rsC_zero ?_
                  intro g13 wq_1_3_5_10 hb hx hg
                  have HX_1_3_5_10 := Lib.hid (Agg.belowThen HX_1_3_5.out (Nat.le_refl _) hx)
                  have HO_1_3_5_10 := Lib.hid (HO_1_3_5.out.below hx)
                  have HB_1_3_5_10 := Lib.hid hb
                  have HG13 := Lib.hid (Nat.le_trans HX_1_3_5.out.size hg)
                  clear hb hx hg
                  refine ⟨HX_1_3_5_10.out, ?_⟩
                  try simp only [Act.put, List.setIfInBounds_toArray, List.set_cons_succ, List.set_cons_zero]
                  refine Agg.held_ready [6] (by kernel_rfl) (by simp) ?_
                  refine Agg.held_cons rfl ?_ ?_
                  · refine Agg.step_call rfl 10 _ _ rfl #[.agg #[.string ⟨d.1.toArray⟩, vn, vr], vc] (by simp only [List.map_toArray, List.map_cons, List.map_nil]; rfl) (fun W => HEO.out _ W) ?_
                    refine (rof2_any _ vc d (made ++ more) hd2 HRC.out (by simp; omega) _ ⟨vn, vr, rfl, SliceOf.below DN_52.out HX_1_3_5_10.out, SliceOf.below DR_52.out HX_1_3_5_10.out⟩ (by have := HO_1_3_5_10.out.slice; simpa using this)).mono ?_
                    rintro x wq_1_3_5_6_10 ⟨ti, tr, rfl, hi, hr, hx⟩
                    have HX_1_3_5_6_10 := Lib.hid (Agg.belowThen HX_1_3_5_10.out (Nat.le_refl _) hx)
                    have HB_1_3_5_6_10 := Lib.hid (HB_1_3_5_10.out.below hx)
                    have HI_1_3_5_6_10 := Lib.hid hi
                    have HR_1_3_5_6_10 := Lib.hid hr
                    clear hi hr hx
                    refine ⟨_, rfl, ?_⟩
                    refine ⟨HX_1_3_5_6_10.out, ?_⟩
                    try simp only [Act.put, List.setIfInBounds_toArray, List.set_cons_succ, List.set_cons_zero]
                    refine Agg.held_take 7 (.tuple #[.agg (rsC (ofP d (made ++ more)).1.1 ti tr), .int .i64 ((ofP d (made ++ more)).2 : Int)]) rfl (by kernel_rfl) (fun _ _ _ h => h) rfl (fun W _ => by kernel_rfl) (by assumption) ?_
                    try simp only [Act.put, List.setIfInBounds_toArray, List.set_cons_succ, List.set_cons_zero]
                    refine Agg.held_take 8 (.agg (rsC (ofP d (made ++ more)).1.1 ti tr)) rfl (by kernel_rfl) (fun _ _ _ h => h) rfl (fun W _ => by kernel_rfl) (by assumption) ?_
                    try simp only [Act.put, List.setIfInBounds_toArray, List.set_cons_succ, List.set_cons_zero]
                    refine Agg.held_take 9 (.int .i64 ((ofP d (made ++ more)).2 : Int)) rfl (by kernel_rfl) (fun _ _ _ h => h) rfl (fun W _ => by kernel_rfl) (by assumption) ?_
                    try simp only [Act.put, List.setIfInBounds_toArray, List.set_cons_succ, List.set_cons_zero]
                    refine Agg.held_ready [11] (by kernel_rfl) (by simp) ?_
                    refine Agg.held_cons rfl ?_ ?_
                    · refine Agg.step_put rfl rfl 33 _ _ rfl g13 (rsC (ofP d (made ++ more)).1.1 ti tr) _ rfl rfl HB_1_3_5_6_10.out (rsC_info _ _ _) (rsC_ss _ _ _ _ _ _) (rsC_one _ HI_1_3_5_6_10.out.slice HR_1_3_5_6_10.out.slice) ?_
                      intro wz hbz hxz hsz hkz
                      have HBZ := Lib.hid hbz
                      have HXZ := Lib.hid (HX_1_3_5_6_10.out.trans (hxz.mono HG13.out))
                      have HOZ := Lib.hid (Only.of_eq hxz hsz hkz rfl : Only (· = g13) _ _)
                      have HIZ := Lib.hid (HI_1_3_5_6_10.out.onlyB HOZ.out HB_1_3_5_6_10.out (by decide)).slice
                      have HRZ := Lib.hid (HR_1_3_5_6_10.out.onlyB HOZ.out HB_1_3_5_6_10.out (by decide)).slice
                      clear hbz hxz hsz hkz
                      refine ⟨HXZ.out, ?_⟩
                      try simp only [Act.put, List.setIfInBounds_toArray, List.set_cons_succ, List.set_cons_zero]
                      refine Agg.held_take 12 (.int .i64 ((ofP d (made ++ more)).2 : Int)) rfl (by kernel_rfl) (fun _ _ _ h => h) rfl (fun W _ => by kernel_rfl) (by assumption) ?_
                      try simp only [Act.put, List.setIfInBounds_toArray, List.set_cons_succ, List.set_cons_zero]
                      refine Agg.held_end (by kernel_rfl) ?_
                      refine ⟨g13, ti, tr, RvB.of_blk HBZ.out, HIZ.out, HRZ.out, HXZ.out, ?_⟩
                      simp only [Agg.ExPut, Act.put, List.setIfInBounds_toArray, List.set_cons_succ, List.set_cons_zero]
                      exact ⟨_, _, _, _, _, _, _, _, _, _, rfl⟩
                    exact AllReadyH.nil
                  exact AllReadyH.nil
                exact AllReadyH.nil
              refine Agg.held_cons rfl ?_ ?_
              · refine Agg.step_zero rfl 33 rfl (rsC [] (.slice none 0 0) (.slice none 0 0)) rsC_zero ?_
                intro g13 wq_1_3_10 hb hx hg
                have HX_1_3_10 := Lib.hid (Agg.belowThen HX_1_3.out (Nat.le_refl _) hx)
                have HO_1_3_10 := Lib.hid (HO_1_3.out.below hx)
                have HB_1_3_10 := Lib.hid hb
                have HG13 := Lib.hid (Nat.le_trans HX_1_3.out.size hg)
                clear hb hx hg
                refine ⟨HX_1_3_10.out, ?_⟩
                try simp only [Act.put, List.setIfInBounds_toArray, List.set_cons_succ, List.set_cons_zero]
                refine Agg.held_ready [5] (by kernel_rfl) (by simp) ?_
                refine Agg.held_cons rfl ?_ ?_
                · refine Agg.step_appendS (E := EMd) (base := w52.heap.size) rfl _ _ rfl v2 rfl rfl more HO_1_3_10.out (SliceOf.below M2_52.out HX_1_3_10.out) (by simp; omega) (by decide) HX_1_3_10.out.size ?_
                  intro vc wq_1_3_5_10 ho hp
                  have hx := hp.below w52.heap.size (Nat.le_refl _) HX_1_3_10.out.size
                  have HX_1_3_5_10 := Lib.hid (HX_1_3_10.out.trans hx)
                  have HO_1_3_5_10 := Lib.hid ho
                  have HB_1_3_5_10 := Lib.hid (HB_1_3_10.out.pushedB hp (by decide))
                  clear ho hp hx
                  refine ⟨HX_1_3_5_10.out, ?_⟩
                  try simp only [Act.put, List.setIfInBounds_toArray, List.set_cons_succ, List.set_cons_zero]
                  refine Agg.held_ready [6] (by kernel_rfl) (by simp) ?_
                  refine Agg.held_cons rfl ?_ ?_
                  · refine Agg.step_call rfl 10 _ _ rfl #[.agg #[.string ⟨d.1.toArray⟩, vn, vr], vc] (by simp only [List.map_toArray, List.map_cons, List.map_nil]; rfl) (fun W => HEO.out _ W) ?_
                    refine (rof2_any _ vc d (made ++ more) hd2 HRC.out (by simp; omega) _ ⟨vn, vr, rfl, SliceOf.below DN_52.out HX_1_3_5_10.out, SliceOf.below DR_52.out HX_1_3_5_10.out⟩ (by have := HO_1_3_5_10.out.slice; simpa using this)).mono ?_
                    rintro x wq_1_3_5_6_10 ⟨ti, tr, rfl, hi, hr, hx⟩
                    have HX_1_3_5_6_10 := Lib.hid (Agg.belowThen HX_1_3_5_10.out (Nat.le_refl _) hx)
                    have HB_1_3_5_6_10 := Lib.hid (HB_1_3_5_10.out.below hx)
                    have HI_1_3_5_6_10 := Lib.hid hi
                    have HR_1_3_5_6_10 := Lib.hid hr
                    clear hi hr hx
                    refine ⟨_, rfl, ?_⟩
                    refine ⟨HX_1_3_5_6_10.out, ?_⟩
                    try simp only [Act.put, List.setIfInBounds_toArray, List.set_cons_succ, List.set_cons_zero]
                    refine Agg.held_take 7 (.tuple #[.agg (rsC (ofP d (made ++ more)).1.1 ti tr), .int .i64 ((ofP d (made ++ more)).2 : Int)]) rfl (by kernel_rfl) (fun _ _ _ h => h) rfl (fun W _ => by kernel_rfl) (by assumption) ?_
                    try simp only [Act.put, List.setIfInBounds_toArray, List.set_cons_succ, List.set_cons_zero]
                    refine Agg.held_take 8 (.agg (rsC (ofP d (made ++ more)).1.1 ti tr)) rfl (by kernel_rfl) (fun _ _ _ h => h) rfl (fun W _ => by kernel_rfl) (by assumption) ?_
                    try simp only [Act.put, List.setIfInBounds_toArray, List.set_cons_succ, List.set_cons_zero]
                    refine Agg.held_take 9 (.int .i64 ((ofP d (made ++ more)).2 : Int)) rfl (by kernel_rfl) (fun _ _ _ h => h) rfl (fun W _ => by kernel_rfl) (by assumption) ?_
                    try simp only [Act.put, List.setIfInBounds_toArray, List.set_cons_succ, List.set_cons_zero]
                    refine Agg.held_ready [11] (by kernel_rfl) (by simp) ?_
                    refine Agg.held_cons rfl ?_ ?_
                    · refine Agg.step_put rfl rfl 33 _ _ rfl g13 (rsC (ofP d (made ++ more)).1.1 ti tr) _ rfl rfl HB_1_3_5_6_10.out (rsC_info _ _ _) (rsC_ss _ _ _ _ _ _) (rsC_one _ HI_1_3_5_6_10.out.slice HR_1_3_5_6_10.out.slice) ?_
                      intro wz hbz hxz hsz hkz
                      have HBZ := Lib.hid hbz
                      have HXZ := Lib.hid (HX_1_3_5_6_10.out.trans (hxz.mono HG13.out))
                      have HOZ := Lib.hid (Only.of_eq hxz hsz hkz rfl : Only (· = g13) _ _)
                      have HIZ := Lib.hid (HI_1_3_5_6_10.out.onlyB HOZ.out HB_1_3_5_6_10.out (by decide)).slice
                      have HRZ := Lib.hid (HR_1_3_5_6_10.out.onlyB HOZ.out HB_1_3_5_6_10.out (by decide)).slice
                      clear hbz hxz hsz hkz
                      refine ⟨HXZ.out, ?_⟩
                      try simp only [Act.put, List.setIfInBounds_toArray, List.set_cons_succ, List.set_cons_zero]
                      refine Agg.held_take 12 (.int .i64 ((ofP d (made ++ more)).2 : Int)) rfl (by kernel_rfl) (fun _ _ _ h => h) rfl (fun W _ => by kernel_rfl) (by assumption) ?_
                      try simp only [Act.put, List.setIfInBounds_toArray, List.set_cons_succ, List.set_cons_zero]
                      refine Agg.held_end (by kernel_rfl) ?_
                      refine ⟨g13, ti, tr, RvB.of_blk HBZ.out, HIZ.out, HRZ.out, HXZ.out, ?_⟩
                      simp only [Agg.ExPut, Act.put, List.setIfInBounds_toArray, List.set_cons_succ, List.set_cons_zero]
                      exact ⟨_, _, _, _, _, _, _, _, _, _, rfl⟩
                    exact AllReadyH.nil
                  exact AllReadyH.nil
                exact AllReadyH.nil
              exact AllReadyH.nil
            refine Agg.held_cons rfl ?_ ?_
            · refine Agg.step_zero rfl 33 rfl (rsC [] (.slice none 0 0) (.slice none 0 0)) rsC_zero ?_
              intro g13 wq_1_10 hb hx hg
              have HX_1_10 := Lib.hid (Agg.belowThen HX_1.out (Nat.le_refl _) hx)
              have HO_1_10 := Lib.hid (HO_1.out.below hx)
              have HB_1_10 := Lib.hid hb
              have HG13 := Lib.hid (Nat.le_trans HX_1.out.size hg)
              clear hb hx hg
              refine ⟨HX_1_10.out, ?_⟩
              try simp only [Act.put, List.setIfInBounds_toArray, List.set_cons_succ, List.set_cons_zero]
              refine Agg.held_ready [3] (by kernel_rfl) (by simp) ?_
              refine Agg.held_cons rfl ?_ ?_
              · refine Agg.step_appendS (E := EMd) (base := w52.heap.size) rfl _ _ rfl v1 rfl rfl made HO_1_10.out (SliceOf.below M1_52.out HX_1_10.out) (by simp; omega) (by decide) HX_1_10.out.size ?_
                intro vb wq_1_3_10 ho hp
                have hx := hp.below w52.heap.size (Nat.le_refl _) HX_1_10.out.size
                have HX_1_3_10 := Lib.hid (HX_1_10.out.trans hx)
                have HO_1_3_10 := Lib.hid ho
                have HB_1_3_10 := Lib.hid (HB_1_10.out.pushedB hp (by decide))
                clear ho hp hx
                refine ⟨HX_1_3_10.out, ?_⟩
                try simp only [Act.put, List.setIfInBounds_toArray, List.set_cons_succ, List.set_cons_zero]
                refine Agg.held_ready [5] (by kernel_rfl) (by simp) ?_
                refine Agg.held_cons rfl ?_ ?_
                · refine Agg.step_appendS (E := EMd) (base := w52.heap.size) rfl _ _ rfl v2 rfl rfl more HO_1_3_10.out (SliceOf.below M2_52.out HX_1_3_10.out) (by simp; omega) (by decide) HX_1_3_10.out.size ?_
                  intro vc wq_1_3_5_10 ho hp
                  have hx := hp.below w52.heap.size (Nat.le_refl _) HX_1_3_10.out.size
                  have HX_1_3_5_10 := Lib.hid (HX_1_3_10.out.trans hx)
                  have HO_1_3_5_10 := Lib.hid ho
                  have HB_1_3_5_10 := Lib.hid (HB_1_3_10.out.pushedB hp (by decide))
                  clear ho hp hx
                  refine ⟨HX_1_3_5_10.out, ?_⟩
                  try simp only [Act.put, List.setIfInBounds_toArray, List.set_cons_succ, List.set_cons_zero]
                  refine Agg.held_ready [6] (by kernel_rfl) (by simp) ?_
                  refine Agg.held_cons rfl ?_ ?_
                  · refine Agg.step_call rfl 10 _ _ rfl #[.agg #[.string ⟨d.1.toArray⟩, vn, vr], vc] (by simp only [List.map_toArray, List.map_cons, List.map_nil]; rfl) (fun W => HEO.out _ W) ?_
                    refine (rof2_any _ vc d (made ++ more) hd2 HRC.out (by simp; omega) _ ⟨vn, vr, rfl, SliceOf.below DN_52.out HX_1_3_5_10.out, SliceOf.below DR_52.out HX_1_3_5_10.out⟩ (by have := HO_1_3_5_10.out.slice; simpa using this)).mono ?_
                    rintro x wq_1_3_5_6_10 ⟨ti, tr, rfl, hi, hr, hx⟩
                    have HX_1_3_5_6_10 := Lib.hid (Agg.belowThen HX_1_3_5_10.out (Nat.le_refl _) hx)
                    have HB_1_3_5_6_10 := Lib.hid (HB_1_3_5_10.out.below hx)
                    have HI_1_3_5_6_10 := Lib.hid hi
                    have HR_1_3_5_6_10 := Lib.hid hr
                    clear hi hr hx
                    refine ⟨_, rfl, ?_⟩
                    refine ⟨HX_1_3_5_6_10.out, ?_⟩
                    try simp only [Act.put, List.setIfInBounds_toArray, List.set_cons_succ, List.set_cons_zero]
                    refine Agg.held_take 7 (.tuple #[.agg (rsC (ofP d (made ++ more)).1.1 ti tr), .int .i64 ((ofP d (made ++ more)).2 : Int)]) rfl (by kernel_rfl) (fun _ _ _ h => h) rfl (fun W _ => by kernel_rfl) (by assumption) ?_
                    try simp only [Act.put, List.setIfInBounds_toArray, List.set_cons_succ, List.set_cons_zero]
                    refine Agg.held_take 8 (.agg (rsC (ofP d (made ++ more)).1.1 ti tr)) rfl (by kernel_rfl) (fun _ _ _ h => h) rfl (fun W _ => by kernel_rfl) (by assumption) ?_
                    try simp only [Act.put, List.setIfInBounds_toArray, List.set_cons_succ, List.set_cons_zero]
                    refine Agg.held_take 9 (.int .i64 ((ofP d (made ++ more)).2 : Int)) rfl (by kernel_rfl) (fun _ _ _ h => h) rfl (fun W _ => by kernel_rfl) (by assumption) ?_
                    try simp only [Act.put, List.setIfInBounds_toArray, List.set_cons_succ, List.set_cons_zero]
                    refine Agg.held_ready [11] (by kernel_rfl) (by simp) ?_
                    refine Agg.held_cons rfl ?_ ?_
                    · refine Agg.step_put rfl rfl 33 _ _ rfl g13 (rsC (ofP d (made ++ more)).1.1 ti tr) _ rfl rfl HB_1_3_5_6_10.out (rsC_info _ _ _) (rsC_ss _ _ _ _ _ _) (rsC_one _ HI_1_3_5_6_10.out.slice HR_1_3_5_6_10.out.slice) ?_
                      intro wz hbz hxz hsz hkz
                      have HBZ := Lib.hid hbz
                      have HXZ := Lib.hid (HX_1_3_5_6_10.out.trans (hxz.mono HG13.out))
                      have HOZ := Lib.hid (Only.of_eq hxz hsz hkz rfl : Only (· = g13) _ _)
                      have HIZ := Lib.hid (HI_1_3_5_6_10.out.onlyB HOZ.out HB_1_3_5_6_10.out (by decide)).slice
                      have HRZ := Lib.hid (HR_1_3_5_6_10.out.onlyB HOZ.out HB_1_3_5_6_10.out (by decide)).slice
                      clear hbz hxz hsz hkz
                      refine ⟨HXZ.out, ?_⟩
                      try simp only [Act.put, List.setIfInBounds_toArray, List.set_cons_succ, List.set_cons_zero]
                      refine Agg.held_take 12 (.int .i64 ((ofP d (made ++ more)).2 : Int)) rfl (by kernel_rfl) (fun _ _ _ h => h) rfl (fun W _ => by kernel_rfl) (by assumption) ?_
                      try simp only [Act.put, List.setIfInBounds_toArray, List.set_cons_succ, List.set_cons_zero]
                      refine Agg.held_end (by kernel_rfl) ?_
                      refine ⟨g13, ti, tr, RvB.of_blk HBZ.out, HIZ.out, HRZ.out, HXZ.out, ?_⟩
                      simp only [Agg.ExPut, Act.put, List.setIfInBounds_toArray, List.set_cons_succ, List.set_cons_zero]
                      exact ⟨_, _, _, _, _, _, _, _, _, _, rfl⟩
                    exact AllReadyH.nil
                  exact AllReadyH.nil
                exact AllReadyH.nil
              exact AllReadyH.nil
            exact AllReadyH.nil
          refine Agg.held_cons rfl ?_ ?_
          · refine Agg.step_zero rfl 33 rfl (rsC [] (.slice none 0 0) (.slice none 0 0)) rsC_zero ?_
            intro g13 wq_10 hb hx hg
            have HX_10 := Lib.hid (Agg.belowThen HXD.out (Nat.le_refl _) hx)
            have HB_10 := Lib.hid hb
            have HG13 := Lib.hid (Nat.le_trans HXD.out.size hg)
            clear hb hx hg
            refine ⟨HX_10.out, ?_⟩
            try simp only [Act.put, List.setIfInBounds_toArray, List.set_cons_succ, List.set_cons_zero]
            refine Agg.held_ready [1] (by kernel_rfl) (by simp) ?_
            refine Agg.held_cons rfl ?_ ?_
            · refine Agg.step_slice0 EMd rfl rfl ?_
              intro va wq_1_10 ho hx
              have HX_1_10 := Lib.hid (Agg.belowThen HX_10.out (Nat.le_refl _) hx)
              have HB_1_10 := Lib.hid (HB_10.out.below hx)
              have HO_1_10 := Lib.hid (ho.lower HX_10.out.size)
              clear ho hx
              refine ⟨HX_1_10.out, ?_⟩
              try simp only [Act.put, List.setIfInBounds_toArray, List.set_cons_succ, List.set_cons_zero]
              refine Agg.held_ready [3] (by kernel_rfl) (by simp) ?_
              refine Agg.held_cons rfl ?_ ?_
              · refine Agg.step_appendS (E := EMd) (base := w52.heap.size) rfl _ _ rfl v1 rfl rfl made HO_1_10.out (SliceOf.below M1_52.out HX_1_10.out) (by simp; omega) (by decide) HX_1_10.out.size ?_
                intro vb wq_1_3_10 ho hp
                have hx := hp.below w52.heap.size (Nat.le_refl _) HX_1_10.out.size
                have HX_1_3_10 := Lib.hid (HX_1_10.out.trans hx)
                have HO_1_3_10 := Lib.hid ho
                have HB_1_3_10 := Lib.hid (HB_1_10.out.pushedB hp (by decide))
                clear ho hp hx
                refine ⟨HX_1_3_10.out, ?_⟩
                try simp only [Act.put, List.setIfInBounds_toArray, List.set_cons_succ, List.set_cons_zero]
                refine Agg.held_ready [5] (by kernel_rfl) (by simp) ?_
                refine Agg.held_cons rfl ?_ ?_
                · refine Agg.step_appendS (E := EMd) (base := w52.heap.size) rfl _ _ rfl v2 rfl rfl more HO_1_3_10.out (SliceOf.below M2_52.out HX_1_3_10.out) (by simp; omega) (by decide) HX_1_3_10.out.size ?_
                  intro vc wq_1_3_5_10 ho hp
                  have hx := hp.below w52.heap.size (Nat.le_refl _) HX_1_3_10.out.size
                  have HX_1_3_5_10 := Lib.hid (HX_1_3_10.out.trans hx)
                  have HO_1_3_5_10 := Lib.hid ho
                  have HB_1_3_5_10 := Lib.hid (HB_1_3_10.out.pushedB hp (by decide))
                  clear ho hp hx
                  refine ⟨HX_1_3_5_10.out, ?_⟩
                  try simp only [Act.put, List.setIfInBounds_toArray, List.set_cons_succ, List.set_cons_zero]
                  refine Agg.held_ready [6] (by kernel_rfl) (by simp) ?_
                  refine Agg.held_cons rfl ?_ ?_
                  · refine Agg.step_call rfl 10 _ _ rfl #[.agg #[.string ⟨d.1.toArray⟩, vn, vr], vc] (by simp only [List.map_toArray, List.map_cons, List.map_nil]; rfl) (fun W => HEO.out _ W) ?_
                    refine (rof2_any _ vc d (made ++ more) hd2 HRC.out (by simp; omega) _ ⟨vn, vr, rfl, SliceOf.below DN_52.out HX_1_3_5_10.out, SliceOf.below DR_52.out HX_1_3_5_10.out⟩ (by have := HO_1_3_5_10.out.slice; simpa using this)).mono ?_
                    rintro x wq_1_3_5_6_10 ⟨ti, tr, rfl, hi, hr, hx⟩
                    have HX_1_3_5_6_10 := Lib.hid (Agg.belowThen HX_1_3_5_10.out (Nat.le_refl _) hx)
                    have HB_1_3_5_6_10 := Lib.hid (HB_1_3_5_10.out.below hx)
                    have HI_1_3_5_6_10 := Lib.hid hi
                    have HR_1_3_5_6_10 := Lib.hid hr
                    clear hi hr hx
                    refine ⟨_, rfl, ?_⟩
                    refine ⟨HX_1_3_5_6_10.out, ?_⟩
                    try simp only [Act.put, List.setIfInBounds_toArray, List.set_cons_succ, List.set_cons_zero]
                    refine Agg.held_take 7 (.tuple #[.agg (rsC (ofP d (made ++ more)).1.1 ti tr), .int .i64 ((ofP d (made ++ more)).2 : Int)]) rfl (by kernel_rfl) (fun _ _ _ h => h) rfl (fun W _ => by kernel_rfl) (by assumption) ?_
                    try simp only [Act.put, List.setIfInBounds_toArray, List.set_cons_succ, List.set_cons_zero]
                    refine Agg.held_take 8 (.agg (rsC (ofP d (made ++ more)).1.1 ti tr)) rfl (by kernel_rfl) (fun _ _ _ h => h) rfl (fun W _ => by kernel_rfl) (by assumption) ?_
                    try simp only [Act.put, List.setIfInBounds_toArray, List.set_cons_succ, List.set_cons_zero]
                    refine Agg.held_take 9 (.int .i64 ((ofP d (made ++ more)).2 : Int)) rfl (by kernel_rfl) (fun _ _ _ h => h) rfl (fun W _ => by kernel_rfl) (by assumption) ?_
                    try simp only [Act.put, List.setIfInBounds_toArray, List.set_cons_succ, List.set_cons_zero]
                    refine Agg.held_ready [11] (by kernel_rfl) (by simp) ?_
                    refine Agg.held_cons rfl ?_ ?_
                    · refine Agg.step_put rfl rfl 33 _ _ rfl g13 (rsC (ofP d (made ++ more)).1.1 ti tr) _ rfl rfl HB_1_3_5_6_10.out (rsC_info _ _ _) (rsC_ss _ _ _ _ _ _) (rsC_one _ HI_1_3_5_6_10.out.slice HR_1_3_5_6_10.out.slice) ?_
                      intro wz hbz hxz hsz hkz
                      have HBZ := Lib.hid hbz
                      have HXZ := Lib.hid (HX_1_3_5_6_10.out.trans (hxz.mono HG13.out))
                      have HOZ := Lib.hid (Only.of_eq hxz hsz hkz rfl : Only (· = g13) _ _)
                      have HIZ := Lib.hid (HI_1_3_5_6_10.out.onlyB HOZ.out HB_1_3_5_6_10.out (by decide)).slice
                      have HRZ := Lib.hid (HR_1_3_5_6_10.out.onlyB HOZ.out HB_1_3_5_6_10.out (by decide)).slice
                      clear hbz hxz hsz hkz
                      refine ⟨HXZ.out, ?_⟩
                      try simp only [Act.put, List.setIfInBounds_toArray, List.set_cons_succ, List.set_cons_zero]
                      refine Agg.held_take 12 (.int .i64 ((ofP d (made ++ more)).2 : Int)) rfl (by kernel_rfl) (fun _ _ _ h => h) rfl (fun W _ => by kernel_rfl) (by assumption) ?_
                      try simp only [Act.put, List.setIfInBounds_toArray, List.set_cons_succ, List.set_cons_zero]
                      refine Agg.held_end (by kernel_rfl) ?_
                      refine ⟨g13, ti, tr, RvB.of_blk HBZ.out, HIZ.out, HRZ.out, HXZ.out, ?_⟩
                      simp only [Agg.ExPut, Act.put, List.setIfInBounds_toArray, List.set_cons_succ, List.set_cons_zero]
                      exact ⟨_, _, _, _, _, _, _, _, _, _, rfl⟩
                    exact AllReadyH.nil
                  exact AllReadyH.nil
                exact AllReadyH.nil
              exact AllReadyH.nil
            exact AllReadyH.nil
          exact AllReadyH.nil
        rintro a' w53 ⟨g13, ti, tr, h13, hti, htr, hx, hput⟩
        simp only [Agg.ExPut] at hput
        obtain ⟨z111, z112, z113, z114, z115, z116, z117, z118, z119, z120, rfl⟩ := hput
        simp only [Act.put, List.setIfInBounds_toArray, List.set_cons_succ, List.set_cons_zero]
        have DN_53 := Lib.hid (SliceOf.below DN_52.out hx)
        have DR_53 := Lib.hid (SliceOf.below DR_52.out hx)
        have M1_53 := Lib.hid (SliceOf.below M1_52.out hx)
        have M2_53 := Lib.hid (SliceOf.below M2_52.out hx)
        have X_53 := Lib.hid (Agg.belowThen X_52.out (Nat.le_refl _) hx)
        have DB_53 := Lib.hid (DB_52.out.below hx)
        have RI_53 := Lib.hid (SliceOf.below RI_52.out hx)
        have RR_53 := Lib.hid (SliceOf.below RR_52.out hx)
        have RB_53 := Lib.hid (RB_52.out.below hx)
        have SI_53 := Lib.hid (SliceOf.below SI_52.out hx)
        have SR_53 := Lib.hid (SliceOf.below SR_52.out hx)
        have SB_53 := Lib.hid (SB_52.out.below hx)
        have TB_53 := Lib.hid h13
        have TI_53 := Lib.hid hti
        have TR_53 := Lib.hid htr
        clear hx h13 hti htr DN_52 DR_52 M1_52 M2_52 X_52 DB_52 RI_52 RR_52 RB_52 SI_52 SR_52 SB_52
        have hr8 : ((d.1, q, d.2.2) : Rv).2.1.length ≤ 1048576 := by show q.length ≤ 1048576; omega
        have he0 : errRv (d.1, q, d.2.2) = 0 := by simp [errRv, HQ.out.can]
        obtain ⟨kk, hkk⟩ : ∃ z, tagL tKey (d.1, q, d.2.2) = z := ⟨_, rfl⟩
        have hkl : kk.length = 20 := by rw [← hkk]; exact tagL_length _ _
        have HKY := Lib.hid (fun (v : Value) (W : World) (h : RvAt W v (d.1, q, d.2.2)) => rkey_any v (d.1, q, d.2.2) hr8 W h)
        rw [hkk, he0] at HKY
        clear hkk he0
        go_wp2_with (first | (with_reducible refine Agg.wpList_loadL RB_53.out.all rfl _ rfl rfl ?_))
        refine (HKY.out _ _ ⟨vi, ri, rfl, RI_53.out, RR_53.out⟩).mono ?_
        rintro e w54 ⟨rfl, hx⟩
        have DN_54 := Lib.hid (SliceOf.below DN_53.out hx)
        have DR_54 := Lib.hid (SliceOf.below DR_53.out hx)
        have M1_54 := Lib.hid (SliceOf.below M1_53.out hx)
        have M2_54 := Lib.hid (SliceOf.below M2_53.out hx)
        have X_54 := Lib.hid (Agg.belowThen X_53.out (Nat.le_refl _) hx)
        have DB_54 := Lib.hid (DB_53.out.below hx)
        have RI_54 := Lib.hid (SliceOf.below RI_53.out hx)
        have RR_54 := Lib.hid (SliceOf.below RR_53.out hx)
        have RB_54 := Lib.hid (RB_53.out.below hx)
        have SI_54 := Lib.hid (SliceOf.below SI_53.out hx)
        have SR_54 := Lib.hid (SliceOf.below SR_53.out hx)
        have SB_54 := Lib.hid (SB_53.out.below hx)
        have TB_54 := Lib.hid (TB_53.out.below hx)
        have TI_54 := Lib.hid (SliceOf.below TI_53.out hx)
        have TR_54 := Lib.hid (SliceOf.below TR_53.out hx)
        clear hx  DN_53 DR_53 M1_53 M2_53 X_53 DB_53 RI_53 RR_53 RB_53 SI_53 SR_53 SB_53 TB_53 TI_53 TR_53
        go_wp2_with (first | (refine Agg.wpList_new rfl rfl rfl 45 15 124 rfl rfl rfl (by decide) (hC z20) (hC kk) hash_zero2 (by rw [hC_size, hC_size, hkl, z20_length]) (hash_info1 _ hkl) (hC_one1 _) rfl (by first | (simp; done) | simp [Act.put]) ?_; intro g15 w55 hb hx hg; have DN_55 := Lib.hid (SliceOf.below DN_54.out hx); have DR_55 := Lib.hid (SliceOf.below DR_54.out hx); have M1_55 := Lib.hid (SliceOf.below M1_54.out hx); have M2_55 := Lib.hid (SliceOf.below M2_54.out hx); have X_55 := Lib.hid (Agg.belowThen X_54.out (Nat.le_refl _) hx); have DB_55 := Lib.hid (DB_54.out.below hx); have RI_55 := Lib.hid (SliceOf.below RI_54.out hx); have RR_55 := Lib.hid (SliceOf.below RR_54.out hx); have RB_55 := Lib.hid (RB_54.out.below hx); have SI_55 := Lib.hid (SliceOf.below SI_54.out hx); have SR_55 := Lib.hid (SliceOf.below SR_54.out hx); have SB_55 := Lib.hid (SB_54.out.below hx); have TB_55 := Lib.hid (TB_54.out.below hx); have TI_55 := Lib.hid (SliceOf.below TI_54.out hx); have TR_55 := Lib.hid (SliceOf.below TR_54.out hx); have K1_55 := Lib.hid ((hb.loads (P := Try.prog) Try.underlying45 rfl (hash_info1 _ hkl))); clear hb hx hg DN_54 DR_54 M1_54 M2_54 X_54 DB_54 RI_54 RR_54 RB_54 SI_54 SR_54 SB_54 TB_54 TI_54 TR_54) | (with_reducible refine Agg.wpList_loadL SB_55.out.all rfl _ rfl rfl ?_))
        refine (HKY.out _ _ ⟨si, sr, rfl, SI_55.out, SR_55.out⟩).mono ?_
        rintro e w56 ⟨rfl, hx⟩
        have DN_56 := Lib.hid (SliceOf.below DN_55.out hx)
        have DR_56 := Lib.hid (SliceOf.below DR_55.out hx)
        have M1_56 := Lib.hid (SliceOf.below M1_55.out hx)
        have M2_56 := Lib.hid (SliceOf.below M2_55.out hx)
        have X_56 := Lib.hid (Agg.belowThen X_55.out (Nat.le_refl _) hx)
        have DB_56 := Lib.hid (DB_55.out.below hx)
        have RI_56 := Lib.hid (SliceOf.below RI_55.out hx)
        have RR_56 := Lib.hid (SliceOf.below RR_55.out hx)
        have RB_56 := Lib.hid (RB_55.out.below hx)
        have SI_56 := Lib.hid (SliceOf.below SI_55.out hx)
        have SR_56 := Lib.hid (SliceOf.below SR_55.out hx)
        have SB_56 := Lib.hid (SB_55.out.below hx)
        have TB_56 := Lib.hid (TB_55.out.below hx)
        have TI_56 := Lib.hid (SliceOf.below TI_55.out hx)
        have TR_56 := Lib.hid (SliceOf.below TR_55.out hx)
        have K1_56 := Lib.hid (K1_55.out.below hx)
        clear hx  DN_55 DR_55 M1_55 M2_55 X_55 DB_55 RI_55 RR_55 RB_55 SI_55 SR_55 SB_55 TB_55 TI_55 TR_55 K1_55
        go_wp2_with (first | (refine Agg.wpList_new rfl rfl rfl 45 17 129 rfl rfl rfl (by decide) (hC z20) (hC kk) hash_zero2 (by rw [hC_size, hC_size, hkl, z20_length]) (hash_info1 _ hkl) (hC_one1 _) rfl (by first | (simp; done) | simp [Act.put]) ?_; intro g17 w57 hb hx hg; have DN_57 := Lib.hid (SliceOf.below DN_56.out hx); have DR_57 := Lib.hid (SliceOf.below DR_56.out hx); have M1_57 := Lib.hid (SliceOf.below M1_56.out hx); have M2_57 := Lib.hid (SliceOf.below M2_56.out hx); have X_57 := Lib.hid (Agg.belowThen X_56.out (Nat.le_refl _) hx); have DB_57 := Lib.hid (DB_56.out.below hx); have RI_57 := Lib.hid (SliceOf.below RI_56.out hx); have RR_57 := Lib.hid (SliceOf.below RR_56.out hx); have RB_57 := Lib.hid (RB_56.out.below hx); have SI_57 := Lib.hid (SliceOf.below SI_56.out hx); have SR_57 := Lib.hid (SliceOf.below SR_56.out hx); have SB_57 := Lib.hid (SB_56.out.below hx); have TB_57 := Lib.hid (TB_56.out.below hx); have TI_57 := Lib.hid (SliceOf.below TI_56.out hx); have TR_57 := Lib.hid (SliceOf.below TR_56.out hx); have K1_57 := Lib.hid (K1_56.out.below hx); have K2_57 := Lib.hid ((hb.loads (P := Try.prog) Try.underlying45 rfl (hash_info1 _ hkl))); clear hb hx hg DN_56 DR_56 M1_56 M2_56 X_56 DB_56 RI_56 RR_56 RB_56 SI_56 SR_56 SB_56 TB_56 TI_56 TR_56 K1_56) | (with_reducible refine Agg.wpList_loadL RB_57.out.all rfl _ rfl rfl ?_) | (with_reducible refine Agg.wpList_loadL SB_57.out.all rfl _ rfl rfl ?_))
        refine (alike_any _ _ (d.1, q, d.2.2) (d.1, q, d.2.2) hr8 hr8 hd3 hd3 _ ⟨vi, ri, rfl, RI_57.out, RR_57.out⟩ ⟨si, sr, rfl, SI_57.out, SR_57.out⟩).mono ?_
        rw [decide_eq_true (rfl : ((d.1, q, d.2.2) : Rv) = (d.1, q, d.2.2))]
        rintro e w58 ⟨rfl, hx⟩
        have DN_58 := Lib.hid (SliceOf.below DN_57.out hx)
        have DR_58 := Lib.hid (SliceOf.below DR_57.out hx)
        have M1_58 := Lib.hid (SliceOf.below M1_57.out hx)
        have M2_58 := Lib.hid (SliceOf.below M2_57.out hx)
        have X_58 := Lib.hid (Agg.belowThen X_57.out (Nat.le_refl _) hx)
        have DB_58 := Lib.hid (DB_57.out.below hx)
        have RI_58 := Lib.hid (SliceOf.below RI_57.out hx)
        have RR_58 := Lib.hid (SliceOf.below RR_57.out hx)
        have RB_58 := Lib.hid (RB_57.out.below hx)
        have SI_58 := Lib.hid (SliceOf.below SI_57.out hx)
        have SR_58 := Lib.hid (SliceOf.below SR_57.out hx)
        have SB_58 := Lib.hid (SB_57.out.below hx)
        have TB_58 := Lib.hid (TB_57.out.below hx)
        have TI_58 := Lib.hid (SliceOf.below TI_57.out hx)
        have TR_58 := Lib.hid (SliceOf.below TR_57.out hx)
        have K1_58 := Lib.hid (K1_57.out.below hx)
        have K2_58 := Lib.hid (K2_57.out.below hx)
        clear hx  DN_57 DR_57 M1_57 M2_57 X_57 DB_57 RI_57 RR_57 RB_57 SI_57 SR_57 SB_57 TB_57 TI_57 TR_57 K1_57 K2_57
        go_wp2_with (first | (with_reducible refine Agg.wpList_loadL RB_58.out.all rfl _ rfl rfl ?_))
        refine (rsCan_any _ (d.1, q, d.2.2) hr8 _ ⟨vi, ri, rfl, RI_58.out, RR_58.out⟩).mono ?_
        rw [HQ.out.can]
        rintro e w59 ⟨rfl, hx⟩
        have DN_59 := Lib.hid (SliceOf.below DN_58.out hx)
        have DR_59 := Lib.hid (SliceOf.below DR_58.out hx)
        have M1_59 := Lib.hid (SliceOf.below M1_58.out hx)
        have M2_59 := Lib.hid (SliceOf.below M2_58.out hx)
        have X_59 := Lib.hid (Agg.belowThen X_58.out (Nat.le_refl _) hx)
        have DB_59 := Lib.hid (DB_58.out.below hx)
        have RI_59 := Lib.hid (SliceOf.below RI_58.out hx)
        have RR_59 := Lib.hid (SliceOf.below RR_58.out hx)
        have RB_59 := Lib.hid (RB_58.out.below hx)
        have SI_59 := Lib.hid (SliceOf.below SI_58.out hx)
        have SR_59 := Lib.hid (SliceOf.below SR_58.out hx)
        have SB_59 := Lib.hid (SB_58.out.below hx)
        have TB_59 := Lib.hid (TB_58.out.below hx)
        have TI_59 := Lib.hid (SliceOf.below TI_58.out hx)
        have TR_59 := Lib.hid (SliceOf.below TR_58.out hx)
        have K1_59 := Lib.hid (K1_58.out.below hx)
        have K2_59 := Lib.hid (K2_58.out.below hx)
        clear hx  DN_58 DR_58 M1_58 M2_58 X_58 DB_58 RI_58 RR_58 RB_58 SI_58 SR_58 SB_58 TB_58 TI_58 TR_58 K1_58 K2_58
        have hlqq := fun W => ris_len RI_59.out W
        have hleq : ((d.2.1.length : Int) == (d.2.1.length : Int)) = true := by simp
        rw [hql] at hlqq
        have HEQH := Lib.hid (fun W => (show (binOp .eql 45 (.agg (hC kk)) (.agg (hC kk))).run Try.prog W = .ok (.bool true) W by have := eqlHB ⟨kk, hkl⟩ ⟨kk, hkl⟩ W; simpa using this))
        rcases HQ.out.more_ with hmo | hmo
        · rw [hmo] at TB_59 TI_59 TR_59
          rw [hmo]
          clear hmo
          go_wp2_with (first | (with_reducible refine Agg.wpList_loadL RB_59.out.inp rfl _ rfl rfl ?_) | (with_reducible refine Agg.wpList_loadL DB_59.out.inp rfl _ rfl rfl ?_) | (with_reducible refine Agg.wpList_loadL TB_59.out.all rfl _ rfl rfl ?_) | (with_reducible refine Agg.wpList_loadL RB_59.out.all rfl _ rfl rfl ?_))
          refine (alike_any _ _ (d.1, q, d.2.2) (d.1, q, d.2.2) hr8 hr8 hd3 hd3 _ ⟨ti, tr, rfl, TI_59.out, TR_59.out⟩ ⟨vi, ri, rfl, RI_59.out, RR_59.out⟩).mono ?_
          rw [decide_eq_true (rfl : ((d.1, q, d.2.2) : Rv) = (d.1, q, d.2.2))]
          rintro e w60 ⟨rfl, hx⟩
          have DN_60 := Lib.hid (SliceOf.below DN_59.out hx)
          have DR_60 := Lib.hid (SliceOf.below DR_59.out hx)
          have M1_60 := Lib.hid (SliceOf.below M1_59.out hx)
          have M2_60 := Lib.hid (SliceOf.below M2_59.out hx)
          have X_60 := Lib.hid (Agg.belowThen X_59.out (Nat.le_refl _) hx)
          have DB_60 := Lib.hid (DB_59.out.below hx)
          have RI_60 := Lib.hid (SliceOf.below RI_59.out hx)
          have RR_60 := Lib.hid (SliceOf.below RR_59.out hx)
          have RB_60 := Lib.hid (RB_59.out.below hx)
          have SI_60 := Lib.hid (SliceOf.below SI_59.out hx)
          have SR_60 := Lib.hid (SliceOf.below SR_59.out hx)
          have SB_60 := Lib.hid (SB_59.out.below hx)
          have TB_60 := Lib.hid (TB_59.out.below hx)
          have TI_60 := Lib.hid (SliceOf.below TI_59.out hx)
          have TR_60 := Lib.hid (SliceOf.below TR_59.out hx)
          have K1_60 := Lib.hid (K1_59.out.below hx)
          have K2_60 := Lib.hid (K2_59.out.below hx)
          clear hx  DN_59 DR_59 M1_59 M2_59 X_59 DB_59 RI_59 RR_59 RB_59 SI_59 SR_59 SB_59 TB_59 TI_59 TR_59 K1_59 K2_59
          go_wp2_with (first | (with_reducible refine Agg.wpList_loadL K1_60.out rfl _ rfl rfl ?_) | (with_reducible refine Agg.wpList_loadL K2_60.out rfl _ rfl rfl ?_) | (with_reducible refine Agg.wpList_eqlw 45 45 _ _ rfl rfl (hC kk) (hC kk) rfl rfl true (by kernel_rfl) HEQH.out ?_))
          go_ret
          exact ⟨rfl, X_60.out⟩
        · rw [hmo] at TB_59 TI_59 TR_59
          rw [hmo]
          clear hmo
          go_wp2_with (first | (with_reducible refine Agg.wpList_loadL RB_59.out.inp rfl _ rfl rfl ?_) | (with_reducible refine Agg.wpList_loadL DB_59.out.inp rfl _ rfl rfl ?_) | (with_reducible refine Agg.wpList_loadL TB_59.out.all rfl _ rfl rfl ?_) | (with_reducible refine Agg.wpList_loadL RB_59.out.all rfl _ rfl rfl ?_) | (with_reducible refine Agg.wpList_loadL K1_59.out rfl _ rfl rfl ?_) | (with_reducible refine Agg.wpList_loadL K2_59.out rfl _ rfl rfl ?_) | (with_reducible refine Agg.wpList_eqlw 45 45 _ _ rfl rfl (hC kk) (hC kk) rfl rfl true (by kernel_rfl) HEQH.out ?_))
          go_ret
          exact ⟨rfl, X_59.out⟩
  · rw [hq] at RI_4 RR_4
    rw [hq]
    clear hq
    go_wp2_with (first | (refine Agg.wpList_new rfl rfl rfl 33 7 36 rfl rfl rfl (by decide) (rsC [] (.slice none 0 0) (.slice none 0 0)) (rsC ([] : List UInt8) vi ri) rsC_zero (rsC_ss _ _ _ _ _ _) (rsC_info _ _ _) (rsC_one _ RI_4.out RR_4.out) rfl (by first | (simp; done) | simp [Act.put]) ?_; intro g7 w5 hb hx hg; have DN_5 := Lib.hid (SliceOf.below DN_4.out hx); have DR_5 := Lib.hid (SliceOf.below DR_4.out hx); have M1_5 := Lib.hid (SliceOf.below M1_4.out hx); have M2_5 := Lib.hid (SliceOf.below M2_4.out hx); have X_5 := Lib.hid (Agg.belowThen X_4.out (Nat.le_refl _) hx); have DB_5 := Lib.hid (DB_4.out.below hx); have RI_5 := Lib.hid (SliceOf.below RI_4.out hx); have RR_5 := Lib.hid (SliceOf.below RR_4.out hx); have RB_5 := Lib.hid (RvB.of_blk hb); clear hb hx hg DN_4 DR_4 M1_4 M2_4 X_4 DB_4 RI_4 RR_4) | (with_reducible refine Agg.wpList_loadL RB_5.out.all rfl _ rfl rfl ?_) | (with_reducible refine Agg.wpList_build0 33 rfl (by kernel_rfl) (.agg (rsC [] (.slice none 0 0) (.slice none 0 0))) build_rszC ?_))
    refine (alike_any _ _ zRv zRv (by decide) (by decide) (by decide) (by decide) _ ⟨vi, ri, rfl, RI_5.out, RR_5.out⟩ ⟨_, _, rfl, SliceOf.nil _ _ _, SliceOf.nil _ _ _⟩).mono ?_
    rw [decide_eq_true (rfl : zRv = zRv)]
    rintro e w6 ⟨rfl, hx⟩
    have DN_6 := Lib.hid (SliceOf.below DN_5.out hx)
    have DR_6 := Lib.hid (SliceOf.below DR_5.out hx)
    have M1_6 := Lib.hid (SliceOf.below M1_5.out hx)
    have M2_6 := Lib.hid (SliceOf.below M2_5.out hx)
    have X_6 := Lib.hid (Agg.belowThen X_5.out (Nat.le_refl _) hx)
    have DB_6 := Lib.hid (DB_5.out.below hx)
    have RI_6 := Lib.hid (SliceOf.below RI_5.out hx)
    have RR_6 := Lib.hid (SliceOf.below RR_5.out hx)
    have RB_6 := Lib.hid (RB_5.out.below hx)
    clear hx  DN_5 DR_5 M1_5 M2_5 X_5 DB_5 RI_5 RR_5 RB_5
    go_wp2_with fail
    go_ret
    exact ⟨rfl, X_6.out⟩
  · rw [hq] at RI_4 RR_4
    rw [hq]
    clear hq
    go_wp2_with (first | (refine Agg.wpList_new rfl rfl rfl 33 7 36 rfl rfl rfl (by decide) (rsC [] (.slice none 0 0) (.slice none 0 0)) (rsC ([] : List UInt8) vi ri) rsC_zero (rsC_ss _ _ _ _ _ _) (rsC_info _ _ _) (rsC_one _ RI_4.out RR_4.out) rfl (by first | (simp; done) | simp [Act.put]) ?_; intro g7 w5 hb hx hg; have DN_5 := Lib.hid (SliceOf.below DN_4.out hx); have DR_5 := Lib.hid (SliceOf.below DR_4.out hx); have M1_5 := Lib.hid (SliceOf.below M1_4.out hx); have M2_5 := Lib.hid (SliceOf.below M2_4.out hx); have X_5 := Lib.hid (Agg.belowThen X_4.out (Nat.le_refl _) hx); have DB_5 := Lib.hid (DB_4.out.below hx); have RI_5 := Lib.hid (SliceOf.below RI_4.out hx); have RR_5 := Lib.hid (SliceOf.below RR_4.out hx); have RB_5 := Lib.hid (RvB.of_blk hb); clear hb hx hg DN_4 DR_4 M1_4 M2_4 X_4 DB_4 RI_4 RR_4) | (with_reducible refine Agg.wpList_loadL RB_5.out.all rfl _ rfl rfl ?_) | (with_reducible refine Agg.wpList_build0 33 rfl (by kernel_rfl) (.agg (rsC [] (.slice none 0 0) (.slice none 0 0))) build_rszC ?_))
    refine (alike_any _ _ zRv zRv (by decide) (by decide) (by decide) (by decide) _ ⟨vi, ri, rfl, RI_5.out, RR_5.out⟩ ⟨_, _, rfl, SliceOf.nil _ _ _, SliceOf.nil _ _ _⟩).mono ?_
    rw [decide_eq_true (rfl : zRv = zRv)]
    rintro e w6 ⟨rfl, hx⟩
    have DN_6 := Lib.hid (SliceOf.below DN_5.out hx)
    have DR_6 := Lib.hid (SliceOf.below DR_5.out hx)
    have M1_6 := Lib.hid (SliceOf.below M1_5.out hx)
    have M2_6 := Lib.hid (SliceOf.below M2_5.out hx)
    have X_6 := Lib.hid (Agg.belowThen X_5.out (Nat.le_refl _) hx)
    have DB_6 := Lib.hid (DB_5.out.below hx)
    have RI_6 := Lib.hid (SliceOf.below RI_5.out hx)
    have RR_6 := Lib.hid (SliceOf.below RR_5.out hx)
    have RB_6 := Lib.hid (RB_5.out.below hx)
    clear hx  DN_5 DR_5 M1_5 M2_5 X_5 DB_5 RI_5 RR_5 RB_5
    have HCD := Lib.hid hcd
    clear hcd
    go_wp2_with (first | (with_reducible refine Agg.wpList_loadL DB_6.out.all rfl _ rfl rfl ?_))
    refine (textCan_any _ d hd2 _ ⟨vn, vr, rfl, DN_6.out, DR_6.out⟩).mono ?_
    rw [HCD.out]
    rintro e w7 ⟨rfl, hx⟩
    have DN_7 := Lib.hid (SliceOf.below DN_6.out hx)
    have DR_7 := Lib.hid (SliceOf.below DR_6.out hx)
    have M1_7 := Lib.hid (SliceOf.below M1_6.out hx)
    have M2_7 := Lib.hid (SliceOf.below M2_6.out hx)
    have X_7 := Lib.hid (Agg.belowThen X_6.out (Nat.le_refl _) hx)
    have DB_7 := Lib.hid (DB_6.out.below hx)
    have RI_7 := Lib.hid (SliceOf.below RI_6.out hx)
    have RR_7 := Lib.hid (SliceOf.below RR_6.out hx)
    have RB_7 := Lib.hid (RB_6.out.below hx)
    clear hx  DN_6 DR_6 M1_6 M2_6 X_6 DB_6 RI_6 RR_6 RB_6
    go_wp2_with fail
    go_ret
    exact ⟨rfl, X_7.out⟩
end Go.Proofs.Ytgekpghjlhcpkaa
