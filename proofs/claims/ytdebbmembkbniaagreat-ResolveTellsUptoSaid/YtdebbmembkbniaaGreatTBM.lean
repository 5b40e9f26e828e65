/- spencelaw20.awake. -/
import Derived.Test.YtdebbmembkbniaaGreatTAM
import Derived.Test.YtdebbmembkbniaaGreatTBJ
import Derived.Test.YtdebbmembkbniaaGreatTBL
import Derived.Test.YtdebbmembkbniaaGreatTAL
namespace Go.Proofs.YtdebbmembkbniaaGreat
open Go.RowKit Pl Go.Agg Go.Sha
set_option maxRecDepth 100000 in
set_option maxHeartbeats 16000000 in
theorem awake20_any (w : World) : Calls Tryz.prog 6 #[] w fun e w' => e = .returned (.bool true) ∧ Below w.heap.size w w' := by
 have HEP := Lib.hid (enters_of Tryz.func28 (by kernel_rfl) rfl : ∀ args w, (callFunc 28 args).run Tryz.prog w = .ok (.enter 28 args) w)
 have HEO := Lib.hid (enters_of Tryz.func30 (by kernel_rfl) rfl : ∀ args w, (callFunc 30 args).run Tryz.prog w = .ok (.enter 30 args) w)
 go_enter Tryz.func6, Tryz.ntmps6
 go_wp2_with (first | (with_reducible refine wpList_build1 43 0 _ rfl rfl (.int .u8 7) rfl (.agg (hC (hOne 7).1)) build_h7 ?_))
 refine (path1_any w).mono ?_
 rintro e w1 ⟨rfl, hx1⟩
 have HX1 := Lib.hid hx1
 clear hx1
 go_wp2_with (first | (with_reducible refine Agg.wpList_zero rfl 43 rfl (hC z20) hash_zero2 ?_; intro b1 w2 hb hx hg; have HA1 := Lib.hid hb; have HX2 := Lib.hid (belowThen HX1.out (Nat.le_refl _) hx); have HG1 := Lib.hid (Nat.le_trans HX1.out.size hg); clear hb hx hg) | (with_reducible refine Agg.wpList_zero rfl 48 rfl (pC z20 []) pC_zero ?_; intro b2 w3 hb hx hg; have HA2 := Lib.hid (HA1.out.below hx); have HP2 := Lib.hid hb; have HN12 := Lib.hid (show b1 ≠ b2 from fun e => by have := HA1.out.lt; omega); have HX3 := Lib.hid (belowThen HX2.out (Nat.le_refl _) hx); have HG2 := Lib.hid (Nat.le_trans HX2.out.size hg); clear hb hx hg) | ((with_reducible refine wpList_put rfl rfl 43 _ _ rfl b1 (hC (hOne 7).1) (hC z20) rfl rfl HA2.out (hash_info1 _ rfl) (by rw [hC_size, hC_size, z20_length, (hOne 7).2]) (hC_one1 _) ?_); intro w4 hb hx hs hk; have HA4 := Lib.hid hb; have HP4 := Lib.hid (show Blk w4 b2 48 (pC z20 []) from (hk b2 HN12.out.symm).trans HP2.out); have HX4 := Lib.hid (HX3.out.trans (hx.mono HG1.out)); clear hb hx hs hk) | ((with_reducible refine wpList_put rfl rfl 48 _ _ rfl b2 (pC (pOne 1 112).1.1 (pOne 1 112).1.2) (pC z20 []) rfl rfl HP4.out (pC_info _ _ (pOne 1 112).2) (by rw [pC_size, pC_size, (pOne 1 112).2, z20_length]) (pC_one _ _) ?_); intro w5 hb hx hs hk; have HA5 := Lib.hid (show Blk w5 b1 43 (hC (hOne 7).1) from (hk b1 HN12.out).trans HA4.out); have HP5 := Lib.hid hb; have HX5 := Lib.hid (HX4.out.trans (hx.mono HG2.out)); clear hb hx hs hk))
 refine Agg.wp_cutR (fun a a' w' => ∃ b3 vi vr, Blk w' b1 43 (hC (hOne 7).1) ∧ Blk w' b2 48 (pC (pOne 1 112).1.1 (pOne 1 112).1.2) ∧ Blk w' b3 25 (rsC r1.1 vi vr) ∧ SliceOf ERi w' vi r1.2.1 ∧ BytesAt w' vr r1.2.2 ∧ Below w.heap.size w w' ∧ ExPut [13, 14, 15, 16, 17, 18, 19, 20, 21, 22, 23, 24, 25, 26, 27, 28] ((a.put (some 3) (.pointer (some ⟨b3, 0, none⟩))).put (some 4) (.int .i64 0)) a') ?_ ?_
 ·try simp only [Act.put, List.setIfInBounds_toArray, List.set_cons_succ, List.set_cons_zero]
  obtain ⟨w0, hw0⟩ : ∃ W, W = w5.drew := ⟨_, rfl⟩
  have hd0 : Below w5.heap.size w5 w0 := by rw [hw0]; exact (Below.refl _ _).drew
  have H1d := Lib.hid (HA5.out.below hd0)
  have H2d := Lib.hid (HP5.out.below hd0)
  have HXd := Lib.hid (belowThen HX5.out (Nat.le_refl _) hd0)
  have HLd := Lib.hid (Below.refl w0.heap.size w0)
  have HHL := Lib.hid (And.intro H1d.out.lt H2d.out.lt)
  have HWW := Lib.hid (belowThen HX5.out (Nat.le_refl _) hd0).size
  refine wp_region_held_drew (S := fun W => Blk W b1 43 (hC (hOne 7).1) ∧ Blk W b2 48 (pC (pOne 1 112).1.1 (pOne 1 112).1.2)) (by kernel_rfl) (by rw [← hw0]; exact ⟨H1d.out, H2d.out⟩) (fun hHeld => ?_)
  rw [← hw0] at hHeld ⊢
  clear hw0 hd0
  refine held_take 0 ((.agg (hC (hOne 7).1))) rfl (by kernel_rfl) (fun _ _ _ h => h) rfl (fun W hS => exec_loadC rfl rfl (hS.1.loads (P := Tryz.prog) Tryz.underlying43 rfl (hash_info1 _ rfl)).now) (by assumption) ?_
  try simp only [Act.put, List.setIfInBounds_toArray, List.set_cons_succ, List.set_cons_zero]
  refine held_take 1 (.agg (iC i1)) rfl (by kernel_rfl) (fun _ _ _ h => h) rfl (fun W _ => exec_build2C rfl rfl rfl (build_i1 W)) (by assumption) ?_
  try simp only [Act.put, List.setIfInBounds_toArray, List.set_cons_succ, List.set_cons_zero]
  refine held_take 2 (.agg (nmC n1)) rfl (by kernel_rfl) (fun _ _ _ h => h) rfl (fun W _ => exec_build2C rfl rfl rfl (build_n1 W)) (by assumption) ?_
  try simp only [Act.put, List.setIfInBounds_toArray, List.set_cons_succ, List.set_cons_zero]
  refine held_take 5 ((.agg (hC (hOne 7).1))) rfl (by kernel_rfl) (fun _ _ _ h => h) rfl (fun W hS => exec_loadC rfl rfl (hS.1.loads (P := Tryz.prog) Tryz.underlying43 rfl (hash_info1 _ rfl)).now) (by assumption) ?_
  try simp only [Act.put, List.setIfInBounds_toArray, List.set_cons_succ, List.set_cons_zero]
  refine held_take 6 ((.agg (pC (pOne 1 112).1.1 (pOne 1 112).1.2))) rfl (by kernel_rfl) (fun _ _ _ h => h) rfl (fun W hS => exec_loadC rfl rfl (hS.2.loads (P := Tryz.prog) pC_under rfl (pC_info _ _ rfl)).now) (by assumption) ?_
  try simp only [Act.put, List.setIfInBounds_toArray, List.set_cons_succ, List.set_cons_zero]
  refine held_take 7 (.agg (mC (hOne 7, pOne 1 112))) rfl (by kernel_rfl) (fun _ _ _ h => h) rfl (fun W _ => exec_build2C rfl rfl rfl (build_m1 W)) (by assumption) ?_
  try simp only [Act.put, List.setIfInBounds_toArray, List.set_cons_succ, List.set_cons_zero]
  refine held_take 8 ((.agg (hC (hOne 7).1))) rfl (by kernel_rfl) (fun _ _ _ h => h) rfl (fun W hS => exec_loadC rfl rfl (hS.1.loads (P := Tryz.prog) Tryz.underlying43 rfl (hash_info1 _ rfl)).now) (by assumption) ?_
  try simp only [Act.put, List.setIfInBounds_toArray, List.set_cons_succ, List.set_cons_zero]
  refine held_ready [3, 9, 16] (by kernel_rfl) (by simp) ?_
  refine held_cons rfl ?_ ?_
  ·refine step_slice1 (E := ENm) rfl _ rfl n1 rfl ?_
   intro u3 w_3 hu hx
   obtain ⟨pu, cu, hfu⟩ := hu.slice.form
   have HBD := Lib.hid (fun W => (show (Instr.build 66 #[(0, .string ⟨#[97]⟩), (1, u3)]).run Tryz.prog W = .ok (.agg #[.string ⟨#[97]⟩, u3, .slice none 0 0]) W by rw [hfu]; exact build_dv _ _ _ _))
   have H1_3 := Lib.hid (H1d.out.below hx)
   have H2_3 := Lib.hid (H2d.out.below hx)
   have HX_3 := Lib.hid (belowThen HXd.out (Nat.le_refl _) hx)
   have HL_3 := Lib.hid (belowThen HLd.out (Nat.le_refl _) hx)
   have HN_3 := Lib.hid hu.slice
   clear hu hx hfu
   have HCJ := Lib.hid (And.intro H1_3.out H2_3.out)
   refine ⟨HCJ.out, ?_⟩
   try simp only [Act.put, List.setIfInBounds_toArray, List.set_cons_succ, List.set_cons_zero]
   refine held_take 4 (.agg #[.string ⟨#[97]⟩, u3, .slice none 0 0]) rfl (by kernel_rfl) (fun _ _ _ h => h) rfl (fun W _ => exec_build2C rfl rfl rfl (HBD.out W)) (by assumption) ?_
   try simp only [Act.put, List.setIfInBounds_toArray, List.set_cons_succ, List.set_cons_zero]
   refine held_ready [9, 16] (by kernel_rfl) (by simp) ?_
   refine held_cons rfl ?_ ?_
   ·refine step_call rfl 28 _ _ rfl #[.int .i64 2, .string ⟨#[113]⟩] (by simp only [List.map_toArray, List.map_cons, List.map_nil]; rfl) (fun W => HEP.out _ W) ?_
    refine (path2_any _).mono ?_
    rintro x Zcd ⟨rfl, hx⟩
    have Zbq := Lib.hid (H1_3.out.below hx)
    have Zbn := Lib.hid (H2_3.out.below hx)
    have Zby := Lib.hid (belowThen HX_3.out (Nat.le_refl _) hx)
    have Zbp := Lib.hid (belowThen HL_3.out (Nat.le_refl _) hx)
    have Zbx := Lib.hid (SliceOf.below HN_3.out hx)
    clear hx
    refine ⟨_, rfl, ?_⟩
    have HCJ := Lib.hid (And.intro Zbq.out Zbn.out)
    refine ⟨HCJ.out, ?_⟩
    try simp only [Act.put, List.setIfInBounds_toArray, List.set_cons_succ, List.set_cons_zero]
    refine held_take 10 (.agg (mC (hOne 7, pOne 2 113))) rfl (by kernel_rfl) (fun _ _ _ h => h) rfl (fun W _ => exec_build2C rfl rfl rfl (build_m2 W)) (by assumption) ?_
    try simp only [Act.put, List.setIfInBounds_toArray, List.set_cons_succ, List.set_cons_zero]
    refine held_ready [11, 16] (by kernel_rfl) (by simp) ?_
    refine held_cons rfl ?_ ?_
    ·refine Agg.step_slice2B (E := EMd) rfl _ _ rfl (hOne 7, pOne 1 112) (hOne 7, pOne 2 113) rfl rfl ?_
     intro um Zb9 hu hub hx
     have Z3 := Lib.hid (Zbq.out.below hx)
     have Z7 := Lib.hid (Zbn.out.below hx)
     have Zbc := Lib.hid (belowThen Zby.out (Nat.le_refl _) hx)
     have Zz := Lib.hid (belowThen Zbp.out (Nat.le_refl _) hx)
     have Z1 := Lib.hid (SliceOf.below Zbx.out hx)
     have Zu := Lib.hid (And.intro hu hub)
     clear hu hub hx
     have HCJ := Lib.hid (And.intro Z3.out Z7.out)
     refine ⟨HCJ.out, ?_⟩
     try simp only [Act.put, List.setIfInBounds_toArray, List.set_cons_succ, List.set_cons_zero]
     refine held_ready [12, 16] (by kernel_rfl) (by simp) ?_
     refine held_cons rfl ?_ ?_
     ·refine step_call rfl 30 _ _ rfl #[.agg #[.string ⟨#[97]⟩, u3, .slice none 0 0], um] (by simp only [List.map_toArray, List.map_cons, List.map_nil]; rfl) (fun W => HEO.out _ W) ?_
      refine (rof2_any _ um d1 m1 (by decide) (by decide) (by decide) _ ⟨u3, .slice none 0 0, rfl, Z1.out, SliceOf.nil _ _ _⟩ Zu.out.1).mono ?_
      rw [of1]
      rintro x Zb0 ⟨vi, vr, rfl, hi, hr, hx⟩
      have Z8 := Lib.hid (Z3.out.below hx)
      have Z2 := Lib.hid (Z7.out.below hx)
      have Zbe := Lib.hid (belowThen Zbc.out (Nat.le_refl _) hx)
      have Z4 := Lib.hid (belowThen Zz.out (Nat.le_refl _) hx)
      have Zbg := Lib.hid (SliceOf.below Z1.out hx)
      have Z5 := Lib.hid (And.intro (SliceOf.below Zu.out.1 hx) (fun b hb => Nat.lt_of_lt_of_le (Zu.out.2 b hb) (hx).size))
      have Zbd := Lib.hid hi
      have Zbf := Lib.hid hr
      clear hi hr hx
      refine ⟨_, rfl, ?_⟩
      have HCJ := Lib.hid (And.intro Z8.out Z2.out)
      refine ⟨HCJ.out, ?_⟩
      try simp only [Act.put, List.setIfInBounds_toArray, List.set_cons_succ, List.set_cons_zero]
      refine held_take 13 (.tuple #[.agg (rsC r1.1 vi vr), .int .i64 0]) rfl (by kernel_rfl) (fun _ _ _ h => h) rfl (fun W _ => by kernel_rfl) (by assumption) ?_
      try simp only [Act.put, List.setIfInBounds_toArray, List.set_cons_succ, List.set_cons_zero]
      refine held_take 14 (.agg (rsC r1.1 vi vr)) rfl (by kernel_rfl) (fun _ _ _ h => h) rfl (fun W _ => by kernel_rfl) (by assumption) ?_
      try simp only [Act.put, List.setIfInBounds_toArray, List.set_cons_succ, List.set_cons_zero]
      refine held_take 15 (.int .i64 0) rfl (by kernel_rfl) (fun _ _ _ h => h) rfl (fun W _ => by kernel_rfl) (by assumption) ?_
      try simp only [Act.put, List.setIfInBounds_toArray, List.set_cons_succ, List.set_cons_zero]
      refine held_one 16 rfl (by kernel_rfl) ?_
      refine step_zero rfl 25 rfl (rsC [] (.slice none 0 0) (.slice none 0 0)) rsC_zero ?_
      intro b3 Zr hb3 hx hg3
      have Zc := Lib.hid (Z8.out.below hx)
      have Ze := Lib.hid (Z2.out.below hx)
      have Zg := Lib.hid (belowThen Zbe.out (Nat.le_refl _) hx)
      have Zo := Lib.hid (belowThen Z4.out (Nat.le_refl _) hx)
      have Zq := Lib.hid (SliceOf.below Zbg.out hx)
      have Zp := Lib.hid (And.intro (SliceOf.below Z5.out.1 hx) (fun b hb => Nat.lt_of_lt_of_le (Z5.out.2 b hb) (hx).size))
      have Zb := Lib.hid (Zbd.out.below hx)
      have Zd := Lib.hid (Zbf.out.below hx)
      have Za := Lib.hid hb3
      have HG3 := Lib.hid (show w0.heap.size ≤ b3 from Nat.le_trans Z4.out.size hg3)
      clear hb3 hx hg3
      have HCJ := Lib.hid (And.intro Zc.out Ze.out)
      refine ⟨HCJ.out, ?_⟩
      try simp only [Act.put, List.setIfInBounds_toArray, List.set_cons_succ, List.set_cons_zero]
      refine held_one 17 rfl (by kernel_rfl) ?_
      refine step_put rfl rfl 25 _ _ rfl b3 (rsC r1.1 vi vr) _ rfl rfl Za.out (rsC_info _ _ _) (rsC_ss _ _ _ _ _ _) (rsC_one _ Zb.out.slice Zd.out.slice) ?_
      intro wz hbz hxz hsz hkz
      have HBZ := Lib.hid hbz
      have HXZ := Lib.hid (Zg.out.trans (hxz.mono (Nat.le_trans HWW.out HG3.out)))
      have hlt1 := HHL.out.1
      have hlt2 := HHL.out.2
      have hg3z := HG3.out
      have H1Z := Lib.hid (show Blk wz b1 43 (hC (hOne 7).1) from (hkz b1 (by omega)).trans Zc.out)
      have H2Z := Lib.hid (show Blk wz b2 48 (pC (pOne 1 112).1.1 (pOne 1 112).1.2) from (hkz b2 (by omega)).trans Ze.out)
      have HOZ := Lib.hid (Only.of_eq hxz hsz hkz rfl : Only (· = b3) _ _)
      have HIZ := Lib.hid (Zb.out.onlyB HOZ.out Za.out (by decide)).slice
      have HRZ := Lib.hid (Zd.out.onlyB HOZ.out Za.out (by decide)).slice
      clear hbz hxz hsz hkz hlt1 hlt2 hg3z
      have HCJ := Lib.hid (And.intro H1Z.out H2Z.out)
      refine ⟨HCJ.out, ?_⟩
      try simp only [Act.put, List.setIfInBounds_toArray, List.set_cons_succ, List.set_cons_zero]
      refine held_take 18 (.int .i64 0) rfl (by kernel_rfl) (fun _ _ _ h => h) rfl (fun W _ => by kernel_rfl) (by assumption) ?_
      try simp only [Act.put, List.setIfInBounds_toArray, List.set_cons_succ, List.set_cons_zero]
      refine held_end (by kernel_rfl) ?_
      refine ⟨b3, vi, vr, H1Z.out, H2Z.out, HBZ.out, HIZ.out, HRZ.out, HXZ.out, ?_⟩
      simp only [ExPut, Act.put, List.setIfInBounds_toArray, List.set_cons_succ, List.set_cons_zero]
      exact ⟨_, _, _, _, _, _, _, _, _, _, _, _, _, _, _, _, rfl⟩
     refine held_cons rfl ?_ ?_
     ·refine step_zero rfl 25 rfl (rsC [] (.slice none 0 0) (.slice none 0 0)) rsC_zero ?_
      intro b3 Zv hb3 hx hg3
      have Zi := Lib.hid (Z3.out.below hx)
      have Zj := Lib.hid (Z7.out.below hx)
      have Zm := Lib.hid (belowThen Zbc.out (Nat.le_refl _) hx)
      have Zn := Lib.hid (belowThen Zz.out (Nat.le_refl _) hx)
      have Zh := Lib.hid (SliceOf.below Z1.out hx)
      have Zf := Lib.hid (And.intro (SliceOf.below Zu.out.1 hx) (fun b hb => Nat.lt_of_lt_of_le (Zu.out.2 b hb) (hx).size))
      have Zk := Lib.hid hb3
      have HG3 := Lib.hid (show w0.heap.size ≤ b3 from Nat.le_trans Zz.out.size hg3)
      clear hb3 hx hg3
      have HCJ := Lib.hid (And.intro Zi.out Zj.out)
      refine ⟨HCJ.out, ?_⟩
      try simp only [Act.put, List.setIfInBounds_toArray, List.set_cons_succ, List.set_cons_zero]
      refine held_one 12 rfl (by kernel_rfl) ?_
      refine step_call rfl 30 _ _ rfl #[.agg #[.string ⟨#[97]⟩, u3, .slice none 0 0], um] (by simp only [List.map_toArray, List.map_cons, List.map_nil]; rfl) (fun W => HEO.out _ W) ?_
      refine (rof2_any _ um d1 m1 (by decide) (by decide) (by decide) _ ⟨u3, .slice none 0 0, rfl, Zh.out, SliceOf.nil _ _ _⟩ Zf.out.1).mono ?_
      rw [of1]
      rintro x Zr ⟨vi, vr, rfl, hi, hr, hx⟩
      have Zc := Lib.hid (Zi.out.below hx)
      have Ze := Lib.hid (Zj.out.below hx)
      have Zg := Lib.hid (belowThen Zm.out (Nat.le_refl _) hx)
      have Zo := Lib.hid (belowThen Zn.out (Nat.le_refl _) hx)
      have Zq := Lib.hid (SliceOf.below Zh.out hx)
      have Zp := Lib.hid (And.intro (SliceOf.below Zf.out.1 hx) (fun b hb => Nat.lt_of_lt_of_le (Zf.out.2 b hb) (hx).size))
      have Za := Lib.hid (Zk.out.below hx)
      have Zb := Lib.hid hi
      have Zd := Lib.hid hr
      clear hi hr hx
      refine ⟨_, rfl, ?_⟩
      have HCJ := Lib.hid (And.intro Zc.out Ze.out)
      refine ⟨HCJ.out, ?_⟩
      try simp only [Act.put, List.setIfInBounds_toArray, List.set_cons_succ, List.set_cons_zero]
      refine held_take 13 (.tuple #[.agg (rsC r1.1 vi vr), .int .i64 0]) rfl (by kernel_rfl) (fun _ _ _ h => h) rfl (fun W _ => by kernel_rfl) (by assumption) ?_
      try simp only [Act.put, List.setIfInBounds_toArray, List.set_cons_succ, List.set_cons_zero]
      refine held_take 14 (.agg (rsC r1.1 vi vr)) rfl (by kernel_rfl) (fun _ _ _ h => h) rfl (fun W _ => by kernel_rfl) (by assumption) ?_
      try simp only [Act.put, List.setIfInBounds_toArray, List.set_cons_succ, List.set_cons_zero]
      refine held_take 15 (.int .i64 0) rfl (by kernel_rfl) (fun _ _ _ h => h) rfl (fun W _ => by kernel_rfl) (by assumption) ?_
      try simp only [Act.put, List.setIfInBounds_toArray, List.set_cons_succ, List.set_cons_zero]
      refine held_one 17 rfl (by kernel_rfl) ?_
      refine step_put rfl rfl 25 _ _ rfl b3 (rsC r1.1 vi vr) _ rfl rfl Za.out (rsC_info _ _ _) (rsC_ss _ _ _ _ _ _) (rsC_one _ Zb.out.slice Zd.out.slice) ?_
      intro wz hbz hxz hsz hkz
      have HBZ := Lib.hid hbz
      have HXZ := Lib.hid (Zg.out.trans (hxz.mono (Nat.le_trans HWW.out HG3.out)))
      have hlt1 := HHL.out.1
      have hlt2 := HHL.out.2
      have hg3z := HG3.out
      have H1Z := Lib.hid (show Blk wz b1 43 (hC (hOne 7).1) from (hkz b1 (by omega)).trans Zc.out)
      have H2Z := Lib.hid (show Blk wz b2 48 (pC (pOne 1 112).1.1 (pOne 1 112).1.2) from (hkz b2 (by omega)).trans Ze.out)
      have HOZ := Lib.hid (Only.of_eq hxz hsz hkz rfl : Only (· = b3) _ _)
      have HIZ := Lib.hid (Zb.out.onlyB HOZ.out Za.out (by decide)).slice
      have HRZ := Lib.hid (Zd.out.onlyB HOZ.out Za.out (by decide)).slice
      clear hbz hxz hsz hkz hlt1 hlt2 hg3z
      have HCJ := Lib.hid (And.intro H1Z.out H2Z.out)
      refine ⟨HCJ.out, ?_⟩
      try simp only [Act.put, List.setIfInBounds_toArray, List.set_cons_succ, List.set_cons_zero]
      refine held_take 18 (.int .i64 0) rfl (by kernel_rfl) (fun _ _ _ h => h) rfl (fun W _ => by kernel_rfl) (by assumption) ?_
      try simp only [Act.put, List.setIfInBounds_toArray, List.set_cons_succ, List.set_cons_zero]
      refine held_end (by kernel_rfl) ?_
      refine ⟨b3, vi, vr, H1Z.out, H2Z.out, HBZ.out, HIZ.out, HRZ.out, HXZ.out, ?_⟩
      simp only [ExPut, Act.put, List.setIfInBounds_toArray, List.set_cons_succ, List.set_cons_zero]
      exact ⟨_, _, _, _, _, _, _, _, _, _, _, _, _, _, _, _, rfl⟩
     exact AllReadyH.nil
    refine held_cons rfl ?_ ?_
    ·refine step_zero rfl 25 rfl (rsC [] (.slice none 0 0) (.slice none 0 0)) rsC_zero ?_
     intro b3 Zbo hb3 hx hg3
     have Zs := Lib.hid (Zbq.out.below hx)
     have Zt := Lib.hid (Zbn.out.below hx)
     have Z6 := Lib.hid (belowThen Zby.out (Nat.le_refl _) hx)
     have Z0 := Lib.hid (belowThen Zbp.out (Nat.le_refl _) hx)
     have Zy := Lib.hid (SliceOf.below Zbx.out hx)
     have Zx := Lib.hid hb3
     have HG3 := Lib.hid (show w0.heap.size ≤ b3 from Nat.le_trans Zbp.out.size hg3)
     clear hb3 hx hg3
     have HCJ := Lib.hid (And.intro Zs.out Zt.out)
     refine ⟨HCJ.out, ?_⟩
     try simp only [Act.put, List.setIfInBounds_toArray, List.set_cons_succ, List.set_cons_zero]
     refine held_one 11 rfl (by kernel_rfl) ?_
     refine Agg.step_slice2B (E := EMd) rfl _ _ rfl (hOne 7, pOne 1 112) (hOne 7, pOne 2 113) rfl rfl ?_
     intro um Zv hu hub hx
     have Zi := Lib.hid (Zs.out.below hx)
     have Zj := Lib.hid (Zt.out.below hx)
     have Zm := Lib.hid (belowThen Z6.out (Nat.le_refl _) hx)
     have Zn := Lib.hid (belowThen Z0.out (Nat.le_refl _) hx)
     have Zh := Lib.hid (SliceOf.below Zy.out hx)
     have Zk := Lib.hid (Zx.out.below hx)
     have Zf := Lib.hid (And.intro hu hub)
     clear hu hub hx
     have HCJ := Lib.hid (And.intro Zi.out Zj.out)
     refine ⟨HCJ.out, ?_⟩
     try simp only [Act.put, List.setIfInBounds_toArray, List.set_cons_succ, List.set_cons_zero]
     refine held_one 12 rfl (by kernel_rfl) ?_
     refine step_call rfl 30 _ _ rfl #[.agg #[.string ⟨#[97]⟩, u3, .slice none 0 0], um] (by simp only [List.map_toArray, List.map_cons, List.map_nil]; rfl) (fun W => HEO.out _ W) ?_
     refine (rof2_any _ um d1 m1 (by decide) (by decide) (by decide) _ ⟨u3, .slice none 0 0, rfl, Zh.out, SliceOf.nil _ _ _⟩ Zf.out.1).mono ?_
     rw [of1]
     rintro x Zr ⟨vi, vr, rfl, hi, hr, hx⟩
     have Zc := Lib.hid (Zi.out.below hx)
     have Ze := Lib.hid (Zj.out.below hx)
     have Zg := Lib.hid (belowThen Zm.out (Nat.le_refl _) hx)
     have Zo := Lib.hid (belowThen Zn.out (Nat.le_refl _) hx)
     have Zq := Lib.hid (SliceOf.below Zh.out hx)
     have Zp := Lib.hid (And.intro (SliceOf.below Zf.out.1 hx) (fun b hb => Nat.lt_of_lt_of_le (Zf.out.2 b hb) (hx).size))
     have Za := Lib.hid (Zk.out.below hx)
     have Zb := Lib.hid hi
     have Zd := Lib.hid hr
     clear hi hr hx
     refine ⟨_, rfl, ?_⟩
     have HCJ := Lib.hid (And.intro Zc.out Ze.out)
     refine ⟨HCJ.out, ?_⟩
     try simp only [Act.put, List.setIfInBounds_toArray, List.set_cons_succ, List.set_cons_zero]
     refine held_take 13 (.tuple #[.agg (rsC r1.1 vi vr), .int .i64 0]) rfl (by kernel_rfl) (fun _ _ _ h => h) rfl (fun W _ => by kernel_rfl) (by assumption) ?_
     try simp only [Act.put, List.setIfInBounds_toArray, List.set_cons_succ, List.set_cons_zero]
     refine held_take 14 (.agg (rsC r1.1 vi vr)) rfl (by kernel_rfl) (fun _ _ _ h => h) rfl (fun W _ => by kernel_rfl) (by assumption) ?_
     try simp only [Act.put, List.setIfInBounds_toArray, List.set_cons_succ, List.set_cons_zero]
     refine held_take 15 (.int .i64 0) rfl (by kernel_rfl) (fun _ _ _ h => h) rfl (fun W _ => by kernel_rfl) (by assumption) ?_
     try simp only [Act.put, List.setIfInBounds_toArray, List.set_cons_succ, List.set_cons_zero]
     refine held_one 17 rfl (by kernel_rfl) ?_
     refine step_put rfl rfl 25 _ _ rfl b3 (rsC r1.1 vi vr) _ rfl rfl Za.out (rsC_info _ _ _) (rsC_ss _ _ _ _ _ _) (rsC_one _ Zb.out.slice Zd.out.slice) ?_
     intro wz hbz hxz hsz hkz
     have HBZ := Lib.hid hbz
     have HXZ := Lib.hid (Zg.out.trans (hxz.mono (Nat.le_trans HWW.out HG3.out)))
     have hlt1 := HHL.out.1
     have hlt2 := HHL.out.2
     have hg3z := HG3.out
     have H1Z := Lib.hid (show Blk wz b1 43 (hC (hOne 7).1) from (hkz b1 (by omega)).trans Zc.out)
     have H2Z := Lib.hid (show Blk wz b2 48 (pC (pOne 1 112).1.1 (pOne 1 112).1.2) from (hkz b2 (by omega)).trans Ze.out)
     have HOZ := Lib.hid (Only.of_eq hxz hsz hkz rfl : Only (· = b3) _ _)
     have HIZ := Lib.hid (Zb.out.onlyB HOZ.out Za.out (by decide)).slice
     have HRZ := Lib.hid (Zd.out.onlyB HOZ.out Za.out (by decide)).slice
     clear hbz hxz hsz hkz hlt1 hlt2 hg3z
     have HCJ := Lib.hid (And.intro H1Z.out H2Z.out)
     refine ⟨HCJ.out, ?_⟩
     try simp only [Act.put, List.setIfInBounds_toArray, List.set_cons_succ, List.set_cons_zero]
     refine held_take 18 (.int .i64 0) rfl (by kernel_rfl) (fun _ _ _ h => h) rfl (fun W _ => by kernel_rfl) (by assumption) ?_
     try simp only [Act.put, List.setIfInBounds_toArray, List.set_cons_succ, List.set_cons_zero]
     refine held_end (by kernel_rfl) ?_
     refine ⟨b3, vi, vr, H1Z.out, H2Z.out, HBZ.out, HIZ.out, HRZ.out, HXZ.out, ?_⟩
     simp only [ExPut, Act.put, List.setIfInBounds_toArray, List.set_cons_succ, List.set_cons_zero]
     exact ⟨_, _, _, _, _, _, _, _, _, _, _, _, _, _, _, _, rfl⟩
    exact AllReadyH.nil
   refine held_cons rfl ?_ ?_
   ·refine step_zero rfl 25 rfl (rsC [] (.slice none 0 0) (.slice none 0 0)) rsC_zero ?_
    intro b3 Zcb hb3 hx hg3
    have Zbs := Lib.hid (H1_3.out.below hx)
    have Zbu := Lib.hid (H2_3.out.below hx)
    have Zb2 := Lib.hid (belowThen HX_3.out (Nat.le_refl _) hx)
    have Zb5 := Lib.hid (belowThen HL_3.out (Nat.le_refl _) hx)
    have Zb4 := Lib.hid (SliceOf.below HN_3.out hx)
    have Zb1 := Lib.hid hb3
    have HG3 := Lib.hid (show w0.heap.size ≤ b3 from Nat.le_trans HL_3.out.size hg3)
    clear hb3 hx hg3
    have HCJ := Lib.hid (And.intro Zbs.out Zbu.out)
    refine ⟨HCJ.out, ?_⟩
    try simp only [Act.put, List.setIfInBounds_toArray, List.set_cons_succ, List.set_cons_zero]
    refine held_one 9 rfl (by kernel_rfl) ?_
    refine step_call rfl 28 _ _ rfl #[.int .i64 2, .string ⟨#[113]⟩] (by simp only [List.map_toArray, List.map_cons, List.map_nil]; rfl) (fun W => HEP.out _ W) ?_
    refine (path2_any _).mono ?_
    rintro x Zbo ⟨rfl, hx⟩
    have Zs := Lib.hid (Zbs.out.below hx)
    have Zt := Lib.hid (Zbu.out.below hx)
    have Z6 := Lib.hid (belowThen Zb2.out (Nat.le_refl _) hx)
    have Z0 := Lib.hid (belowThen Zb5.out (Nat.le_refl _) hx)
    have Zy := Lib.hid (SliceOf.below Zb4.out hx)
    have Zx := Lib.hid (Zb1.out.below hx)
    clear hx
    refine ⟨_, rfl, ?_⟩
    have HCJ := Lib.hid (And.intro Zs.out Zt.out)
    refine ⟨HCJ.out, ?_⟩
    try simp only [Act.put, List.setIfInBounds_toArray, List.set_cons_succ, List.set_cons_zero]
    refine held_take 10 (.agg (mC (hOne 7, pOne 2 113))) rfl (by kernel_rfl) (fun _ _ _ h => h) rfl (fun W _ => exec_build2C rfl rfl rfl (build_m2 W)) (by assumption) ?_
    try simp only [Act.put, List.setIfInBounds_toArray, List.set_cons_succ, List.set_cons_zero]
    refine held_one 11 rfl (by kernel_rfl) ?_
    refine Agg.step_slice2B (E := EMd) rfl _ _ rfl (hOne 7, pOne 1 112) (hOne 7, pOne 2 113) rfl rfl ?_
    intro um Zv hu hub hx
    have Zi := Lib.hid (Zs.out.below hx)
    have Zj := Lib.hid (Zt.out.below hx)
    have Zm := Lib.hid (belowThen Z6.out (Nat.le_refl _) hx)
    have Zn := Lib.hid (belowThen Z0.out (Nat.le_refl _) hx)
    have Zh := Lib.hid (SliceOf.below Zy.out hx)
    have Zk := Lib.hid (Zx.out.below hx)
    have Zf := Lib.hid (And.intro hu hub)
    clear hu hub hx
    have HCJ := Lib.hid (And.intro Zi.out Zj.out)
    refine ⟨HCJ.out, ?_⟩
    try simp only [Act.put, List.setIfInBounds_toArray, List.set_cons_succ, List.set_cons_zero]
    refine held_one 12 rfl (by kernel_rfl) ?_
    refine step_call rfl 30 _ _ rfl #[.agg #[.string ⟨#[97]⟩, u3, .slice none 0 0], um] (by simp only [List.map_toArray, List.map_cons, List.map_nil]; rfl) (fun W => HEO.out _ W) ?_
    refine (rof2_any _ um d1 m1 (by decide) (by decide) (by decide) _ ⟨u3, .slice none 0 0, rfl, Zh.out, SliceOf.nil _ _ _⟩ Zf.out.1).mono ?_
    rw [of1]
    rintro x Zr ⟨vi, vr, rfl, hi, hr, hx⟩
    have Zc := Lib.hid (Zi.out.below hx)
    have Ze := Lib.hid (Zj.out.below hx)
    have Zg := Lib.hid (belowThen Zm.out (Nat.le_refl _) hx)
    have Zo := Lib.hid (belowThen Zn.out (Nat.le_refl _) hx)
    have Zq := Lib.hid (SliceOf.below Zh.out hx)
    have Zp := Lib.hid (And.intro (SliceOf.below Zf.out.1 hx) (fun b hb => Nat.lt_of_lt_of_le (Zf.out.2 b hb) (hx).size))
    have Za := Lib.hid (Zk.out.below hx)
    have Zb := Lib.hid hi
    have Zd := Lib.hid hr
    clear hi hr hx
    refine ⟨_, rfl, ?_⟩
    have HCJ := Lib.hid (And.intro Zc.out Ze.out)
    refine ⟨HCJ.out, ?_⟩
    try simp only [Act.put, List.setIfInBounds_toArray, List.set_cons_succ, List.set_cons_zero]
    refine held_take 13 (.tuple #[.agg (rsC r1.1 vi vr), .int .i64 0]) rfl (by kernel_rfl) (fun _ _ _ h => h) rfl (fun W _ => by kernel_rfl) (by assumption) ?_
    try simp only [Act.put, List.setIfInBounds_toArray, List.set_cons_succ, List.set_cons_zero]
    refine held_take 14 (.agg (rsC r1.1 vi vr)) rfl (by kernel_rfl) (fun _ _ _ h => h) rfl (fun W _ => by kernel_rfl) (by assumption) ?_
    try simp only [Act.put, List.setIfInBounds_toArray, List.set_cons_succ, List.set_cons_zero]
    refine held_take 15 (.int .i64 0) rfl (by kernel_rfl) (fun _ _ _ h => h) rfl (fun W _ => by kernel_rfl) (by assumption) ?_
    try simp only [Act.put, List.setIfInBounds_toArray, List.set_cons_succ, List.set_cons_zero]
    refine held_one 17 rfl (by kernel_rfl) ?_
    refine step_put rfl rfl 25 _ _ rfl b3 (rsC r1.1 vi vr) _ rfl rfl Za.out (rsC_info _ _ _) (rsC_ss _ _ _ _ _ _) (rsC_one _ Zb.out.slice Zd.out.slice) ?_
    intro wz hbz hxz hsz hkz
    have HBZ := Lib.hid hbz
    have HXZ := Lib.hid (Zg.out.trans (hxz.mono (Nat.le_trans HWW.out HG3.out)))
    have hlt1 := HHL.out.1
    have hlt2 := HHL.out.2
    have hg3z := HG3.out
    have H1Z := Lib.hid (show Blk wz b1 43 (hC (hOne 7).1) from (hkz b1 (by omega)).trans Zc.out)
    have H2Z := Lib.hid (show Blk wz b2 48 (pC (pOne 1 112).1.1 (pOne 1 112).1.2) from (hkz b2 (by omega)).trans Ze.out)
    have HOZ := Lib.hid (Only.of_eq hxz hsz hkz rfl : Only (· = b3) _ _)
    have HIZ := Lib.hid (Zb.out.onlyB HOZ.out Za.out (by decide)).slice
    have HRZ := Lib.hid (Zd.out.onlyB HOZ.out Za.out (by decide)).slice
    clear hbz hxz hsz hkz hlt1 hlt2 hg3z
    have HCJ := Lib.hid (And.intro H1Z.out H2Z.out)
    refine ⟨HCJ.out, ?_⟩
    try simp only [Act.put, List.setIfInBounds_toArray, List.set_cons_succ, List.set_cons_zero]
    refine held_take 18 (.int .i64 0) rfl (by kernel_rfl) (fun _ _ _ h => h) rfl (fun W _ => by kernel_rfl) (by assumption) ?_
    try simp only [Act.put, List.setIfInBounds_toArray, List.set_cons_succ, List.set_cons_zero]
    refine held_end (by kernel_rfl) ?_
    refine ⟨b3, vi, vr, H1Z.out, H2Z.out, HBZ.out, HIZ.out, HRZ.out, HXZ.out, ?_⟩
    simp only [ExPut, Act.put, List.setIfInBounds_toArray, List.set_cons_succ, List.set_cons_zero]
    exact ⟨_, _, _, _, _, _, _, _, _, _, _, _, _, _, _, _, rfl⟩
   exact AllReadyH.nil
  refine held_cons rfl ?_ ?_
  ·refine step_call rfl 28 _ _ rfl #[.int .i64 2, .string ⟨#[113]⟩] (by simp only [List.map_toArray, List.map_cons, List.map_nil]; rfl) (fun W => HEP.out _ W) ?_
   refine (path2_any _).mono ?_
   rintro x w_9 ⟨rfl, hx⟩
   have H1_9 := Lib.hid (H1d.out.below hx)
   have H2_9 := Lib.hid (H2d.out.below hx)
   have HX_9 := Lib.hid (belowThen HXd.out (Nat.le_refl _) hx)
   have HL_9 := Lib.hid (belowThen HLd.out (Nat.le_refl _) hx)
   clear hx
   refine ⟨_, rfl, ?_⟩
   have HCJ := Lib.hid (And.intro H1_9.out H2_9.out)
   refine ⟨HCJ.out, ?_⟩
   try simp only [Act.put, List.setIfInBounds_toArray, List.set_cons_succ, List.set_cons_zero]
   refine held_take 10 (.agg (mC (hOne 7, pOne 2 113))) rfl (by kernel_rfl) (fun _ _ _ h => h) rfl (fun W _ => exec_build2C rfl rfl rfl (build_m2 W)) (by assumption) ?_
   try simp only [Act.put, List.setIfInBounds_toArray, List.set_cons_succ, List.set_cons_zero]
   refine held_ready [3, 11, 16] (by kernel_rfl) (by simp) ?_
   refine held_cons rfl ?_ ?_
   ·refine step_slice1 (E := ENm) rfl _ rfl n1 rfl ?_
    intro u3 Zcd hu hx
    obtain ⟨pu, cu, hfu⟩ := hu.slice.form
    have HBD := Lib.hid (fun W => (show (Instr.build 66 #[(0, .string ⟨#[97]⟩), (1, u3)]).run Tryz.prog W = .ok (.agg #[.string ⟨#[97]⟩, u3, .slice none 0 0]) W by rw [hfu]; exact build_dv _ _ _ _))
    have Zbq := Lib.hid (H1_9.out.below hx)
    have Zbn := Lib.hid (H2_9.out.below hx)
    have Zby := Lib.hid (belowThen HX_9.out (Nat.le_refl _) hx)
    have Zbp := Lib.hid (belowThen HL_9.out (Nat.le_refl _) hx)
    have Zbx := Lib.hid hu.slice
    clear hu hx hfu
    have HCJ := Lib.hid (And.intro Zbq.out Zbn.out)
    refine ⟨HCJ.out, ?_⟩
    try simp only [Act.put, List.setIfInBounds_toArray, List.set_cons_succ, List.set_cons_zero]
    refine held_take 4 (.agg #[.string ⟨#[97]⟩, u3, .slice none 0 0]) rfl (by kernel_rfl) (fun _ _ _ h => h) rfl (fun W _ => exec_build2C rfl rfl rfl (HBD.out W)) (by assumption) ?_
    try simp only [Act.put, List.setIfInBounds_toArray, List.set_cons_succ, List.set_cons_zero]
    refine held_ready [11, 16] (by kernel_rfl) (by simp) ?_
    refine held_cons rfl ?_ ?_
    ·refine Agg.step_slice2B (E := EMd) rfl _ _ rfl (hOne 7, pOne 1 112) (hOne 7, pOne 2 113) rfl rfl ?_
     intro um Zb9 hu hub hx
     have Z3 := Lib.hid (Zbq.out.below hx)
     have Z7 := Lib.hid (Zbn.out.below hx)
     have Zbc := Lib.hid (belowThen Zby.out (Nat.le_refl _) hx)
     have Zz := Lib.hid (belowThen Zbp.out (Nat.le_refl _) hx)
     have Z1 := Lib.hid (SliceOf.below Zbx.out hx)
     have Zu := Lib.hid (And.intro hu hub)
     clear hu hub hx
     have HCJ := Lib.hid (And.intro Z3.out Z7.out)
     refine ⟨HCJ.out, ?_⟩
     try simp only [Act.put, List.setIfInBounds_toArray, List.set_cons_succ, List.set_cons_zero]
     refine held_ready [12, 16] (by kernel_rfl) (by simp) ?_
     refine held_cons rfl ?_ ?_
     ·refine step_call rfl 30 _ _ rfl #[.agg #[.string ⟨#[97]⟩, u3, .slice none 0 0], um] (by simp only [List.map_toArray, List.map_cons, List.map_nil]; rfl) (fun W => HEO.out _ W) ?_
      refine (rof2_any _ um d1 m1 (by decide) (by decide) (by decide) _ ⟨u3, .slice none 0 0, rfl, Z1.out, SliceOf.nil _ _ _⟩ Zu.out.1).mono ?_
      rw [of1]
      rintro x Zb0 ⟨vi, vr, rfl, hi, hr, hx⟩
      have Z8 := Lib.hid (Z3.out.below hx)
      have Z2 := Lib.hid (Z7.out.below hx)
      have Zbe := Lib.hid (belowThen Zbc.out (Nat.le_refl _) hx)
      have Z4 := Lib.hid (belowThen Zz.out (Nat.le_refl _) hx)
      have Zbg := Lib.hid (SliceOf.below Z1.out hx)
      have Z5 := Lib.hid (And.intro (SliceOf.below Zu.out.1 hx) (fun b hb => Nat.lt_of_lt_of_le (Zu.out.2 b hb) (hx).size))
      have Zbd := Lib.hid hi
      have Zbf := Lib.hid hr
      clear hi hr hx
      refine ⟨_, rfl, ?_⟩
      have HCJ := Lib.hid (And.intro Z8.out Z2.out)
      refine ⟨HCJ.out, ?_⟩
      try simp only [Act.put, List.setIfInBounds_toArray, List.set_cons_succ, List.set_cons_zero]
      refine held_take 13 (.tuple #[.agg (rsC r1.1 vi vr), .int .i64 0]) rfl (by kernel_rfl) (fun _ _ _ h => h) rfl (fun W _ => by kernel_rfl) (by assumption) ?_
      try simp only [Act.put, List.setIfInBounds_toArray, List.set_cons_succ, List.set_cons_zero]
      refine held_take 14 (.agg (rsC r1.1 vi vr)) rfl (by kernel_rfl) (fun _ _ _ h => h) rfl (fun W _ => by kernel_rfl) (by assumption) ?_
      try simp only [Act.put, List.setIfInBounds_toArray, List.set_cons_succ, List.set_cons_zero]
      refine held_take 15 (.int .i64 0) rfl (by kernel_rfl) (fun _ _ _ h => h) rfl (fun W _ => by kernel_rfl) (by assumption) ?_
      try simp only [Act.put, List.setIfInBounds_toArray, List.set_cons_succ, List.set_cons_zero]
      refine held_one 16 rfl (by kernel_rfl) ?_
      refine step_zero rfl 25 rfl (rsC [] (.slice none 0 0) (.slice none 0 0)) rsC_zero ?_
      intro b3 Zr hb3 hx hg3
      have Zc := Lib.hid (Z8.out.below hx)
      have Ze := Lib.hid (Z2.out.below hx)
      have Zg := Lib.hid (belowThen Zbe.out (Nat.le_refl _) hx)
      have Zo := Lib.hid (belowThen Z4.out (Nat.le_refl _) hx)
      have Zq := Lib.hid (SliceOf.below Zbg.out hx)
      have Zp := Lib.hid (And.intro (SliceOf.below Z5.out.1 hx) (fun b hb => Nat.lt_of_lt_of_le (Z5.out.2 b hb) (hx).size))
      have Zb := Lib.hid (Zbd.out.below hx)
      have Zd := Lib.hid (Zbf.out.below hx)
      have Za := Lib.hid hb3
      have HG3 := Lib.hid (show w0.heap.size ≤ b3 from Nat.le_trans Z4.out.size hg3)
      clear hb3 hx hg3
      have HCJ := Lib.hid (And.intro Zc.out Ze.out)
      refine ⟨HCJ.out, ?_⟩
      try simp only [Act.put, List.setIfInBounds_toArray, List.set_cons_succ, List.set_cons_zero]
      refine held_one 17 rfl (by kernel_rfl) ?_
      refine step_put rfl rfl 25 _ _ rfl b3 (rsC r1.1 vi vr) _ rfl rfl Za.out (rsC_info _ _ _) (rsC_ss _ _ _ _ _ _) (rsC_one _ Zb.out.slice Zd.out.slice) ?_
      intro wz hbz hxz hsz hkz
      have HBZ := Lib.hid hbz
      have HXZ := Lib.hid (Zg.out.trans (hxz.mono (Nat.le_trans HWW.out HG3.out)))
      have hlt1 := HHL.out.1
      have hlt2 := HHL.out.2
      have hg3z := HG3.out
      have H1Z := Lib.hid (show Blk wz b1 43 (hC (hOne 7).1) from (hkz b1 (by omega)).trans Zc.out)
      have H2Z := Lib.hid (show Blk wz b2 48 (pC (pOne 1 112).1.1 (pOne 1 112).1.2) from (hkz b2 (by omega)).trans Ze.out)
      have HOZ := Lib.hid (Only.of_eq hxz hsz hkz rfl : Only (· = b3) _ _)
      have HIZ := Lib.hid (Zb.out.onlyB HOZ.out Za.out (by decide)).slice
      have HRZ := Lib.hid (Zd.out.onlyB HOZ.out Za.out (by decide)).slice
      clear hbz hxz hsz hkz hlt1 hlt2 hg3z
      have HCJ := Lib.hid (And.intro H1Z.out H2Z.out)
      refine ⟨HCJ.out, ?_⟩
      try simp only [Act.put, List.setIfInBounds_toArray, List.set_cons_succ, List.set_cons_zero]
      refine held_take 18 (.int .i64 0) rfl (by kernel_rfl) (fun _ _ _ h => h) rfl (fun W _ => by kernel_rfl) (by assumption) ?_
      try simp only [Act.put, List.setIfInBounds_toArray, List.set_cons_succ, List.set_cons_zero]
      refine held_end (by kernel_rfl) ?_
      refine ⟨b3, vi, vr, H1Z.out, H2Z.out, HBZ.out, HIZ.out, HRZ.out, HXZ.out, ?_⟩
      simp only [ExPut, Act.put, List.setIfInBounds_toArray, List.set_cons_succ, List.set_cons_zero]
      exact ⟨_, _, _, _, _, _, _, _, _, _, _, _, _, _, _, _, rfl⟩
     refine held_cons rfl ?_ ?_
     ·refine step_zero rfl 25 rfl (rsC [] (.slice none 0 0) (.slice none 0 0)) rsC_zero ?_
      intro b3 Zv hb3 hx hg3
      have Zi := Lib.hid (Z3.out.below hx)
      have Zj := Lib.hid (Z7.out.below hx)
      have Zm := Lib.hid (belowThen Zbc.out (Nat.le_refl _) hx)
      have Zn := Lib.hid (belowThen Zz.out (Nat.le_refl _) hx)
      have Zh := Lib.hid (SliceOf.below Z1.out hx)
      have Zf := Lib.hid (And.intro (SliceOf.below Zu.out.1 hx) (fun b hb => Nat.lt_of_lt_of_le (Zu.out.2 b hb) (hx).size))
      have Zk := Lib.hid hb3
      have HG3 := Lib.hid (show w0.heap.size ≤ b3 from Nat.le_trans Zz.out.size hg3)
      clear hb3 hx hg3
      have HCJ := Lib.hid (And.intro Zi.out Zj.out)
      refine ⟨HCJ.out, ?_⟩
      try simp only [Act.put, List.setIfInBounds_toArray, List.set_cons_succ, List.set_cons_zero]
      refine held_one 12 rfl (by kernel_rfl) ?_
      refine step_call rfl 30 _ _ rfl #[.agg #[.string ⟨#[97]⟩, u3, .slice none 0 0], um] (by simp only [List.map_toArray, List.map_cons, List.map_nil]; rfl) (fun W => HEO.out _ W) ?_
      refine (rof2_any _ um d1 m1 (by decide) (by decide) (by decide) _ ⟨u3, .slice none 0 0, rfl, Zh.out, SliceOf.nil _ _ _⟩ Zf.out.1).mono ?_
      rw [of1]
      rintro x Zr ⟨vi, vr, rfl, hi, hr, hx⟩
      have Zc := Lib.hid (Zi.out.below hx)
      have Ze := Lib.hid (Zj.out.below hx)
      have Zg := Lib.hid (belowThen Zm.out (Nat.le_refl _) hx)
      have Zo := Lib.hid (belowThen Zn.out (Nat.le_refl _) hx)
      have Zq := Lib.hid (SliceOf.below Zh.out hx)
      have Zp := Lib.hid (And.intro (SliceOf.below Zf.out.1 hx) (fun b hb => Nat.lt_of_lt_of_le (Zf.out.2 b hb) (hx).size))
      have Za := Lib.hid (Zk.out.below hx)
      have Zb := Lib.hid hi
      have Zd := Lib.hid hr
      clear hi hr hx
      refine ⟨_, rfl, ?_⟩
      have HCJ := Lib.hid (And.intro Zc.out Ze.out)
      refine ⟨HCJ.out, ?_⟩
      try simp only [Act.put, List.setIfInBounds_toArray, List.set_cons_succ, List.set_cons_zero]
      refine held_take 13 (.tuple #[.agg (rsC r1.1 vi vr), .int .i64 0]) rfl (by kernel_rfl) (fun _ _ _ h => h) rfl (fun W _ => by kernel_rfl) (by assumption) ?_
      try simp only [Act.put, List.setIfInBounds_toArray, List.set_cons_succ, List.set_cons_zero]
      refine held_take 14 (.agg (rsC r1.1 vi vr)) rfl (by kernel_rfl) (fun _ _ _ h => h) rfl (fun W _ => by kernel_rfl) (by assumption) ?_
      try simp only [Act.put, List.setIfInBounds_toArray, List.set_cons_succ, List.set_cons_zero]
      refine held_take 15 (.int .i64 0) rfl (by kernel_rfl) (fun _ _ _ h => h) rfl (fun W _ => by kernel_rfl) (by assumption) ?_
      try simp only [Act.put, List.setIfInBounds_toArray, List.set_cons_succ, List.set_cons_zero]
      refine held_one 17 rfl (by kernel_rfl) ?_
      refine step_put rfl rfl 25 _ _ rfl b3 (rsC r1.1 vi vr) _ rfl rfl Za.out (rsC_info _ _ _) (rsC_ss _ _ _ _ _ _) (rsC_one _ Zb.out.slice Zd.out.slice) ?_
      intro wz hbz hxz hsz hkz
      have HBZ := Lib.hid hbz
      have HXZ := Lib.hid (Zg.out.trans (hxz.mono (Nat.le_trans HWW.out HG3.out)))
      have hlt1 := HHL.out.1
      have hlt2 := HHL.out.2
      have hg3z := HG3.out
      have H1Z := Lib.hid (show Blk wz b1 43 (hC (hOne 7).1) from (hkz b1 (by omega)).trans Zc.out)
      have H2Z := Lib.hid (show Blk wz b2 48 (pC (pOne 1 112).1.1 (pOne 1 112).1.2) from (hkz b2 (by omega)).trans Ze.out)
      have HOZ := Lib.hid (Only.of_eq hxz hsz hkz rfl : Only (· = b3) _ _)
      have HIZ := Lib.hid (Zb.out.onlyB HOZ.out Za.out (by decide)).slice
      have HRZ := Lib.hid (Zd.out.onlyB HOZ.out Za.out (by decide)).slice
      clear hbz hxz hsz hkz hlt1 hlt2 hg3z
      have HCJ := Lib.hid (And.intro H1Z.out H2Z.out)
      refine ⟨HCJ.out, ?_⟩
      try simp only [Act.put, List.setIfInBounds_toArray, List.set_cons_succ, List.set_cons_zero]
      refine held_take 18 (.int .i64 0) rfl (by kernel_rfl) (fun _ _ _ h => h) rfl (fun W _ => by kernel_rfl) (by assumption) ?_
      try simp only [Act.put, List.setIfInBounds_toArray, List.set_cons_succ, List.set_cons_zero]
      refine held_end (by kernel_rfl) ?_
      refine ⟨b3, vi, vr, H1Z.out, H2Z.out, HBZ.out, HIZ.out, HRZ.out, HXZ.out, ?_⟩
      simp only [ExPut, Act.put, List.setIfInBounds_toArray, List.set_cons_succ, List.set_cons_zero]
      exact ⟨_, _, _, _, _, _, _, _, _, _, _, _, _, _, _, _, rfl⟩
     exact AllReadyH.nil
    refine held_cons rfl ?_ ?_
    ·refine step_zero rfl 25 rfl (rsC [] (.slice none 0 0) (.slice none 0 0)) rsC_zero ?_
     intro b3 Zbo hb3 hx hg3
     have Zs := Lib.hid (Zbq.out.below hx)
     have Zt := Lib.hid (Zbn.out.below hx)
     have Z6 := Lib.hid (belowThen Zby.out (Nat.le_refl _) hx)
     have Z0 := Lib.hid (belowThen Zbp.out (Nat.le_refl _) hx)
     have Zy := Lib.hid (SliceOf.below Zbx.out hx)
     have Zx := Lib.hid hb3
     have HG3 := Lib.hid (show w0.heap.size ≤ b3 from Nat.le_trans Zbp.out.size hg3)
     clear hb3 hx hg3
     have HCJ := Lib.hid (And.intro Zs.out Zt.out)
     refine ⟨HCJ.out, ?_⟩
     try simp only [Act.put, List.setIfInBounds_toArray, List.set_cons_succ, List.set_cons_zero]
     refine held_one 11 rfl (by kernel_rfl) ?_
     refine Agg.step_slice2B (E := EMd) rfl _ _ rfl (hOne 7, pOne 1 112) (hOne 7, pOne 2 113) rfl rfl ?_
     intro um Zv hu hub hx
     have Zi := Lib.hid (Zs.out.below hx)
     have Zj := Lib.hid (Zt.out.below hx)
     have Zm := Lib.hid (belowThen Z6.out (Nat.le_refl _) hx)
     have Zn := Lib.hid (belowThen Z0.out (Nat.le_refl _) hx)
     have Zh := Lib.hid (SliceOf.below Zy.out hx)
     have Zk := Lib.hid (Zx.out.below hx)
     have Zf := Lib.hid (And.intro hu hub)
     clear hu hub hx
     have HCJ := Lib.hid (And.intro Zi.out Zj.out)
     refine ⟨HCJ.out, ?_⟩
     try simp only [Act.put, List.setIfInBounds_toArray, List.set_cons_succ, List.set_cons_zero]
     refine held_one 12 rfl (by kernel_rfl) ?_
     refine step_call rfl 30 _ _ rfl #[.agg #[.string ⟨#[97]⟩, u3, .slice none 0 0], um] (by simp only [List.map_toArray, List.map_cons, List.map_nil]; rfl) (fun W => HEO.out _ W) ?_
     refine (rof2_any _ um d1 m1 (by decide) (by decide) (by decide) _ ⟨u3, .slice none 0 0, rfl, Zh.out, SliceOf.nil _ _ _⟩ Zf.out.1).mono ?_
     rw [of1]
     rintro x Zr ⟨vi, vr, rfl, hi, hr, hx⟩
     have Zc := Lib.hid (Zi.out.below hx)
     have Ze := Lib.hid (Zj.out.below hx)
     have Zg := Lib.hid (belowThen Zm.out (Nat.le_refl _) hx)
     have Zo := Lib.hid (belowThen Zn.out (Nat.le_refl _) hx)
     have Zq := Lib.hid (SliceOf.below Zh.out hx)
     have Zp := Lib.hid (And.intro (SliceOf.below Zf.out.1 hx) (fun b hb => Nat.lt_of_lt_of_le (Zf.out.2 b hb) (hx).size))
     have Za := Lib.hid (Zk.out.below hx)
     have Zb := Lib.hid hi
     have Zd := Lib.hid hr
     clear hi hr hx
     refine ⟨_, rfl, ?_⟩
     have HCJ := Lib.hid (And.intro Zc.out Ze.out)
     refine ⟨HCJ.out, ?_⟩
     try simp only [Act.put, List.setIfInBounds_toArray, List.set_cons_succ, List.set_cons_zero]
     refine held_take 13 (.tuple #[.agg (rsC r1.1 vi vr), .int .i64 0]) rfl (by kernel_rfl) (fun _ _ _ h => h) rfl (fun W _ => by kernel_rfl) (by assumption) ?_
     try simp only [Act.put, List.setIfInBounds_toArray, List.set_cons_succ, List.set_cons_zero]
     refine held_take 14 (.agg (rsC r1.1 vi vr)) rfl (by kernel_rfl) (fun _ _ _ h => h) rfl (fun W _ => by kernel_rfl) (by assumption) ?_
     try simp only [Act.put, List.setIfInBounds_toArray, List.set_cons_succ, List.set_cons_zero]
     refine held_take 15 (.int .i64 0) rfl (by kernel_rfl) (fun _ _ _ h => h) rfl (fun W _ => by kernel_rfl) (by assumption) ?_
     try simp only [Act.put, List.setIfInBounds_toArray, List.set_cons_succ, List.set_cons_zero]
     refine held_one 17 rfl (by kernel_rfl) ?_
     refine step_put rfl rfl 25 _ _ rfl b3 (rsC r1.1 vi vr) _ rfl rfl Za.out (rsC_info _ _ _) (rsC_ss _ _ _ _ _ _) (rsC_one _ Zb.out.slice Zd.out.slice) ?_
     intro wz hbz hxz hsz hkz
     have HBZ := Lib.hid hbz
     have HXZ := Lib.hid (Zg.out.trans (hxz.mono (Nat.le_trans HWW.out HG3.out)))
     have hlt1 := HHL.out.1
     have hlt2 := HHL.out.2
     have hg3z := HG3.out
     have H1Z := Lib.hid (show Blk wz b1 43 (hC (hOne 7).1) from (hkz b1 (by omega)).trans Zc.out)
     have H2Z := Lib.hid (show Blk wz b2 48 (pC (pOne 1 112).1.1 (pOne 1 112).1.2) from (hkz b2 (by omega)).trans Ze.out)
     have HOZ := Lib.hid (Only.of_eq hxz hsz hkz rfl : Only (· = b3) _ _)
     have HIZ := Lib.hid (Zb.out.onlyB HOZ.out Za.out (by decide)).slice
     have HRZ := Lib.hid (Zd.out.onlyB HOZ.out Za.out (by decide)).slice
     clear hbz hxz hsz hkz hlt1 hlt2 hg3z
     have HCJ := Lib.hid (And.intro H1Z.out H2Z.out)
     refine ⟨HCJ.out, ?_⟩
     try simp only [Act.put, List.setIfInBounds_toArray, List.set_cons_succ, List.set_cons_zero]
     refine held_take 18 (.int .i64 0) rfl (by kernel_rfl) (fun _ _ _ h => h) rfl (fun W _ => by kernel_rfl) (by assumption) ?_
     try simp only [Act.put, List.setIfInBounds_toArray, List.set_cons_succ, List.set_cons_zero]
     refine held_end (by kernel_rfl) ?_
     refine ⟨b3, vi, vr, H1Z.out, H2Z.out, HBZ.out, HIZ.out, HRZ.out, HXZ.out, ?_⟩
     simp only [ExPut, Act.put, List.setIfInBounds_toArray, List.set_cons_succ, List.set_cons_zero]
     exact ⟨_, _, _, _, _, _, _, _, _, _, _, _, _, _, _, _, rfl⟩
    exact AllReadyH.nil
   refine held_cons rfl ?_ ?_
   ·refine Agg.step_slice2B (E := EMd) rfl _ _ rfl (hOne 7, pOne 1 112) (hOne 7, pOne 2 113) rfl rfl ?_
    intro um w_9_11 hu hub hx
    have Zb7 := Lib.hid (H1_9.out.below hx)
    have Zb6 := Lib.hid (H2_9.out.below hx)
    have Zca := Lib.hid (belowThen HX_9.out (Nat.le_refl _) hx)
    have Zb3 := Lib.hid (belowThen HL_9.out (Nat.le_refl _) hx)
    have Zbz := Lib.hid (And.intro hu hub)
    clear hu hub hx
    have HCJ := Lib.hid (And.intro Zb7.out Zb6.out)
    refine ⟨HCJ.out, ?_⟩
    try simp only [Act.put, List.setIfInBounds_toArray, List.set_cons_succ, List.set_cons_zero]
    refine held_ready [3, 16] (by kernel_rfl) (by simp) ?_
    refine held_cons rfl ?_ ?_
    ·refine step_slice1 (E := ENm) rfl _ rfl n1 rfl ?_
     intro u3 Zb9 hu hx
     obtain ⟨pu, cu, hfu⟩ := hu.slice.form
     have HBD := Lib.hid (fun W => (show (Instr.build 66 #[(0, .string ⟨#[97]⟩), (1, u3)]).run Tryz.prog W = .ok (.agg #[.string ⟨#[97]⟩, u3, .slice none 0 0]) W by rw [hfu]; exact build_dv _ _ _ _))
     have Z3 := Lib.hid (Zb7.out.below hx)
     have Z7 := Lib.hid (Zb6.out.below hx)
     have Zbc := Lib.hid (belowThen Zca.out (Nat.le_refl _) hx)
     have Zz := Lib.hid (belowThen Zb3.out (Nat.le_refl _) hx)
     have Zu := Lib.hid (And.intro (SliceOf.below Zbz.out.1 hx) (fun b hb => Nat.lt_of_lt_of_le (Zbz.out.2 b hb) (hx).size))
     have Z1 := Lib.hid hu.slice
     clear hu hx hfu
     have HCJ := Lib.hid (And.intro Z3.out Z7.out)
     refine ⟨HCJ.out, ?_⟩
     try simp only [Act.put, List.setIfInBounds_toArray, List.set_cons_succ, List.set_cons_zero]
     refine held_take 4 (.agg #[.string ⟨#[97]⟩, u3, .slice none 0 0]) rfl (by kernel_rfl) (fun _ _ _ h => h) rfl (fun W _ => exec_build2C rfl rfl rfl (HBD.out W)) (by assumption) ?_
     try simp only [Act.put, List.setIfInBounds_toArray, List.set_cons_succ, List.set_cons_zero]
     refine held_ready [12, 16] (by kernel_rfl) (by simp) ?_
     refine held_cons rfl ?_ ?_
     ·refine step_call rfl 30 _ _ rfl #[.agg #[.string ⟨#[97]⟩, u3, .slice none 0 0], um] (by simp only [List.map_toArray, List.map_cons, List.map_nil]; rfl) (fun W => HEO.out _ W) ?_
      refine (rof2_any _ um d1 m1 (by decide) (by decide) (by decide) _ ⟨u3, .slice none 0 0, rfl, Z1.out, SliceOf.nil _ _ _⟩ Zu.out.1).mono ?_
      rw [of1]
      rintro x Zb0 ⟨vi, vr, rfl, hi, hr, hx⟩
      have Z8 := Lib.hid (Z3.out.below hx)
      have Z2 := Lib.hid (Z7.out.below hx)
      have Zbe := Lib.hid (belowThen Zbc.out (Nat.le_refl _) hx)
      have Z4 := Lib.hid (belowThen Zz.out (Nat.le_refl _) hx)
      have Zbg := Lib.hid (SliceOf.below Z1.out hx)
      have Z5 := Lib.hid (And.intro (SliceOf.below Zu.out.1 hx) (fun b hb => Nat.lt_of_lt_of_le (Zu.out.2 b hb) (hx).size))
      have Zbd := Lib.hid hi
      have Zbf := Lib.hid hr
      clear hi hr hx
      refine ⟨_, rfl, ?_⟩
      have HCJ := Lib.hid (And.intro Z8.out Z2.out)
      refine ⟨HCJ.out, ?_⟩
      try simp only [Act.put, List.setIfInBounds_toArray, List.set_cons_succ, List.set_cons_zero]
      refine held_take 13 (.tuple #[.agg (rsC r1.1 vi vr), .int .i64 0]) rfl (by kernel_rfl) (fun _ _ _ h => h) rfl (fun W _ => by kernel_rfl) (by assumption) ?_
      try simp only [Act.put, List.setIfInBounds_toArray, List.set_cons_succ, List.set_cons_zero]
      refine held_take 14 (.agg (rsC r1.1 vi vr)) rfl (by kernel_rfl) (fun _ _ _ h => h) rfl (fun W _ => by kernel_rfl) (by assumption) ?_
      try simp only [Act.put, List.setIfInBounds_toArray, List.set_cons_succ, List.set_cons_zero]
      refine held_take 15 (.int .i64 0) rfl (by kernel_rfl) (fun _ _ _ h => h) rfl (fun W _ => by kernel_rfl) (by assumption) ?_
      try simp only [Act.put, List.setIfInBounds_toArray, List.set_cons_succ, List.set_cons_zero]
      refine held_one 16 rfl (by kernel_rfl) ?_
      refine step_zero rfl 25 rfl (rsC [] (.slice none 0 0) (.slice none 0 0)) rsC_zero ?_
      intro b3 Zr hb3 hx hg3
      have Zc := Lib.hid (Z8.out.below hx)
      have Ze := Lib.hid (Z2.out.below hx)
      have Zg := Lib.hid (belowThen Zbe.out (Nat.le_refl _) hx)
      have Zo := Lib.hid (belowThen Z4.out (Nat.le_refl _) hx)
      have Zq := Lib.hid (SliceOf.below Zbg.out hx)
      have Zp := Lib.hid (And.intro (SliceOf.below Z5.out.1 hx) (fun b hb => Nat.lt_of_lt_of_le (Z5.out.2 b hb) (hx).size))
      have Zb := Lib.hid (Zbd.out.below hx)
      have Zd := Lib.hid (Zbf.out.below hx)
      have Za := Lib.hid hb3
      have HG3 := Lib.hid (show w0.heap.size ≤ b3 from Nat.le_trans Z4.out.size hg3)
      clear hb3 hx hg3
      have HCJ := Lib.hid (And.intro Zc.out Ze.out)
      refine ⟨HCJ.out, ?_⟩
      try simp only [Act.put, List.setIfInBounds_toArray, List.set_cons_succ, List.set_cons_zero]
      refine held_one 17 rfl (by kernel_rfl) ?_
      refine step_put rfl rfl 25 _ _ rfl b3 (rsC r1.1 vi vr) _ rfl rfl Za.out (rsC_info _ _ _) (rsC_ss _ _ _ _ _ _) (rsC_one _ Zb.out.slice Zd.out.slice) ?_
      intro wz hbz hxz hsz hkz
      have HBZ := Lib.hid hbz
      have HXZ := Lib.hid (Zg.out.trans (hxz.mono (Nat.le_trans HWW.out HG3.out)))
      have hlt1 := HHL.out.1
      have hlt2 := HHL.out.2
      have hg3z := HG3.out
      have H1Z := Lib.hid (show Blk wz b1 43 (hC (hOne 7).1) from (hkz b1 (by omega)).trans Zc.out)
      have H2Z := Lib.hid (show Blk wz b2 48 (pC (pOne 1 112).1.1 (pOne 1 112).1.2) from (hkz b2 (by omega)).trans Ze.out)
      have HOZ := Lib.hid (Only.of_eq hxz hsz hkz rfl : Only (· = b3) _ _)
      have HIZ := Lib.hid (Zb.out.onlyB HOZ.out Za.out (by decide)).slice
      have HRZ := Lib.hid (Zd.out.onlyB HOZ.out Za.out (by decide)).slice
      clear hbz hxz hsz hkz hlt1 hlt2 hg3z
      have HCJ := Lib.hid (And.intro H1Z.out H2Z.out)
      refine ⟨HCJ.out, ?_⟩
      try simp only [Act.put, List.setIfInBounds_toArray, List.set_cons_succ, List.set_cons_zero]
      refine held_take 18 (.int .i64 0) rfl (by kernel_rfl) (fun _ _ _ h => h) rfl (fun W _ => by kernel_rfl) (by assumption) ?_
      try simp only [Act.put, List.setIfInBounds_toArray, List.set_cons_succ, List.set_cons_zero]
      refine held_end (by kernel_rfl) ?_
      refine ⟨b3, vi, vr, H1Z.out, H2Z.out, HBZ.out, HIZ.out, HRZ.out, HXZ.out, ?_⟩
      simp only [ExPut, Act.put, List.setIfInBounds_toArray, List.set_cons_succ, List.set_cons_zero]
      exact ⟨_, _, _, _, _, _, _, _, _, _, _, _, _, _, _, _, rfl⟩
     refine held_cons rfl ?_ ?_
     ·refine step_zero rfl 25 rfl (rsC [] (.slice none 0 0) (.slice none 0 0)) rsC_zero ?_
      intro b3 Zv hb3 hx hg3
      have Zi := Lib.hid (Z3.out.below hx)
      have Zj := Lib.hid (Z7.out.below hx)
      have Zm := Lib.hid (belowThen Zbc.out (Nat.le_refl _) hx)
      have Zn := Lib.hid (belowThen Zz.out (Nat.le_refl _) hx)
      have Zh := Lib.hid (SliceOf.below Z1.out hx)
      have Zf := Lib.hid (And.intro (SliceOf.below Zu.out.1 hx) (fun b hb => Nat.lt_of_lt_of_le (Zu.out.2 b hb) (hx).size))
      have Zk := Lib.hid hb3
      have HG3 := Lib.hid (show w0.heap.size ≤ b3 from Nat.le_trans Zz.out.size hg3)
      clear hb3 hx hg3
      have HCJ := Lib.hid (And.intro Zi.out Zj.out)
      refine ⟨HCJ.out, ?_⟩
      try simp only [Act.put, List.setIfInBounds_toArray, List.set_cons_succ, List.set_cons_zero]
      refine held_one 12 rfl (by kernel_rfl) ?_
      refine step_call rfl 30 _ _ rfl #[.agg #[.string ⟨#[97]⟩, u3, .slice none 0 0], um] (by simp only [List.map_toArray, List.map_cons, List.map_nil]; rfl) (fun W => HEO.out _ W) ?_
      refine (rof2_any _ um d1 m1 (by decide) (by decide) (by decide) _ ⟨u3, .slice none 0 0, rfl, Zh.out, SliceOf.nil _ _ _⟩ Zf.out.1).mono ?_
      rw [of1]
      rintro x Zr ⟨vi, vr, rfl, hi, hr, hx⟩
      have Zc := Lib.hid (Zi.out.below hx)
      have Ze := Lib.hid (Zj.out.below hx)
      have Zg := Lib.hid (belowThen Zm.out (Nat.le_refl _) hx)
      have Zo := Lib.hid (belowThen Zn.out (Nat.le_refl _) hx)
      have Zq := Lib.hid (SliceOf.below Zh.out hx)
      have Zp := Lib.hid (And.intro (SliceOf.below Zf.out.1 hx) (fun b hb => Nat.lt_of_lt_of_le (Zf.out.2 b hb) (hx).size))
      have Za := Lib.hid (Zk.out.below hx)
      have Zb := Lib.hid hi
      have Zd := Lib.hid hr
      clear hi hr hx
      refine ⟨_, rfl, ?_⟩
      have HCJ := Lib.hid (And.intro Zc.out Ze.out)
      refine ⟨HCJ.out, ?_⟩
      try simp only [Act.put, List.setIfInBounds_toArray, List.set_cons_succ, List.set_cons_zero]
      refine held_take 13 (.tuple #[.agg (rsC r1.1 vi vr), .int .i64 0]) rfl (by kernel_rfl) (fun _ _ _ h => h) rfl (fun W _ => by kernel_rfl) (by assumption) ?_
      try simp only [Act.put, List.setIfInBounds_toArray, List.set_cons_succ, List.set_cons_zero]
      refine held_take 14 (.agg (rsC r1.1 vi vr)) rfl (by kernel_rfl) (fun _ _ _ h => h) rfl (fun W _ => by kernel_rfl) (by assumption) ?_
      try simp only [Act.put, List.setIfInBounds_toArray, List.set_cons_succ, List.set_cons_zero]
      refine held_take 15 (.int .i64 0) rfl (by kernel_rfl) (fun _ _ _ h => h) rfl (fun W _ => by kernel_rfl) (by assumption) ?_
      try simp only [Act.put, List.setIfInBounds_toArray, List.set_cons_succ, List.set_cons_zero]
      refine held_one 17 rfl (by kernel_rfl) ?_
      refine step_put rfl rfl 25 _ _ rfl b3 (rsC r1.1 vi vr) _ rfl rfl Za.out (rsC_info _ _ _) (rsC_ss _ _ _ _ _ _) (rsC_one _ Zb.out.slice Zd.out.slice) ?_
      intro wz hbz hxz hsz hkz
      have HBZ := Lib.hid hbz
      have HXZ := Lib.hid (Zg.out.trans (hxz.mono (Nat.le_trans HWW.out HG3.out)))
      have hlt1 := HHL.out.1
      have hlt2 := HHL.out.2
      have hg3z := HG3.out
      have H1Z := Lib.hid (show Blk wz b1 43 (hC (hOne 7).1) from (hkz b1 (by omega)).trans Zc.out)
      have H2Z := Lib.hid (show Blk wz b2 48 (pC (pOne 1 112).1.1 (pOne 1 112).1.2) from (hkz b2 (by omega)).trans Ze.out)
      have HOZ := Lib.hid (Only.of_eq hxz hsz hkz rfl : Only (· = b3) _ _)
      have HIZ := Lib.hid (Zb.out.onlyB HOZ.out Za.out (by decide)).slice
      have HRZ := Lib.hid (Zd.out.onlyB HOZ.out Za.out (by decide)).slice
      clear hbz hxz hsz hkz hlt1 hlt2 hg3z
      have HCJ := Lib.hid (And.intro H1Z.out H2Z.out)
      refine ⟨HCJ.out, ?_⟩
      try simp only [Act.put, List.setIfInBounds_toArray, List.set_cons_succ, List.set_cons_zero]
      refine held_take 18 (.int .i64 0) rfl (by kernel_rfl) (fun _ _ _ h => h) rfl (fun W _ => by kernel_rfl) (by assumption) ?_
      try simp only [Act.put, List.setIfInBounds_toArray, List.set_cons_succ, List.set_cons_zero]
      refine held_end (by kernel_rfl) ?_
      refine ⟨b3, vi, vr, H1Z.out, H2Z.out, HBZ.out, HIZ.out, HRZ.out, HXZ.out, ?_⟩
      simp only [ExPut, Act.put, List.setIfInBounds_toArray, List.set_cons_succ, List.set_cons_zero]
      exact ⟨_, _, _, _, _, _, _, _, _, _, _, _, _, _, _, _, rfl⟩
     exact AllReadyH.nil
    refine held_cons rfl ?_ ?_
    ·refine step_zero rfl 25 rfl (rsC [] (.slice none 0 0) (.slice none 0 0)) rsC_zero ?_
     intro b3 Zb8 hb3 hx hg3
     have Zba := Lib.hid (Zb7.out.below hx)
     have Zbb := Lib.hid (Zb6.out.below hx)
     have Zbj := Lib.hid (belowThen Zca.out (Nat.le_refl _) hx)
     have Zbi := Lib.hid (belowThen Zb3.out (Nat.le_refl _) hx)
     have Z9 := Lib.hid (And.intro (SliceOf.below Zbz.out.1 hx) (fun b hb => Nat.lt_of_lt_of_le (Zbz.out.2 b hb) (hx).size))
     have Zbh := Lib.hid hb3
     have HG3 := Lib.hid (show w0.heap.size ≤ b3 from Nat.le_trans Zb3.out.size hg3)
     clear hb3 hx hg3
     have HCJ := Lib.hid (And.intro Zba.out Zbb.out)
     refine ⟨HCJ.out, ?_⟩
     try simp only [Act.put, List.setIfInBounds_toArray, List.set_cons_succ, List.set_cons_zero]
     refine held_one 3 rfl (by kernel_rfl) ?_
     refine step_slice1 (E := ENm) rfl _ rfl n1 rfl ?_
     intro u3 Zv hu hx
     obtain ⟨pu, cu, hfu⟩ := hu.slice.form
     have HBD := Lib.hid (fun W => (show (Instr.build 66 #[(0, .string ⟨#[97]⟩), (1, u3)]).run Tryz.prog W = .ok (.agg #[.string ⟨#[97]⟩, u3, .slice none 0 0]) W by rw [hfu]; exact build_dv _ _ _ _))
     have Zi := Lib.hid (Zba.out.below hx)
     have Zj := Lib.hid (Zbb.out.below hx)
     have Zm := Lib.hid (belowThen Zbj.out (Nat.le_refl _) hx)
     have Zn := Lib.hid (belowThen Zbi.out (Nat.le_refl _) hx)
     have Zf := Lib.hid (And.intro (SliceOf.below Z9.out.1 hx) (fun b hb => Nat.lt_of_lt_of_le (Z9.out.2 b hb) (hx).size))
     have Zk := Lib.hid (Zbh.out.below hx)
     have Zh := Lib.hid hu.slice
     clear hu hx hfu
     have HCJ := Lib.hid (And.intro Zi.out Zj.out)
     refine ⟨HCJ.out, ?_⟩
     try simp only [Act.put, List.setIfInBounds_toArray, List.set_cons_succ, List.set_cons_zero]
     refine held_take 4 (.agg #[.string ⟨#[97]⟩, u3, .slice none 0 0]) rfl (by kernel_rfl) (fun _ _ _ h => h) rfl (fun W _ => exec_build2C rfl rfl rfl (HBD.out W)) (by assumption) ?_
     try simp only [Act.put, List.setIfInBounds_toArray, List.set_cons_succ, List.set_cons_zero]
     refine held_one 12 rfl (by kernel_rfl) ?_
     refine step_call rfl 30 _ _ rfl #[.agg #[.string ⟨#[97]⟩, u3, .slice none 0 0], um] (by simp only [List.map_toArray, List.map_cons, List.map_nil]; rfl) (fun W => HEO.out _ W) ?_
     refine (rof2_any _ um d1 m1 (by decide) (by decide) (by decide) _ ⟨u3, .slice none 0 0, rfl, Zh.out, SliceOf.nil _ _ _⟩ Zf.out.1).mono ?_
     rw [of1]
     rintro x Zr ⟨vi, vr, rfl, hi, hr, hx⟩
     have Zc := Lib.hid (Zi.out.below hx)
     have Ze := Lib.hid (Zj.out.below hx)
     have Zg := Lib.hid (belowThen Zm.out (Nat.le_refl _) hx)
     have Zo := Lib.hid (belowThen Zn.out (Nat.le_refl _) hx)
     have Zq := Lib.hid (SliceOf.below Zh.out hx)
     have Zp := Lib.hid (And.intro (SliceOf.below Zf.out.1 hx) (fun b hb => Nat.lt_of_lt_of_le (Zf.out.2 b hb) (hx).size))
     have Za := Lib.hid (Zk.out.below hx)
     have Zb := Lib.hid hi
     have Zd := Lib.hid hr
     clear hi hr hx
     refine ⟨_, rfl, ?_⟩
     have HCJ := Lib.hid (And.intro Zc.out Ze.out)
     refine ⟨HCJ.out, ?_⟩
     try simp only [Act.put, List.setIfInBounds_toArray, List.set_cons_succ, List.set_cons_zero]
     refine held_take 13 (.tuple #[.agg (rsC r1.1 vi vr), .int .i64 0]) rfl (by kernel_rfl) (fun _ _ _ h => h) rfl (fun W _ => by kernel_rfl) (by assumption) ?_
     try simp only [Act.put, List.setIfInBounds_toArray, List.set_cons_succ, List.set_cons_zero]
     refine held_take 14 (.agg (rsC r1.1 vi vr)) rfl (by kernel_rfl) (fun _ _ _ h => h) rfl (fun W _ => by kernel_rfl) (by assumption) ?_
     try simp only [Act.put, List.setIfInBounds_toArray, List.set_cons_succ, List.set_cons_zero]
     refine held_take 15 (.int .i64 0) rfl (by kernel_rfl) (fun _ _ _ h => h) rfl (fun W _ => by kernel_rfl) (by assumption) ?_
     try simp only [Act.put, List.setIfInBounds_toArray, List.set_cons_succ, List.set_cons_zero]
     refine held_one 17 rfl (by kernel_rfl) ?_
     refine step_put rfl rfl 25 _ _ rfl b3 (rsC r1.1 vi vr) _ rfl rfl Za.out (rsC_info _ _ _) (rsC_ss _ _ _ _ _ _) (rsC_one _ Zb.out.slice Zd.out.slice) ?_
     intro wz hbz hxz hsz hkz
     have HBZ := Lib.hid hbz
     have HXZ := Lib.hid (Zg.out.trans (hxz.mono (Nat.le_trans HWW.out HG3.out)))
     have hlt1 := HHL.out.1
     have hlt2 := HHL.out.2
     have hg3z := HG3.out
     have H1Z := Lib.hid (show Blk wz b1 43 (hC (hOne 7).1) from (hkz b1 (by omega)).trans Zc.out)
     have H2Z := Lib.hid (show Blk wz b2 48 (pC (pOne 1 112).1.1 (pOne 1 112).1.2) from (hkz b2 (by omega)).trans Ze.out)
     have HOZ := Lib.hid (Only.of_eq hxz hsz hkz rfl : Only (· = b3) _ _)
     have HIZ := Lib.hid (Zb.out.onlyB HOZ.out Za.out (by decide)).slice
     have HRZ := Lib.hid (Zd.out.onlyB HOZ.out Za.out (by decide)).slice
     clear hbz hxz hsz hkz hlt1 hlt2 hg3z
     have HCJ := Lib.hid (And.intro H1Z.out H2Z.out)
     refine ⟨HCJ.out, ?_⟩
     try simp only [Act.put, List.setIfInBounds_toArray, List.set_cons_succ, List.set_cons_zero]
     refine held_take 18 (.int .i64 0) rfl (by kernel_rfl) (fun _ _ _ h => h) rfl (fun W _ => by kernel_rfl) (by assumption) ?_
     try simp only [Act.put, List.setIfInBounds_toArray, List.set_cons_succ, List.set_cons_zero]
     refine held_end (by kernel_rfl) ?_
     refine ⟨b3, vi, vr, H1Z.out, H2Z.out, HBZ.out, HIZ.out, HRZ.out, HXZ.out, ?_⟩
     simp only [ExPut, Act.put, List.setIfInBounds_toArray, List.set_cons_succ, List.set_cons_zero]
     exact ⟨_, _, _, _, _, _, _, _, _, _, _, _, _, _, _, _, rfl⟩
    exact AllReadyH.nil
   refine held_cons rfl ?_ ?_
   ·refine step_zero rfl 25 rfl (rsC [] (.slice none 0 0) (.slice none 0 0)) rsC_zero ?_
    intro b3 Zcc hb3 hx hg3
    have Zbk := Lib.hid (H1_9.out.below hx)
    have Zbm := Lib.hid (H2_9.out.below hx)
    have Zbv := Lib.hid (belowThen HX_9.out (Nat.le_refl _) hx)
    have Zbt := Lib.hid (belowThen HL_9.out (Nat.le_refl _) hx)
    have Zbr := Lib.hid hb3
    have HG3 := Lib.hid (show w0.heap.size ≤ b3 from Nat.le_trans HL_9.out.size hg3)
    clear hb3 hx hg3
    have HCJ := Lib.hid (And.intro Zbk.out Zbm.out)
    refine ⟨HCJ.out, ?_⟩
    try simp only [Act.put, List.setIfInBounds_toArray, List.set_cons_succ, List.set_cons_zero]
    refine held_ready [3, 11] (by kernel_rfl) (by simp) ?_
    refine held_cons rfl ?_ ?_
    ·refine step_slice1 (E := ENm) rfl _ rfl n1 rfl ?_
     intro u3 Zbo hu hx
     obtain ⟨pu, cu, hfu⟩ := hu.slice.form
     have HBD := Lib.hid (fun W => (show (Instr.build 66 #[(0, .string ⟨#[97]⟩), (1, u3)]).run Tryz.prog W = .ok (.agg #[.string ⟨#[97]⟩, u3, .slice none 0 0]) W by rw [hfu]; exact build_dv _ _ _ _))
     have Zs := Lib.hid (Zbk.out.below hx)
     have Zt := Lib.hid (Zbm.out.below hx)
     have Z6 := Lib.hid (belowThen Zbv.out (Nat.le_refl _) hx)
     have Z0 := Lib.hid (belowThen Zbt.out (Nat.le_refl _) hx)
     have Zx := Lib.hid (Zbr.out.below hx)
     have Zy := Lib.hid hu.slice
     clear hu hx hfu
     have HCJ := Lib.hid (And.intro Zs.out Zt.out)
     refine ⟨HCJ.out, ?_⟩
     try simp only [Act.put, List.setIfInBounds_toArray, List.set_cons_succ, List.set_cons_zero]
     refine held_take 4 (.agg #[.string ⟨#[97]⟩, u3, .slice none 0 0]) rfl (by kernel_rfl) (fun _ _ _ h => h) rfl (fun W _ => exec_build2C rfl rfl rfl (HBD.out W)) (by assumption) ?_
     try simp only [Act.put, List.setIfInBounds_toArray, List.set_cons_succ, List.set_cons_zero]
     refine held_one 11 rfl (by kernel_rfl) ?_
     refine Agg.step_slice2B (E := EMd) rfl _ _ rfl (hOne 7, pOne 1 112) (hOne 7, pOne 2 113) rfl rfl ?_
     intro um Zv hu hub hx
     have Zi := Lib.hid (Zs.out.below hx)
     have Zj := Lib.hid (Zt.out.below hx)
     have Zm := Lib.hid (belowThen Z6.out (Nat.le_refl _) hx)
     have Zn := Lib.hid (belowThen Z0.out (Nat.le_refl _) hx)
     have Zh := Lib.hid (SliceOf.below Zy.out hx)
     have Zk := Lib.hid (Zx.out.below hx)
     have Zf := Lib.hid (And.intro hu hub)
     clear hu hub hx
     have HCJ := Lib.hid (And.intro Zi.out Zj.out)
     refine ⟨HCJ.out, ?_⟩
     try simp only [Act.put, List.setIfInBounds_toArray, List.set_cons_succ, List.set_cons_zero]
     refine held_one 12 rfl (by kernel_rfl) ?_
     refine step_call rfl 30 _ _ rfl #[.agg #[.string ⟨#[97]⟩, u3, .slice none 0 0], um] (by simp only [List.map_toArray, List.map_cons, List.map_nil]; rfl) (fun W => HEO.out _ W) ?_
     refine (rof2_any _ um d1 m1 (by decide) (by decide) (by decide) _ ⟨u3, .slice none 0 0, rfl, Zh.out, SliceOf.nil _ _ _⟩ Zf.out.1).mono ?_
     rw [of1]
     rintro x Zr ⟨vi, vr, rfl, hi, hr, hx⟩
     have Zc := Lib.hid (Zi.out.below hx)
     have Ze := Lib.hid (Zj.out.below hx)
     have Zg := Lib.hid (belowThen Zm.out (Nat.le_refl _) hx)
     have Zo := Lib.hid (belowThen Zn.out (Nat.le_refl _) hx)
     have Zq := Lib.hid (SliceOf.below Zh.out hx)
     have Zp := Lib.hid (And.intro (SliceOf.below Zf.out.1 hx) (fun b hb => Nat.lt_of_lt_of_le (Zf.out.2 b hb) (hx).size))
     have Za := Lib.hid (Zk.out.below hx)
     have Zb := Lib.hid hi
     have Zd := Lib.hid hr
     clear hi hr hx
     refine ⟨_, rfl, ?_⟩
     have HCJ := Lib.hid (And.intro Zc.out Ze.out)
     refine ⟨HCJ.out, ?_⟩
     try simp only [Act.put, List.setIfInBounds_toArray, List.set_cons_succ, List.set_cons_zero]
     refine held_take 13 (.tuple #[.agg (rsC r1.1 vi vr), .int .i64 0]) rfl (by kernel_rfl) (fun _ _ _ h => h) rfl (fun W _ => by kernel_rfl) (by assumption) ?_
     try simp only [Act.put, List.setIfInBounds_toArray, List.set_cons_succ, List.set_cons_zero]
     refine held_take 14 (.agg (rsC r1.1 vi vr)) rfl (by kernel_rfl) (fun _ _ _ h => h) rfl (fun W _ => by kernel_rfl) (by assumption) ?_
     try simp only [Act.put, List.setIfInBounds_toArray, List.set_cons_succ, List.set_cons_zero]
     refine held_take 15 (.int .i64 0) rfl (by kernel_rfl) (fun _ _ _ h => h) rfl (fun W _ => by kernel_rfl) (by assumption) ?_
     try simp only [Act.put, List.setIfInBounds_toArray, List.set_cons_succ, List.set_cons_zero]
     refine held_one 17 rfl (by kernel_rfl) ?_
     refine step_put rfl rfl 25 _ _ rfl b3 (rsC r1.1 vi vr) _ rfl rfl Za.out (rsC_info _ _ _) (rsC_ss _ _ _ _ _ _) (rsC_one _ Zb.out.slice Zd.out.slice) ?_
     intro wz hbz hxz hsz hkz
     have HBZ := Lib.hid hbz
     have HXZ := Lib.hid (Zg.out.trans (hxz.mono (Nat.le_trans HWW.out HG3.out)))
     have hlt1 := HHL.out.1
     have hlt2 := HHL.out.2
     have hg3z := HG3.out
     have H1Z := Lib.hid (show Blk wz b1 43 (hC (hOne 7).1) from (hkz b1 (by omega)).trans Zc.out)
     have H2Z := Lib.hid (show Blk wz b2 48 (pC (pOne 1 112).1.1 (pOne 1 112).1.2) from (hkz b2 (by omega)).trans Ze.out)
     have HOZ := Lib.hid (Only.of_eq hxz hsz hkz rfl : Only (· = b3) _ _)
     have HIZ := Lib.hid (Zb.out.onlyB HOZ.out Za.out (by decide)).slice
     have HRZ := Lib.hid (Zd.out.onlyB HOZ.out Za.out (by decide)).slice
     clear hbz hxz hsz hkz hlt1 hlt2 hg3z
     have HCJ := Lib.hid (And.intro H1Z.out H2Z.out)
     refine ⟨HCJ.out, ?_⟩
     try simp only [Act.put, List.setIfInBounds_toArray, List.set_cons_succ, List.set_cons_zero]
     refine held_take 18 (.int .i64 0) rfl (by kernel_rfl) (fun _ _ _ h => h) rfl (fun W _ => by kernel_rfl) (by assumption) ?_
     try simp only [Act.put, List.setIfInBounds_toArray, List.set_cons_succ, List.set_cons_zero]
     refine held_end (by kernel_rfl) ?_
     refine ⟨b3, vi, vr, H1Z.out, H2Z.out, HBZ.out, HIZ.out, HRZ.out, HXZ.out, ?_⟩
     simp only [ExPut, Act.put, List.setIfInBounds_toArray, List.set_cons_succ, List.set_cons_zero]
     exact ⟨_, _, _, _, _, _, _, _, _, _, _, _, _, _, _, _, rfl⟩
    refine held_cons rfl ?_ ?_
    ·refine Agg.step_slice2B (E := EMd) rfl _ _ rfl (hOne 7, pOne 1 112) (hOne 7, pOne 2 113) rfl rfl ?_
     intro um Zb8 hu hub hx
     have Zba := Lib.hid (Zbk.out.below hx)
     have Zbb := Lib.hid (Zbm.out.below hx)
     have Zbj := Lib.hid (belowThen Zbv.out (Nat.le_refl _) hx)
     have Zbi := Lib.hid (belowThen Zbt.out (Nat.le_refl _) hx)
     have Zbh := Lib.hid (Zbr.out.below hx)
     have Z9 := Lib.hid (And.intro hu hub)
     clear hu hub hx
     have HCJ := Lib.hid (And.intro Zba.out Zbb.out)
     refine ⟨HCJ.out, ?_⟩
     try simp only [Act.put, List.setIfInBounds_toArray, List.set_cons_succ, List.set_cons_zero]
     refine held_one 3 rfl (by kernel_rfl) ?_
     refine step_slice1 (E := ENm) rfl _ rfl n1 rfl ?_
     intro u3 Zv hu hx
     obtain ⟨pu, cu, hfu⟩ := hu.slice.form
     have HBD := Lib.hid (fun W => (show (Instr.build 66 #[(0, .string ⟨#[97]⟩), (1, u3)]).run Tryz.prog W = .ok (.agg #[.string ⟨#[97]⟩, u3, .slice none 0 0]) W by rw [hfu]; exact build_dv _ _ _ _))
     have Zi := Lib.hid (Zba.out.below hx)
     have Zj := Lib.hid (Zbb.out.below hx)
     have Zm := Lib.hid (belowThen Zbj.out (Nat.le_refl _) hx)
     have Zn := Lib.hid (belowThen Zbi.out (Nat.le_refl _) hx)
     have Zf := Lib.hid (And.intro (SliceOf.below Z9.out.1 hx) (fun b hb => Nat.lt_of_lt_of_le (Z9.out.2 b hb) (hx).size))
     have Zk := Lib.hid (Zbh.out.below hx)
     have Zh := Lib.hid hu.slice
     clear hu hx hfu
     have HCJ := Lib.hid (And.intro Zi.out Zj.out)
     refine ⟨HCJ.out, ?_⟩
     try simp only [Act.put, List.setIfInBounds_toArray, List.set_cons_succ, List.set_cons_zero]
     refine held_take 4 (.agg #[.string ⟨#[97]⟩, u3, .slice none 0 0]) rfl (by kernel_rfl) (fun _ _ _ h => h) rfl (fun W _ => exec_build2C rfl rfl rfl (HBD.out W)) (by assumption) ?_
     try simp only [Act.put, List.setIfInBounds_toArray, List.set_cons_succ, List.set_cons_zero]
     refine held_one 12 rfl (by kernel_rfl) ?_
     refine step_call rfl 30 _ _ rfl #[.agg #[.string ⟨#[97]⟩, u3, .slice none 0 0], um] (by simp only [List.map_toArray, List.map_cons, List.map_nil]; rfl) (fun W => HEO.out _ W) ?_
     refine (rof2_any _ um d1 m1 (by decide) (by decide) (by decide) _ ⟨u3, .slice none 0 0, rfl, Zh.out, SliceOf.nil _ _ _⟩ Zf.out.1).mono ?_
     rw [of1]
     rintro x Zr ⟨vi, vr, rfl, hi, hr, hx⟩
     have Zc := Lib.hid (Zi.out.below hx)
     have Ze := Lib.hid (Zj.out.below hx)
     have Zg := Lib.hid (belowThen Zm.out (Nat.le_refl _) hx)
     have Zo := Lib.hid (belowThen Zn.out (Nat.le_refl _) hx)
     have Zq := Lib.hid (SliceOf.below Zh.out hx)
     have Zp := Lib.hid (And.intro (SliceOf.below Zf.out.1 hx) (fun b hb => Nat.lt_of_lt_of_le (Zf.out.2 b hb) (hx).size))
     have Za := Lib.hid (Zk.out.below hx)
     have Zb := Lib.hid hi
     have Zd := Lib.hid hr
     clear hi hr hx
     refine ⟨_, rfl, ?_⟩
     have HCJ := Lib.hid (And.intro Zc.out Ze.out)
     refine ⟨HCJ.out, ?_⟩
     try simp only [Act.put, List.setIfInBounds_toArray, List.set_cons_succ, List.set_cons_zero]
     refine held_take 13 (.tuple #[.agg (rsC r1.1 vi vr), .int .i64 0]) rfl (by kernel_rfl) (fun _ _ _ h => h) rfl (fun W _ => by kernel_rfl) (by assumption) ?_
     try simp only [Act.put, List.setIfInBounds_toArray, List.set_cons_succ, List.set_cons_zero]
     refine held_take 14 (.agg (rsC r1.1 vi vr)) rfl (by kernel_rfl) (fun _ _ _ h => h) rfl (fun W _ => by kernel_rfl) (by assumption) ?_
     try simp only [Act.put, List.setIfInBounds_toArray, List.set_cons_succ, List.set_cons_zero]
     refine held_take 15 (.int .i64 0) rfl (by kernel_rfl) (fun _ _ _ h => h) rfl (fun W _ => by kernel_rfl) (by assumption) ?_
     try simp only [Act.put, List.setIfInBounds_toArray, List.set_cons_succ, List.set_cons_zero]
     refine held_one 17 rfl (by kernel_rfl) ?_
     refine step_put rfl rfl 25 _ _ rfl b3 (rsC r1.1 vi vr) _ rfl rfl Za.out (rsC_info _ _ _) (rsC_ss _ _ _ _ _ _) (rsC_one _ Zb.out.slice Zd.out.slice) ?_
     intro wz hbz hxz hsz hkz
     have HBZ := Lib.hid hbz
     have HXZ := Lib.hid (Zg.out.trans (hxz.mono (Nat.le_trans HWW.out HG3.out)))
     have hlt1 := HHL.out.1
     have hlt2 := HHL.out.2
     have hg3z := HG3.out
     have H1Z := Lib.hid (show Blk wz b1 43 (hC (hOne 7).1) from (hkz b1 (by omega)).trans Zc.out)
     have H2Z := Lib.hid (show Blk wz b2 48 (pC (pOne 1 112).1.1 (pOne 1 112).1.2) from (hkz b2 (by omega)).trans Ze.out)
     have HOZ := Lib.hid (Only.of_eq hxz hsz hkz rfl : Only (· = b3) _ _)
     have HIZ := Lib.hid (Zb.out.onlyB HOZ.out Za.out (by decide)).slice
     have HRZ := Lib.hid (Zd.out.onlyB HOZ.out Za.out (by decide)).slice
     clear hbz hxz hsz hkz hlt1 hlt2 hg3z
     have HCJ := Lib.hid (And.intro H1Z.out H2Z.out)
     refine ⟨HCJ.out, ?_⟩
     try simp only [Act.put, List.setIfInBounds_toArray, List.set_cons_succ, List.set_cons_zero]
     refine held_take 18 (.int .i64 0) rfl (by kernel_rfl) (fun _ _ _ h => h) rfl (fun W _ => by kernel_rfl) (by assumption) ?_
     try simp only [Act.put, List.setIfInBounds_toArray, List.set_cons_succ, List.set_cons_zero]
     refine held_end (by kernel_rfl) ?_
     refine ⟨b3, vi, vr, H1Z.out, H2Z.out, HBZ.out, HIZ.out, HRZ.out, HXZ.out, ?_⟩
     simp only [ExPut, Act.put, List.setIfInBounds_toArray, List.set_cons_succ, List.set_cons_zero]
     exact ⟨_, _, _, _, _, _, _, _, _, _, _, _, _, _, _, _, rfl⟩
    exact AllReadyH.nil
   exact AllReadyH.nil
  refine held_cons rfl ?_ ?_
  ·refine step_zero rfl 25 rfl (rsC [] (.slice none 0 0) (.slice none 0 0)) rsC_zero ?_
   intro b3 w_16 hb3 hx hg3
   have H1_16 := Lib.hid (H1d.out.below hx)
   have H2_16 := Lib.hid (H2d.out.below hx)
   have HX_16 := Lib.hid (belowThen HXd.out (Nat.le_refl _) hx)
   have HL_16 := Lib.hid (belowThen HLd.out (Nat.le_refl _) hx)
   have HB3_16 := Lib.hid hb3
   have HG3 := Lib.hid (show w0.heap.size ≤ b3 from Nat.le_trans HLd.out.size hg3)
   clear hb3 hx hg3
   have HCJ := Lib.hid (And.intro H1_16.out H2_16.out)
   refine ⟨HCJ.out, ?_⟩
   try simp only [Act.put, List.setIfInBounds_toArray, List.set_cons_succ, List.set_cons_zero]
   refine held_ready [3, 9] (by kernel_rfl) (by simp) ?_
   refine held_cons rfl ?_ ?_
   ·refine step_slice1 (E := ENm) rfl _ rfl n1 rfl ?_
    intro u3 Zcb hu hx
    obtain ⟨pu, cu, hfu⟩ := hu.slice.form
    have HBD := Lib.hid (fun W => (show (Instr.build 66 #[(0, .string ⟨#[97]⟩), (1, u3)]).run Tryz.prog W = .ok (.agg #[.string ⟨#[97]⟩, u3, .slice none 0 0]) W by rw [hfu]; exact build_dv _ _ _ _))
    have Zbs := Lib.hid (H1_16.out.below hx)
    have Zbu := Lib.hid (H2_16.out.below hx)
    have Zb2 := Lib.hid (belowThen HX_16.out (Nat.le_refl _) hx)
    have Zb5 := Lib.hid (belowThen HL_16.out (Nat.le_refl _) hx)
    have Zb1 := Lib.hid (HB3_16.out.below hx)
    have Zb4 := Lib.hid hu.slice
    clear hu hx hfu
    have HCJ := Lib.hid (And.intro Zbs.out Zbu.out)
    refine ⟨HCJ.out, ?_⟩
    try simp only [Act.put, List.setIfInBounds_toArray, List.set_cons_succ, List.set_cons_zero]
    refine held_take 4 (.agg #[.string ⟨#[97]⟩, u3, .slice none 0 0]) rfl (by kernel_rfl) (fun _ _ _ h => h) rfl (fun W _ => exec_build2C rfl rfl rfl (HBD.out W)) (by assumption) ?_
    try simp only [Act.put, List.setIfInBounds_toArray, List.set_cons_succ, List.set_cons_zero]
    refine held_one 9 rfl (by kernel_rfl) ?_
    refine step_call rfl 28 _ _ rfl #[.int .i64 2, .string ⟨#[113]⟩] (by simp only [List.map_toArray, List.map_cons, List.map_nil]; rfl) (fun W => HEP.out _ W) ?_
    refine (path2_any _).mono ?_
    rintro x Zbo ⟨rfl, hx⟩
    have Zs := Lib.hid (Zbs.out.below hx)
    have Zt := Lib.hid (Zbu.out.below hx)
    have Z6 := Lib.hid (belowThen Zb2.out (Nat.le_refl _) hx)
    have Z0 := Lib.hid (belowThen Zb5.out (Nat.le_refl _) hx)
    have Zy := Lib.hid (SliceOf.below Zb4.out hx)
    have Zx := Lib.hid (Zb1.out.below hx)
    clear hx
    refine ⟨_, rfl, ?_⟩
    have HCJ := Lib.hid (And.intro Zs.out Zt.out)
    refine ⟨HCJ.out, ?_⟩
    try simp only [Act.put, List.setIfInBounds_toArray, List.set_cons_succ, List.set_cons_zero]
    refine held_take 10 (.agg (mC (hOne 7, pOne 2 113))) rfl (by kernel_rfl) (fun _ _ _ h => h) rfl (fun W _ => exec_build2C rfl rfl rfl (build_m2 W)) (by assumption) ?_
    try simp only [Act.put, List.setIfInBounds_toArray, List.set_cons_succ, List.set_cons_zero]
    refine held_one 11 rfl (by kernel_rfl) ?_
    refine Agg.step_slice2B (E := EMd) rfl _ _ rfl (hOne 7, pOne 1 112) (hOne 7, pOne 2 113) rfl rfl ?_
    intro um Zv hu hub hx
    have Zi := Lib.hid (Zs.out.below hx)
    have Zj := Lib.hid (Zt.out.below hx)
    have Zm := Lib.hid (belowThen Z6.out (Nat.le_refl _) hx)
    have Zn := Lib.hid (belowThen Z0.out (Nat.le_refl _) hx)
    have Zh := Lib.hid (SliceOf.below Zy.out hx)
    have Zk := Lib.hid (Zx.out.below hx)
    have Zf := Lib.hid (And.intro hu hub)
    clear hu hub hx
    have HCJ := Lib.hid (And.intro Zi.out Zj.out)
    refine ⟨HCJ.out, ?_⟩
    try simp only [Act.put, List.setIfInBounds_toArray, List.set_cons_succ, List.set_cons_zero]
    refine held_one 12 rfl (by kernel_rfl) ?_
    refine step_call rfl 30 _ _ rfl #[.agg #[.string ⟨#[97]⟩, u3, .slice none 0 0], um] (by simp only [List.map_toArray, List.map_cons, List.map_nil]; rfl) (fun W => HEO.out _ W) ?_
    refine (rof2_any _ um d1 m1 (by decide) (by decide) (by decide) _ ⟨u3, .slice none 0 0, rfl, Zh.out, SliceOf.nil _ _ _⟩ Zf.out.1).mono ?_
    rw [of1]
    rintro x Zr ⟨vi, vr, rfl, hi, hr, hx⟩
    have Zc := Lib.hid (Zi.out.below hx)
    have Ze := Lib.hid (Zj.out.below hx)
    have Zg := Lib.hid (belowThen Zm.out (Nat.le_refl _) hx)
    have Zo := Lib.hid (belowThen Zn.out (Nat.le_refl _) hx)
    have Zq := Lib.hid (SliceOf.below Zh.out hx)
    have Zp := Lib.hid (And.intro (SliceOf.below Zf.out.1 hx) (fun b hb => Nat.lt_of_lt_of_le (Zf.out.2 b hb) (hx).size))
    have Za := Lib.hid (Zk.out.below hx)
    have Zb := Lib.hid hi
    have Zd := Lib.hid hr
    clear hi hr hx
    refine ⟨_, rfl, ?_⟩
    have HCJ := Lib.hid (And.intro Zc.out Ze.out)
    refine ⟨HCJ.out, ?_⟩
    try simp only [Act.put, List.setIfInBounds_toArray, List.set_cons_succ, List.set_cons_zero]
    refine held_take 13 (.tuple #[.agg (rsC r1.1 vi vr), .int .i64 0]) rfl (by kernel_rfl) (fun _ _ _ h => h) rfl (fun W _ => by kernel_rfl) (by assumption) ?_
    try simp only [Act.put, List.setIfInBounds_toArray, List.set_cons_succ, List.set_cons_zero]
    refine held_take 14 (.agg (rsC r1.1 vi vr)) rfl (by kernel_rfl) (fun _ _ _ h => h) rfl (fun W _ => by kernel_rfl) (by assumption) ?_
    try simp only [Act.put, List.setIfInBounds_toArray, List.set_cons_succ, List.set_cons_zero]
    refine held_take 15 (.int .i64 0) rfl (by kernel_rfl) (fun _ _ _ h => h) rfl (fun W _ => by kernel_rfl) (by assumption) ?_
    try simp only [Act.put, List.setIfInBounds_toArray, List.set_cons_succ, List.set_cons_zero]
    refine held_one 17 rfl (by kernel_rfl) ?_
    refine step_put rfl rfl 25 _ _ rfl b3 (rsC r1.1 vi vr) _ rfl rfl Za.out (rsC_info _ _ _) (rsC_ss _ _ _ _ _ _) (rsC_one _ Zb.out.slice Zd.out.slice) ?_
    intro wz hbz hxz hsz hkz
    have HBZ := Lib.hid hbz
    have HXZ := Lib.hid (Zg.out.trans (hxz.mono (Nat.le_trans HWW.out HG3.out)))
    have hlt1 := HHL.out.1
    have hlt2 := HHL.out.2
    have hg3z := HG3.out
    have H1Z := Lib.hid (show Blk wz b1 43 (hC (hOne 7).1) from (hkz b1 (by omega)).trans Zc.out)
    have H2Z := Lib.hid (show Blk wz b2 48 (pC (pOne 1 112).1.1 (pOne 1 112).1.2) from (hkz b2 (by omega)).trans Ze.out)
    have HOZ := Lib.hid (Only.of_eq hxz hsz hkz rfl : Only (· = b3) _ _)
    have HIZ := Lib.hid (Zb.out.onlyB HOZ.out Za.out (by decide)).slice
    have HRZ := Lib.hid (Zd.out.onlyB HOZ.out Za.out (by decide)).slice
    clear hbz hxz hsz hkz hlt1 hlt2 hg3z
    have HCJ := Lib.hid (And.intro H1Z.out H2Z.out)
    refine ⟨HCJ.out, ?_⟩
    try simp only [Act.put, List.setIfInBounds_toArray, List.set_cons_succ, List.set_cons_zero]
    refine held_take 18 (.int .i64 0) rfl (by kernel_rfl) (fun _ _ _ h => h) rfl (fun W _ => by kernel_rfl) (by assumption) ?_
    try simp only [Act.put, List.setIfInBounds_toArray, List.set_cons_succ, List.set_cons_zero]
    refine held_end (by kernel_rfl) ?_
    refine ⟨b3, vi, vr, H1Z.out, H2Z.out, HBZ.out, HIZ.out, HRZ.out, HXZ.out, ?_⟩
    simp only [ExPut, Act.put, List.setIfInBounds_toArray, List.set_cons_succ, List.set_cons_zero]
    exact ⟨_, _, _, _, _, _, _, _, _, _, _, _, _, _, _, _, rfl⟩
   refine held_cons rfl ?_ ?_
   ·refine step_call rfl 28 _ _ rfl #[.int .i64 2, .string ⟨#[113]⟩] (by simp only [List.map_toArray, List.map_cons, List.map_nil]; rfl) (fun W => HEP.out _ W) ?_
    refine (path2_any _).mono ?_
    rintro x Zcc ⟨rfl, hx⟩
    have Zbk := Lib.hid (H1_16.out.below hx)
    have Zbm := Lib.hid (H2_16.out.below hx)
    have Zbv := Lib.hid (belowThen HX_16.out (Nat.le_refl _) hx)
    have Zbt := Lib.hid (belowThen HL_16.out (Nat.le_refl _) hx)
    have Zbr := Lib.hid (HB3_16.out.below hx)
    clear hx
    refine ⟨_, rfl, ?_⟩
    have HCJ := Lib.hid (And.intro Zbk.out Zbm.out)
    refine ⟨HCJ.out, ?_⟩
    try simp only [Act.put, List.setIfInBounds_toArray, List.set_cons_succ, List.set_cons_zero]
    refine held_take 10 (.agg (mC (hOne 7, pOne 2 113))) rfl (by kernel_rfl) (fun _ _ _ h => h) rfl (fun W _ => exec_build2C rfl rfl rfl (build_m2 W)) (by assumption) ?_
    try simp only [Act.put, List.setIfInBounds_toArray, List.set_cons_succ, List.set_cons_zero]
    refine held_ready [3, 11] (by kernel_rfl) (by simp) ?_
    refine held_cons rfl ?_ ?_
    ·refine step_slice1 (E := ENm) rfl _ rfl n1 rfl ?_
     intro u3 Zbo hu hx
     obtain ⟨pu, cu, hfu⟩ := hu.slice.form
     have HBD := Lib.hid (fun W => (show (Instr.build 66 #[(0, .string ⟨#[97]⟩), (1, u3)]).run Tryz.prog W = .ok (.agg #[.string ⟨#[97]⟩, u3, .slice none 0 0]) W by rw [hfu]; exact build_dv _ _ _ _))
     have Zs := Lib.hid (Zbk.out.below hx)
     have Zt := Lib.hid (Zbm.out.below hx)
     have Z6 := Lib.hid (belowThen Zbv.out (Nat.le_refl _) hx)
     have Z0 := Lib.hid (belowThen Zbt.out (Nat.le_refl _) hx)
     have Zx := Lib.hid (Zbr.out.below hx)
     have Zy := Lib.hid hu.slice
     clear hu hx hfu
     have HCJ := Lib.hid (And.intro Zs.out Zt.out)
     refine ⟨HCJ.out, ?_⟩
     try simp only [Act.put, List.setIfInBounds_toArray, List.set_cons_succ, List.set_cons_zero]
     refine held_take 4 (.agg #[.string ⟨#[97]⟩, u3, .slice none 0 0]) rfl (by kernel_rfl) (fun _ _ _ h => h) rfl (fun W _ => exec_build2C rfl rfl rfl (HBD.out W)) (by assumption) ?_
     try simp only [Act.put, List.setIfInBounds_toArray, List.set_cons_succ, List.set_cons_zero]
     refine held_one 11 rfl (by kernel_rfl) ?_
     refine Agg.step_slice2B (E := EMd) rfl _ _ rfl (hOne 7, pOne 1 112) (hOne 7, pOne 2 113) rfl rfl ?_
     intro um Zv hu hub hx
     have Zi := Lib.hid (Zs.out.below hx)
     have Zj := Lib.hid (Zt.out.below hx)
     have Zm := Lib.hid (belowThen Z6.out (Nat.le_refl _) hx)
     have Zn := Lib.hid (belowThen Z0.out (Nat.le_refl _) hx)
     have Zh := Lib.hid (SliceOf.below Zy.out hx)
     have Zk := Lib.hid (Zx.out.below hx)
     have Zf := Lib.hid (And.intro hu hub)
     clear hu hub hx
     have HCJ := Lib.hid (And.intro Zi.out Zj.out)
     refine ⟨HCJ.out, ?_⟩
     try simp only [Act.put, List.setIfInBounds_toArray, List.set_cons_succ, List.set_cons_zero]
     refine held_one 12 rfl (by kernel_rfl) ?_
     refine step_call rfl 30 _ _ rfl #[.agg #[.string ⟨#[97]⟩, u3, .slice none 0 0], um] (by simp only [List.map_toArray, List.map_cons, List.map_nil]; rfl) (fun W => HEO.out _ W) ?_
     refine (rof2_any _ um d1 m1 (by decide) (by decide) (by decide) _ ⟨u3, .slice none 0 0, rfl, Zh.out, SliceOf.nil _ _ _⟩ Zf.out.1).mono ?_
     rw [of1]
     rintro x Zr ⟨vi, vr, rfl, hi, hr, hx⟩
     have Zc := Lib.hid (Zi.out.below hx)
     have Ze := Lib.hid (Zj.out.below hx)
     have Zg := Lib.hid (belowThen Zm.out (Nat.le_refl _) hx)
     have Zo := Lib.hid (belowThen Zn.out (Nat.le_refl _) hx)
     have Zq := Lib.hid (SliceOf.below Zh.out hx)
     have Zp := Lib.hid (And.intro (SliceOf.below Zf.out.1 hx) (fun b hb => Nat.lt_of_lt_of_le (Zf.out.2 b hb) (hx).size))
     have Za := Lib.hid (Zk.out.below hx)
     have Zb := Lib.hid hi
     have Zd := Lib.hid hr
     clear hi hr hx
     refine ⟨_, rfl, ?_⟩
     have HCJ := Lib.hid (And.intro Zc.out Ze.out)
     refine ⟨HCJ.out, ?_⟩
     try simp only [Act.put, List.setIfInBounds_toArray, List.set_cons_succ, List.set_cons_zero]
     refine held_take 13 (.tuple #[.agg (rsC r1.1 vi vr), .int .i64 0]) rfl (by kernel_rfl) (fun _ _ _ h => h) rfl (fun W _ => by kernel_rfl) (by assumption) ?_
     try simp only [Act.put, List.setIfInBounds_toArray, List.set_cons_succ, List.set_cons_zero]
     refine held_take 14 (.agg (rsC r1.1 vi vr)) rfl (by kernel_rfl) (fun _ _ _ h => h) rfl (fun W _ => by kernel_rfl) (by assumption) ?_
     try simp only [Act.put, List.setIfInBounds_toArray, List.set_cons_succ, List.set_cons_zero]
     refine held_take 15 (.int .i64 0) rfl (by kernel_rfl) (fun _ _ _ h => h) rfl (fun W _ => by kernel_rfl) (by assumption) ?_
     try simp only [Act.put, List.setIfInBounds_toArray, List.set_cons_succ, List.set_cons_zero]
     refine held_one 17 rfl (by kernel_rfl) ?_
     refine step_put rfl rfl 25 _ _ rfl b3 (rsC r1.1 vi vr) _ rfl rfl Za.out (rsC_info _ _ _) (rsC_ss _ _ _ _ _ _) (rsC_one _ Zb.out.slice Zd.out.slice) ?_
     intro wz hbz hxz hsz hkz
     have HBZ := Lib.hid hbz
     have HXZ := Lib.hid (Zg.out.trans (hxz.mono (Nat.le_trans HWW.out HG3.out)))
     have hlt1 := HHL.out.1
     have hlt2 := HHL.out.2
     have hg3z := HG3.out
     have H1Z := Lib.hid (show Blk wz b1 43 (hC (hOne 7).1) from (hkz b1 (by omega)).trans Zc.out)
     have H2Z := Lib.hid (show Blk wz b2 48 (pC (pOne 1 112).1.1 (pOne 1 112).1.2) from (hkz b2 (by omega)).trans Ze.out)
     have HOZ := Lib.hid (Only.of_eq hxz hsz hkz rfl : Only (· = b3) _ _)
     have HIZ := Lib.hid (Zb.out.onlyB HOZ.out Za.out (by decide)).slice
     have HRZ := Lib.hid (Zd.out.onlyB HOZ.out Za.out (by decide)).slice
     clear hbz hxz hsz hkz hlt1 hlt2 hg3z
     have HCJ := Lib.hid (And.intro H1Z.out H2Z.out)
     refine ⟨HCJ.out, ?_⟩
     try simp only [Act.put, List.setIfInBounds_toArray, List.set_cons_succ, List.set_cons_zero]
     refine held_take 18 (.int .i64 0) rfl (by kernel_rfl) (fun _ _ _ h => h) rfl (fun W _ => by kernel_rfl) (by assumption) ?_
     try simp only [Act.put, List.setIfInBounds_toArray, List.set_cons_succ, List.set_cons_zero]
     refine held_end (by kernel_rfl) ?_
     refine ⟨b3, vi, vr, H1Z.out, H2Z.out, HBZ.out, HIZ.out, HRZ.out, HXZ.out, ?_⟩
     simp only [ExPut, Act.put, List.setIfInBounds_toArray, List.set_cons_succ, List.set_cons_zero]
     exact ⟨_, _, _, _, _, _, _, _, _, _, _, _, _, _, _, _, rfl⟩
    refine held_cons rfl ?_ ?_
    ·refine Agg.step_slice2B (E := EMd) rfl _ _ rfl (hOne 7, pOne 1 112) (hOne 7, pOne 2 113) rfl rfl ?_
     intro um Zb8 hu hub hx
     have Zba := Lib.hid (Zbk.out.below hx)
     have Zbb := Lib.hid (Zbm.out.below hx)
     have Zbj := Lib.hid (belowThen Zbv.out (Nat.le_refl _) hx)
     have Zbi := Lib.hid (belowThen Zbt.out (Nat.le_refl _) hx)
     have Zbh := Lib.hid (Zbr.out.below hx)
     have Z9 := Lib.hid (And.intro hu hub)
     clear hu hub hx
     have HCJ := Lib.hid (And.intro Zba.out Zbb.out)
     refine ⟨HCJ.out, ?_⟩
     try simp only [Act.put, List.setIfInBounds_toArray, List.set_cons_succ, List.set_cons_zero]
     refine held_one 3 rfl (by kernel_rfl) ?_
     refine step_slice1 (E := ENm) rfl _ rfl n1 rfl ?_
     intro u3 Zv hu hx
     obtain ⟨pu, cu, hfu⟩ := hu.slice.form
     have HBD := Lib.hid (fun W => (show (Instr.build 66 #[(0, .string ⟨#[97]⟩), (1, u3)]).run Tryz.prog W = .ok (.agg #[.string ⟨#[97]⟩, u3, .slice none 0 0]) W by rw [hfu]; exact build_dv _ _ _ _))
     have Zi := Lib.hid (Zba.out.below hx)
     have Zj := Lib.hid (Zbb.out.below hx)
     have Zm := Lib.hid (belowThen Zbj.out (Nat.le_refl _) hx)
     have Zn := Lib.hid (belowThen Zbi.out (Nat.le_refl _) hx)
     have Zf := Lib.hid (And.intro (SliceOf.below Z9.out.1 hx) (fun b hb => Nat.lt_of_lt_of_le (Z9.out.2 b hb) (hx).size))
     have Zk := Lib.hid (Zbh.out.below hx)
     have Zh := Lib.hid hu.slice
     clear hu hx hfu
     have HCJ := Lib.hid (And.intro Zi.out Zj.out)
     refine ⟨HCJ.out, ?_⟩
     try simp only [Act.put, List.setIfInBounds_toArray, List.set_cons_succ, List.set_cons_zero]
     refine held_take 4 (.agg #[.string ⟨#[97]⟩, u3, .slice none 0 0]) rfl (by kernel_rfl) (fun _ _ _ h => h) rfl (fun W _ => exec_build2C rfl rfl rfl (HBD.out W)) (by assumption) ?_
     try simp only [Act.put, List.setIfInBounds_toArray, List.set_cons_succ, List.set_cons_zero]
     refine held_one 12 rfl (by kernel_rfl) ?_
     refine step_call rfl 30 _ _ rfl #[.agg #[.string ⟨#[97]⟩, u3, .slice none 0 0], um] (by simp only [List.map_toArray, List.map_cons, List.map_nil]; rfl) (fun W => HEO.out _ W) ?_
     refine (rof2_any _ um d1 m1 (by decide) (by decide) (by decide) _ ⟨u3, .slice none 0 0, rfl, Zh.out, SliceOf.nil _ _ _⟩ Zf.out.1).mono ?_
     rw [of1]
     rintro x Zr ⟨vi, vr, rfl, hi, hr, hx⟩
     have Zc := Lib.hid (Zi.out.below hx)
     have Ze := Lib.hid (Zj.out.below hx)
     have Zg := Lib.hid (belowThen Zm.out (Nat.le_refl _) hx)
     have Zo := Lib.hid (belowThen Zn.out (Nat.le_refl _) hx)
     have Zq := Lib.hid (SliceOf.below Zh.out hx)
     have Zp := Lib.hid (And.intro (SliceOf.below Zf.out.1 hx) (fun b hb => Nat.lt_of_lt_of_le (Zf.out.2 b hb) (hx).size))
     have Za := Lib.hid (Zk.out.below hx)
     have Zb := Lib.hid hi
     have Zd := Lib.hid hr
     clear hi hr hx
     refine ⟨_, rfl, ?_⟩
     have HCJ := Lib.hid (And.intro Zc.out Ze.out)
     refine ⟨HCJ.out, ?_⟩
     try simp only [Act.put, List.setIfInBounds_toArray, List.set_cons_succ, List.set_cons_zero]
     refine held_take 13 (.tuple #[.agg (rsC r1.1 vi vr), .int .i64 0]) rfl (by kernel_rfl) (fun _ _ _ h => h) rfl (fun W _ => by kernel_rfl) (by assumption) ?_
     try simp only [Act.put, List.setIfInBounds_toArray, List.set_cons_succ, List.set_cons_zero]
     refine held_take 14 (.agg (rsC r1.1 vi vr)) rfl (by kernel_rfl) (fun _ _ _ h => h) rfl (fun W _ => by kernel_rfl) (by assumption) ?_
     try simp only [Act.put, List.setIfInBounds_toArray, List.set_cons_succ, List.set_cons_zero]
     refine held_take 15 (.int .i64 0) rfl (by kernel_rfl) (fun _ _ _ h => h) rfl (fun W _ => by kernel_rfl) (by assumption) ?_
     try simp only [Act.put, List.setIfInBounds_toArray, List.set_cons_succ, List.set_cons_zero]
     refine held_one 17 rfl (by kernel_rfl) ?_
     refine step_put rfl rfl 25 _ _ rfl b3 (rsC r1.1 vi vr) _ rfl rfl Za.out (rsC_info _ _ _) (rsC_ss _ _ _ _ _ _) (rsC_one _ Zb.out.slice Zd.out.slice) ?_
     intro wz hbz hxz hsz hkz
     have HBZ := Lib.hid hbz
     have HXZ := Lib.hid (Zg.out.trans (hxz.mono (Nat.le_trans HWW.out HG3.out)))
     have hlt1 := HHL.out.1
     have hlt2 := HHL.out.2
     have hg3z := HG3.out
     have H1Z := Lib.hid (show Blk wz b1 43 (hC (hOne 7).1) from (hkz b1 (by omega)).trans Zc.out)
     have H2Z := Lib.hid (show Blk wz b2 48 (pC (pOne 1 112).1.1 (pOne 1 112).1.2) from (hkz b2 (by omega)).trans Ze.out)
     have HOZ := Lib.hid (Only.of_eq hxz hsz hkz rfl : Only (· = b3) _ _)
     have HIZ := Lib.hid (Zb.out.onlyB HOZ.out Za.out (by decide)).slice
     have HRZ := Lib.hid (Zd.out.onlyB HOZ.out Za.out (by decide)).slice
     clear hbz hxz hsz hkz hlt1 hlt2 hg3z
     have HCJ := Lib.hid (And.intro H1Z.out H2Z.out)
     refine ⟨HCJ.out, ?_⟩
     try simp only [Act.put, List.setIfInBounds_toArray, List.set_cons_succ, List.set_cons_zero]
     refine held_take 18 (.int .i64 0) rfl (by kernel_rfl) (fun _ _ _ h => h) rfl (fun W _ => by kernel_rfl) (by assumption) ?_
     try simp only [Act.put, List.setIfInBounds_toArray, List.set_cons_succ, List.set_cons_zero]
     refine held_end (by kernel_rfl) ?_
     refine ⟨b3, vi, vr, H1Z.out, H2Z.out, HBZ.out, HIZ.out, HRZ.out, HXZ.out, ?_⟩
     simp only [ExPut, Act.put, List.setIfInBounds_toArray, List.set_cons_succ, List.set_cons_zero]
     exact ⟨_, _, _, _, _, _, _, _, _, _, _, _, _, _, _, _, rfl⟩
    exact AllReadyH.nil
   exact AllReadyH.nil
  exact AllReadyH.nil
 rintro a' w6 ⟨b3, vi, vr, h1, h2, h3, hi, hr, hx, hput⟩
 simp only [ExPut] at hput
 obtain ⟨x13, x14, x15, x16, x17, x18, x19, x20, x21, x22, x23, x24, x25, x26, x27, x28, rfl⟩ := hput
 simp only [Act.put, List.setIfInBounds_toArray, List.set_cons_succ, List.set_cons_zero]
 have HA6 := Lib.hid h1
 have HP6 := Lib.hid h2
 have HB6 := Lib.hid h3
 have HI6 := Lib.hid hi
 have HR6 := Lib.hid hr
 have HX6 := Lib.hid hx
 have HLP := Lib.hid (h2.loads (P := Tryz.prog) pC_under rfl (pC_info _ _ (pOne 1 112).2))
 clear h1 h2 h3 hi hr hx
 go_wp2_with (first | (with_reducible refine wpList_loadL HLP.out rfl _ rfl rfl ?_) | (with_reducible refine wpList_build1 70 0 _ rfl rfl (.agg (pC (pOne 1 112).1.1 (pOne 1 112).1.2)) rfl (.agg (iC i2)) build_i2 ?_) | (with_reducible refine wpList_build2 73 0 _ 1 _ rfl rfl (.string ⟨#[120]⟩) (.agg (iC i2)) rfl rfl (.agg (nmC n2)) build_n2 ?_) | (refine wpList_slice1 (E := ENm) (base := w6.heap.size) rfl _ rfl n2 rfl (Nat.le_refl _) ?_; intro u3 w7 hu hx7; obtain ⟨pu, cu, hfu⟩ := hu.slice.form; have HBD := Lib.hid (fun W => (show (Instr.build 66 #[(0, .string ⟨#[97]⟩), (1, u3)]).run Tryz.prog W = .ok (.agg #[.string ⟨#[97]⟩, u3, .slice none 0 0]) W by rw [hfu]; exact build_dv _ _ _ _)); have HN7 := Lib.hid hu.slice; have HX7 := Lib.hid (belowThen HX6.out (Nat.le_refl _) hx7); have HL7 := Lib.hid hx7; clear hu hx7 hfu) | (with_reducible refine wpList_build2 66 0 _ 1 _ rfl rfl (.string ⟨#[97]⟩) u3 rfl rfl (.agg #[.string ⟨#[97]⟩, u3, .slice none 0 0]) HBD.out ?_))
 refine (rof2_any _ (.slice none 0 0) d2 [] (by decide) (by decide) (by decide) w7 ⟨u3, .slice none 0 0, rfl, HN7.out, SliceOf.nil _ _ _⟩ (SliceOf.nil _ _ _)).mono ?_
 rw [of2]
 rintro e w8 ⟨ui, ur, rfl, hi, hr, hx⟩
 have hx8 := belowThen HL7.out (Nat.le_refl _) hx
 have HUI := Lib.hid hi.slice
 have HUR := Lib.hid hr.slice
 have HB8 := Lib.hid (HB6.out.below hx8)
 have HP8 := Lib.hid (HP6.out.below hx8)
 have HI8 := Lib.hid (SliceOf.below HI6.out hx8)
 have HR8 := Lib.hid (SliceOf.below HR6.out hx8)
 have HX8 := Lib.hid (belowThen HX7.out (Nat.le_refl _) hx)
 clear hi hr hx hx8
 go_wp2_with (first | (refine wpList_new rfl rfl rfl 25 5 36 rfl rfl rfl (by decide) (rsC [] (.slice none 0 0) (.slice none 0 0)) (rsC r1.1 ui ur) rsC_zero (rsC_ss _ _ _ _ _ _) (rsC_info _ _ _) (rsC_one _ HUI.out HUR.out) rfl (by simp [Act.put]) ?_; intro b5 w9 hb hx hg; have HC9 := Lib.hid hb; have HB9 := Lib.hid (HB8.out.below hx); have HP9 := Lib.hid (HP8.out.below hx); have HI9 := Lib.hid (SliceOf.below HI8.out hx); have HR9 := Lib.hid (SliceOf.below HR8.out hx); have HUI9 := Lib.hid (SliceOf.below HUI.out hx); have HUR9 := Lib.hid (SliceOf.below HUR.out hx); have HX9 := Lib.hid (belowThen HX8.out (Nat.le_refl _) hx); have HL9 := Lib.hid (RvB.of_blk HB9.out).all; clear hb hx hg) | (with_reducible refine wpList_loadL HL9.out rfl _ rfl rfl ?_))
 obtain ⟨kk, hkk⟩ : ∃ q, tagL tKey r1 = q := ⟨_, rfl⟩
 have hkl : kk.length = 20 := by rw [← hkk]; exact tagL_length _ _
 have HKN := Lib.hid (show kk ≠ z20 by rw [← hkk]; exact key1)
 have HKY := Lib.hid (fun (v : Value) (W : World) (h : RvAt W v r1) => rkey_any v r1 (by decide) W h)
 have he1 : errRv r1 = 0 := by simp [errRv, can1]
 rw [hkk, he1] at HKY
 clear hkk he1
 refine (HKY.out _ w9 ⟨vi, vr, rfl, HI9.out, HR9.out⟩).mono ?_
 rintro e wa ⟨rfl, hx⟩
 have HCa := Lib.hid (HC9.out.below hx)
 have HBa := Lib.hid (HB9.out.below hx)
 have HPa := Lib.hid (HP9.out.below hx)
 have HIa := Lib.hid (SliceOf.below HI9.out hx)
 have HUIa := Lib.hid (SliceOf.below HUI9.out hx)
 have HURa := Lib.hid (SliceOf.below HUR9.out hx)
 have HXa := Lib.hid (belowThen HX9.out (Nat.le_refl _) hx)
 clear hx
 go_wp2_with (first | (refine wpList_new rfl rfl rfl 43 7 41 rfl rfl rfl (by decide) (hC z20) (hC kk) hash_zero2 (by rw [hC_size, hC_size, hkl, z20_length]) (hash_info1 _ hkl) (hC_one1 _) rfl (by simp [Act.put]) ?_; intro b7 wb hb hx hg; have HKb := Lib.hid hb; have HCb := Lib.hid (HCa.out.below hx); have HBb := Lib.hid (HBa.out.below hx); have HPb := Lib.hid (HPa.out.below hx); have HIb := Lib.hid (SliceOf.below HIa.out hx); have HUIb := Lib.hid (SliceOf.below HUIa.out hx); have HURb := Lib.hid (SliceOf.below HURa.out hx); have HXb := Lib.hid (belowThen HXa.out (Nat.le_refl _) hx); have HLb := Lib.hid (RvB.of_blk HCb.out).all; clear hb hx hg) | (with_reducible refine wpList_loadL HLb.out rfl _ rfl rfl ?_))
 refine (HKY.out _ wb ⟨ui, ur, rfl, HUIb.out, HURb.out⟩).mono ?_
 rintro e wc ⟨rfl, hx⟩
 have HKc := Lib.hid (HKb.out.below hx)
 have HCc := Lib.hid (HCb.out.below hx)
 have HBc := Lib.hid (HBb.out.below hx)
 have HPc := Lib.hid (HPb.out.below hx)
 have HIc := Lib.hid (SliceOf.below HIb.out hx)
 have HUIc := Lib.hid (SliceOf.below HUIb.out hx)
 have HXc := Lib.hid (belowThen HXb.out (Nat.le_refl _) hx)
 clear hx
 go_wp2_with (first | (refine wpList_new rfl rfl rfl 43 9 46 rfl rfl rfl (by decide) (hC z20) (hC kk) hash_zero2 (by rw [hC_size, hC_size, hkl, z20_length]) (hash_info1 _ hkl) (hC_one1 _) rfl (by simp) ?_; intro b9 wd hb hx hg; have HLH9 := Lib.hid (hb.loads (P := Tryz.prog) Tryz.underlying43 rfl (hash_info1 _ hkl)); have HLH7 := Lib.hid ((HKc.out.below hx).loads (P := Tryz.prog) Tryz.underlying43 rfl (hash_info1 _ hkl)); have HLI5 := Lib.hid (RvB.of_blk (HCc.out.below hx)).inp; have HLI3 := Lib.hid (RvB.of_blk (HBc.out.below hx)).inp; have HLP2 := Lib.hid ((HPc.out.below hx).loads (P := Tryz.prog) pC_under rfl (pC_info _ _ (pOne 1 112).2)); have HId := Lib.hid (SliceOf.below HIc.out hx); have HUId := Lib.hid (SliceOf.below HUIc.out hx); have HXd := Lib.hid (belowThen HXc.out (Nat.le_refl _) hx); clear hb hx hg))
 obtain ⟨p3, hadr3, hld3, hrl3⟩ := ri_at HId.out 0 x1 rfl
 obtain ⟨p5, hadr5, hld5, _⟩ := ri_at HUId.out 0 x1 rfl
 have hln := ris_len HId.out
 have hia3 : ∀ W, (Instr.indexAt 22 vi (.int .i64 0)).run Tryz.prog W = .ok (.pointer (some p3)) W := hadr3
 have hia5 : ∀ W, (Instr.indexAt 22 ui (.int .i64 0)).run Tryz.prog W = .ok (.pointer (some p5)) W := hadr5
 have hln1 : ∀ W, (Builtin.len_ #[22] 3 #[vi]).run Tryz.prog W = .ok (.int .i64 1) W := hln
 have HLX3 := Lib.hid hld3
 have HLX5 := Lib.hid hld5
 have HLP3 := Lib.hid (show LoadsL Tryz.prog wd 48 (some (p3.add 1)) (.agg (pC (pOne 1 112).1.1 (pOne 1 112).1.2)) from hrl3.path)
 have HEQP := Lib.hid (fun W => (show (binOp .eql 48 (.agg (pC (pOne 1 112).1.1 (pOne 1 112).1.2)) (.agg (pC (pOne 1 112).1.1 (pOne 1 112).1.2))).run Tryz.prog W = .ok (.bool true) W by rw [eqlPB]; simp))
 have HEQX := Lib.hid eql_x1
 have HEQH := Lib.hid (fun W => (show (binOp .eql 43 (.agg (hC kk)) (.agg (hC kk))).run Tryz.prog W = .ok (.bool true) W by have := eqlHB ⟨kk, hkl⟩ ⟨kk, hkl⟩ W; simpa using this))
 have HNEH := Lib.hid (fun W => (show (binOp .neq 43 (.agg (hC kk)) (.agg (hC z20))).run Tryz.prog W = .ok (.bool true) W by have := neqH ⟨kk, hkl⟩ ⟨z20, rfl⟩ W; rw [this]; simp [Subtype.ext_iff, HKN.out]))
 have HBZ0 := Lib.hid (fun W => (by kernel_rfl : (Instr.build 43 #[]).run Tryz.prog W = .ok (.agg (hC z20)) W))
 clear hadr3 hadr5 hld3 hld5 hrl3 hln
 try simp only [Act.put, List.setIfInBounds_toArray, List.set_cons_succ, List.set_cons_zero]
 refine wp_region_later_lit (by kernel_rfl) (by kernel_rfl) ?_
 repeat (first | go_big_quiet_skip | ((first | (with_reducible refine wpQuiet_loadL HLI3.out rfl _ rfl rfl ?_) | (with_reducible refine wpQuiet_loadL HLI5.out rfl _ rfl rfl ?_) | (with_reducible refine wpQuiet_loadL HLP3.out rfl _ rfl rfl ?_) | (with_reducible refine wpQuiet_loadL HLP2.out rfl _ rfl rfl ?_) | (with_reducible refine wpQuiet_loadL HLX5.out rfl _ rfl rfl ?_) | (with_reducible refine wpQuiet_loadL HLX3.out rfl _ rfl rfl ?_) | (with_reducible refine wpQuiet_loadL HLH7.out rfl _ rfl rfl ?_) | (with_reducible refine wpQuiet_loadL HLH9.out rfl _ rfl rfl ?_) | (with_reducible refine Agg.wpQuiet_eql rfl 48 48 _ _ rfl (pC (pOne 1 112).1.1 (pOne 1 112).1.2) (pC (pOne 1 112).1.1 (pOne 1 112).1.2) rfl rfl true (by kernel_rfl) HEQP.out ?_) | (with_reducible refine Agg.wpQuiet_eql rfl 77 77 _ _ rfl (riC x1) (riC x1) rfl rfl true (by kernel_rfl) HEQX.out ?_) | (with_reducible refine Agg.wpQuiet_eql rfl 43 43 _ _ rfl (hC kk) (hC kk) rfl rfl true (by kernel_rfl) HEQH.out ?_) | (with_reducible refine Agg.wpQuiet_build0 43 rfl rfl (.agg (hC z20)) HBZ0.out ?_) | (with_reducible refine Agg.wpQuiet_neq 43 43 _ _ rfl rfl (hC kk) (hC z20) rfl rfl (true) (by kernel_rfl) HNEH.out ?_)); simp only [Act.put, List.setIfInBounds_toArray, List.set_cons_succ, List.set_cons_zero]) | go_big_quiet_step (fail))
 refine wpQuiet_nil ?_
 intro _ hw'
 obtain ⟨xx, rfl⟩ := hw'
 go_wp2_with fail
 go_ret
 exact ⟨rfl, belowThen HXd.out (Nat.le_refl _) xx.h⟩
end Go.Proofs.YtdebbmembkbniaaGreat
