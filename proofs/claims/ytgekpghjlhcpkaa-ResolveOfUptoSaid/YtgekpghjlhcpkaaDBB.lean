/- spencelaw20.awake. -/
import Derived.Test.YtgekpghjlhcpkaaDAW
import Derived.Test.YtgekpghjlhcpkaaDAY
import Derived.Test.YtgekpghjlhcpkaaDBA
import Derived.Test.YtgekpghjlhcpkaaDAP
namespace Go.Agg
open Go.RowKit
variable {P : Program} {ops : Array Oper} {o : Oper} {a : Act} {w : World} {Q : Exit → Act → World → Prop} {K : Act → World → Prop} {F : Prop}
theorem step_slice2B {α : Type} {E : Elem P α} (hg : o.guard = none) (x y : Operand) (ho : o.op = .buildSlice E.st 2 #[(0, x), (1, y)]) (vx vy : α) (hx : a.eval x = E.val vx) (hy : a.eval y = E.val vy)
    (h : ∀ v' w', SliceOf E w' v' [vx, vy] → (∀ b, v'.ownBlock = some b → b < w'.heap.size) → Below w.heap.size w w' → K (a.put o.dst v') w') : if Region.wanted o (yielded ops a.tmps) = true then o.wp P a w K Q else F :=
  step_val hg (v := .slice (some ⟨w.heap.size, 0, none⟩) 2 2) (w' := w.alloc (.cells ((E.val vx).cells ++ (E.val vy).cells) E.ty)) (by simp [execOp, ho, hx, hy, run_slice_two])
    (h _ _ (slice_of_block2 (Blk.new w E.ty _)) (fun b hb => by
      obtain rfl : w.heap.size = b := by simpa [Value.ownBlock] using hb
      simp) ((Below.refl _ _).alloc (Nat.le_refl _) _))
theorem step_zero (hg : o.guard = none) (ty : TypeId) (ho : o.op = .alloc ty) (cs : Array Value) (hz : (P.info? ty).map (·.zero) = some (some (.agg cs)))
    (h : ∀ g w', Blk w' g ty cs → Below w.heap.size w w' → w.heap.size ≤ g → K (a.put o.dst (.pointer (some ⟨g, 0, none⟩))) w') : if Region.wanted o (yielded ops a.tmps) = true then o.wp P a w K Q else F := by
  refine step_val hg (v := .pointer (some ⟨w.heap.size, 0, none⟩)) (w' := w.alloc (.cells cs ty)) ?_ (h _ _ (Blk.new w ty cs) ((Below.refl _ _).alloc (Nat.le_refl _) _) (Nat.le_refl _))
  cases hq : P.info? ty with
  | none => simp [hq] at hz
  | some i =>
    have hs : i.zero = some (.agg cs) := by simpa [hq] using hz
    simp [execOp, ho, Instr.alloc, zeroValue, typeInfo, hq, hs, newVar, newRow, Value.cells]
theorem step_put (hg : o.guard = none) (hd : o.dst = none) (ty : TypeId) (x y : Operand) (ho : o.op = .store ty x y) (g : Nat) (cs old : Array Value) (hx : a.eval x = .pointer (some ⟨g, 0, none⟩)) (hy : a.eval y = .agg cs)
    (hb : Blk w g ty old) (hi : (P.info? ty).map (·.size) = some cs.size) (hold : old.size = cs.size) (h1 : cs.all (·.oneCell') = true)
    (h : ∀ w', Blk w' g ty cs → Below g w w' → w'.heap.size = w.heap.size → (∀ k, k ≠ g → w'.heap[k]? = w.heap[k]?) → K a w') : if Region.wanted o (yielded ops a.tmps) = true then o.wp P a w K Q else F := by
  refine step_store hg hd ty x y ho _ _ hx hy (w' := w.setRow g cs) (by simp [Instr.storeAt, Instr.sureAddr, run_storeVar_row w g ty ty old cs hb hi hold h1]) ?_
  exact h _ (setRow_heap _ _ _ _ _ _ hb) (below_setRow (Below.refl _ _) (Nat.le_refl _)) (by simp) (fun k hk => setRow_other w g k cs hk)
end Go.Agg
namespace Go.Proofs.Ytgekpghjlhcpkaa
open Go.RowKit Pl Go.Agg Go.Sha
set_option maxRecDepth 100000 in
set_option maxHeartbeats 16000000 in
theorem awake20_any (w : World) : Calls Try.prog 7 #[] w fun e w' => e = .returned (.bool true) ∧ Below w.heap.size w w' := by
  have HEP := Lib.hid (enters_of Try.func25 (by kernel_rfl) rfl : ∀ args w, (callFunc 25 args).run Try.prog w = .ok (.enter 25 args) w)
  have HEO := Lib.hid (enters_of Try.func10 (by kernel_rfl) rfl : ∀ args w, (callFunc 10 args).run Try.prog w = .ok (.enter 10 args) w)
  go_enter Try.func7, Try.ntmps7
  go_wp2_with (first | (with_reducible refine Agg.wpList_build1 45 0 _ rfl rfl (.int .u8 7) rfl (.agg (hC (hOne 7).1)) build_h7 ?_))
  refine (path1_any w).mono ?_
  rintro e w1 ⟨rfl, hx1⟩
  have HX1 := Lib.hid hx1
  clear hx1
  go_wp2_with (first | (with_reducible refine Agg.wpList_zero rfl 45 rfl (hC z20) hash_zero2 ?_; intro b1 w2 hb hx hg; have HA1 := Lib.hid hb; have HX2 := Lib.hid (Agg.belowThen HX1.out (Nat.le_refl _) hx); have HG1 := Lib.hid (Nat.le_trans HX1.out.size hg); clear hb hx hg) | (with_reducible refine Agg.wpList_zero rfl 47 rfl (pC z20 []) pC_zero ?_; intro b2 w3 hb hx hg; have HA2 := Lib.hid (HA1.out.below hx); have HP2 := Lib.hid hb; have HN12 := Lib.hid (show b1 ≠ b2 from fun e => by have := HA1.out.lt; omega); have HX3 := Lib.hid (Agg.belowThen HX2.out (Nat.le_refl _) hx); have HG2 := Lib.hid (Nat.le_trans HX2.out.size hg); clear hb hx hg) | ((with_reducible refine wpList_put rfl rfl 45 _ _ rfl b1 (hC (hOne 7).1) (hC z20) rfl rfl HA2.out (hash_info1 _ rfl) (by rw [hC_size, hC_size, z20_length, (hOne 7).2]) (hC_one1 _) ?_); intro w4 hb hx hs hk; have HA4 := Lib.hid hb; have HP4 := Lib.hid (show Blk w4 b2 47 (pC z20 []) from (hk b2 HN12.out.symm).trans HP2.out); have HX4 := Lib.hid (HX3.out.trans (hx.mono HG1.out)); clear hb hx hs hk) | ((with_reducible refine wpList_put rfl rfl 47 _ _ rfl b2 (pC (pOne 1 112).1.1 (pOne 1 112).1.2) (pC z20 []) rfl rfl HP4.out (pC_info _ _ (pOne 1 112).2) (by rw [pC_size, pC_size, (pOne 1 112).2, z20_length]) (pC_one _ _) ?_); intro w5 hb hx hs hk; have HA5 := Lib.hid (show Blk w5 b1 45 (hC (hOne 7).1) from (hk b1 HN12.out).trans HA4.out); have HP5 := Lib.hid hb; have HX5 := Lib.hid (HX4.out.trans (hx.mono HG2.out)); clear hb hx hs hk))
  refine Agg.wp_cutR (fun a a' w' => ∃ b3 vi vr, Blk w' b1 45 (hC (hOne 7).1) ∧ Blk w' b2 47 (pC (pOne 1 112).1.1 (pOne 1 112).1.2) ∧ Blk w' b3 33 (rsC r1.1 vi vr) ∧ SliceOf ERi w' vi r1.2.1 ∧ BytesAt w' vr r1.2.2 ∧ Below w.heap.size w w' ∧ ExPut [13, 14, 15, 16, 17, 18, 19, 20, 21, 22, 23, 24, 25, 26, 27, 28] ((a.put (some 3) (.pointer (some ⟨b3, 0, none⟩))).put (some 4) (.int .i64 0)) a') ?_ ?_
  · try simp only [Act.put, List.setIfInBounds_toArray, List.set_cons_succ, List.set_cons_zero]
    obtain ⟨w0, hw0⟩ : ∃ W, W = w5.drew := ⟨_, rfl⟩
    have hd0 : Below w5.heap.size w5 w0 := by rw [hw0]; exact (Below.refl _ _).drew
    have H1d := Lib.hid (HA5.out.below hd0)
    have H2d := Lib.hid (HP5.out.below hd0)
    have HXd := Lib.hid (Agg.belowThen HX5.out (Nat.le_refl _) hd0)
    have HLd := Lib.hid (Below.refl w0.heap.size w0)
    have HHL := Lib.hid (And.intro H1d.out.lt H2d.out.lt)
    have HWW := Lib.hid (Agg.belowThen HX5.out (Nat.le_refl _) hd0).size
    refine wp_region_held_drew (S := fun W => Blk W b1 45 (hC (hOne 7).1) ∧ Blk W b2 47 (pC (pOne 1 112).1.1 (pOne 1 112).1.2)) (by kernel_rfl) (by rw [← hw0]; exact ⟨H1d.out, H2d.out⟩) (fun hHeld => ?_)
    rw [← hw0] at hHeld ⊢
    clear hw0 hd0
    refine Agg.held_take 0 ((.agg (hC (hOne 7).1))) rfl (by kernel_rfl) (fun _ _ _ h => h) rfl (fun W hS => exec_loadC rfl rfl (hS.1.loads (P := Try.prog) Try.underlying45 rfl (hash_info1 _ rfl)).now) (by assumption) ?_
    try simp only [Act.put, List.setIfInBounds_toArray, List.set_cons_succ, List.set_cons_zero]
    refine Agg.held_take 1 (.agg (iC i1)) rfl (by kernel_rfl) (fun _ _ _ h => h) rfl (fun W _ => exec_build2C rfl rfl rfl (build_i1 W)) (by assumption) ?_
    try simp only [Act.put, List.setIfInBounds_toArray, List.set_cons_succ, List.set_cons_zero]
    refine Agg.held_take 2 (.agg (nmC n1)) rfl (by kernel_rfl) (fun _ _ _ h => h) rfl (fun W _ => exec_build2C rfl rfl rfl (build_n1 W)) (by assumption) ?_
    try simp only [Act.put, List.setIfInBounds_toArray, List.set_cons_succ, List.set_cons_zero]
    refine Agg.held_take 5 ((.agg (hC (hOne 7).1))) rfl (by kernel_rfl) (fun _ _ _ h => h) rfl (fun W hS => exec_loadC rfl rfl (hS.1.loads (P := Try.prog) Try.underlying45 rfl (hash_info1 _ rfl)).now) (by assumption) ?_
    try simp only [Act.put, List.setIfInBounds_toArray, List.set_cons_succ, List.set_cons_zero]
    refine Agg.held_take 6 ((.agg (pC (pOne 1 112).1.1 (pOne 1 112).1.2))) rfl (by kernel_rfl) (fun _ _ _ h => h) rfl (fun W hS => exec_loadC rfl rfl (hS.2.loads (P := Try.prog) pC_under rfl (pC_info _ _ rfl)).now) (by assumption) ?_
    try simp only [Act.put, List.setIfInBounds_toArray, List.set_cons_succ, List.set_cons_zero]
    refine Agg.held_take 7 (.agg (mC (hOne 7, pOne 1 112))) rfl (by kernel_rfl) (fun _ _ _ h => h) rfl (fun W _ => exec_build2C rfl rfl rfl (build_m1 W)) (by assumption) ?_
    try simp only [Act.put, List.setIfInBounds_toArray, List.set_cons_succ, List.set_cons_zero]
    refine Agg.held_take 8 ((.agg (hC (hOne 7).1))) rfl (by kernel_rfl) (fun _ _ _ h => h) rfl (fun W hS => exec_loadC rfl rfl (hS.1.loads (P := Try.prog) Try.underlying45 rfl (hash_info1 _ rfl)).now) (by assumption) ?_
    try simp only [Act.put, List.setIfInBounds_toArray, List.set_cons_succ, List.set_cons_zero]
    refine Agg.held_ready [3, 9, 16] (by kernel_rfl) (by simp) ?_
    refine Agg.held_cons rfl ?_ ?_
    · refine Agg.step_slice1 (E := ENm) rfl _ rfl n1 rfl ?_
      intro u3 w_3 hu hx
      obtain ⟨pu, cu, hfu⟩ := hu.slice.form
      have HBD := Lib.hid (fun W => (show (Instr.build 25 #[(0, .string ⟨#[97]⟩), (1, u3)]).run Try.prog W = .ok (.agg #[.string ⟨#[97]⟩, u3, .slice none 0 0]) W by rw [hfu]; exact build_dv _ _ _ _))
      have H1_3 := Lib.hid (H1d.out.below hx)
      have H2_3 := Lib.hid (H2d.out.below hx)
      have HX_3 := Lib.hid (Agg.belowThen HXd.out (Nat.le_refl _) hx)
      have HL_3 := Lib.hid (Agg.belowThen HLd.out (Nat.le_refl _) hx)
      have HN_3 := Lib.hid hu.slice
      clear hu hx hfu
      have HCJ := Lib.hid (And.intro H1_3.out H2_3.out)
      refine ⟨HCJ.out, ?_⟩
      try simp only [Act.put, List.setIfInBounds_toArray, List.set_cons_succ, List.set_cons_zero]
      refine Agg.held_take 4 (.agg #[.string ⟨#[97]⟩, u3, .slice none 0 0]) rfl (by kernel_rfl) (fun _ _ _ h => h) rfl (fun W _ => exec_build2C rfl rfl rfl (HBD.out W)) (by assumption) ?_
      try simp only [Act.put, List.setIfInBounds_toArray, List.set_cons_succ, List.set_cons_zero]
      refine Agg.held_ready [9, 16] (by kernel_rfl) (by simp) ?_
      refine Agg.held_cons rfl ?_ ?_
      · refine Agg.step_call rfl 25 _ _ rfl #[.int .i64 2, .string ⟨#[113]⟩] (by simp only [List.map_toArray, List.map_cons, List.map_nil]; rfl) (fun W => HEP.out _ W) ?_
        refine (path2_any _).mono ?_
        rintro x w_3_9 ⟨rfl, hx⟩
        have H1_3_9 := Lib.hid (H1_3.out.below hx)
        have H2_3_9 := Lib.hid (H2_3.out.below hx)
        have HX_3_9 := Lib.hid (Agg.belowThen HX_3.out (Nat.le_refl _) hx)
        have HL_3_9 := Lib.hid (Agg.belowThen HL_3.out (Nat.le_refl _) hx)
        have HN_3_9 := Lib.hid (SliceOf.below HN_3.out hx)
        clear hx
        refine ⟨_, rfl, ?_⟩
        have HCJ := Lib.hid (And.intro H1_3_9.out H2_3_9.out)
        refine ⟨HCJ.out, ?_⟩
        try simp only [Act.put, List.setIfInBounds_toArray, List.set_cons_succ, List.set_cons_zero]
        refine Agg.held_take 10 (.agg (mC (hOne 7, pOne 2 113))) rfl (by kernel_rfl) (fun _ _ _ h => h) rfl (fun W _ => exec_build2C rfl rfl rfl (build_m2 W)) (by assumption) ?_
        try simp only [Act.put, List.setIfInBounds_toArray, List.set_cons_succ, List.set_cons_zero]
        refine Agg.held_ready [11, 16] (by kernel_rfl) (by simp) ?_
        refine Agg.held_cons rfl ?_ ?_
        · refine Agg.step_slice2B (E := EMd) rfl _ _ rfl (hOne 7, pOne 1 112) (hOne 7, pOne 2 113) rfl rfl ?_
          intro um w_3_9_11 hu hub hx
          have H1_3_9_11 := Lib.hid (H1_3_9.out.below hx)
          have H2_3_9_11 := Lib.hid (H2_3_9.out.below hx)
          have HX_3_9_11 := Lib.hid (Agg.belowThen HX_3_9.out (Nat.le_refl _) hx)
          have HL_3_9_11 := Lib.hid (Agg.belowThen HL_3_9.out (Nat.le_refl _) hx)
          have HN_3_9_11 := Lib.hid (SliceOf.below HN_3_9.out hx)
          have HM_3_9_11 := Lib.hid (And.intro hu hub)
          clear hu hub hx
          have HCJ := Lib.hid (And.intro H1_3_9_11.out H2_3_9_11.out)
          refine ⟨HCJ.out, ?_⟩
          try simp only [Act.put, List.setIfInBounds_toArray, List.set_cons_succ, List.set_cons_zero]
          refine Agg.held_ready [12, 16] (by kernel_rfl) (by simp) ?_
          refine Agg.held_cons rfl ?_ ?_
          · refine Agg.step_call rfl 10 _ _ rfl #[.agg #[.string ⟨#[97]⟩, u3, .slice none 0 0], um] (by simp only [List.map_toArray, List.map_cons, List.map_nil]; rfl) (fun W => HEO.out _ W) ?_
            refine (rof2_any _ um d1 m1 (by decide) (by decide) (by decide) _ ⟨u3, .slice none 0 0, rfl, HN_3_9_11.out, SliceOf.nil _ _ _⟩ HM_3_9_11.out.1).mono ?_
            rw [of1]
            rintro x w_3_9_11_12 ⟨vi, vr, rfl, hi, hr, hx⟩
            have H1_3_9_11_12 := Lib.hid (H1_3_9_11.out.below hx)
            have H2_3_9_11_12 := Lib.hid (H2_3_9_11.out.below hx)
            have HX_3_9_11_12 := Lib.hid (Agg.belowThen HX_3_9_11.out (Nat.le_refl _) hx)
            have HL_3_9_11_12 := Lib.hid (Agg.belowThen HL_3_9_11.out (Nat.le_refl _) hx)
            have HN_3_9_11_12 := Lib.hid (SliceOf.below HN_3_9_11.out hx)
            have HM_3_9_11_12 := Lib.hid (And.intro (SliceOf.below HM_3_9_11.out.1 hx) (fun b hb => Nat.lt_of_lt_of_le (HM_3_9_11.out.2 b hb) (hx).size))
            have HI_3_9_11_12 := Lib.hid hi
            have HR_3_9_11_12 := Lib.hid hr
            clear hi hr hx
            refine ⟨_, rfl, ?_⟩
            have HCJ := Lib.hid (And.intro H1_3_9_11_12.out H2_3_9_11_12.out)
            refine ⟨HCJ.out, ?_⟩
            try simp only [Act.put, List.setIfInBounds_toArray, List.set_cons_succ, List.set_cons_zero]
            refine Agg.held_take 13 (.tuple #[.agg (rsC r1.1 vi vr), .int .i64 0]) rfl (by kernel_rfl) (fun _ _ _ h => h) rfl (fun W _ => by kernel_rfl) (by assumption) ?_
            try simp only [Act.put, List.setIfInBounds_toArray, List.set_cons_succ, List.set_cons_zero]
            refine Agg.held_take 14 (.agg (rsC r1.1 vi vr)) rfl (by kernel_rfl) (fun _ _ _ h => h) rfl (fun W _ => by kernel_rfl) (by assumption) ?_
            try simp only [Act.put, List.setIfInBounds_toArray, List.set_cons_succ, List.set_cons_zero]
            refine Agg.held_take 15 (.int .i64 0) rfl (by kernel_rfl) (fun _ _ _ h => h) rfl (fun W _ => by kernel_rfl) (by assumption) ?_
            try simp only [Act.put, List.setIfInBounds_toArray, List.set_cons_succ, List.set_cons_zero]
            refine Agg.held_ready [16] (by kernel_rfl) (by simp) ?_
            refine Agg.held_cons rfl ?_ ?_
            · refine Agg.step_zero rfl 33 rfl (rsC [] (.slice none 0 0) (.slice none 0 0)) rsC_zero ?_
              intro b3 w_3_9_11_12_16 hb3 hx hg3
              have H1_3_9_11_12_16 := Lib.hid (H1_3_9_11_12.out.below hx)
              have H2_3_9_11_12_16 := Lib.hid (H2_3_9_11_12.out.below hx)
              have HX_3_9_11_12_16 := Lib.hid (Agg.belowThen HX_3_9_11_12.out (Nat.le_refl _) hx)
              have HL_3_9_11_12_16 := Lib.hid (Agg.belowThen HL_3_9_11_12.out (Nat.le_refl _) hx)
              have HN_3_9_11_12_16 := Lib.hid (SliceOf.below HN_3_9_11_12.out hx)
              have HM_3_9_11_12_16 := Lib.hid (And.intro (SliceOf.below HM_3_9_11_12.out.1 hx) (fun b hb => Nat.lt_of_lt_of_le (HM_3_9_11_12.out.2 b hb) (hx).size))
              have HI_3_9_11_12_16 := Lib.hid (HI_3_9_11_12.out.below hx)
              have HR_3_9_11_12_16 := Lib.hid (HR_3_9_11_12.out.below hx)
              have HB3_3_9_11_12_16 := Lib.hid hb3
              have HG3 := Lib.hid (show w0.heap.size ≤ b3 from Nat.le_trans HL_3_9_11_12.out.size hg3)
              clear hb3 hx hg3
              have HCJ := Lib.hid (And.intro H1_3_9_11_12_16.out H2_3_9_11_12_16.out)
              refine ⟨HCJ.out, ?_⟩
              try simp only [Act.put, List.setIfInBounds_toArray, List.set_cons_succ, List.set_cons_zero]
              refine Agg.held_ready [17] (by kernel_rfl) (by simp) ?_
              refine Agg.held_cons rfl ?_ ?_
              · refine Agg.step_put rfl rfl 33 _ _ rfl b3 (rsC r1.1 vi vr) _ rfl rfl HB3_3_9_11_12_16.out (rsC_info _ _ _) (rsC_ss _ _ _ _ _ _) (rsC_one _ HI_3_9_11_12_16.out.slice HR_3_9_11_12_16.out.slice) ?_
                intro wz hbz hxz hsz hkz
                have HBZ := Lib.hid hbz
                have HXZ := Lib.hid (HX_3_9_11_12_16.out.trans (hxz.mono (Nat.le_trans HWW.out HG3.out)))
                have hlt1 := HHL.out.1
                have hlt2 := HHL.out.2
                have hg3z := HG3.out
                have H1Z := Lib.hid (show Blk wz b1 45 (hC (hOne 7).1) from (hkz b1 (by omega)).trans H1_3_9_11_12_16.out)
                have H2Z := Lib.hid (show Blk wz b2 47 (pC (pOne 1 112).1.1 (pOne 1 112).1.2) from (hkz b2 (by omega)).trans H2_3_9_11_12_16.out)
                have HOZ := Lib.hid (Only.of_eq hxz hsz hkz rfl : Only (· = b3) _ _)
                have HIZ := Lib.hid (HI_3_9_11_12_16.out.onlyB HOZ.out HB3_3_9_11_12_16.out (by decide)).slice
                have HRZ := Lib.hid (HR_3_9_11_12_16.out.onlyB HOZ.out HB3_3_9_11_12_16.out (by decide)).slice
                clear hbz hxz hsz hkz hlt1 hlt2 hg3z
                have HCJ := Lib.hid (And.intro H1Z.out H2Z.out)
                refine ⟨HCJ.out, ?_⟩
                try simp only [Act.put, List.setIfInBounds_toArray, List.set_cons_succ, List.set_cons_zero]
                refine Agg.held_take 18 (.int .i64 0) rfl (by kernel_rfl) (fun _ _ _ h => h) rfl (fun W _ => by kernel_rfl) (by assumption) ?_
                try simp only [Act.put, List.setIfInBounds_toArray, List.set_cons_succ, List.set_cons_zero]
                refine Agg.held_end (by kernel_rfl) ?_
                refine ⟨b3, vi, vr, H1Z.out, H2Z.out, HBZ.out, HIZ.out, HRZ.out, HXZ.out, ?_⟩
                simp only [Agg.ExPut, Act.put, List.setIfInBounds_toArray, List.set_cons_succ, List.set_cons_zero]
                exact ⟨_, _, _, _, _, _, _, _, _, _, _, _, _, _, _, _, rfl⟩
              exact AllReadyH.nil
            exact AllReadyH.nil
          refine Agg.held_cons rfl ?_ ?_
          · refine Agg.step_zero rfl 33 rfl (rsC [] (.slice none 0 0) (.slice none 0 0)) rsC_zero ?_
            intro b3 w_3_9_11_16 hb3 hx hg3
            have H1_3_9_11_16 := Lib.hid (H1_3_9_11.out.below hx)
            have H2_3_9_11_16 := Lib.hid (H2_3_9_11.out.below hx)
            have HX_3_9_11_16 := Lib.hid (Agg.belowThen HX_3_9_11.out (Nat.le_refl _) hx)
            have HL_3_9_11_16 := Lib.hid (Agg.belowThen HL_3_9_11.out (Nat.le_refl _) hx)
            have HN_3_9_11_16 := Lib.hid (SliceOf.below HN_3_9_11.out hx)
            have HM_3_9_11_16 := Lib.hid (And.intro (SliceOf.below HM_3_9_11.out.1 hx) (fun b hb => Nat.lt_of_lt_of_le (HM_3_9_11.out.2 b hb) (hx).size))
            have HB3_3_9_11_16 := Lib.hid hb3
            have HG3 := Lib.hid (show w0.heap.size ≤ b3 from Nat.le_trans HL_3_9_11.out.size hg3)
            clear hb3 hx hg3
            have HCJ := Lib.hid (And.intro H1_3_9_11_16.out H2_3_9_11_16.out)
            refine ⟨HCJ.out, ?_⟩
            try simp only [Act.put, List.setIfInBounds_toArray, List.set_cons_succ, List.set_cons_zero]
            refine Agg.held_ready [12] (by kernel_rfl) (by simp) ?_
            refine Agg.held_cons rfl ?_ ?_
            · refine Agg.step_call rfl 10 _ _ rfl #[.agg #[.string ⟨#[97]⟩, u3, .slice none 0 0], um] (by simp only [List.map_toArray, List.map_cons, List.map_nil]; rfl) (fun W => HEO.out _ W) ?_
              refine (rof2_any _ um d1 m1 (by decide) (by decide) (by decide) _ ⟨u3, .slice none 0 0, rfl, HN_3_9_11_16.out, SliceOf.nil _ _ _⟩ HM_3_9_11_16.out.1).mono ?_
              rw [of1]
              rintro x w_3_9_11_12_16 ⟨vi, vr, rfl, hi, hr, hx⟩
              have H1_3_9_11_12_16 := Lib.hid (H1_3_9_11_16.out.below hx)
              have H2_3_9_11_12_16 := Lib.hid (H2_3_9_11_16.out.below hx)
              have HX_3_9_11_12_16 := Lib.hid (Agg.belowThen HX_3_9_11_16.out (Nat.le_refl _) hx)
              have HL_3_9_11_12_16 := Lib.hid (Agg.belowThen HL_3_9_11_16.out (Nat.le_refl _) hx)
              have HN_3_9_11_12_16 := Lib.hid (SliceOf.below HN_3_9_11_16.out hx)
              have HM_3_9_11_12_16 := Lib.hid (And.intro (SliceOf.below HM_3_9_11_16.out.1 hx) (fun b hb => Nat.lt_of_lt_of_le (HM_3_9_11_16.out.2 b hb) (hx).size))
              have HB3_3_9_11_12_16 := Lib.hid (HB3_3_9_11_16.out.below hx)
              have HI_3_9_11_12_16 := Lib.hid hi
              have HR_3_9_11_12_16 := Lib.hid hr
              clear hi hr hx
              refine ⟨_, rfl, ?_⟩
              have HCJ := Lib.hid (And.intro H1_3_9_11_12_16.out H2_3_9_11_12_16.out)
              refine ⟨HCJ.out, ?_⟩
              try simp only [Act.put, List.setIfInBounds_toArray, List.set_cons_succ, List.set_cons_zero]
              refine Agg.held_take 13 (.tuple #[.agg (rsC r1.1 vi vr), .int .i64 0]) rfl (by kernel_rfl) (fun _ _ _ h => h) rfl (fun W _ => by kernel_rfl) (by assumption) ?_
              try simp only [Act.put, List.setIfInBounds_toArray, List.set_cons_succ, List.set_cons_zero]
              refine Agg.held_take 14 (.agg (rsC r1.1 vi vr)) rfl (by kernel_rfl) (fun _ _ _ h => h) rfl (fun W _ => by kernel_rfl) (by assumption) ?_
              try simp only [Act.put, List.setIfInBounds_toArray, List.set_cons_succ, List.set_cons_zero]
              refine Agg.held_take 15 (.int .i64 0) rfl (by kernel_rfl) (fun _ _ _ h => h) rfl (fun W _ => by kernel_rfl) (by assumption) ?_
              try simp only [Act.put, List.setIfInBounds_toArray, List.set_cons_succ, List.set_cons_zero]
              refine Agg.held_ready [17] (by kernel_rfl) (by simp) ?_
              refine Agg.held_cons rfl ?_ ?_
              · refine Agg.step_put rfl rfl 33 _ _ rfl b3 (rsC r1.1 vi vr) _ rfl rfl HB3_3_9_11_12_16.out (rsC_info _ _ _) (rsC_ss _ _ _ _ _ _) (rsC_one _ HI_3_9_11_12_16.out.slice HR_3_9_11_12_16.out.slice) ?_
                intro wz hbz hxz hsz hkz
                have HBZ := Lib.hid hbz
                have HXZ := Lib.hid (HX_3_9_11_12_16.out.trans (hxz.mono (Nat.le_trans HWW.out HG3.out)))
                have hlt1 := HHL.out.1
                have hlt2 := HHL.out.2
                have hg3z := HG3.out
                have H1Z := Lib.hid (show Blk wz b1 45 (hC (hOne 7).1) from (hkz b1 (by omega)).trans H1_3_9_11_12_16.out)
                have H2Z := Lib.hid (show Blk wz b2 47 (pC (pOne 1 112).1.1 (pOne 1 112).1.2) from (hkz b2 (by omega)).trans H2_3_9_11_12_16.out)
                have HOZ := Lib.hid (Only.of_eq hxz hsz hkz rfl : Only (· = b3) _ _)
                have HIZ := Lib.hid (HI_3_9_11_12_16.out.onlyB HOZ.out HB3_3_9_11_12_16.out (by decide)).slice
                have HRZ := Lib.hid (HR_3_9_11_12_16.out.onlyB HOZ.out HB3_3_9_11_12_16.out (by decide)).slice
                clear hbz hxz hsz hkz hlt1 hlt2 hg3z
                have HCJ := Lib.hid (And.intro H1Z.out H2Z.out)
                refine ⟨HCJ.out, ?_⟩
                try simp only [Act.put, List.setIfInBounds_toArray, List.set_cons_succ, List.set_cons_zero]
                refine Agg.held_take 18 (.int .i64 0) rfl (by kernel_rfl) (fun _ _ _ h => h) rfl (fun W _ => by kernel_rfl) (by assumption) ?_
                try simp only [Act.put, List.setIfInBounds_toArray, List.set_cons_succ, List.set_cons_zero]
                refine Agg.held_end (by kernel_rfl) ?_
                refine ⟨b3, vi, vr, H1Z.out, H2Z.out, HBZ.out, HIZ.out, HRZ.out, HXZ.out, ?_⟩
                simp only [Agg.ExPut, Act.put, List.setIfInBounds_toArray, List.set_cons_succ, List.set_cons_zero]
                exact ⟨_, _, _, _, _, _, _, _, _, _, _, _, _, _, _, _, rfl⟩
              exact AllReadyH.nil
            exact AllReadyH.nil
          exact AllReadyH.nil
        refine Agg.held_cons rfl ?_ ?_
        · refine Agg.step_zero rfl 33 rfl (rsC [] (.slice none 0 0) (.slice none 0 0)) rsC_zero ?_
          intro b3 w_3_9_16 hb3 hx hg3
          have H1_3_9_16 := Lib.hid (H1_3_9.out.below hx)
          have H2_3_9_16 := Lib.hid (H2_3_9.out.below hx)
          have HX_3_9_16 := Lib.hid (Agg.belowThen HX_3_9.out (Nat.le_refl _) hx)
          have HL_3_9_16 := Lib.hid (Agg.belowThen HL_3_9.out (Nat.le_refl _) hx)
          have HN_3_9_16 := Lib.hid (SliceOf.below HN_3_9.out hx)
          have HB3_3_9_16 := Lib.hid hb3
          have HG3 := Lib.hid (show w0.heap.size ≤ b3 from Nat.le_trans HL_3_9.out.size hg3)
          clear hb3 hx hg3
          have HCJ := Lib.hid (And.intro H1_3_9_16.out H2_3_9_16.out)
          refine ⟨HCJ.out, ?_⟩
          try simp only [Act.put, List.setIfInBounds_toArray, List.set_cons_succ, List.set_cons_zero]
          refine Agg.held_ready [11] (by kernel_rfl) (by simp) ?_
          refine Agg.held_cons rfl ?_ ?_
          · refine Agg.step_slice2B (E := EMd) rfl _ _ rfl (hOne 7, pOne 1 112) (hOne 7, pOne 2 113) rfl rfl ?_
            intro um w_3_9_11_16 hu hub hx
            have H1_3_9_11_16 := Lib.hid (H1_3_9_16.out.below hx)
            have H2_3_9_11_16 := Lib.hid (H2_3_9_16.out.below hx)
            have HX_3_9_11_16 := Lib.hid (Agg.belowThen HX_3_9_16.out (Nat.le_refl _) hx)
            have HL_3_9_11_16 := Lib.hid (Agg.belowThen HL_3_9_16.out (Nat.le_refl _) hx)
            have HN_3_9_11_16 := Lib.hid (SliceOf.below HN_3_9_16.out hx)
            have HB3_3_9_11_16 := Lib.hid (HB3_3_9_16.out.below hx)
            have HM_3_9_11_16 := Lib.hid (And.intro hu hub)
            clear hu hub hx
            have HCJ := Lib.hid (And.intro H1_3_9_11_16.out H2_3_9_11_16.out)
            refine ⟨HCJ.out, ?_⟩
            try simp only [Act.put, List.setIfInBounds_toArray, List.set_cons_succ, List.set_cons_zero]
            refine Agg.held_ready [12] (by kernel_rfl) (by simp) ?_
            refine Agg.held_cons rfl ?_ ?_
            · refine Agg.step_call rfl 10 _ _ rfl #[.agg #[.string ⟨#[97]⟩, u3, .slice none 0 0], um] (by simp only [List.map_toArray, List.map_cons, List.map_nil]; rfl) (fun W => HEO.out _ W) ?_
              refine (rof2_any _ um d1 m1 (by decide) (by decide) (by decide) _ ⟨u3, .slice none 0 0, rfl, HN_3_9_11_16.out, SliceOf.nil _ _ _⟩ HM_3_9_11_16.out.1).mono ?_
              rw [of1]
              rintro x w_3_9_11_12_16 ⟨vi, vr, rfl, hi, hr, hx⟩
              have H1_3_9_11_12_16 := Lib.hid (H1_3_9_11_16.out.below hx)
              have H2_3_9_11_12_16 := Lib.hid (H2_3_9_11_16.out.below hx)
              have HX_3_9_11_12_16 := Lib.hid (Agg.belowThen HX_3_9_11_16.out (Nat.le_refl _) hx)
              have HL_3_9_11_12_16 := Lib.hid (Agg.belowThen HL_3_9_11_16.out (Nat.le_refl _) hx)
              have HN_3_9_11_12_16 := Lib.hid (SliceOf.below HN_3_9_11_16.out hx)
              have HM_3_9_11_12_16 := Lib.hid (And.intro (SliceOf.below HM_3_9_11_16.out.1 hx) (fun b hb => Nat.lt_of_lt_of_le (HM_3_9_11_16.out.2 b hb) (hx).size))
              have HB3_3_9_11_12_16 := Lib.hid (HB3_3_9_11_16.out.below hx)
              have HI_3_9_11_12_16 := Lib.hid hi
              have HR_3_9_11_12_16 := Lib.hid hr
              clear hi hr hx
              refine ⟨_, rfl, ?_⟩
              have HCJ := Lib.hid (And.intro H1_3_9_11_12_16.out H2_3_9_11_12_16.out)
              refine ⟨HCJ.out, ?_⟩
              try simp only [Act.put, List.setIfInBounds_toArray, List.set_cons_succ, List.set_cons_zero]
              refine Agg.held_take 13 (.tuple #[.agg (rsC r1.1 vi vr), .int .i64 0]) rfl (by kernel_rfl) (fun _ _ _ h => h) rfl (fun W _ => by kernel_rfl) (by assumption) ?_
              try simp only [Act.put, List.setIfInBounds_toArray, List.set_cons_succ, List.set_cons_zero]
              refine Agg.held_take 14 (.agg (rsC r1.1 vi vr)) rfl (by kernel_rfl) (fun _ _ _ h => h) rfl (fun W _ => by kernel_rfl) (by assumption) ?_
              try simp only [Act.put, List.setIfInBounds_toArray, List.set_cons_succ, List.set_cons_zero]
              refine Agg.held_take 15 (.int .i64 0) rfl (by kernel_rfl) (fun _ _ _ h => h) rfl (fun W _ => by kernel_rfl) (by assumption) ?_
              try simp only [Act.put, List.setIfInBounds_toArray, List.set_cons_succ, List.set_cons_zero]
              refine Agg.held_ready [17] (by kernel_rfl) (by simp) ?_
              refine Agg.held_cons rfl ?_ ?_
              · refine Agg.step_put rfl rfl 33 _ _ rfl b3 (rsC r1.1 vi vr) _ rfl rfl HB3_3_9_11_12_16.out (rsC_info _ _ _) (rsC_ss _ _ _ _ _ _) (rsC_one _ HI_3_9_11_12_16.out.slice HR_3_9_11_12_16.out.slice) ?_
                intro wz hbz hxz hsz hkz
                have HBZ := Lib.hid hbz
                have HXZ := Lib.hid (HX_3_9_11_12_16.out.trans (hxz.mono (Nat.le_trans HWW.out HG3.out)))
                have hlt1 := HHL.out.1
                have hlt2 := HHL.out.2
                have hg3z := HG3.out
                have H1Z := Lib.hid (show Blk wz b1 45 (hC (hOne 7).1) from (hkz b1 (by omega)).trans H1_3_9_11_12_16.out)
                have H2Z := Lib.hid (show Blk wz b2 47 (pC (pOne 1 112).1.1 (pOne 1 112).1.2) from (hkz b2 (by omega)).trans H2_3_9_11_12_16.out)
                have HOZ := Lib.hid (Only.of_eq hxz hsz hkz rfl : Only (· = b3) _ _)
                have HIZ := Lib.hid (HI_3_9_11_12_16.out.onlyB HOZ.out HB3_3_9_11_12_16.out (by decide)).slice
                have HRZ := Lib.hid (HR_3_9_11_12_16.out.onlyB HOZ.out HB3_3_9_11_12_16.out (by decide)).slice
                clear hbz hxz hsz hkz hlt1 hlt2 hg3z
                have HCJ := Lib.hid (And.intro H1Z.out H2Z.out)
                refine ⟨HCJ.out, ?_⟩
                try simp only [Act.put, List.setIfInBounds_toArray, List.set_cons_succ, List.set_cons_zero]
                refine Agg.held_take 18 (.int .i64 0) rfl (by kernel_rfl) (fun _ _ _ h => h) rfl (fun W _ => by kernel_rfl) (by assumption) ?_
                try simp only [Act.put, List.setIfInBounds_toArray, List.set_cons_succ, List.set_cons_zero]
                refine Agg.held_end (by kernel_rfl) ?_
                refine ⟨b3, vi, vr, H1Z.out, H2Z.out, HBZ.out, HIZ.out, HRZ.out, HXZ.out, ?_⟩
                simp only [Agg.ExPut, Act.put, List.setIfInBounds_toArray, List.set_cons_succ, List.set_cons_zero]
                exact ⟨_, _, _, _, _, _, _, _, _, _, _, _, _, _, _, _, rfl⟩
              exact AllReadyH.nil
            exact AllReadyH.nil
          exact AllReadyH.nil
        exact AllReadyH.nil
      refine Agg.held_cons rfl ?_ ?_
      · refine Agg.step_zero rfl 33 rfl (rsC [] (.slice none 0 0) (.slice none 0 0)) rsC_zero ?_
        intro b3 w_3_16 hb3 hx hg3
        have H1_3_16 := Lib.hid (H1_3.out.below hx)
        have H2_3_16 := Lib.hid (H2_3.out.below hx)
        have HX_3_16 := Lib.hid (Agg.belowThen HX_3.out (Nat.le_refl _) hx)
        have HL_3_16 := Lib.hid (Agg.belowThen HL_3.out (Nat.le_refl _) hx)
        have HN_3_16 := Lib.hid (SliceOf.below HN_3.out hx)
        have HB3_3_16 := Lib.hid hb3
        have HG3 := Lib.hid (show w0.heap.size ≤ b3 from Nat.le_trans HL_3.out.size hg3)
        clear hb3 hx hg3
        have HCJ := Lib.hid (And.intro H1_3_16.out H2_3_16.out)
        refine ⟨HCJ.out, ?_⟩
        try simp only [Act.put, List.setIfInBounds_toArray, List.set_cons_succ, List.set_cons_zero]
        refine Agg.held_ready [9] (by kernel_rfl) (by simp) ?_
        refine Agg.held_cons rfl ?_ ?_
        · refine Agg.step_call rfl 25 _ _ rfl #[.int .i64 2, .string ⟨#[113]⟩] (by simp only [List.map_toArray, List.map_cons, List.map_nil]; rfl) (fun W => HEP.out _ W) ?_
          refine (path2_any _).mono ?_
          rintro x w_3_9_16 ⟨rfl, hx⟩
          have H1_3_9_16 := Lib.hid (H1_3_16.out.below hx)
          have H2_3_9_16 := Lib.hid (H2_3_16.out.below hx)
          have HX_3_9_16 := Lib.hid (Agg.belowThen HX_3_16.out (Nat.le_refl _) hx)
          have HL_3_9_16 := Lib.hid (Agg.belowThen HL_3_16.out (Nat.le_refl _) hx)
          have HN_3_9_16 := Lib.hid (SliceOf.below HN_3_16.out hx)
          have HB3_3_9_16 := Lib.hid (HB3_3_16.out.below hx)
          clear hx
          refine ⟨_, rfl, ?_⟩
          have HCJ := Lib.hid (And.intro H1_3_9_16.out H2_3_9_16.out)
          refine ⟨HCJ.out, ?_⟩
          try simp only [Act.put, List.setIfInBounds_toArray, List.set_cons_succ, List.set_cons_zero]
          refine Agg.held_take 10 (.agg (mC (hOne 7, pOne 2 113))) rfl (by kernel_rfl) (fun _ _ _ h => h) rfl (fun W _ => exec_build2C rfl rfl rfl (build_m2 W)) (by assumption) ?_
          try simp only [Act.put, List.setIfInBounds_toArray, List.set_cons_succ, List.set_cons_zero]
          refine Agg.held_ready [11] (by kernel_rfl) (by simp) ?_
          refine Agg.held_cons rfl ?_ ?_
          · refine Agg.step_slice2B (E := EMd) rfl _ _ rfl (hOne 7, pOne 1 112) (hOne 7, pOne 2 113) rfl rfl ?_
            intro um w_3_9_11_16 hu hub hx
            have H1_3_9_11_16 := Lib.hid (H1_3_9_16.out.below hx)
            have H2_3_9_11_16 := Lib.hid (H2_3_9_16.out.below hx)
            have HX_3_9_11_16 := Lib.hid (Agg.belowThen HX_3_9_16.out (Nat.le_refl _) hx)
            have HL_3_9_11_16 := Lib.hid (Agg.belowThen HL_3_9_16.out (Nat.le_refl _) hx)
            have HN_3_9_11_16 := Lib.hid (SliceOf.below HN_3_9_16.out hx)
            have HB3_3_9_11_16 := Lib.hid (HB3_3_9_16.out.below hx)
            have HM_3_9_11_16 := Lib.hid (And.intro hu hub)
            clear hu hub hx
            have HCJ := Lib.hid (And.intro H1_3_9_11_16.out H2_3_9_11_16.out)
            refine ⟨HCJ.out, ?_⟩
            try simp only [Act.put, List.setIfInBounds_toArray, List.set_cons_succ, List.set_cons_zero]
            refine Agg.held_ready [12] (by kernel_rfl) (by simp) ?_
            refine Agg.held_cons rfl ?_ ?_
            · refine Agg.step_call rfl 10 _ _ rfl #[.agg #[.string ⟨#[97]⟩, u3, .slice none 0 0], um] (by simp only [List.map_toArray, List.map_cons, List.map_nil]; rfl) (fun W => HEO.out _ W) ?_
              refine (rof2_any _ um d1 m1 (by decide) (by decide) (by decide) _ ⟨u3, .slice none 0 0, rfl, HN_3_9_11_16.out, SliceOf.nil _ _ _⟩ HM_3_9_11_16.out.1).mono ?_
              rw [of1]
              rintro x w_3_9_11_12_16 ⟨vi, vr, rfl, hi, hr, hx⟩
              have H1_3_9_11_12_16 := Lib.hid (H1_3_9_11_16.out.below hx)
              have H2_3_9_11_12_16 := Lib.hid (H2_3_9_11_16.out.below hx)
              have HX_3_9_11_12_16 := Lib.hid (Agg.belowThen HX_3_9_11_16.out (Nat.le_refl _) hx)
              have HL_3_9_11_12_16 := Lib.hid (Agg.belowThen HL_3_9_11_16.out (Nat.le_refl _) hx)
              have HN_3_9_11_12_16 := Lib.hid (SliceOf.below HN_3_9_11_16.out hx)
              have HM_3_9_11_12_16 := Lib.hid (And.intro (SliceOf.below HM_3_9_11_16.out.1 hx) (fun b hb => Nat.lt_of_lt_of_le (HM_3_9_11_16.out.2 b hb) (hx).size))
              have HB3_3_9_11_12_16 := Lib.hid (HB3_3_9_11_16.out.below hx)
              have HI_3_9_11_12_16 := Lib.hid hi
              have HR_3_9_11_12_16 := Lib.hid hr
              clear hi hr hx
              refine ⟨_, rfl, ?_⟩
              have HCJ := Lib.hid (And.intro H1_3_9_11_12_16.out H2_3_9_11_12_16.out)
              refine ⟨HCJ.out, ?_⟩
              try simp only [Act.put, List.setIfInBounds_toArray, List.set_cons_succ, List.set_cons_zero]
              refine Agg.held_take 13 (.tuple #[.agg (rsC r1.1 vi vr), .int .i64 0]) rfl (by kernel_rfl) (fun _ _ _ h => h) rfl (fun W _ => by kernel_rfl) (by assumption) ?_
              try simp only [Act.put, List.setIfInBounds_toArray, List.set_cons_succ, List.set_cons_zero]
              refine Agg.held_take 14 (.agg (rsC r1.1 vi vr)) rfl (by kernel_rfl) (fun _ _ _ h => h) rfl (fun W _ => by kernel_rfl) (by assumption) ?_
              try simp only [Act.put, List.setIfInBounds_toArray, List.set_cons_succ, List.set_cons_zero]
              refine Agg.held_take 15 (.int .i64 0) rfl (by kernel_rfl) (fun _ _ _ h => h) rfl (fun W _ => by kernel_rfl) (by assumption) ?_
              try simp only [Act.put, List.setIfInBounds_toArray, List.set_cons_succ, List.set_cons_zero]
              refine Agg.held_ready [17] (by kernel_rfl) (by simp) ?_
              refine Agg.held_cons rfl ?_ ?_
              · refine Agg.step_put rfl rfl 33 _ _ rfl b3 (rsC r1.1 vi vr) _ rfl rfl HB3_3_9_11_12_16.out (rsC_info _ _ _) (rsC_ss _ _ _ _ _ _) (rsC_one _ HI_3_9_11_12_16.out.slice HR_3_9_11_12_16.out.slice) ?_
                intro wz hbz hxz hsz hkz
                have HBZ := Lib.hid hbz
                have HXZ := Lib.hid (HX_3_9_11_12_16.out.trans (hxz.mono (Nat.le_trans HWW.out HG3.out)))
                have hlt1 := HHL.out.1
                have hlt2 := HHL.out.2
                have hg3z := HG3.out
                have H1Z := Lib.hid (show Blk wz b1 45 (hC (hOne 7).1) from (hkz b1 (by omega)).trans H1_3_9_11_12_16.out)
                have H2Z := Lib.hid (show Blk wz b2 47 (pC (pOne 1 112).1.1 (pOne 1 112).1.2) from (hkz b2 (by omega)).trans H2_3_9_11_12_16.out)
                have HOZ := Lib.hid (Only.of_eq hxz hsz hkz rfl : Only (· = b3) _ _)
                have HIZ := Lib.hid (HI_3_9_11_12_16.out.onlyB HOZ.out HB3_3_9_11_12_16.out (by decide)).slice
                have HRZ := Lib.hid (HR_3_9_11_12_16.out.onlyB HOZ.out HB3_3_9_11_12_16.out (by decide)).slice
                clear hbz hxz hsz hkz hlt1 hlt2 hg3z
                have HCJ := Lib.hid (And.intro H1Z.out H2Z.out)
                refine ⟨HCJ.out, ?_⟩
                try simp only [Act.put, List.setIfInBounds_toArray, List.set_cons_succ, List.set_cons_zero]
                refine Agg.held_take 18 (.int .i64 0) rfl (by kernel_rfl) (fun _ _ _ h => h) rfl (fun W _ => by kernel_rfl) (by assumption) ?_
                try simp only [Act.put, List.setIfInBounds_toArray, List.set_cons_succ, List.set_cons_zero]
                refine Agg.held_end (by kernel_rfl) ?_
                refine ⟨b3, vi, vr, H1Z.out, H2Z.out, HBZ.out, HIZ.out, HRZ.out, HXZ.out, ?_⟩
                simp only [Agg.ExPut, Act.put, List.setIfInBounds_toArray, List.set_cons_succ, List.set_cons_zero]
                exact ⟨_, _, _, _, _, _, _, _, _, _, _, _, _, _, _, _, rfl⟩
              exact AllReadyH.nil
            exact AllReadyH.nil
          exact AllReadyH.nil
        exact AllReadyH.nil
      exact AllReadyH.nil
    refine Agg.held_cons rfl ?_ ?_
    · refine Agg.step_call rfl 25 _ _ rfl #[.int .i64 2, .string ⟨#[113]⟩] (by simp only [List.map_toArray, List.map_cons, List.map_nil]; rfl) (fun W => HEP.out _ W) ?_
      refine (path2_any _).mono ?_
      rintro x w_9 ⟨rfl, hx⟩
      have H1_9 := Lib.hid (H1d.out.below hx)
      have H2_9 := Lib.hid (H2d.out.below hx)
      have HX_9 := Lib.hid (Agg.belowThen HXd.out (Nat.le_refl _) hx)
      have HL_9 := Lib.hid (Agg.belowThen HLd.out (Nat.le_refl _) hx)
      clear hx
      refine ⟨_, rfl, ?_⟩
      have HCJ := Lib.hid (And.intro H1_9.out H2_9.out)
      refine ⟨HCJ.out, ?_⟩
      try simp only [Act.put, List.setIfInBounds_toArray, List.set_cons_succ, List.set_cons_zero]
      refine Agg.held_take 10 (.agg (mC (hOne 7, pOne 2 113))) rfl (by kernel_rfl) (fun _ _ _ h => h) rfl (fun W _ => exec_build2C rfl rfl rfl (build_m2 W)) (by assumption) ?_
      try simp only [Act.put, List.setIfInBounds_toArray, List.set_cons_succ, List.set_cons_zero]
      refine Agg.held_ready [3, 11, 16] (by kernel_rfl) (by simp) ?_
      refine Agg.held_cons rfl ?_ ?_
      · refine Agg.step_slice1 (E := ENm) rfl _ rfl n1 rfl ?_
        intro u3 w_3_9 hu hx
        obtain ⟨pu, cu, hfu⟩ := hu.slice.form
        have HBD := Lib.hid (fun W => (show (Instr.build 25 #[(0, .string ⟨#[97]⟩), (1, u3)]).run Try.prog W = .ok (.agg #[.string ⟨#[97]⟩, u3, .slice none 0 0]) W by rw [hfu]; exact build_dv _ _ _ _))
        have H1_3_9 := Lib.hid (H1_9.out.below hx)
        have H2_3_9 := Lib.hid (H2_9.out.below hx)
        have HX_3_9 := Lib.hid (Agg.belowThen HX_9.out (Nat.le_refl _) hx)
        have HL_3_9 := Lib.hid (Agg.belowThen HL_9.out (Nat.le_refl _) hx)
        have HN_3_9 := Lib.hid hu.slice
        clear hu hx hfu
        have HCJ := Lib.hid (And.intro H1_3_9.out H2_3_9.out)
        refine ⟨HCJ.out, ?_⟩
        try simp only [Act.put, List.setIfInBounds_toArray, List.set_cons_succ, List.set_cons_zero]
        refine Agg.held_take 4 (.agg #[.string ⟨#[97]⟩, u3, .slice none 0 0]) rfl (by kernel_rfl) (fun _ _ _ h => h) rfl (fun W _ => exec_build2C rfl rfl rfl (HBD.out W)) (by assumption) ?_
        try simp only [Act.put, List.setIfInBounds_toArray, List.set_cons_succ, List.set_cons_zero]
        refine Agg.held_ready [11, 16] (by kernel_rfl) (by simp) ?_
        refine Agg.held_cons rfl ?_ ?_
        · refine Agg.step_slice2B (E := EMd) rfl _ _ rfl (hOne 7, pOne 1 112) (hOne 7, pOne 2 113) rfl rfl ?_
          intro um w_3_9_11 hu hub hx
          have H1_3_9_11 := Lib.hid (H1_3_9.out.below hx)
          have H2_3_9_11 := Lib.hid (H2_3_9.out.below hx)
          have HX_3_9_11 := Lib.hid (Agg.belowThen HX_3_9.out (Nat.le_refl _) hx)
          have HL_3_9_11 := Lib.hid (Agg.belowThen HL_3_9.out (Nat.le_refl _) hx)
          have HN_3_9_11 := Lib.hid (SliceOf.below HN_3_9.out hx)
          have HM_3_9_11 := Lib.hid (And.intro hu hub)
          clear hu hub hx
          have HCJ := Lib.hid (And.intro H1_3_9_11.out H2_3_9_11.out)
          refine ⟨HCJ.out, ?_⟩
          try simp only [Act.put, List.setIfInBounds_toArray, List.set_cons_succ, List.set_cons_zero]
          refine Agg.held_ready [12, 16] (by kernel_rfl) (by simp) ?_
          refine Agg.held_cons rfl ?_ ?_
          · refine Agg.step_call rfl 10 _ _ rfl #[.agg #[.string ⟨#[97]⟩, u3, .slice none 0 0], um] (by simp only [List.map_toArray, List.map_cons, List.map_nil]; rfl) (fun W => HEO.out _ W) ?_
            refine (rof2_any _ um d1 m1 (by decide) (by decide) (by decide) _ ⟨u3, .slice none 0 0, rfl, HN_3_9_11.out, SliceOf.nil _ _ _⟩ HM_3_9_11.out.1).mono ?_
            rw [of1]
            rintro x w_3_9_11_12 ⟨vi, vr, rfl, hi, hr, hx⟩
            have H1_3_9_11_12 := Lib.hid (H1_3_9_11.out.below hx)
            have H2_3_9_11_12 := Lib.hid (H2_3_9_11.out.below hx)
            have HX_3_9_11_12 := Lib.hid (Agg.belowThen HX_3_9_11.out (Nat.le_refl _) hx)
            have HL_3_9_11_12 := Lib.hid (Agg.belowThen HL_3_9_11.out (Nat.le_refl _) hx)
            have HN_3_9_11_12 := Lib.hid (SliceOf.below HN_3_9_11.out hx)
            have HM_3_9_11_12 := Lib.hid (And.intro (SliceOf.below HM_3_9_11.out.1 hx) (fun b hb => Nat.lt_of_lt_of_le (HM_3_9_11.out.2 b hb) (hx).size))
            have HI_3_9_11_12 := Lib.hid hi
            have HR_3_9_11_12 := Lib.hid hr
            clear hi hr hx
            refine ⟨_, rfl, ?_⟩
            have HCJ := Lib.hid (And.intro H1_3_9_11_12.out H2_3_9_11_12.out)
            refine ⟨HCJ.out, ?_⟩
            try simp only [Act.put, List.setIfInBounds_toArray, List.set_cons_succ, List.set_cons_zero]
            refine Agg.held_take 13 (.tuple #[.agg (rsC r1.1 vi vr), .int .i64 0]) rfl (by kernel_rfl) (fun _ _ _ h => h) rfl (fun W _ => by kernel_rfl) (by assumption) ?_
            try simp only [Act.put, List.setIfInBounds_toArray, List.set_cons_succ, List.set_cons_zero]
            refine Agg.held_take 14 (.agg (rsC r1.1 vi vr)) rfl (by kernel_rfl) (fun _ _ _ h => h) rfl (fun W _ => by kernel_rfl) (by assumption) ?_
            try simp only [Act.put, List.setIfInBounds_toArray, List.set_cons_succ, List.set_cons_zero]
            refine Agg.held_take 15 (.int .i64 0) rfl (by kernel_rfl) (fun _ _ _ h => h) rfl (fun W _ => by kernel_rfl) (by assumption) ?_
            try simp only [Act.put, List.setIfInBounds_toArray, List.set_cons_succ, List.set_cons_zero]
            refine Agg.held_ready [16] (by kernel_rfl) (by simp) ?_
            refine Agg.held_cons rfl ?_ ?_
            · refine Agg.step_zero rfl 33 rfl (rsC [] (.slice none 0 0) (.slice none 0 0)) rsC_zero ?_
              intro b3 w_3_9_11_12_16 hb3 hx hg3
              have H1_3_9_11_12_16 := Lib.hid (H1_3_9_11_12.out.below hx)
              have H2_3_9_11_12_16 := Lib.hid (H2_3_9_11_12.out.below hx)
              have HX_3_9_11_12_16 := Lib.hid (Agg.belowThen HX_3_9_11_12.out (Nat.le_refl _) hx)
              have HL_3_9_11_12_16 := Lib.hid (Agg.belowThen HL_3_9_11_12.out (Nat.le_refl _) hx)
              have HN_3_9_11_12_16 := Lib.hid (SliceOf.below HN_3_9_11_12.out hx)
              have HM_3_9_11_12_16 := Lib.hid (And.intro (SliceOf.below HM_3_9_11_12.out.1 hx) (fun b hb => Nat.lt_of_lt_of_le (HM_3_9_11_12.out.2 b hb) (hx).size))
              have HI_3_9_11_12_16 := Lib.hid (HI_3_9_11_12.out.below hx)
              have HR_3_9_11_12_16 := Lib.hid (HR_3_9_11_12.out.below hx)
              have HB3_3_9_11_12_16 := Lib.hid hb3
              have HG3 := Lib.hid (show w0.heap.size ≤ b3 from Nat.le_trans HL_3_9_11_12.out.size hg3)
              clear hb3 hx hg3
              have HCJ := Lib.hid (And.intro H1_3_9_11_12_16.out H2_3_9_11_12_16.out)
              refine ⟨HCJ.out, ?_⟩
              try simp only [Act.put, List.setIfInBounds_toArray, List.set_cons_succ, List.set_cons_zero]
              refine Agg.held_ready [17] (by kernel_rfl) (by simp) ?_
              refine Agg.held_cons rfl ?_ ?_
              · refine Agg.step_put rfl rfl 33 _ _ rfl b3 (rsC r1.1 vi vr) _ rfl rfl HB3_3_9_11_12_16.out (rsC_info _ _ _) (rsC_ss _ _ _ _ _ _) (rsC_one _ HI_3_9_11_12_16.out.slice HR_3_9_11_12_16.out.slice) ?_
                intro wz hbz hxz hsz hkz
                have HBZ := Lib.hid hbz
                have HXZ := Lib.hid (HX_3_9_11_12_16.out.trans (hxz.mono (Nat.le_trans HWW.out HG3.out)))
                have hlt1 := HHL.out.1
                have hlt2 := HHL.out.2
                have hg3z := HG3.out
                have H1Z := Lib.hid (show Blk wz b1 45 (hC (hOne 7).1) from (hkz b1 (by omega)).trans H1_3_9_11_12_16.out)
                have H2Z := Lib.hid (show Blk wz b2 47 (pC (pOne 1 112).1.1 (pOne 1 112).1.2) from (hkz b2 (by omega)).trans H2_3_9_11_12_16.out)
                have HOZ := Lib.hid (Only.of_eq hxz hsz hkz rfl : Only (· = b3) _ _)
                have HIZ := Lib.hid (HI_3_9_11_12_16.out.onlyB HOZ.out HB3_3_9_11_12_16.out (by decide)).slice
                have HRZ := Lib.hid (HR_3_9_11_12_16.out.onlyB HOZ.out HB3_3_9_11_12_16.out (by decide)).slice
                clear hbz hxz hsz hkz hlt1 hlt2 hg3z
                have HCJ := Lib.hid (And.intro H1Z.out H2Z.out)
                refine ⟨HCJ.out, ?_⟩
                try simp only [Act.put, List.setIfInBounds_toArray, List.set_cons_succ, List.set_cons_zero]
                refine Agg.held_take 18 (.int .i64 0) rfl (by kernel_rfl) (fun _ _ _ h => h) rfl (fun W _ => by kernel_rfl) (by assumption) ?_
                try simp only [Act.put, List.setIfInBounds_toArray, List.set_cons_succ, List.set_cons_zero]
                refine Agg.held_end (by kernel_rfl) ?_
                refine ⟨b3, vi, vr, H1Z.out, H2Z.out, HBZ.out, HIZ.out, HRZ.out, HXZ.out, ?_⟩
                simp only [Agg.ExPut, Act.put, List.setIfInBounds_toArray, List.set_cons_succ, List.set_cons_zero]
                exact ⟨_, _, _, _, _, _, _, _, _, _, _, _, _, _, _, _, rfl⟩
              exact AllReadyH.nil
            exact AllReadyH.nil
          refine Agg.held_cons rfl ?_ ?_
          · refine Agg.step_zero rfl 33 rfl (rsC [] (.slice none 0 0) (.slice none 0 0)) rsC_zero ?_
            intro b3 w_3_9_11_16 hb3 hx hg3
            have H1_3_9_11_16 := Lib.hid (H1_3_9_11.out.below hx)
            have H2_3_9_11_16 := Lib.hid (H2_3_9_11.out.below hx)
            have HX_3_9_11_16 := Lib.hid (Agg.belowThen HX_3_9_11.out (Nat.le_refl _) hx)
            have HL_3_9_11_16 := Lib.hid (Agg.belowThen HL_3_9_11.out (Nat.le_refl _) hx)
            have HN_3_9_11_16 := Lib.hid (SliceOf.below HN_3_9_11.out hx)
            have HM_3_9_11_16 := Lib.hid (And.intro (SliceOf.below HM_3_9_11.out.1 hx) (fun b hb => Nat.lt_of_lt_of_le (HM_3_9_11.out.2 b hb) (hx).size))
            have HB3_3_9_11_16 := Lib.hid hb3
            have HG3 := Lib.hid (show w0.heap.size ≤ b3 from Nat.le_trans HL_3_9_11.out.size hg3)
            clear hb3 hx hg3
            have HCJ := Lib.hid (And.intro H1_3_9_11_16.out H2_3_9_11_16.out)
            refine ⟨HCJ.out, ?_⟩
            try simp only [Act.put, List.setIfInBounds_toArray, List.set_cons_succ, List.set_cons_zero]
            refine Agg.held_ready [12] (by kernel_rfl) (by simp) ?_
            refine Agg.held_cons rfl ?_ ?_
            · refine Agg.step_call rfl 10 _ _ rfl #[.agg #[.string ⟨#[97]⟩, u3, .slice none 0 0], um] (by simp only [List.map_toArray, List.map_cons, List.map_nil]; rfl) (fun W => HEO.out _ W) ?_
              refine (rof2_any _ um d1 m1 (by decide) (by decide) (by decide) _ ⟨u3, .slice none 0 0, rfl, HN_3_9_11_16.out, SliceOf.nil _ _ _⟩ HM_3_9_11_16.out.1).mono ?_
              rw [of1]
              rintro x w_3_9_11_12_16 ⟨vi, vr, rfl, hi, hr, hx⟩
              have H1_3_9_11_12_16 := Lib.hid (H1_3_9_11_16.out.below hx)
              have H2_3_9_11_12_16 := Lib.hid (H2_3_9_11_16.out.below hx)
              have HX_3_9_11_12_16 := Lib.hid (Agg.belowThen HX_3_9_11_16.out (Nat.le_refl _) hx)
              have HL_3_9_11_12_16 := Lib.hid (Agg.belowThen HL_3_9_11_16.out (Nat.le_refl _) hx)
              have HN_3_9_11_12_16 := Lib.hid (SliceOf.below HN_3_9_11_16.out hx)
              have HM_3_9_11_12_16 := Lib.hid (And.intro (SliceOf.below HM_3_9_11_16.out.1 hx) (fun b hb => Nat.lt_of_lt_of_le (HM_3_9_11_16.out.2 b hb) (hx).size))
              have HB3_3_9_11_12_16 := Lib.hid (HB3_3_9_11_16.out.below hx)
              have HI_3_9_11_12_16 := Lib.hid hi
              have HR_3_9_11_12_16 := Lib.hid hr
              clear hi hr hx
              refine ⟨_, rfl, ?_⟩
              have HCJ := Lib.hid (And.intro H1_3_9_11_12_16.out H2_3_9_11_12_16.out)
              refine ⟨HCJ.out, ?_⟩
              try simp only [Act.put, List.setIfInBounds_toArray, List.set_cons_succ, List.set_cons_zero]
              refine Agg.held_take 13 (.tuple #[.agg (rsC r1.1 vi vr), .int .i64 0]) rfl (by kernel_rfl) (fun _ _ _ h => h) rfl (fun W _ => by kernel_rfl) (by assumption) ?_
              try simp only [Act.put, List.setIfInBounds_toArray, List.set_cons_succ, List.set_cons_zero]
              refine Agg.held_take 14 (.agg (rsC r1.1 vi vr)) rfl (by kernel_rfl) (fun _ _ _ h => h) rfl (fun W _ => by kernel_rfl) (by assumption) ?_
              try simp only [Act.put, List.setIfInBounds_toArray, List.set_cons_succ, List.set_cons_zero]
              refine Agg.held_take 15 (.int .i64 0) rfl (by kernel_rfl) (fun _ _ _ h => h) rfl (fun W _ => by kernel_rfl) (by assumption) ?_
              try simp only [Act.put, List.setIfInBounds_toArray, List.set_cons_succ, List.set_cons_zero]
              refine Agg.held_ready [17] (by kernel_rfl) (by simp) ?_
              refine Agg.held_cons rfl ?_ ?_
              · refine Agg.step_put rfl rfl 33 _ _ rfl b3 (rsC r1.1 vi vr) _ rfl rfl HB3_3_9_11_12_16.out (rsC_info _ _ _) (rsC_ss _ _ _ _ _ _) (rsC_one _ HI_3_9_11_12_16.out.slice HR_3_9_11_12_16.out.slice) ?_
                intro wz hbz hxz hsz hkz
                have HBZ := Lib.hid hbz
                have HXZ := Lib.hid (HX_3_9_11_12_16.out.trans (hxz.mono (Nat.le_trans HWW.out HG3.out)))
                have hlt1 := HHL.out.1
                have hlt2 := HHL.out.2
                have hg3z := HG3.out
                have H1Z := Lib.hid (show Blk wz b1 45 (hC (hOne 7).1) from (hkz b1 (by omega)).trans H1_3_9_11_12_16.out)
                have H2Z := Lib.hid (show Blk wz b2 47 (pC (pOne 1 112).1.1 (pOne 1 112).1.2) from (hkz b2 (by omega)).trans H2_3_9_11_12_16.out)
                have HOZ := Lib.hid (Only.of_eq hxz hsz hkz rfl : Only (· = b3) _ _)
                have HIZ := Lib.hid (HI_3_9_11_12_16.out.onlyB HOZ.out HB3_3_9_11_12_16.out (by decide)).slice
                have HRZ := Lib.hid (HR_3_9_11_12_16.out.onlyB HOZ.out HB3_3_9_11_12_16.out (by decide)).slice
                clear hbz hxz hsz hkz hlt1 hlt2 hg3z
                have HCJ := Lib.hid (And.intro H1Z.out H2Z.out)
                refine ⟨HCJ.out, ?_⟩
                try simp only [Act.put, List.setIfInBounds_toArray, List.set_cons_succ, List.set_cons_zero]
                refine Agg.held_take 18 (.int .i64 0) rfl (by kernel_rfl) (fun _ _ _ h => h) rfl (fun W _ => by kernel_rfl) (by assumption) ?_
                try simp only [Act.put, List.setIfInBounds_toArray, List.set_cons_succ, List.set_cons_zero]
                refine Agg.held_end (by kernel_rfl) ?_
                refine ⟨b3, vi, vr, H1Z.out, H2Z.out, HBZ.out, HIZ.out, HRZ.out, HXZ.out, ?_⟩
                simp only [Agg.ExPut, Act.put, List.setIfInBounds_toArray, List.set_cons_succ, List.set_cons_zero]
                exact ⟨_, _, _, _, _, _, _, _, _, _, _, _, _, _, _, _, rfl⟩
              exact AllReadyH.nil
            exact AllReadyH.nil
          exact AllReadyH.nil
        refine Agg.held_cons rfl ?_ ?_
        · refine Agg.step_zero rfl 33 rfl (rsC [] (.slice none 0 0) (.slice none 0 0)) rsC_zero ?_
          intro b3 w_3_9_16 hb3 hx hg3
          have H1_3_9_16 := Lib.hid (H1_3_9.out.below hx)
          have H2_3_9_16 := Lib.hid (H2_3_9.out.below hx)
          have HX_3_9_16 := Lib.hid (Agg.belowThen HX_3_9.out (Nat.le_refl _) hx)
          have HL_3_9_16 := Lib.hid (Agg.belowThen HL_3_9.out (Nat.le_refl _) hx)
          have HN_3_9_16 := Lib.hid (SliceOf.below HN_3_9.out hx)
          have HB3_3_9_16 := Lib.hid hb3
          have HG3 := Lib.hid (show w0.heap.size ≤ b3 from Nat.le_trans HL_3_9.out.size hg3)
          clear hb3 hx hg3
          have HCJ := Lib.hid (And.intro H1_3_9_16.out H2_3_9_16.out)
          refine ⟨HCJ.out, ?_⟩
          try simp only [Act.put, List.setIfInBounds_toArray, List.set_cons_succ, List.set_cons_zero]
          refine Agg.held_ready [11] (by kernel_rfl) (by simp) ?_
          refine Agg.held_cons rfl ?_ ?_
          · refine Agg.step_slice2B (E := EMd) rfl _ _ rfl (hOne 7, pOne 1 112) (hOne 7, pOne 2 113) rfl rfl ?_
            intro um w_3_9_11_16 hu hub hx
            have H1_3_9_11_16 := Lib.hid (H1_3_9_16.out.below hx)
            have H2_3_9_11_16 := Lib.hid (H2_3_9_16.out.below hx)
            have HX_3_9_11_16 := Lib.hid (Agg.belowThen HX_3_9_16.out (Nat.le_refl _) hx)
            have HL_3_9_11_16 := Lib.hid (Agg.belowThen HL_3_9_16.out (Nat.le_refl _) hx)
            have HN_3_9_11_16 := Lib.hid (SliceOf.below HN_3_9_16.out hx)
            have HB3_3_9_11_16 := Lib.hid (HB3_3_9_16.out.below hx)
            have HM_3_9_11_16 := Lib.hid (And.intro hu hub)
            clear hu hub hx
            have HCJ := Lib.hid (And.intro H1_3_9_11_16.out H2_3_9_11_16.out)
            refine ⟨HCJ.out, ?_⟩
            try simp only [Act.put, List.setIfInBounds_toArray, List.set_cons_succ, List.set_cons_zero]
            refine Agg.held_ready [12] (by kernel_rfl) (by simp) ?_
            refine Agg.held_cons rfl ?_ ?_
            · refine Agg.step_call rfl 10 _ _ rfl #[.agg #[.string ⟨#[97]⟩, u3, .slice none 0 0], um] (by simp only [List.map_toArray, List.map_cons, List.map_nil]; rfl) (fun W => HEO.out _ W) ?_
              refine (rof2_any _ um d1 m1 (by decide) (by decide) (by decide) _ ⟨u3, .slice none 0 0, rfl, HN_3_9_11_16.out, SliceOf.nil _ _ _⟩ HM_3_9_11_16.out.1).mono ?_
              rw [of1]
              rintro x w_3_9_11_12_16 ⟨vi, vr, rfl, hi, hr, hx⟩
              have H1_3_9_11_12_16 := Lib.hid (H1_3_9_11_16.out.below hx)
              have H2_3_9_11_12_16 := Lib.hid (H2_3_9_11_16.out.below hx)
              have HX_3_9_11_12_16 := Lib.hid (Agg.belowThen HX_3_9_11_16.out (Nat.le_refl _) hx)
              have HL_3_9_11_12_16 := Lib.hid (Agg.belowThen HL_3_9_11_16.out (Nat.le_refl _) hx)
              have HN_3_9_11_12_16 := Lib.hid (SliceOf.below HN_3_9_11_16.out hx)
              have HM_3_9_11_12_16 := Lib.hid (And.intro (SliceOf.below HM_3_9_11_16.out.1 hx) (fun b hb => Nat.lt_of_lt_of_le (HM_3_9_11_16.out.2 b hb) (hx).size))
              have HB3_3_9_11_12_16 := Lib.hid (HB3_3_9_11_16.out.below hx)
              have HI_3_9_11_12_16 := Lib.hid hi
              have HR_3_9_11_12_16 := Lib.hid hr
              clear hi hr hx
              refine ⟨_, rfl, ?_⟩
              have HCJ := Lib.hid (And.intro H1_3_9_11_12_16.out H2_3_9_11_12_16.out)
              refine ⟨HCJ.out, ?_⟩
              try simp only [Act.put, List.setIfInBounds_toArray, List.set_cons_succ, List.set_cons_zero]
              refine Agg.held_take 13 (.tuple #[.agg (rsC r1.1 vi vr), .int .i64 0]) rfl (by kernel_rfl) (fun _ _ _ h => h) rfl (fun W _ => by kernel_rfl) (by assumption) ?_
              try simp only [Act.put, List.setIfInBounds_toArray, List.set_cons_succ, List.set_cons_zero]
              refine Agg.held_take 14 (.agg (rsC r1.1 vi vr)) rfl (by kernel_rfl) (fun _ _ _ h => h) rfl (fun W _ => by kernel_rfl) (by assumption) ?_
              try simp only [Act.put, List.setIfInBounds_toArray, List.set_cons_succ, List.set_cons_zero]
              refine Agg.held_take 15 (.int .i64 0) rfl (by kernel_rfl) (fun _ _ _ h => h) rfl (fun W _ => by kernel_rfl) (by assumption) ?_
              try simp only [Act.put, List.setIfInBounds_toArray, List.set_cons_succ, List.set_cons_zero]
              refine Agg.held_ready [17] (by kernel_rfl) (by simp) ?_
              refine Agg.held_cons rfl ?_ ?_
              · refine Agg.step_put rfl rfl 33 _ _ rfl b3 (rsC r1.1 vi vr) _ rfl rfl HB3_3_9_11_12_16.out (rsC_info _ _ _) (rsC_ss _ _ _ _ _ _) (rsC_one _ HI_3_9_11_12_16.out.slice HR_3_9_11_12_16.out.slice) ?_
                intro wz hbz hxz hsz hkz
                have HBZ := Lib.hid hbz
                have HXZ := Lib.hid (HX_3_9_11_12_16.out.trans (hxz.mono (Nat.le_trans HWW.out HG3.out)))
                have hlt1 := HHL.out.1
                have hlt2 := HHL.out.2
                have hg3z := HG3.out
                have H1Z := Lib.hid (show Blk wz b1 45 (hC (hOne 7).1) from (hkz b1 (by omega)).trans H1_3_9_11_12_16.out)
                have H2Z := Lib.hid (show Blk wz b2 47 (pC (pOne 1 112).1.1 (pOne 1 112).1.2) from (hkz b2 (by omega)).trans H2_3_9_11_12_16.out)
                have HOZ := Lib.hid (Only.of_eq hxz hsz hkz rfl : Only (· = b3) _ _)
                have HIZ := Lib.hid (HI_3_9_11_12_16.out.onlyB HOZ.out HB3_3_9_11_12_16.out (by decide)).slice
                have HRZ := Lib.hid (HR_3_9_11_12_16.out.onlyB HOZ.out HB3_3_9_11_12_16.out (by decide)).slice
                clear hbz hxz hsz hkz hlt1 hlt2 hg3z
                have HCJ := Lib.hid (And.intro H1Z.out H2Z.out)
                refine ⟨HCJ.out, ?_⟩
                try simp only [Act.put, List.setIfInBounds_toArray, List.set_cons_succ, List.set_cons_zero]
                refine Agg.held_take 18 (.int .i64 0) rfl (by kernel_rfl) (fun _ _ _ h => h) rfl (fun W _ => by kernel_rfl) (by assumption) ?_
                try simp only [Act.put, List.setIfInBounds_toArray, List.set_cons_succ, List.set_cons_zero]
                refine Agg.held_end (by kernel_rfl) ?_
                refine ⟨b3, vi, vr, H1Z.out, H2Z.out, HBZ.out, HIZ.out, HRZ.out, HXZ.out, ?_⟩
                simp only [Agg.ExPut, Act.put, List.setIfInBounds_toArray, List.set_cons_succ, List.set_cons_zero]
                exact ⟨_, _, _, _, _, _, _, _, _, _, _, _, _, _, _, _, rfl⟩
              exact AllReadyH.nil
            exact AllReadyH.nil
          exact AllReadyH.nil
        exact AllReadyH.nil
      refine Agg.held_cons rfl ?_ ?_
      · refine Agg.step_slice2B (E := EMd) rfl _ _ rfl (hOne 7, pOne 1 112) (hOne 7, pOne 2 113) rfl rfl ?_
        intro um w_9_11 hu hub hx
        have H1_9_11 := Lib.hid (H1_9.out.below hx)
        have H2_9_11 := Lib.hid (H2_9.out.below hx)
        have HX_9_11 := Lib.hid (Agg.belowThen HX_9.out (Nat.le_refl _) hx)
        have HL_9_11 := Lib.hid (Agg.belowThen HL_9.out (Nat.le_refl _) hx)
        have HM_9_11 := Lib.hid (And.intro hu hub)
        clear hu hub hx
        have HCJ := Lib.hid (And.intro H1_9_11.out H2_9_11.out)
        refine ⟨HCJ.out, ?_⟩
        try simp only [Act.put, List.setIfInBounds_toArray, List.set_cons_succ, List.set_cons_zero]
        refine Agg.held_ready [3, 16] (by kernel_rfl) (by simp) ?_
        refine Agg.held_cons rfl ?_ ?_
        · refine Agg.step_slice1 (E := ENm) rfl _ rfl n1 rfl ?_
          intro u3 w_3_9_11 hu hx
          obtain ⟨pu, cu, hfu⟩ := hu.slice.form
          have HBD := Lib.hid (fun W => (show (Instr.build 25 #[(0, .string ⟨#[97]⟩), (1, u3)]).run Try.prog W = .ok (.agg #[.string ⟨#[97]⟩, u3, .slice none 0 0]) W by rw [hfu]; exact build_dv _ _ _ _))
          have H1_3_9_11 := Lib.hid (H1_9_11.out.below hx)
          have H2_3_9_11 := Lib.hid (H2_9_11.out.below hx)
          have HX_3_9_11 := Lib.hid (Agg.belowThen HX_9_11.out (Nat.le_refl _) hx)
          have HL_3_9_11 := Lib.hid (Agg.belowThen HL_9_11.out (Nat.le_refl _) hx)
          have HM_3_9_11 := Lib.hid (And.intro (SliceOf.below HM_9_11.out.1 hx) (fun b hb => Nat.lt_of_lt_of_le (HM_9_11.out.2 b hb) (hx).size))
          have HN_3_9_11 := Lib.hid hu.slice
          clear hu hx hfu
          have HCJ := Lib.hid (And.intro H1_3_9_11.out H2_3_9_11.out)
          refine ⟨HCJ.out, ?_⟩
          try simp only [Act.put, List.setIfInBounds_toArray, List.set_cons_succ, List.set_cons_zero]
          refine Agg.held_take 4 (.agg #[.string ⟨#[97]⟩, u3, .slice none 0 0]) rfl (by kernel_rfl) (fun _ _ _ h => h) rfl (fun W _ => exec_build2C rfl rfl rfl (HBD.out W)) (by assumption) ?_
          try simp only [Act.put, List.setIfInBounds_toArray, List.set_cons_succ, List.set_cons_zero]
          refine Agg.held_ready [12, 16] (by kernel_rfl) (by simp) ?_
          refine Agg.held_cons rfl ?_ ?_
          · refine Agg.step_call rfl 10 _ _ rfl #[.agg #[.string ⟨#[97]⟩, u3, .slice none 0 0], um] (by simp only [List.map_toArray, List.map_cons, List.map_nil]; rfl) (fun W => HEO.out _ W) ?_
            refine (rof2_any _ um d1 m1 (by decide) (by decide) (by decide) _ ⟨u3, .slice none 0 0, rfl, HN_3_9_11.out, SliceOf.nil _ _ _⟩ HM_3_9_11.out.1).mono ?_
            rw [of1]
            rintro x w_3_9_11_12 ⟨vi, vr, rfl, hi, hr, hx⟩
            have H1_3_9_11_12 := Lib.hid (H1_3_9_11.out.below hx)
            have H2_3_9_11_12 := Lib.hid (H2_3_9_11.out.below hx)
            have HX_3_9_11_12 := Lib.hid (Agg.belowThen HX_3_9_11.out (Nat.le_refl _) hx)
            have HL_3_9_11_12 := Lib.hid (Agg.belowThen HL_3_9_11.out (Nat.le_refl _) hx)
            have HN_3_9_11_12 := Lib.hid (SliceOf.below HN_3_9_11.out hx)
            have HM_3_9_11_12 := Lib.hid (And.intro (SliceOf.below HM_3_9_11.out.1 hx) (fun b hb => Nat.lt_of_lt_of_le (HM_3_9_11.out.2 b hb) (hx).size))
            have HI_3_9_11_12 := Lib.hid hi
            have HR_3_9_11_12 := Lib.hid hr
            clear hi hr hx
            refine ⟨_, rfl, ?_⟩
            have HCJ := Lib.hid (And.intro H1_3_9_11_12.out H2_3_9_11_12.out)
            refine ⟨HCJ.out, ?_⟩
            try simp only [Act.put, List.setIfInBounds_toArray, List.set_cons_succ, List.set_cons_zero]
            refine Agg.held_take 13 (.tuple #[.agg (rsC r1.1 vi vr), .int .i64 0]) rfl (by kernel_rfl) (fun _ _ _ h => h) rfl (fun W _ => by kernel_rfl) (by assumption) ?_
            try simp only [Act.put, List.setIfInBounds_toArray, List.set_cons_succ, List.set_cons_zero]
            refine Agg.held_take 14 (.agg (rsC r1.1 vi vr)) rfl (by kernel_rfl) (fun _ _ _ h => h) rfl (fun W _ => by kernel_rfl) (by assumption) ?_
            try simp only [Act.put, List.setIfInBounds_toArray, List.set_cons_succ, List.set_cons_zero]
            refine Agg.held_take 15 (.int .i64 0) rfl (by kernel_rfl) (fun _ _ _ h => h) rfl (fun W _ => by kernel_rfl) (by assumption) ?_
            try simp only [Act.put, List.setIfInBounds_toArray, List.set_cons_succ, List.set_cons_zero]
            refine Agg.held_ready [16] (by kernel_rfl) (by simp) ?_
            refine Agg.held_cons rfl ?_ ?_
            · refine Agg.step_zero rfl 33 rfl (rsC [] (.slice none 0 0) (.slice none 0 0)) rsC_zero ?_
              intro b3 w_3_9_11_12_16 hb3 hx hg3
              have H1_3_9_11_12_16 := Lib.hid (H1_3_9_11_12.out.below hx)
              have H2_3_9_11_12_16 := Lib.hid (H2_3_9_11_12.out.below hx)
              have HX_3_9_11_12_16 := Lib.hid (Agg.belowThen HX_3_9_11_12.out (Nat.le_refl _) hx)
              have HL_3_9_11_12_16 := Lib.hid (Agg.belowThen HL_3_9_11_12.out (Nat.le_refl _) hx)
              have HN_3_9_11_12_16 := Lib.hid (SliceOf.below HN_3_9_11_12.out hx)
              have HM_3_9_11_12_16 := Lib.hid (And.intro (SliceOf.below HM_3_9_11_12.out.1 hx) (fun b hb => Nat.lt_of_lt_of_le (HM_3_9_11_12.out.2 b hb) (hx).size))
              have HI_3_9_11_12_16 := Lib.hid (HI_3_9_11_12.out.below hx)
              have HR_3_9_11_12_16 := Lib.hid (HR_3_9_11_12.out.below hx)
              have HB3_3_9_11_12_16 := Lib.hid hb3
              have HG3 := Lib.hid (show w0.heap.size ≤ b3 from Nat.le_trans HL_3_9_11_12.out.size hg3)
              clear hb3 hx hg3
              have HCJ := Lib.hid (And.intro H1_3_9_11_12_16.out H2_3_9_11_12_16.out)
              refine ⟨HCJ.out, ?_⟩
              try simp only [Act.put, List.setIfInBounds_toArray, List.set_cons_succ, List.set_cons_zero]
              refine Agg.held_ready [17] (by kernel_rfl) (by simp) ?_
              refine Agg.held_cons rfl ?_ ?_
              · refine Agg.step_put rfl rfl 33 _ _ rfl b3 (rsC r1.1 vi vr) _ rfl rfl HB3_3_9_11_12_16.out (rsC_info _ _ _) (rsC_ss _ _ _ _ _ _) (rsC_one _ HI_3_9_11_12_16.out.slice HR_3_9_11_12_16.out.slice) ?_
                intro wz hbz hxz hsz hkz
                have HBZ := Lib.hid hbz
                have HXZ := Lib.hid (HX_3_9_11_12_16.out.trans (hxz.mono (Nat.le_trans HWW.out HG3.out)))
                have hlt1 := HHL.out.1
                have hlt2 := HHL.out.2
                have hg3z := HG3.out
                have H1Z := Lib.hid (show Blk wz b1 45 (hC (hOne 7).1) from (hkz b1 (by omega)).trans H1_3_9_11_12_16.out)
                have H2Z := Lib.hid (show Blk wz b2 47 (pC (pOne 1 112).1.1 (pOne 1 112).1.2) from (hkz b2 (by omega)).trans H2_3_9_11_12_16.out)
                have HOZ := Lib.hid (Only.of_eq hxz hsz hkz rfl : Only (· = b3) _ _)
                have HIZ := Lib.hid (HI_3_9_11_12_16.out.onlyB HOZ.out HB3_3_9_11_12_16.out (by decide)).slice
                have HRZ := Lib.hid (HR_3_9_11_12_16.out.onlyB HOZ.out HB3_3_9_11_12_16.out (by decide)).slice
                clear hbz hxz hsz hkz hlt1 hlt2 hg3z
                have HCJ := Lib.hid (And.intro H1Z.out H2Z.out)
                refine ⟨HCJ.out, ?_⟩
                try simp only [Act.put, List.setIfInBounds_toArray, List.set_cons_succ, List.set_cons_zero]
                refine Agg.held_take 18 (.int .i64 0) rfl (by kernel_rfl) (fun _ _ _ h => h) rfl (fun W _ => by kernel_rfl) (by assumption) ?_
                try simp only [Act.put, List.setIfInBounds_toArray, List.set_cons_succ, List.set_cons_zero]
                refine Agg.held_end (by kernel_rfl) ?_
                refine ⟨b3, vi, vr, H1Z.out, H2Z.out, HBZ.out, HIZ.out, HRZ.out, HXZ.out, ?_⟩
                simp only [Agg.ExPut, Act.put, List.setIfInBounds_toArray, List.set_cons_succ, List.set_cons_zero]
                exact ⟨_, _, _, _, _, _, _, _, _, _, _, _, _, _, _, _, rfl⟩
              exact AllReadyH.nil
            exact AllReadyH.nil
          refine Agg.held_cons rfl ?_ ?_
          · refine Agg.step_zero rfl 33 rfl (rsC [] (.slice none 0 0) (.slice none 0 0)) rsC_zero ?_
            intro b3 w_3_9_11_16 hb3 hx hg3
            have H1_3_9_11_16 := Lib.hid (H1_3_9_11.out.below hx)
            have H2_3_9_11_16 := Lib.hid (H2_3_9_11.out.below hx)
            have HX_3_9_11_16 := Lib.hid (Agg.belowThen HX_3_9_11.out (Nat.le_refl _) hx)
            have HL_3_9_11_16 := Lib.hid (Agg.belowThen HL_3_9_11.out (Nat.le_refl _) hx)
            have HN_3_9_11_16 := Lib.hid (SliceOf.below HN_3_9_11.out hx)
            have HM_3_9_11_16 := Lib.hid (And.intro (SliceOf.below HM_3_9_11.out.1 hx) (fun b hb => Nat.lt_of_lt_of_le (HM_3_9_11.out.2 b hb) (hx).size))
            have HB3_3_9_11_16 := Lib.hid hb3
            have HG3 := Lib.hid (show w0.heap.size ≤ b3 from Nat.le_trans HL_3_9_11.out.size hg3)
            clear hb3 hx hg3
            have HCJ := Lib.hid (And.intro H1_3_9_11_16.out H2_3_9_11_16.out)
            refine ⟨HCJ.out, ?_⟩
            try simp only [Act.put, List.setIfInBounds_toArray, List.set_cons_succ, List.set_cons_zero]
            refine Agg.held_ready [12] (by kernel_rfl) (by simp) ?_
            refine Agg.held_cons rfl ?_ ?_
            · refine Agg.step_call rfl 10 _ _ rfl #[.agg #[.string ⟨#[97]⟩, u3, .slice none 0 0], um] (by simp only [List.map_toArray, List.map_cons, List.map_nil]; rfl) (fun W => HEO.out _ W) ?_
              refine (rof2_any _ um d1 m1 (by decide) (by decide) (by decide) _ ⟨u3, .slice none 0 0, rfl, HN_3_9_11_16.out, SliceOf.nil _ _ _⟩ HM_3_9_11_16.out.1).mono ?_
              rw [of1]
              rintro x w_3_9_11_12_16 ⟨vi, vr, rfl, hi, hr, hx⟩
              have H1_3_9_11_12_16 := Lib.hid (H1_3_9_11_16.out.below hx)
              have H2_3_9_11_12_16 := Lib.hid (H2_3_9_11_16.out.below hx)
              have HX_3_9_11_12_16 := Lib.hid (Agg.belowThen HX_3_9_11_16.out (Nat.le_refl _) hx)
              have HL_3_9_11_12_16 := Lib.hid (Agg.belowThen HL_3_9_11_16.out (Nat.le_refl _) hx)
              have HN_3_9_11_12_16 := Lib.hid (SliceOf.below HN_3_9_11_16.out hx)
              have HM_3_9_11_12_16 := Lib.hid (And.intro (SliceOf.below HM_3_9_11_16.out.1 hx) (fun b hb => Nat.lt_of_lt_of_le (HM_3_9_11_16.out.2 b hb) (hx).size))
              have HB3_3_9_11_12_16 := Lib.hid (HB3_3_9_11_16.out.below hx)
              have HI_3_9_11_12_16 := Lib.hid hi
              have HR_3_9_11_12_16 := Lib.hid hr
              clear hi hr hx
              refine ⟨_, rfl, ?_⟩
              have HCJ := Lib.hid (And.intro H1_3_9_11_12_16.out H2_3_9_11_12_16.out)
              refine ⟨HCJ.out, ?_⟩
              try simp only [Act.put, List.setIfInBounds_toArray, List.set_cons_succ, List.set_cons_zero]
              refine Agg.held_take 13 (.tuple #[.agg (rsC r1.1 vi vr), .int .i64 0]) rfl (by kernel_rfl) (fun _ _ _ h => h) rfl (fun W _ => by kernel_rfl) (by assumption) ?_
              try simp only [Act.put, List.setIfInBounds_toArray, List.set_cons_succ, List.set_cons_zero]
              refine Agg.held_take 14 (.agg (rsC r1.1 vi vr)) rfl (by kernel_rfl) (fun _ _ _ h => h) rfl (fun W _ => by kernel_rfl) (by assumption) ?_
              try simp only [Act.put, List.setIfInBounds_toArray, List.set_cons_succ, List.set_cons_zero]
              refine Agg.held_take 15 (.int .i64 0) rfl (by kernel_rfl) (fun _ _ _ h => h) rfl (fun W _ => by kernel_rfl) (by assumption) ?_
              try simp only [Act.put, List.setIfInBounds_toArray, List.set_cons_succ, List.set_cons_zero]
              refine Agg.held_ready [17] (by kernel_rfl) (by simp) ?_
              refine Agg.held_cons rfl ?_ ?_
              · refine Agg.step_put rfl rfl 33 _ _ rfl b3 (rsC r1.1 vi vr) _ rfl rfl HB3_3_9_11_12_16.out (rsC_info _ _ _) (rsC_ss _ _ _ _ _ _) (rsC_one _ HI_3_9_11_12_16.out.slice HR_3_9_11_12_16.out.slice) ?_
                intro wz hbz hxz hsz hkz
                have HBZ := Lib.hid hbz
                have HXZ := Lib.hid (HX_3_9_11_12_16.out.trans (hxz.mono (Nat.le_trans HWW.out HG3.out)))
                have hlt1 := HHL.out.1
                have hlt2 := HHL.out.2
                have hg3z := HG3.out
                have H1Z := Lib.hid (show Blk wz b1 45 (hC (hOne 7).1) from (hkz b1 (by omega)).trans H1_3_9_11_12_16.out)
                have H2Z := Lib.hid (show Blk wz b2 47 (pC (pOne 1 112).1.1 (pOne 1 112).1.2) from (hkz b2 (by omega)).trans H2_3_9_11_12_16.out)
                have HOZ := Lib.hid (Only.of_eq hxz hsz hkz rfl : Only (· = b3) _ _)
                have HIZ := Lib.hid (HI_3_9_11_12_16.out.onlyB HOZ.out HB3_3_9_11_12_16.out (by decide)).slice
                have HRZ := Lib.hid (HR_3_9_11_12_16.out.onlyB HOZ.out HB3_3_9_11_12_16.out (by decide)).slice
                clear hbz hxz hsz hkz hlt1 hlt2 hg3z
                have HCJ := Lib.hid (And.intro H1Z.out H2Z.out)
                refine ⟨HCJ.out, ?_⟩
                try simp only [Act.put, List.setIfInBounds_toArray, List.set_cons_succ, List.set_cons_zero]
                refine Agg.held_take 18 (.int .i64 0) rfl (by kernel_rfl) (fun _ _ _ h => h) rfl (fun W _ => by kernel_rfl) (by assumption) ?_
                try simp only [Act.put, List.setIfInBounds_toArray, List.set_cons_succ, List.set_cons_zero]
                refine Agg.held_end (by kernel_rfl) ?_
                refine ⟨b3, vi, vr, H1Z.out, H2Z.out, HBZ.out, HIZ.out, HRZ.out, HXZ.out, ?_⟩
                simp only [Agg.ExPut, Act.put, List.setIfInBounds_toArray, List.set_cons_succ, List.set_cons_zero]
                exact ⟨_, _, _, _, _, _, _, _, _, _, _, _, _, _, _, _, rfl⟩
              exact AllReadyH.nil
            exact AllReadyH.nil
          exact AllReadyH.nil
        refine Agg.held_cons rfl ?_ ?_
        · refine Agg.step_zero rfl 33 rfl (rsC [] (.slice none 0 0) (.slice none 0 0)) rsC_zero ?_
          intro b3 w_9_11_16 hb3 hx hg3
          have H1_9_11_16 := Lib.hid (H1_9_11.out.below hx)
          have H2_9_11_16 := Lib.hid (H2_9_11.out.below hx)
          have HX_9_11_16 := Lib.hid (Agg.belowThen HX_9_11.out (Nat.le_refl _) hx)
          have HL_9_11_16 := Lib.hid (Agg.belowThen HL_9_11.out (Nat.le_refl _) hx)
          have HM_9_11_16 := Lib.hid (And.intro (SliceOf.below HM_9_11.out.1 hx) (fun b hb => Nat.lt_of_lt_of_le (HM_9_11.out.2 b hb) (hx).size))
          have HB3_9_11_16 := Lib.hid hb3
          have HG3 := Lib.hid (show w0.heap.size ≤ b3 from Nat.le_trans HL_9_11.out.size hg3)
          clear hb3 hx hg3
          have HCJ := Lib.hid (And.intro H1_9_11_16.out H2_9_11_16.out)
          refine ⟨HCJ.out, ?_⟩
          try simp only [Act.put, List.setIfInBounds_toArray, List.set_cons_succ, List.set_cons_zero]
          refine Agg.held_ready [3] (by kernel_rfl) (by simp) ?_
          refine Agg.held_cons rfl ?_ ?_
          · refine Agg.step_slice1 (E := ENm) rfl _ rfl n1 rfl ?_
            intro u3 w_3_9_11_16 hu hx
            obtain ⟨pu, cu, hfu⟩ := hu.slice.form
            have HBD := Lib.hid (fun W => (show (Instr.build 25 #[(0, .string ⟨#[97]⟩), (1, u3)]).run Try.prog W = .ok (.agg #[.string ⟨#[97]⟩, u3, .slice none 0 0]) W by rw [hfu]; exact build_dv _ _ _ _))
            have H1_3_9_11_16 := Lib.hid (H1_9_11_16.out.below hx)
            have H2_3_9_11_16 := Lib.hid (H2_9_11_16.out.below hx)
            have HX_3_9_11_16 := Lib.hid (Agg.belowThen HX_9_11_16.out (Nat.le_refl _) hx)
            have HL_3_9_11_16 := Lib.hid (Agg.belowThen HL_9_11_16.out (Nat.le_refl _) hx)
            have HM_3_9_11_16 := Lib.hid (And.intro (SliceOf.below HM_9_11_16.out.1 hx) (fun b hb => Nat.lt_of_lt_of_le (HM_9_11_16.out.2 b hb) (hx).size))
            have HB3_3_9_11_16 := Lib.hid (HB3_9_11_16.out.below hx)
            have HN_3_9_11_16 := Lib.hid hu.slice
            clear hu hx hfu
            have HCJ := Lib.hid (And.intro H1_3_9_11_16.out H2_3_9_11_16.out)
            refine ⟨HCJ.out, ?_⟩
            try simp only [Act.put, List.setIfInBounds_toArray, List.set_cons_succ, List.set_cons_zero]
            refine Agg.held_take 4 (.agg #[.string ⟨#[97]⟩, u3, .slice none 0 0]) rfl (by kernel_rfl) (fun _ _ _ h => h) rfl (fun W _ => exec_build2C rfl rfl rfl (HBD.out W)) (by assumption) ?_
            try simp only [Act.put, List.setIfInBounds_toArray, List.set_cons_succ, List.set_cons_zero]
            refine Agg.held_ready [12] (by kernel_rfl) (by simp) ?_
            refine Agg.held_cons rfl ?_ ?_
            · refine Agg.step_call rfl 10 _ _ rfl #[.agg #[.string ⟨#[97]⟩, u3, .slice none 0 0], um] (by simp only [List.map_toArray, List.map_cons, List.map_nil]; rfl) (fun W => HEO.out _ W) ?_
              refine (rof2_any _ um d1 m1 (by decide) (by decide) (by decide) _ ⟨u3, .slice none 0 0, rfl, HN_3_9_11_16.out, SliceOf.nil _ _ _⟩ HM_3_9_11_16.out.1).mono ?_
              rw [of1]
              rintro x w_3_9_11_12_16 ⟨vi, vr, rfl, hi, hr, hx⟩
              have H1_3_9_11_12_16 := Lib.hid (H1_3_9_11_16.out.below hx)
              have H2_3_9_11_12_16 := Lib.hid (H2_3_9_11_16.out.below hx)
              have HX_3_9_11_12_16 := Lib.hid (Agg.belowThen HX_3_9_11_16.out (Nat.le_refl _) hx)
              have HL_3_9_11_12_16 := Lib.hid (Agg.belowThen HL_3_9_11_16.out (Nat.le_refl _) hx)
              have HN_3_9_11_12_16 := Lib.hid (SliceOf.below HN_3_9_11_16.out hx)
              have HM_3_9_11_12_16 := Lib.hid (And.intro (SliceOf.below HM_3_9_11_16.out.1 hx) (fun b hb => Nat.lt_of_lt_of_le (HM_3_9_11_16.out.2 b hb) (hx).size))
              have HB3_3_9_11_12_16 := Lib.hid (HB3_3_9_11_16.out.below hx)
              have HI_3_9_11_12_16 := Lib.hid hi
              have HR_3_9_11_12_16 := Lib.hid hr
              clear hi hr hx
              refine ⟨_, rfl, ?_⟩
              have HCJ := Lib.hid (And.intro H1_3_9_11_12_16.out H2_3_9_11_12_16.out)
              refine ⟨HCJ.out, ?_⟩
              try simp only [Act.put, List.setIfInBounds_toArray, List.set_cons_succ, List.set_cons_zero]
              refine Agg.held_take 13 (.tuple #[.agg (rsC r1.1 vi vr), .int .i64 0]) rfl (by kernel_rfl) (fun _ _ _ h => h) rfl (fun W _ => by kernel_rfl) (by assumption) ?_
              try simp only [Act.put, List.setIfInBounds_toArray, List.set_cons_succ, List.set_cons_zero]
              refine Agg.held_take 14 (.agg (rsC r1.1 vi vr)) rfl (by kernel_rfl) (fun _ _ _ h => h) rfl (fun W _ => by kernel_rfl) (by assumption) ?_
              try simp only [Act.put, List.setIfInBounds_toArray, List.set_cons_succ, List.set_cons_zero]
              refine Agg.held_take 15 (.int .i64 0) rfl (by kernel_rfl) (fun _ _ _ h => h) rfl (fun W _ => by kernel_rfl) (by assumption) ?_
              try simp only [Act.put, List.setIfInBounds_toArray, List.set_cons_succ, List.set_cons_zero]
              refine Agg.held_ready [17] (by kernel_rfl) (by simp) ?_
              refine Agg.held_cons rfl ?_ ?_
              · refine Agg.step_put rfl rfl 33 _ _ rfl b3 (rsC r1.1 vi vr) _ rfl rfl HB3_3_9_11_12_16.out (rsC_info _ _ _) (rsC_ss _ _ _ _ _ _) (rsC_one _ HI_3_9_11_12_16.out.slice HR_3_9_11_12_16.out.slice) ?_
                intro wz hbz hxz hsz hkz
                have HBZ := Lib.hid hbz
                have HXZ := Lib.hid (HX_3_9_11_12_16.out.trans (hxz.mono (Nat.le_trans HWW.out HG3.out)))
                have hlt1 := HHL.out.1
                have hlt2 := HHL.out.2
                have hg3z := HG3.out
                have H1Z := Lib.hid (show Blk wz b1 45 (hC (hOne 7).1) from (hkz b1 (by omega)).trans H1_3_9_11_12_16.out)
                have H2Z := Lib.hid (show Blk wz b2 47 (pC (pOne 1 112).1.1 (pOne 1 112).1.2) from (hkz b2 (by omega)).trans H2_3_9_11_12_16.out)
                have HOZ := Lib.hid (Only.of_eq hxz hsz hkz rfl : Only (· = b3) _ _)
                have HIZ := Lib.hid (HI_3_9_11_12_16.out.onlyB HOZ.out HB3_3_9_11_12_16.out (by decide)).slice
                have HRZ := Lib.hid (HR_3_9_11_12_16.out.onlyB HOZ.out HB3_3_9_11_12_16.out (by decide)).slice
                clear hbz hxz hsz hkz hlt1 hlt2 hg3z
                have HCJ := Lib.hid (And.intro H1Z.out H2Z.out)
                refine ⟨HCJ.out, ?_⟩
                try simp only [Act.put, List.setIfInBounds_toArray, List.set_cons_succ, List.set_cons_zero]
                refine Agg.held_take 18 (.int .i64 0) rfl (by kernel_rfl) (fun _ _ _ h => h) rfl (fun W _ => by kernel_rfl) (by assumption) ?_
                try simp only [Act.put, List.setIfInBounds_toArray, List.set_cons_succ, List.set_cons_zero]
                refine Agg.held_end (by kernel_rfl) ?_
                refine ⟨b3, vi, vr, H1Z.out, H2Z.out, HBZ.out, HIZ.out, HRZ.out, HXZ.out, ?_⟩
                simp only [Agg.ExPut, Act.put, List.setIfInBounds_toArray, List.set_cons_succ, List.set_cons_zero]
                exact ⟨_, _, _, _, _, _, _, _, _, _, _, _, _, _, _, _, rfl⟩
              exact AllReadyH.nil
            exact AllReadyH.nil
          exact AllReadyH.nil
        exact AllReadyH.nil
      refine Agg.held_cons rfl ?_ ?_
      · refine Agg.step_zero rfl 33 rfl (rsC [] (.slice none 0 0) (.slice none 0 0)) rsC_zero ?_
        intro b3 w_9_16 hb3 hx hg3
        have H1_9_16 := Lib.hid (H1_9.out.below hx)
        have H2_9_16 := Lib.hid (H2_9.out.below hx)
        have HX_9_16 := Lib.hid (Agg.belowThen HX_9.out (Nat.le_refl _) hx)
        have HL_9_16 := Lib.hid (Agg.belowThen HL_9.out (Nat.le_refl _) hx)
        have HB3_9_16 := Lib.hid hb3
        have HG3 := Lib.hid (show w0.heap.size ≤ b3 from Nat.le_trans HL_9.out.size hg3)
        clear hb3 hx hg3
        have HCJ := Lib.hid (And.intro H1_9_16.out H2_9_16.out)
        refine ⟨HCJ.out, ?_⟩
        try simp only [Act.put, List.setIfInBounds_toArray, List.set_cons_succ, List.set_cons_zero]
        refine Agg.held_ready [3, 11] (by kernel_rfl) (by simp) ?_
        refine Agg.held_cons rfl ?_ ?_
        · refine Agg.step_slice1 (E := ENm) rfl _ rfl n1 rfl ?_
          intro u3 w_3_9_16 hu hx
          obtain ⟨pu, cu, hfu⟩ := hu.slice.form
          have HBD := Lib.hid (fun W => (show (Instr.build 25 #[(0, .string ⟨#[97]⟩), (1, u3)]).run Try.prog W = .ok (.agg #[.string ⟨#[97]⟩, u3, .slice none 0 0]) W by rw [hfu]; exact build_dv _ _ _ _))
          have H1_3_9_16 := Lib.hid (H1_9_16.out.below hx)
          have H2_3_9_16 := Lib.hid (H2_9_16.out.below hx)
          have HX_3_9_16 := Lib.hid (Agg.belowThen HX_9_16.out (Nat.le_refl _) hx)
          have HL_3_9_16 := Lib.hid (Agg.belowThen HL_9_16.out (Nat.le_refl _) hx)
          have HB3_3_9_16 := Lib.hid (HB3_9_16.out.below hx)
          have HN_3_9_16 := Lib.hid hu.slice
          clear hu hx hfu
          have HCJ := Lib.hid (And.intro H1_3_9_16.out H2_3_9_16.out)
          refine ⟨HCJ.out, ?_⟩
          try simp only [Act.put, List.setIfInBounds_toArray, List.set_cons_succ, List.set_cons_zero]
          refine Agg.held_take 4 (.agg #[.string ⟨#[97]⟩, u3, .slice none 0 0]) rfl (by kernel_rfl) (fun _ _ _ h => h) rfl (fun W _ => exec_build2C rfl rfl rfl (HBD.out W)) (by assumption) ?_
          try simp only [Act.put, List.setIfInBounds_toArray, List.set_cons_succ, List.set_cons_zero]
          refine Agg.held_ready [11] (by kernel_rfl) (by simp) ?_
          refine Agg.held_cons rfl ?_ ?_
          · refine Agg.step_slice2B (E := EMd) rfl _ _ rfl (hOne 7, pOne 1 112) (hOne 7, pOne 2 113) rfl rfl ?_
            intro um w_3_9_11_16 hu hub hx
            have H1_3_9_11_16 := Lib.hid (H1_3_9_16.out.below hx)
            have H2_3_9_11_16 := Lib.hid (H2_3_9_16.out.below hx)
            have HX_3_9_11_16 := Lib.hid (Agg.belowThen HX_3_9_16.out (Nat.le_refl _) hx)
            have HL_3_9_11_16 := Lib.hid (Agg.belowThen HL_3_9_16.out (Nat.le_refl _) hx)
            have HN_3_9_11_16 := Lib.hid (SliceOf.below HN_3_9_16.out hx)
            have HB3_3_9_11_16 := Lib.hid (HB3_3_9_16.out.below hx)
            have HM_3_9_11_16 := Lib.hid (And.intro hu hub)
            clear hu hub hx
            have HCJ := Lib.hid (And.intro H1_3_9_11_16.out H2_3_9_11_16.out)
            refine ⟨HCJ.out, ?_⟩
            try simp only [Act.put, List.setIfInBounds_toArray, List.set_cons_succ, List.set_cons_zero]
            refine Agg.held_ready [12] (by kernel_rfl) (by simp) ?_
            refine Agg.held_cons rfl ?_ ?_
            · refine Agg.step_call rfl 10 _ _ rfl #[.agg #[.string ⟨#[97]⟩, u3, .slice none 0 0], um] (by simp only [List.map_toArray, List.map_cons, List.map_nil]; rfl) (fun W => HEO.out _ W) ?_
              refine (rof2_any _ um d1 m1 (by decide) (by decide) (by decide) _ ⟨u3, .slice none 0 0, rfl, HN_3_9_11_16.out, SliceOf.nil _ _ _⟩ HM_3_9_11_16.out.1).mono ?_
              rw [of1]
              rintro x w_3_9_11_12_16 ⟨vi, vr, rfl, hi, hr, hx⟩
              have H1_3_9_11_12_16 := Lib.hid (H1_3_9_11_16.out.below hx)
              have H2_3_9_11_12_16 := Lib.hid (H2_3_9_11_16.out.below hx)
              have HX_3_9_11_12_16 := Lib.hid (Agg.belowThen HX_3_9_11_16.out (Nat.le_refl _) hx)
              have HL_3_9_11_12_16 := Lib.hid (Agg.belowThen HL_3_9_11_16.out (Nat.le_refl _) hx)
              have HN_3_9_11_12_16 := Lib.hid (SliceOf.below HN_3_9_11_16.out hx)
              have HM_3_9_11_12_16 := Lib.hid (And.intro (SliceOf.below HM_3_9_11_16.out.1 hx) (fun b hb => Nat.lt_of_lt_of_le (HM_3_9_11_16.out.2 b hb) (hx).size))
              have HB3_3_9_11_12_16 := Lib.hid (HB3_3_9_11_16.out.below hx)
              have HI_3_9_11_12_16 := Lib.hid hi
              have HR_3_9_11_12_16 := Lib.hid hr
              clear hi hr hx
              refine ⟨_, rfl, ?_⟩
              have HCJ := Lib.hid (And.intro H1_3_9_11_12_16.out H2_3_9_11_12_16.out)
              refine ⟨HCJ.out, ?_⟩
              try simp only [Act.put, List.setIfInBounds_toArray, List.set_cons_succ, List.set_cons_zero]
              refine Agg.held_take 13 (.tuple #[.agg (rsC r1.1 vi vr), .int .i64 0]) rfl (by kernel_rfl) (fun _ _ _ h => h) rfl (fun W _ => by kernel_rfl) (by assumption) ?_
              try simp only [Act.put, List.setIfInBounds_toArray, List.set_cons_succ, List.set_cons_zero]
              refine Agg.held_take 14 (.agg (rsC r1.1 vi vr)) rfl (by kernel_rfl) (fun _ _ _ h => h) rfl (fun W _ => by kernel_rfl) (by assumption) ?_
              try simp only [Act.put, List.setIfInBounds_toArray, List.set_cons_succ, List.set_cons_zero]
              refine Agg.held_take 15 (.int .i64 0) rfl (by kernel_rfl) (fun _ _ _ h => h) rfl (fun W _ => by kernel_rfl) (by assumption) ?_
              try simp only [Act.put, List.setIfInBounds_toArray, List.set_cons_succ, List.set_cons_zero]
              refine Agg.held_ready [17] (by kernel_rfl) (by simp) ?_
              refine Agg.held_cons rfl ?_ ?_
              · refine Agg.step_put rfl rfl 33 _ _ rfl b3 (rsC r1.1 vi vr) _ rfl rfl HB3_3_9_11_12_16.out (rsC_info _ _ _) (rsC_ss _ _ _ _ _ _) (rsC_one _ HI_3_9_11_12_16.out.slice HR_3_9_11_12_16.out.slice) ?_
                intro wz hbz hxz hsz hkz
                have HBZ := Lib.hid hbz
                have HXZ := Lib.hid (HX_3_9_11_12_16.out.trans (hxz.mono (Nat.le_trans HWW.out HG3.out)))
                have hlt1 := HHL.out.1
                have hlt2 := HHL.out.2
                have hg3z := HG3.out
                have H1Z := Lib.hid (show Blk wz b1 45 (hC (hOne 7).1) from (hkz b1 (by omega)).trans H1_3_9_11_12_16.out)
                have H2Z := Lib.hid (show Blk wz b2 47 (pC (pOne 1 112).1.1 (pOne 1 112).1.2) from (hkz b2 (by omega)).trans H2_3_9_11_12_16.out)
                have HOZ := Lib.hid (Only.of_eq hxz hsz hkz rfl : Only (· = b3) _ _)
                have HIZ := Lib.hid (HI_3_9_11_12_16.out.onlyB HOZ.out HB3_3_9_11_12_16.out (by decide)).slice
                have HRZ := Lib.hid (HR_3_9_11_12_16.out.onlyB HOZ.out HB3_3_9_11_12_16.out (by decide)).slice
                clear hbz hxz hsz hkz hlt1 hlt2 hg3z
                have HCJ := Lib.hid (And.intro H1Z.out H2Z.out)
                refine ⟨HCJ.out, ?_⟩
                try simp only [Act.put, List.setIfInBounds_toArray, List.set_cons_succ, List.set_cons_zero]
                refine Agg.held_take 18 (.int .i64 0) rfl (by kernel_rfl) (fun _ _ _ h => h) rfl (fun W _ => by kernel_rfl) (by assumption) ?_
                try simp only [Act.put, List.setIfInBounds_toArray, List.set_cons_succ, List.set_cons_zero]
                refine Agg.held_end (by kernel_rfl) ?_
                refine ⟨b3, vi, vr, H1Z.out, H2Z.out, HBZ.out, HIZ.out, HRZ.out, HXZ.out, ?_⟩
                simp only [Agg.ExPut, Act.put, List.setIfInBounds_toArray, List.set_cons_succ, List.set_cons_zero]
                exact ⟨_, _, _, _, _, _, _, _, _, _, _, _, _, _, _, _, rfl⟩
              exact AllReadyH.nil
            exact AllReadyH.nil
          exact AllReadyH.nil
        refine Agg.held_cons rfl ?_ ?_
        · refine Agg.step_slice2B (E := EMd) rfl _ _ rfl (hOne 7, pOne 1 112) (hOne 7, pOne 2 113) rfl rfl ?_
          intro um w_9_11_16 hu hub hx
          have H1_9_11_16 := Lib.hid (H1_9_16.out.below hx)
          have H2_9_11_16 := Lib.hid (H2_9_16.out.below hx)
          have HX_9_11_16 := Lib.hid (Agg.belowThen HX_9_16.out (Nat.le_refl _) hx)
          have HL_9_11_16 := Lib.hid (Agg.belowThen HL_9_16.out (Nat.le_refl _) hx)
          have HB3_9_11_16 := Lib.hid (HB3_9_16.out.below hx)
          have HM_9_11_16 := Lib.hid (And.intro hu hub)
          clear hu hub hx
          have HCJ := Lib.hid (And.intro H1_9_11_16.out H2_9_11_16.out)
          refine ⟨HCJ.out, ?_⟩
          try simp only [Act.put, List.setIfInBounds_toArray, List.set_cons_succ, List.set_cons_zero]
          refine Agg.held_ready [3] (by kernel_rfl) (by simp) ?_
          refine Agg.held_cons rfl ?_ ?_
          · refine Agg.step_slice1 (E := ENm) rfl _ rfl n1 rfl ?_
            intro u3 w_3_9_11_16 hu hx
            obtain ⟨pu, cu, hfu⟩ := hu.slice.form
            have HBD := Lib.hid (fun W => (show (Instr.build 25 #[(0, .string ⟨#[97]⟩), (1, u3)]).run Try.prog W = .ok (.agg #[.string ⟨#[97]⟩, u3, .slice none 0 0]) W by rw [hfu]; exact build_dv _ _ _ _))
            have H1_3_9_11_16 := Lib.hid (H1_9_11_16.out.below hx)
            have H2_3_9_11_16 := Lib.hid (H2_9_11_16.out.below hx)
            have HX_3_9_11_16 := Lib.hid (Agg.belowThen HX_9_11_16.out (Nat.le_refl _) hx)
            have HL_3_9_11_16 := Lib.hid (Agg.belowThen HL_9_11_16.out (Nat.le_refl _) hx)
            have HM_3_9_11_16 := Lib.hid (And.intro (SliceOf.below HM_9_11_16.out.1 hx) (fun b hb => Nat.lt_of_lt_of_le (HM_9_11_16.out.2 b hb) (hx).size))
            have HB3_3_9_11_16 := Lib.hid (HB3_9_11_16.out.below hx)
            have HN_3_9_11_16 := Lib.hid hu.slice
            clear hu hx hfu
            have HCJ := Lib.hid (And.intro H1_3_9_11_16.out H2_3_9_11_16.out)
            refine ⟨HCJ.out, ?_⟩
            try simp only [Act.put, List.setIfInBounds_toArray, List.set_cons_succ, List.set_cons_zero]
            refine Agg.held_take 4 (.agg #[.string ⟨#[97]⟩, u3, .slice none 0 0]) rfl (by kernel_rfl) (fun _ _ _ h => h) rfl (fun W _ => exec_build2C rfl rfl rfl (HBD.out W)) (by assumption) ?_
            try simp only [Act.put, List.setIfInBounds_toArray, List.set_cons_succ, List.set_cons_zero]
            refine Agg.held_ready [12] (by kernel_rfl) (by simp) ?_
            refine Agg.held_cons rfl ?_ ?_
            · refine Agg.step_call rfl 10 _ _ rfl #[.agg #[.string ⟨#[97]⟩, u3, .slice none 0 0], um] (by simp only [List.map_toArray, List.map_cons, List.map_nil]; rfl) (fun W => HEO.out _ W) ?_
              refine (rof2_any _ um d1 m1 (by decide) (by decide) (by decide) _ ⟨u3, .slice none 0 0, rfl, HN_3_9_11_16.out, SliceOf.nil _ _ _⟩ HM_3_9_11_16.out.1).mono ?_
              rw [of1]
              rintro x w_3_9_11_12_16 ⟨vi, vr, rfl, hi, hr, hx⟩
              have H1_3_9_11_12_16 := Lib.hid (H1_3_9_11_16.out.below hx)
              have H2_3_9_11_12_16 := Lib.hid (H2_3_9_11_16.out.below hx)
              have HX_3_9_11_12_16 := Lib.hid (Agg.belowThen HX_3_9_11_16.out (Nat.le_refl _) hx)
              have HL_3_9_11_12_16 := Lib.hid (Agg.belowThen HL_3_9_11_16.out (Nat.le_refl _) hx)
              have HN_3_9_11_12_16 := Lib.hid (SliceOf.below HN_3_9_11_16.out hx)
              have HM_3_9_11_12_16 := Lib.hid (And.intro (SliceOf.below HM_3_9_11_16.out.1 hx) (fun b hb => Nat.lt_of_lt_of_le (HM_3_9_11_16.out.2 b hb) (hx).size))
              have HB3_3_9_11_12_16 := Lib.hid (HB3_3_9_11_16.out.below hx)
              have HI_3_9_11_12_16 := Lib.hid hi
              have HR_3_9_11_12_16 := Lib.hid hr
              clear hi hr hx
              refine ⟨_, rfl, ?_⟩
              have HCJ := Lib.hid (And.intro H1_3_9_11_12_16.out H2_3_9_11_12_16.out)
              refine ⟨HCJ.out, ?_⟩
              try simp only [Act.put, List.setIfInBounds_toArray, List.set_cons_succ, List.set_cons_zero]
              refine Agg.held_take 13 (.tuple #[.agg (rsC r1.1 vi vr), .int .i64 0]) rfl (by kernel_rfl) (fun _ _ _ h => h) rfl (fun W _ => by kernel_rfl) (by assumption) ?_
              try simp only [Act.put, List.setIfInBounds_toArray, List.set_cons_succ, List.set_cons_zero]
              refine Agg.held_take 14 (.agg (rsC r1.1 vi vr)) rfl (by kernel_rfl) (fun _ _ _ h => h) rfl (fun W _ => by kernel_rfl) (by assumption) ?_
              try simp only [Act.put, List.setIfInBounds_toArray, List.set_cons_succ, List.set_cons_zero]
              refine Agg.held_take 15 (.int .i64 0) rfl (by kernel_rfl) (fun _ _ _ h => h) rfl (fun W _ => by kernel_rfl) (by assumption) ?_
              try simp only [Act.put, List.setIfInBounds_toArray, List.set_cons_succ, List.set_cons_zero]
              refine Agg.held_ready [17] (by kernel_rfl) (by simp) ?_
              refine Agg.held_cons rfl ?_ ?_
              · refine Agg.step_put rfl rfl 33 _ _ rfl b3 (rsC r1.1 vi vr) _ rfl rfl HB3_3_9_11_12_16.out (rsC_info _ _ _) (rsC_ss _ _ _ _ _ _) (rsC_one _ HI_3_9_11_12_16.out.slice HR_3_9_11_12_16.out.slice) ?_
                intro wz hbz hxz hsz hkz
                have HBZ := Lib.hid hbz
                have HXZ := Lib.hid (HX_3_9_11_12_16.out.trans (hxz.mono (Nat.le_trans HWW.out HG3.out)))
                have hlt1 := HHL.out.1
                have hlt2 := HHL.out.2
                have hg3z := HG3.out
                have H1Z := Lib.hid (show Blk wz b1 45 (hC (hOne 7).1) from (hkz b1 (by omega)).trans H1_3_9_11_12_16.out)
                have H2Z := Lib.hid (show Blk wz b2 47 (pC (pOne 1 112).1.1 (pOne 1 112).1.2) from (hkz b2 (by omega)).trans H2_3_9_11_12_16.out)
                have HOZ := Lib.hid (Only.of_eq hxz hsz hkz rfl : Only (· = b3) _ _)
                have HIZ := Lib.hid (HI_3_9_11_12_16.out.onlyB HOZ.out HB3_3_9_11_12_16.out (by decide)).slice
                have HRZ := Lib.hid (HR_3_9_11_12_16.out.onlyB HOZ.out HB3_3_9_11_12_16.out (by decide)).slice
                clear hbz hxz hsz hkz hlt1 hlt2 hg3z
                have HCJ := Lib.hid (And.intro H1Z.out H2Z.out)
                refine ⟨HCJ.out, ?_⟩
                try simp only [Act.put, List.setIfInBounds_toArray, List.set_cons_succ, List.set_cons_zero]
                refine Agg.held_take 18 (.int .i64 0) rfl (by kernel_rfl) (fun _ _ _ h => h) rfl (fun W _ => by kernel_rfl) (by assumption) ?_
                try simp only [Act.put, List.setIfInBounds_toArray, List.set_cons_succ, List.set_cons_zero]
                refine Agg.held_end (by kernel_rfl) ?_
                refine ⟨b3, vi, vr, H1Z.out, H2Z.out, HBZ.out, HIZ.out, HRZ.out, HXZ.out, ?_⟩
                simp only [Agg.ExPut, Act.put, List.setIfInBounds_toArray, List.set_cons_succ, List.set_cons_zero]
                exact ⟨_, _, _, _, _, _, _, _, _, _, _, _, _, _, _, _, rfl⟩
              exact AllReadyH.nil
            exact AllReadyH.nil
          exact AllReadyH.nil
        exact AllReadyH.nil
      exact AllReadyH.nil
    refine Agg.held_cons rfl ?_ ?_
    · refine Agg.step_zero rfl 33 rfl (rsC [] (.slice none 0 0) (.slice none 0 0)) rsC_zero ?_
      intro b3 w_16 hb3 hx hg3
      have H1_16 := Lib.hid (H1d.out.below hx)
      have H2_16 := Lib.hid (H2d.out.below hx)
      have HX_16 := Lib.hid (Agg.belowThen HXd.out (Nat.le_refl _) hx)
      have HL_16 := Lib.hid (Agg.belowThen HLd.out (Nat.le_refl _) hx)
      have HB3_16 := Lib.hid hb3
      have HG3 := Lib.hid (show w0.heap.size ≤ b3 from Nat.le_trans HLd.out.size hg3)
      clear hb3 hx hg3
      have HCJ := Lib.hid (And.intro H1_16.out H2_16.out)
      refine ⟨HCJ.out, ?_⟩
      try simp only [Act.put, List.setIfInBounds_toArray, List.set_cons_succ, List.set_cons_zero]
      refine Agg.held_ready [3, 9] (by kernel_rfl) (by simp) ?_
      refine Agg.held_cons rfl ?_ ?_
      · refine Agg.step_slice1 (E := ENm) rfl _ rfl n1 rfl ?_
        intro u3 w_3_16 hu hx
        obtain ⟨pu, cu, hfu⟩ := hu.slice.form
        have HBD := Lib.hid (fun W => (show (Instr.build 25 #[(0, .string ⟨#[97]⟩), (1, u3)]).run Try.prog W = .ok (.agg #[.string ⟨#[97]⟩, u3, .slice none 0 0]) W by rw [hfu]; exact build_dv _ _ _ _))
        have H1_3_16 := Lib.hid (H1_16.out.below hx)
        have H2_3_16 := Lib.hid (H2_16.out.below hx)
        have HX_3_16 := Lib.hid (Agg.belowThen HX_16.out (Nat.le_refl _) hx)
        have HL_3_16 := Lib.hid (Agg.belowThen HL_16.out (Nat.le_refl _) hx)
        have HB3_3_16 := Lib.hid (HB3_16.out.below hx)
        have HN_3_16 := Lib.hid hu.slice
        clear hu hx hfu
        have HCJ := Lib.hid (And.intro H1_3_16.out H2_3_16.out)
        refine ⟨HCJ.out, ?_⟩
        try simp only [Act.put, List.setIfInBounds_toArray, List.set_cons_succ, List.set_cons_zero]
        refine Agg.held_take 4 (.agg #[.string ⟨#[97]⟩, u3, .slice none 0 0]) rfl (by kernel_rfl) (fun _ _ _ h => h) rfl (fun W _ => exec_build2C rfl rfl rfl (HBD.out W)) (by assumption) ?_
        try simp only [Act.put, List.setIfInBounds_toArray, List.set_cons_succ, List.set_cons_zero]
        refine Agg.held_ready [9] (by kernel_rfl) (by simp) ?_
        refine Agg.held_cons rfl ?_ ?_
        · refine Agg.step_call rfl 25 _ _ rfl #[.int .i64 2, .string ⟨#[113]⟩] (by simp only [List.map_toArray, List.map_cons, List.map_nil]; rfl) (fun W => HEP.out _ W) ?_
          refine (path2_any _).mono ?_
          rintro x w_3_9_16 ⟨rfl, hx⟩
          have H1_3_9_16 := Lib.hid (H1_3_16.out.below hx)
          have H2_3_9_16 := Lib.hid (H2_3_16.out.below hx)
          have HX_3_9_16 := Lib.hid (Agg.belowThen HX_3_16.out (Nat.le_refl _) hx)
          have HL_3_9_16 := Lib.hid (Agg.belowThen HL_3_16.out (Nat.le_refl _) hx)
          have HN_3_9_16 := Lib.hid (SliceOf.below HN_3_16.out hx)
          have HB3_3_9_16 := Lib.hid (HB3_3_16.out.below hx)
          clear hx
          refine ⟨_, rfl, ?_⟩
          have HCJ := Lib.hid (And.intro H1_3_9_16.out H2_3_9_16.out)
          refine ⟨HCJ.out, ?_⟩
          try simp only [Act.put, List.setIfInBounds_toArray, List.set_cons_succ, List.set_cons_zero]
          refine Agg.held_take 10 (.agg (mC (hOne 7, pOne 2 113))) rfl (by kernel_rfl) (fun _ _ _ h => h) rfl (fun W _ => exec_build2C rfl rfl rfl (build_m2 W)) (by assumption) ?_
          try simp only [Act.put, List.setIfInBounds_toArray, List.set_cons_succ, List.set_cons_zero]
          refine Agg.held_ready [11] (by kernel_rfl) (by simp) ?_
          refine Agg.held_cons rfl ?_ ?_
          · refine Agg.step_slice2B (E := EMd) rfl _ _ rfl (hOne 7, pOne 1 112) (hOne 7, pOne 2 113) rfl rfl ?_
            intro um w_3_9_11_16 hu hub hx
            have H1_3_9_11_16 := Lib.hid (H1_3_9_16.out.below hx)
            have H2_3_9_11_16 := Lib.hid (H2_3_9_16.out.below hx)
            have HX_3_9_11_16 := Lib.hid (Agg.belowThen HX_3_9_16.out (Nat.le_refl _) hx)
            have HL_3_9_11_16 := Lib.hid (Agg.belowThen HL_3_9_16.out (Nat.le_refl _) hx)
            have HN_3_9_11_16 := Lib.hid (SliceOf.below HN_3_9_16.out hx)
            have HB3_3_9_11_16 := Lib.hid (HB3_3_9_16.out.below hx)
            have HM_3_9_11_16 := Lib.hid (And.intro hu hub)
            clear hu hub hx
            have HCJ := Lib.hid (And.intro H1_3_9_11_16.out H2_3_9_11_16.out)
            refine ⟨HCJ.out, ?_⟩
            try simp only [Act.put, List.setIfInBounds_toArray, List.set_cons_succ, List.set_cons_zero]
            refine Agg.held_ready [12] (by kernel_rfl) (by simp) ?_
            refine Agg.held_cons rfl ?_ ?_
            · refine Agg.step_call rfl 10 _ _ rfl #[.agg #[.string ⟨#[97]⟩, u3, .slice none 0 0], um] (by simp only [List.map_toArray, List.map_cons, List.map_nil]; rfl) (fun W => HEO.out _ W) ?_
              refine (rof2_any _ um d1 m1 (by decide) (by decide) (by decide) _ ⟨u3, .slice none 0 0, rfl, HN_3_9_11_16.out, SliceOf.nil _ _ _⟩ HM_3_9_11_16.out.1).mono ?_
              rw [of1]
              rintro x w_3_9_11_12_16 ⟨vi, vr, rfl, hi, hr, hx⟩
              have H1_3_9_11_12_16 := Lib.hid (H1_3_9_11_16.out.below hx)
              have H2_3_9_11_12_16 := Lib.hid (H2_3_9_11_16.out.below hx)
              have HX_3_9_11_12_16 := Lib.hid (Agg.belowThen HX_3_9_11_16.out (Nat.le_refl _) hx)
              have HL_3_9_11_12_16 := Lib.hid (Agg.belowThen HL_3_9_11_16.out (Nat.le_refl _) hx)
              have HN_3_9_11_12_16 := Lib.hid (SliceOf.below HN_3_9_11_16.out hx)
              have HM_3_9_11_12_16 := Lib.hid (And.intro (SliceOf.below HM_3_9_11_16.out.1 hx) (fun b hb => Nat.lt_of_lt_of_le (HM_3_9_11_16.out.2 b hb) (hx).size))
              have HB3_3_9_11_12_16 := Lib.hid (HB3_3_9_11_16.out.below hx)
              have HI_3_9_11_12_16 := Lib.hid hi
              have HR_3_9_11_12_16 := Lib.hid hr
              clear hi hr hx
              refine ⟨_, rfl, ?_⟩
              have HCJ := Lib.hid (And.intro H1_3_9_11_12_16.out H2_3_9_11_12_16.out)
              refine ⟨HCJ.out, ?_⟩
              try simp only [Act.put, List.setIfInBounds_toArray, List.set_cons_succ, List.set_cons_zero]
              refine Agg.held_take 13 (.tuple #[.agg (rsC r1.1 vi vr), .int .i64 0]) rfl (by kernel_rfl) (fun _ _ _ h => h) rfl (fun W _ => by kernel_rfl) (by assumption) ?_
              try simp only [Act.put, List.setIfInBounds_toArray, List.set_cons_succ, List.set_cons_zero]
              refine Agg.held_take 14 (.agg (rsC r1.1 vi vr)) rfl (by kernel_rfl) (fun _ _ _ h => h) rfl (fun W _ => by kernel_rfl) (by assumption) ?_
              try simp only [Act.put, List.setIfInBounds_toArray, List.set_cons_succ, List.set_cons_zero]
              refine Agg.held_take 15 (.int .i64 0) rfl (by kernel_rfl) (fun _ _ _ h => h) rfl (fun W _ => by kernel_rfl) (by assumption) ?_
              try simp only [Act.put, List.setIfInBounds_toArray, List.set_cons_succ, List.set_cons_zero]
              refine Agg.held_ready [17] (by kernel_rfl) (by simp) ?_
              refine Agg.held_cons rfl ?_ ?_
              · refine Agg.step_put rfl rfl 33 _ _ rfl b3 (rsC r1.1 vi vr) _ rfl rfl HB3_3_9_11_12_16.out (rsC_info _ _ _) (rsC_ss _ _ _ _ _ _) (rsC_one _ HI_3_9_11_12_16.out.slice HR_3_9_11_12_16.out.slice) ?_
                intro wz hbz hxz hsz hkz
                have HBZ := Lib.hid hbz
                have HXZ := Lib.hid (HX_3_9_11_12_16.out.trans (hxz.mono (Nat.le_trans HWW.out HG3.out)))
                have hlt1 := HHL.out.1
                have hlt2 := HHL.out.2
                have hg3z := HG3.out
                have H1Z := Lib.hid (show Blk wz b1 45 (hC (hOne 7).1) from (hkz b1 (by omega)).trans H1_3_9_11_12_16.out)
                have H2Z := Lib.hid (show Blk wz b2 47 (pC (pOne 1 112).1.1 (pOne 1 112).1.2) from (hkz b2 (by omega)).trans H2_3_9_11_12_16.out)
                have HOZ := Lib.hid (Only.of_eq hxz hsz hkz rfl : Only (· = b3) _ _)
                have HIZ := Lib.hid (HI_3_9_11_12_16.out.onlyB HOZ.out HB3_3_9_11_12_16.out (by decide)).slice
                have HRZ := Lib.hid (HR_3_9_11_12_16.out.onlyB HOZ.out HB3_3_9_11_12_16.out (by decide)).slice
                clear hbz hxz hsz hkz hlt1 hlt2 hg3z
                have HCJ := Lib.hid (And.intro H1Z.out H2Z.out)
                refine ⟨HCJ.out, ?_⟩
                try simp only [Act.put, List.setIfInBounds_toArray, List.set_cons_succ, List.set_cons_zero]
                refine Agg.held_take 18 (.int .i64 0) rfl (by kernel_rfl) (fun _ _ _ h => h) rfl (fun W _ => by kernel_rfl) (by assumption) ?_
                try simp only [Act.put, List.setIfInBounds_toArray, List.set_cons_succ, List.set_cons_zero]
                refine Agg.held_end (by kernel_rfl) ?_
                refine ⟨b3, vi, vr, H1Z.out, H2Z.out, HBZ.out, HIZ.out, HRZ.out, HXZ.out, ?_⟩
                simp only [Agg.ExPut, Act.put, List.setIfInBounds_toArray, List.set_cons_succ, List.set_cons_zero]
                exact ⟨_, _, _, _, _, _, _, _, _, _, _, _, _, _, _, _, rfl⟩
              exact AllReadyH.nil
            exact AllReadyH.nil
          exact AllReadyH.nil
        exact AllReadyH.nil
      refine Agg.held_cons rfl ?_ ?_
      · refine Agg.step_call rfl 25 _ _ rfl #[.int .i64 2, .string ⟨#[113]⟩] (by simp only [List.map_toArray, List.map_cons, List.map_nil]; rfl) (fun W => HEP.out _ W) ?_
        refine (path2_any _).mono ?_
        rintro x w_9_16 ⟨rfl, hx⟩
        have H1_9_16 := Lib.hid (H1_16.out.below hx)
        have H2_9_16 := Lib.hid (H2_16.out.below hx)
        have HX_9_16 := Lib.hid (Agg.belowThen HX_16.out (Nat.le_refl _) hx)
        have HL_9_16 := Lib.hid (Agg.belowThen HL_16.out (Nat.le_refl _) hx)
        have HB3_9_16 := Lib.hid (HB3_16.out.below hx)
        clear hx
        refine ⟨_, rfl, ?_⟩
        have HCJ := Lib.hid (And.intro H1_9_16.out H2_9_16.out)
        refine ⟨HCJ.out, ?_⟩
        try simp only [Act.put, List.setIfInBounds_toArray, List.set_cons_succ, List.set_cons_zero]
        refine Agg.held_take 10 (.agg (mC (hOne 7, pOne 2 113))) rfl (by kernel_rfl) (fun _ _ _ h => h) rfl (fun W _ => exec_build2C rfl rfl rfl (build_m2 W)) (by assumption) ?_
        try simp only [Act.put, List.setIfInBounds_toArray, List.set_cons_succ, List.set_cons_zero]
        refine Agg.held_ready [3, 11] (by kernel_rfl) (by simp) ?_
        refine Agg.held_cons rfl ?_ ?_
        · refine Agg.step_slice1 (E := ENm) rfl _ rfl n1 rfl ?_
          intro u3 w_3_9_16 hu hx
          obtain ⟨pu, cu, hfu⟩ := hu.slice.form
          have HBD := Lib.hid (fun W => (show (Instr.build 25 #[(0, .string ⟨#[97]⟩), (1, u3)]).run Try.prog W = .ok (.agg #[.string ⟨#[97]⟩, u3, .slice none 0 0]) W by rw [hfu]; exact build_dv _ _ _ _))
          have H1_3_9_16 := Lib.hid (H1_9_16.out.below hx)
          have H2_3_9_16 := Lib.hid (H2_9_16.out.below hx)
          have HX_3_9_16 := Lib.hid (Agg.belowThen HX_9_16.out (Nat.le_refl _) hx)
          have HL_3_9_16 := Lib.hid (Agg.belowThen HL_9_16.out (Nat.le_refl _) hx)
          have HB3_3_9_16 := Lib.hid (HB3_9_16.out.below hx)
          have HN_3_9_16 := Lib.hid hu.slice
          clear hu hx hfu
          have HCJ := Lib.hid (And.intro H1_3_9_16.out H2_3_9_16.out)
          refine ⟨HCJ.out, ?_⟩
          try simp only [Act.put, List.setIfInBounds_toArray, List.set_cons_succ, List.set_cons_zero]
          refine Agg.held_take 4 (.agg #[.string ⟨#[97]⟩, u3, .slice none 0 0]) rfl (by kernel_rfl) (fun _ _ _ h => h) rfl (fun W _ => exec_build2C rfl rfl rfl (HBD.out W)) (by assumption) ?_
          try simp only [Act.put, List.setIfInBounds_toArray, List.set_cons_succ, List.set_cons_zero]
          refine Agg.held_ready [11] (by kernel_rfl) (by simp) ?_
          refine Agg.held_cons rfl ?_ ?_
          · refine Agg.step_slice2B (E := EMd) rfl _ _ rfl (hOne 7, pOne 1 112) (hOne 7, pOne 2 113) rfl rfl ?_
            intro um w_3_9_11_16 hu hub hx
            have H1_3_9_11_16 := Lib.hid (H1_3_9_16.out.below hx)
            have H2_3_9_11_16 := Lib.hid (H2_3_9_16.out.below hx)
            have HX_3_9_11_16 := Lib.hid (Agg.belowThen HX_3_9_16.out (Nat.le_refl _) hx)
            have HL_3_9_11_16 := Lib.hid (Agg.belowThen HL_3_9_16.out (Nat.le_refl _) hx)
            have HN_3_9_11_16 := Lib.hid (SliceOf.below HN_3_9_16.out hx)
            have HB3_3_9_11_16 := Lib.hid (HB3_3_9_16.out.below hx)
            have HM_3_9_11_16 := Lib.hid (And.intro hu hub)
            clear hu hub hx
            have HCJ := Lib.hid (And.intro H1_3_9_11_16.out H2_3_9_11_16.out)
            refine ⟨HCJ.out, ?_⟩
            try simp only [Act.put, List.setIfInBounds_toArray, List.set_cons_succ, List.set_cons_zero]
            refine Agg.held_ready [12] (by kernel_rfl) (by simp) ?_
            refine Agg.held_cons rfl ?_ ?_
            · refine Agg.step_call rfl 10 _ _ rfl #[.agg #[.string ⟨#[97]⟩, u3, .slice none 0 0], um] (by simp only [List.map_toArray, List.map_cons, List.map_nil]; rfl) (fun W => HEO.out _ W) ?_
              refine (rof2_any _ um d1 m1 (by decide) (by decide) (by decide) _ ⟨u3, .slice none 0 0, rfl, HN_3_9_11_16.out, SliceOf.nil _ _ _⟩ HM_3_9_11_16.out.1).mono ?_
              rw [of1]
              rintro x w_3_9_11_12_16 ⟨vi, vr, rfl, hi, hr, hx⟩
              have H1_3_9_11_12_16 := Lib.hid (H1_3_9_11_16.out.below hx)
              have H2_3_9_11_12_16 := Lib.hid (H2_3_9_11_16.out.below hx)
              have HX_3_9_11_12_16 := Lib.hid (Agg.belowThen HX_3_9_11_16.out (Nat.le_refl _) hx)
              have HL_3_9_11_12_16 := Lib.hid (Agg.belowThen HL_3_9_11_16.out (Nat.le_refl _) hx)
              have HN_3_9_11_12_16 := Lib.hid (SliceOf.below HN_3_9_11_16.out hx)
              have HM_3_9_11_12_16 := Lib.hid (And.intro (SliceOf.below HM_3_9_11_16.out.1 hx) (fun b hb => Nat.lt_of_lt_of_le (HM_3_9_11_16.out.2 b hb) (hx).size))
              have HB3_3_9_11_12_16 := Lib.hid (HB3_3_9_11_16.out.below hx)
              have HI_3_9_11_12_16 := Lib.hid hi
              have HR_3_9_11_12_16 := Lib.hid hr
              clear hi hr hx
              refine ⟨_, rfl, ?_⟩
              have HCJ := Lib.hid (And.intro H1_3_9_11_12_16.out H2_3_9_11_12_16.out)
              refine ⟨HCJ.out, ?_⟩
              try simp only [Act.put, List.setIfInBounds_toArray, List.set_cons_succ, List.set_cons_zero]
              refine Agg.held_take 13 (.tuple #[.agg (rsC r1.1 vi vr), .int .i64 0]) rfl (by kernel_rfl) (fun _ _ _ h => h) rfl (fun W _ => by kernel_rfl) (by assumption) ?_
              try simp only [Act.put, List.setIfInBounds_toArray, List.set_cons_succ, List.set_cons_zero]
              refine Agg.held_take 14 (.agg (rsC r1.1 vi vr)) rfl (by kernel_rfl) (fun _ _ _ h => h) rfl (fun W _ => by kernel_rfl) (by assumption) ?_
              try simp only [Act.put, List.setIfInBounds_toArray, List.set_cons_succ, List.set_cons_zero]
              refine Agg.held_take 15 (.int .i64 0) rfl (by kernel_rfl) (fun _ _ _ h => h) rfl (fun W _ => by kernel_rfl) (by assumption) ?_
              try simp only [Act.put, List.setIfInBounds_toArray, List.set_cons_succ, List.set_cons_zero]
              refine Agg.held_ready [17] (by kernel_rfl) (by simp) ?_
              refine Agg.held_cons rfl ?_ ?_
              · refine Agg.step_put rfl rfl 33 _ _ rfl b3 (rsC r1.1 vi vr) _ rfl rfl HB3_3_9_11_12_16.out (rsC_info _ _ _) (rsC_ss _ _ _ _ _ _) (rsC_one _ HI_3_9_11_12_16.out.slice HR_3_9_11_12_16.out.slice) ?_
                intro wz hbz hxz hsz hkz
                have HBZ := Lib.hid hbz
                have HXZ := Lib.hid (HX_3_9_11_12_16.out.trans (hxz.mono (Nat.le_trans HWW.out HG3.out)))
                have hlt1 := HHL.out.1
                have hlt2 := HHL.out.2
                have hg3z := HG3.out
                have H1Z := Lib.hid (show Blk wz b1 45 (hC (hOne 7).1) from (hkz b1 (by omega)).trans H1_3_9_11_12_16.out)
                have H2Z := Lib.hid (show Blk wz b2 47 (pC (pOne 1 112).1.1 (pOne 1 112).1.2) from (hkz b2 (by omega)).trans H2_3_9_11_12_16.out)
                have HOZ := Lib.hid (Only.of_eq hxz hsz hkz rfl : Only (· = b3) _ _)
                have HIZ := Lib.hid (HI_3_9_11_12_16.out.onlyB HOZ.out HB3_3_9_11_12_16.out (by decide)).slice
                have HRZ := Lib.hid (HR_3_9_11_12_16.out.onlyB HOZ.out HB3_3_9_11_12_16.out (by decide)).slice
                clear hbz hxz hsz hkz hlt1 hlt2 hg3z
                have HCJ := Lib.hid (And.intro H1Z.out H2Z.out)
                refine ⟨HCJ.out, ?_⟩
                try simp only [Act.put, List.setIfInBounds_toArray, List.set_cons_succ, List.set_cons_zero]
                refine Agg.held_take 18 (.int .i64 0) rfl (by kernel_rfl) (fun _ _ _ h => h) rfl (fun W _ => by kernel_rfl) (by assumption) ?_
                try simp only [Act.put, List.setIfInBounds_toArray, List.set_cons_succ, List.set_cons_zero]
                refine Agg.held_end (by kernel_rfl) ?_
                refine ⟨b3, vi, vr, H1Z.out, H2Z.out, HBZ.out, HIZ.out, HRZ.out, HXZ.out, ?_⟩
                simp only [Agg.ExPut, Act.put, List.setIfInBounds_toArray, List.set_cons_succ, List.set_cons_zero]
                exact ⟨_, _, _, _, _, _, _, _, _, _, _, _, _, _, _, _, rfl⟩
              exact AllReadyH.nil
            exact AllReadyH.nil
          exact AllReadyH.nil
        refine Agg.held_cons rfl ?_ ?_
        · refine Agg.step_slice2B (E := EMd) rfl _ _ rfl (hOne 7, pOne 1 112) (hOne 7, pOne 2 113) rfl rfl ?_
          intro um w_9_11_16 hu hub hx
          have H1_9_11_16 := Lib.hid (H1_9_16.out.below hx)
          have H2_9_11_16 := Lib.hid (H2_9_16.out.below hx)
          have HX_9_11_16 := Lib.hid (Agg.belowThen HX_9_16.out (Nat.le_refl _) hx)
          have HL_9_11_16 := Lib.hid (Agg.belowThen HL_9_16.out (Nat.le_refl _) hx)
          have HB3_9_11_16 := Lib.hid (HB3_9_16.out.below hx)
          have HM_9_11_16 := Lib.hid (And.intro hu hub)
          clear hu hub hx
          have HCJ := Lib.hid (And.intro H1_9_11_16.out H2_9_11_16.out)
          refine ⟨HCJ.out, ?_⟩
          try simp only [Act.put, List.setIfInBounds_toArray, List.set_cons_succ, List.set_cons_zero]
          refine Agg.held_ready [3] (by kernel_rfl) (by simp) ?_
          refine Agg.held_cons rfl ?_ ?_
          · refine Agg.step_slice1 (E := ENm) rfl _ rfl n1 rfl ?_
            intro u3 w_3_9_11_16 hu hx
            obtain ⟨pu, cu, hfu⟩ := hu.slice.form
            have HBD := Lib.hid (fun W => (show (Instr.build 25 #[(0, .string ⟨#[97]⟩), (1, u3)]).run Try.prog W = .ok (.agg #[.string ⟨#[97]⟩, u3, .slice none 0 0]) W by rw [hfu]; exact build_dv _ _ _ _))
            have H1_3_9_11_16 := Lib.hid (H1_9_11_16.out.below hx)
            have H2_3_9_11_16 := Lib.hid (H2_9_11_16.out.below hx)
            have HX_3_9_11_16 := Lib.hid (Agg.belowThen HX_9_11_16.out (Nat.le_refl _) hx)
            have HL_3_9_11_16 := Lib.hid (Agg.belowThen HL_9_11_16.out (Nat.le_refl _) hx)
            have HM_3_9_11_16 := Lib.hid (And.intro (SliceOf.below HM_9_11_16.out.1 hx) (fun b hb => Nat.lt_of_lt_of_le (HM_9_11_16.out.2 b hb) (hx).size))
            have HB3_3_9_11_16 := Lib.hid (HB3_9_11_16.out.below hx)
            have HN_3_9_11_16 := Lib.hid hu.slice
            clear hu hx hfu
            have HCJ := Lib.hid (And.intro H1_3_9_11_16.out H2_3_9_11_16.out)
            refine ⟨HCJ.out, ?_⟩
            try simp only [Act.put, List.setIfInBounds_toArray, List.set_cons_succ, List.set_cons_zero]
            refine Agg.held_take 4 (.agg #[.string ⟨#[97]⟩, u3, .slice none 0 0]) rfl (by kernel_rfl) (fun _ _ _ h => h) rfl (fun W _ => exec_build2C rfl rfl rfl (HBD.out W)) (by assumption) ?_
            try simp only [Act.put, List.setIfInBounds_toArray, List.set_cons_succ, List.set_cons_zero]
            refine Agg.held_ready [12] (by kernel_rfl) (by simp) ?_
            refine Agg.held_cons rfl ?_ ?_
            · refine Agg.step_call rfl 10 _ _ rfl #[.agg #[.string ⟨#[97]⟩, u3, .slice none 0 0], um] (by simp only [List.map_toArray, List.map_cons, List.map_nil]; rfl) (fun W => HEO.out _ W) ?_
              refine (rof2_any _ um d1 m1 (by decide) (by decide) (by decide) _ ⟨u3, .slice none 0 0, rfl, HN_3_9_11_16.out, SliceOf.nil _ _ _⟩ HM_3_9_11_16.out.1).mono ?_
              rw [of1]
              rintro x w_3_9_11_12_16 ⟨vi, vr, rfl, hi, hr, hx⟩
              have H1_3_9_11_12_16 := Lib.hid (H1_3_9_11_16.out.below hx)
              have H2_3_9_11_12_16 := Lib.hid (H2_3_9_11_16.out.below hx)
              have HX_3_9_11_12_16 := Lib.hid (Agg.belowThen HX_3_9_11_16.out (Nat.le_refl _) hx)
              have HL_3_9_11_12_16 := Lib.hid (Agg.belowThen HL_3_9_11_16.out (Nat.le_refl _) hx)
              have HN_3_9_11_12_16 := Lib.hid (SliceOf.below HN_3_9_11_16.out hx)
              have HM_3_9_11_12_16 := Lib.hid (And.intro (SliceOf.below HM_3_9_11_16.out.1 hx) (fun b hb => Nat.lt_of_lt_of_le (HM_3_9_11_16.out.2 b hb) (hx).size))
              have HB3_3_9_11_12_16 := Lib.hid (HB3_3_9_11_16.out.below hx)
              have HI_3_9_11_12_16 := Lib.hid hi
              have HR_3_9_11_12_16 := Lib.hid hr
              clear hi hr hx
              refine ⟨_, rfl, ?_⟩
              have HCJ := Lib.hid (And.intro H1_3_9_11_12_16.out H2_3_9_11_12_16.out)
              refine ⟨HCJ.out, ?_⟩
              try simp only [Act.put, List.setIfInBounds_toArray, List.set_cons_succ, List.set_cons_zero]
              refine Agg.held_take 13 (.tuple #[.agg (rsC r1.1 vi vr), .int .i64 0]) rfl (by kernel_rfl) (fun _ _ _ h => h) rfl (fun W _ => by kernel_rfl) (by assumption) ?_
              try simp only [Act.put, List.setIfInBounds_toArray, List.set_cons_succ, List.set_cons_zero]
              refine Agg.held_take 14 (.agg (rsC r1.1 vi vr)) rfl (by kernel_rfl) (fun _ _ _ h => h) rfl (fun W _ => by kernel_rfl) (by assumption) ?_
              try simp only [Act.put, List.setIfInBounds_toArray, List.set_cons_succ, List.set_cons_zero]
              refine Agg.held_take 15 (.int .i64 0) rfl (by kernel_rfl) (fun _ _ _ h => h) rfl (fun W _ => by kernel_rfl) (by assumption) ?_
              try simp only [Act.put, List.setIfInBounds_toArray, List.set_cons_succ, List.set_cons_zero]
              refine Agg.held_ready [17] (by kernel_rfl) (by simp) ?_
              refine Agg.held_cons rfl ?_ ?_
              · refine Agg.step_put rfl rfl 33 _ _ rfl b3 (rsC r1.1 vi vr) _ rfl rfl HB3_3_9_11_12_16.out (rsC_info _ _ _) (rsC_ss _ _ _ _ _ _) (rsC_one _ HI_3_9_11_12_16.out.slice HR_3_9_11_12_16.out.slice) ?_
                intro wz hbz hxz hsz hkz
                have HBZ := Lib.hid hbz
                have HXZ := Lib.hid (HX_3_9_11_12_16.out.trans (hxz.mono (Nat.le_trans HWW.out HG3.out)))
                have hlt1 := HHL.out.1
                have hlt2 := HHL.out.2
                have hg3z := HG3.out
                have H1Z := Lib.hid (show Blk wz b1 45 (hC (hOne 7).1) from (hkz b1 (by omega)).trans H1_3_9_11_12_16.out)
                have H2Z := Lib.hid (show Blk wz b2 47 (pC (pOne 1 112).1.1 (pOne 1 112).1.2) from (hkz b2 (by omega)).trans H2_3_9_11_12_16.out)
                have HOZ := Lib.hid (Only.of_eq hxz hsz hkz rfl : Only (· = b3) _ _)
                have HIZ := Lib.hid (HI_3_9_11_12_16.out.onlyB HOZ.out HB3_3_9_11_12_16.out (by decide)).slice
                have HRZ := Lib.hid (HR_3_9_11_12_16.out.onlyB HOZ.out HB3_3_9_11_12_16.out (by decide)).slice
                clear hbz hxz hsz hkz hlt1 hlt2 hg3z
                have HCJ := Lib.hid (And.intro H1Z.out H2Z.out)
                refine ⟨HCJ.out, ?_⟩
                try simp only [Act.put, List.setIfInBounds_toArray, List.set_cons_succ, List.set_cons_zero]
                refine Agg.held_take 18 (.int .i64 0) rfl (by kernel_rfl) (fun _ _ _ h => h) rfl (fun W _ => by kernel_rfl) (by assumption) ?_
                try simp only [Act.put, List.setIfInBounds_toArray, List.set_cons_succ, List.set_cons_zero]
                refine Agg.held_end (by kernel_rfl) ?_
                refine ⟨b3, vi, vr, H1Z.out, H2Z.out, HBZ.out, HIZ.out, HRZ.out, HXZ.out, ?_⟩
                simp only [Agg.ExPut, Act.put, List.setIfInBounds_toArray, List.set_cons_succ, List.set_cons_zero]
                exact ⟨_, _, _, _, _, _, _, _, _, _, _, _, _, _, _, _, rfl⟩
              exact AllReadyH.nil
            exact AllReadyH.nil
          exact AllReadyH.nil
        exact AllReadyH.nil
      exact AllReadyH.nil
    exact AllReadyH.nil
  rintro a' w6 ⟨b3, vi, vr, h1, h2, h3, hi, hr, hx, hput⟩
  simp only [Agg.ExPut] at hput
  obtain ⟨x13, x14, x15, x16, x17, x18, x19, x20, x21, x22, x23, x24, x25, x26, x27, x28, rfl⟩ := hput
  simp only [Act.put, List.setIfInBounds_toArray, List.set_cons_succ, List.set_cons_zero]
  have HA6 := Lib.hid h1
  have HP6 := Lib.hid h2
  have HB6 := Lib.hid h3
  have HI6 := Lib.hid hi
  have HR6 := Lib.hid hr
  have HX6 := Lib.hid hx
  have HLP := Lib.hid (h2.loads (P := Try.prog) pC_under rfl (pC_info _ _ (pOne 1 112).2))
  clear h1 h2 h3 hi hr hx
  go_wp2_with (first | (with_reducible refine Agg.wpList_loadL HLP.out rfl _ rfl rfl ?_) | (with_reducible refine Agg.wpList_build1 56 0 _ rfl rfl (.agg (pC (pOne 1 112).1.1 (pOne 1 112).1.2)) rfl (.agg (iC i2)) build_i2 ?_) | (with_reducible refine Agg.wpList_build2 58 0 _ 1 _ rfl rfl (.string ⟨#[120]⟩) (.agg (iC i2)) rfl rfl (.agg (nmC n2)) build_n2 ?_) | (refine Agg.wpList_slice1 (E := ENm) (base := w6.heap.size) rfl _ rfl n2 rfl (Nat.le_refl _) ?_; intro u3 w7 hu hx7; obtain ⟨pu, cu, hfu⟩ := hu.slice.form; have HBD := Lib.hid (fun W => (show (Instr.build 25 #[(0, .string ⟨#[97]⟩), (1, u3)]).run Try.prog W = .ok (.agg #[.string ⟨#[97]⟩, u3, .slice none 0 0]) W by rw [hfu]; exact build_dv _ _ _ _)); have HN7 := Lib.hid hu.slice; have HX7 := Lib.hid (Agg.belowThen HX6.out (Nat.le_refl _) hx7); have HL7 := Lib.hid hx7; clear hu hx7 hfu) | (with_reducible refine Agg.wpList_build2 25 0 _ 1 _ rfl rfl (.string ⟨#[97]⟩) u3 rfl rfl (.agg #[.string ⟨#[97]⟩, u3, .slice none 0 0]) HBD.out ?_))
  refine (rof2_any _ (.slice none 0 0) d2 [] (by decide) (by decide) (by decide) w7 ⟨u3, .slice none 0 0, rfl, HN7.out, SliceOf.nil _ _ _⟩ (SliceOf.nil _ _ _)).mono ?_
  rw [of2]
  rintro e w8 ⟨ui, ur, rfl, hi, hr, hx⟩
  have hx8 := Agg.belowThen HL7.out (Nat.le_refl _) hx
  have HUI := Lib.hid hi.slice
  have HUR := Lib.hid hr.slice
  have HB8 := Lib.hid (HB6.out.below hx8)
  have HP8 := Lib.hid (HP6.out.below hx8)
  have HI8 := Lib.hid (SliceOf.below HI6.out hx8)
  have HR8 := Lib.hid (SliceOf.below HR6.out hx8)
  have HX8 := Lib.hid (Agg.belowThen HX7.out (Nat.le_refl _) hx)
  clear hi hr hx hx8
  go_wp2_with (first | (refine Agg.wpList_new rfl rfl rfl 33 5 36 rfl rfl rfl (by decide) (rsC [] (.slice none 0 0) (.slice none 0 0)) (rsC r1.1 ui ur) rsC_zero (rsC_ss _ _ _ _ _ _) (rsC_info _ _ _) (rsC_one _ HUI.out HUR.out) rfl (by simp [Act.put]) ?_; intro b5 w9 hb hx hg; have HC9 := Lib.hid hb; have HB9 := Lib.hid (HB8.out.below hx); have HP9 := Lib.hid (HP8.out.below hx); have HI9 := Lib.hid (SliceOf.below HI8.out hx); have HR9 := Lib.hid (SliceOf.below HR8.out hx); have HUI9 := Lib.hid (SliceOf.below HUI.out hx); have HUR9 := Lib.hid (SliceOf.below HUR.out hx); have HX9 := Lib.hid (Agg.belowThen HX8.out (Nat.le_refl _) hx); have HL9 := Lib.hid (RvB.of_blk HB9.out).all; clear hb hx hg) | (with_reducible refine Agg.wpList_loadL HL9.out rfl _ rfl rfl ?_))
  obtain ⟨kk, hkk⟩ : ∃ q, tagL tKey r1 = q := ⟨_, rfl⟩
  have hkl : kk.length = 20 := by rw [← hkk]; exact tagL_length _ _
  have HKN := Lib.hid (show kk ≠ z20 by rw [← hkk]; exact key1)
  have HKY := Lib.hid (fun (v : Value) (W : World) (h : RvAt W v r1) => rkey_any v r1 (by decide) W h)
  have he1 : errRv r1 = 0 := by simp [errRv, can1]
  rw [hkk, he1] at HKY
  clear hkk he1
  refine (HKY.out _ w9 ⟨vi, vr, rfl, HI9.out, HR9.out⟩).mono ?_
  rintro e wa ⟨rfl, hx⟩
  have HCa := Lib.hid (HC9.out.below hx)
  have HBa := Lib.hid (HB9.out.below hx)
  have HPa := Lib.hid (HP9.out.below hx)
  have HIa := Lib.hid (SliceOf.below HI9.out hx)
  have HUIa := Lib.hid (SliceOf.below HUI9.out hx)
  have HURa := Lib.hid (SliceOf.below HUR9.out hx)
  have HXa := Lib.hid (Agg.belowThen HX9.out (Nat.le_refl _) hx)
  clear hx
  go_wp2_with (first | (refine Agg.wpList_new rfl rfl rfl 45 7 41 rfl rfl rfl (by decide) (hC z20) (hC kk) hash_zero2 (by rw [hC_size, hC_size, hkl, z20_length]) (hash_info1 _ hkl) (hC_one1 _) rfl (by simp [Act.put]) ?_; intro b7 wb hb hx hg; have HKb := Lib.hid hb; have HCb := Lib.hid (HCa.out.below hx); have HBb := Lib.hid (HBa.out.below hx); have HPb := Lib.hid (HPa.out.below hx); have HIb := Lib.hid (SliceOf.below HIa.out hx); have HUIb := Lib.hid (SliceOf.below HUIa.out hx); have HURb := Lib.hid (SliceOf.below HURa.out hx); have HXb := Lib.hid (Agg.belowThen HXa.out (Nat.le_refl _) hx); have HLb := Lib.hid (RvB.of_blk HCb.out).all; clear hb hx hg) | (with_reducible refine Agg.wpList_loadL HLb.out rfl _ rfl rfl ?_))
  refine (HKY.out _ wb ⟨ui, ur, rfl, HUIb.out, HURb.out⟩).mono ?_
  rintro e wc ⟨rfl, hx⟩
  have HKc := Lib.hid (HKb.out.below hx)
  have HCc := Lib.hid (HCb.out.below hx)
  have HBc := Lib.hid (HBb.out.below hx)
  have HPc := Lib.hid (HPb.out.below hx)
  have HIc := Lib.hid (SliceOf.below HIb.out hx)
  have HUIc := Lib.hid (SliceOf.below HUIb.out hx)
  have HXc := Lib.hid (Agg.belowThen HXb.out (Nat.le_refl _) hx)
  clear hx
  go_wp2_with (first | (refine Agg.wpList_new rfl rfl rfl 45 9 46 rfl rfl rfl (by decide) (hC z20) (hC kk) hash_zero2 (by rw [hC_size, hC_size, hkl, z20_length]) (hash_info1 _ hkl) (hC_one1 _) rfl (by simp) ?_; intro b9 wd hb hx hg; have HLH9 := Lib.hid (hb.loads (P := Try.prog) Try.underlying45 rfl (hash_info1 _ hkl)); have HLH7 := Lib.hid ((HKc.out.below hx).loads (P := Try.prog) Try.underlying45 rfl (hash_info1 _ hkl)); have HLI5 := Lib.hid (RvB.of_blk (HCc.out.below hx)).inp; have HLI3 := Lib.hid (RvB.of_blk (HBc.out.below hx)).inp; have HLP2 := Lib.hid ((HPc.out.below hx).loads (P := Try.prog) pC_under rfl (pC_info _ _ (pOne 1 112).2)); have HId := Lib.hid (SliceOf.below HIc.out hx); have HUId := Lib.hid (SliceOf.below HUIc.out hx); have HXd := Lib.hid (Agg.belowThen HXc.out (Nat.le_refl _) hx); clear hb hx hg))
  obtain ⟨p3, hadr3, hld3, hrl3⟩ := ri_at HId.out 0 x1 rfl
  obtain ⟨p5, hadr5, hld5, _⟩ := ri_at HUId.out 0 x1 rfl
  have hln := ris_len HId.out
  have hia3 : ∀ W, (Instr.indexAt 31 vi (.int .i64 0)).run Try.prog W = .ok (.pointer (some p3)) W := hadr3
  have hia5 : ∀ W, (Instr.indexAt 31 ui (.int .i64 0)).run Try.prog W = .ok (.pointer (some p5)) W := hadr5
  have hln1 : ∀ W, (Builtin.len_ #[31] 3 #[vi]).run Try.prog W = .ok (.int .i64 1) W := hln
  have HLX3 := Lib.hid hld3
  have HLX5 := Lib.hid hld5
  have HLP3 := Lib.hid (show LoadsL Try.prog wd 47 (some (p3.add 1)) (.agg (pC (pOne 1 112).1.1 (pOne 1 112).1.2)) from hrl3.path)
  have HEQP := Lib.hid (fun W => (show (binOp .eql 47 (.agg (pC (pOne 1 112).1.1 (pOne 1 112).1.2)) (.agg (pC (pOne 1 112).1.1 (pOne 1 112).1.2))).run Try.prog W = .ok (.bool true) W by rw [eqlPB]; simp))
  have HEQX := Lib.hid eql_x1
  have HEQH := Lib.hid (fun W => (show (binOp .eql 45 (.agg (hC kk)) (.agg (hC kk))).run Try.prog W = .ok (.bool true) W by have := eqlHB ⟨kk, hkl⟩ ⟨kk, hkl⟩ W; simpa using this))
  have HNEH := Lib.hid (fun W => (show (binOp .neq 45 (.agg (hC kk)) (.agg (hC z20))).run Try.prog W = .ok (.bool true) W by have := neqH ⟨kk, hkl⟩ ⟨z20, rfl⟩ W; rw [this]; simp [Subtype.ext_iff, HKN.out]))
  have HBZ0 := Lib.hid (fun W => (by kernel_rfl : (Instr.build 45 #[]).run Try.prog W = .ok (.agg (hC z20)) W))
  clear hadr3 hadr5 hld3 hld5 hrl3 hln
  try simp only [Act.put, List.setIfInBounds_toArray, List.set_cons_succ, List.set_cons_zero]
  refine Agg.wp_region_later_lit (by kernel_rfl) (by kernel_rfl) ?_
  repeat (first | go_big_quiet_skip | ((first | (with_reducible refine Agg.wpQuiet_loadL HLI3.out rfl _ rfl rfl ?_) | (with_reducible refine Agg.wpQuiet_loadL HLI5.out rfl _ rfl rfl ?_) | (with_reducible refine Agg.wpQuiet_loadL HLP3.out rfl _ rfl rfl ?_) | (with_reducible refine Agg.wpQuiet_loadL HLP2.out rfl _ rfl rfl ?_) | (with_reducible refine Agg.wpQuiet_loadL HLX5.out rfl _ rfl rfl ?_) | (with_reducible refine Agg.wpQuiet_loadL HLX3.out rfl _ rfl rfl ?_) | (with_reducible refine Agg.wpQuiet_loadL HLH7.out rfl _ rfl rfl ?_) | (with_reducible refine Agg.wpQuiet_loadL HLH9.out rfl _ rfl rfl ?_) | (with_reducible refine Agg.wpQuiet_eql rfl 47 47 _ _ rfl (pC (pOne 1 112).1.1 (pOne 1 112).1.2) (pC (pOne 1 112).1.1 (pOne 1 112).1.2) rfl rfl true (by kernel_rfl) HEQP.out ?_) | (with_reducible refine Agg.wpQuiet_eql rfl 49 49 _ _ rfl (riC x1) (riC x1) rfl rfl true (by kernel_rfl) HEQX.out ?_) | (with_reducible refine Agg.wpQuiet_eql rfl 45 45 _ _ rfl (hC kk) (hC kk) rfl rfl true (by kernel_rfl) HEQH.out ?_) | (with_reducible refine Agg.wpQuiet_build0 45 rfl rfl (.agg (hC z20)) HBZ0.out ?_) | (with_reducible refine Agg.wpQuiet_neq 45 45 _ _ rfl rfl (hC kk) (hC z20) rfl rfl (true) (by kernel_rfl) HNEH.out ?_)); simp only [Act.put, List.setIfInBounds_toArray, List.set_cons_succ, List.set_cons_zero]) | go_big_quiet_step (fail))
  refine wpQuiet_nil ?_
  intro _ hw'
  obtain ⟨xx, rfl⟩ := hw'
  go_wp2_with fail
  go_ret
  exact ⟨rfl, Agg.belowThen HXd.out (Nat.le_refl _) xx.h⟩
end Go.Proofs.Ytgekpghjlhcpkaa
