/- spencekit.SamePaths. (Several texts in one.) -/
import Derived.Test.YtniibcgomnjfgaaGreatVAV
import Derived.Test.YtniibcgomnjfgaaGreatVBF
import Derived.Test.YtniibcgomnjfgaaGreatVAL
import Derived.Test.YtniibcgomnjfgaaGreatVAS
import Derived.Test.YtniibcgomnjfgaaGreatVAU
import Derived.Test.YtniibcgomnjfgaaGreatVAJ
import Derived.Test.YtniibcgomnjfgaaGreatVAG
/-! spencelaw22.awake: the chapter's example. -/
namespace Go.Proofs.YtniibcgomnjfgaaGreat
open Go.RowKit Pl Go.Agg
theorem build_h0B (w : World) : (Instr.build 24 #[(0, .int .u8 0)]).run Tryz.prog w = .ok (.agg (hC z20)) w := by kernel_rfl
theorem build_pxB (w : World) : (Instr.build 26 #[(1, .string ⟨#[120]⟩)]).run Tryz.prog w = .ok (.agg (pC z20 [120])) w := by kernel_rfl
theorem build_xB (w : World) : (Instr.build 29 #[(0, .agg (hC z20)), (1, .agg (hC z20)), (2, .agg (pC z20 [120])), (3, .int .i64 3)]).run Tryz.prog w = .ok (.agg (bC xV)) w := by kernel_rfl
set_option maxRecDepth 100000 in
set_option maxHeartbeats 4000000 in
theorem built22_ex (w : World) : Calls Tryz.prog 30 #[.int .i64 0, .int .i64 0, .int .i64 3] w fun e w' => e = .returned (.agg (bC xV)) ∧ Below w.heap.size w w' := by
  go_enter Tryz.func30, Tryz.ntmps30
  go_wp2_with (first | (with_reducible refine wpList_zero rfl 29 rfl (bC (zB, none, 0, 0)) bC_zero ?_; intro g1 w1 hb1 hx1 hg1; have HB1 := Lib.hid hb1; have HX1 := Lib.hid hx1; have HG1 := Lib.hid hg1; clear hb1 hx1 hg1) | (with_reducible refine Agg.wpList_build rfl 24 _ rfl (.agg (hC z20)) #[(0, .int .u8 0)] (by kernel_rfl) (build_h0B _) ?_) | (with_reducible refine Agg.wpList_build rfl 26 _ rfl (.agg (pC z20 [120])) #[(1, .string ⟨#[120]⟩)] (by kernel_rfl) (build_pxB _) ?_) | (with_reducible refine Agg.wpList_build rfl 29 _ rfl (.agg (bC xV)) #[(0, .agg (hC z20)), (1, .agg (hC z20)), (2, .agg (pC z20 [120])), (3, .int .i64 3)] (by kernel_rfl) (build_xB _) ?_) | ((with_reducible refine wpList_put rfl rfl 29 _ _ rfl g1 (bC xV) (bC (zB, none, 0, 0)) rfl rfl HB1.out (bC_info _) (by rw [bC_size, bC_size]) (bC_one _) ?_); intro w2 hb2 hx2 hs2 _; have HB2 := Lib.hid hb2; have HX2 := Lib.hid (HX1.out.trans (hx2.mono HG1.out)); clear hb2 hx2 hs2))
  exact post_row rfl rfl HB2.out bC_under rfl (bC_info _) rfl ⟨rfl, HX2.out⟩
section
variable {ops : Array Oper} {o : Oper} {a : Act} {w : World} {Q : Exit → Act → World → Prop} {K : Act → World → Prop} {F : Prop}
theorem step_make20 (hg : o.guard = none) (x y : Operand) (ho : o.op = .makeSlice 55 x y) (hx : a.eval x = .int .i64 20) (hy : a.eval y = .int .i64 20)
    (h : ∀ v' w', Own EB w.heap.size w' v' (List.replicate 20 0) → Below w.heap.size w w' → K (a.put o.dst v') w') : if Region.wanted o (yielded ops a.tmps) = true then o.wp Tryz.prog a w K Q else F := by
  have hb : (Instr.makeSlice 55 (.int .i64 20) (.int .i64 20)).run Tryz.prog w = .ok (.slice (some ⟨w.heap.size, 0, none⟩) 20 20) (w.alloc (.cells (Lib.byteCells (List.replicate 20 0)).toArray 5)) := by kernel_rfl
  refine step_val hg (v := .slice (some ⟨w.heap.size, 0, none⟩) 20 20) (w' := w.alloc (.cells (Lib.byteCells (List.replicate 20 0)).toArray 5)) (by simp [execOp, ho, hx, hy, hb]) (h _ _ ⟨EB.flat_length _, .inr ⟨_, 20, _, rfl, Nat.le_refl _, heap_alloc_new w _, Nat.le_refl _, by unfold maxLen; omega, rfl, ?_⟩⟩ ((Below.refl _ _).alloc (Nat.le_refl _) _))
  rw [flat_bytes]; rfl
theorem step_bytes3 (hg : o.guard = none) (x y z : Operand) (ho : o.op = .buildSlice 55 3 #[(0, x), (1, y), (2, z)]) (p q r : UInt8) (hx : a.eval x = EB.val p) (hy : a.eval y = EB.val q) (hz : a.eval z = EB.val r)
    (h : ∀ v' w', BytesAt w' v' [p, q, r] → Below w.heap.size w w' → K (a.put o.dst v') w') : if Region.wanted o (yielded ops a.tmps) = true then o.wp Tryz.prog a w K Q else F := by
  have hb : (Instr.buildSlice 55 3 #[(0, EB.val p), (1, EB.val q), (2, EB.val r)]).run Tryz.prog w = .ok (.slice (some ⟨w.heap.size, 0, none⟩) 3 3) (w.alloc (.cells #[EB.val p, EB.val q, EB.val r] 5)) := by kernel_rfl
  have hB := Blk.new w 5 #[EB.val p, EB.val q, EB.val r]
  refine step_val hg (v := .slice (some ⟨w.heap.size, 0, none⟩) 3 3) (w' := w.alloc (.cells #[EB.val p, EB.val q, EB.val r] 5)) (by simp [execOp, ho, hx, hy, hz, hb]) (h _ _ (.inr ⟨_, 3, rfl, hB.lt, fun j u hj => ?_⟩) ((Below.refl _ _).alloc (Nat.le_refl _) _))
  have e : EB.flat [p, q, r] = (#[EB.val p, EB.val q, EB.val r] : Array Value).toList := rfl
  rw [e] at hj
  rw [add_plain, Nat.zero_add, hB.cell, ← Array.getElem?_toList]; exact hj
end
theorem row_key {w : World} {b : Nat} {k : List UInt8} {v : Value} (h : Blk w b 57 (rowC k v)) : LoadsL Tryz.prog w 9 (some ⟨b, 0, none⟩) (.string ⟨k.toArray⟩) := h.one 0 rfl Tryz.underlying9 rfl
set_option maxRecDepth 100000 in
set_option maxHeartbeats 8000000 in
theorem awake22_any (w : World) : Calls Tryz.prog 6 #[] w fun e w' => e = .returned (.bool true) ∧ Below w.heap.size w w' := by
  have HES := Lib.hid (enters_of Tryz.func31 (by kernel_rfl) rfl : ∀ args w, (callFunc 31 args).run Tryz.prog w = .ok (.enter 31 args) w)
  have HE1 := Lib.hid (show encN 1 = [1] from encN_lt (by omega))
  have HE0 := Lib.hid (show encN 0 = [0] from encN_lt (by omega))
  have HEQ := Lib.hid (show ((([] ++ z20) ++ (encN ([120] : List UInt8).length ++ [120])) ++ ([0] : List Nat).flatMap encN) = List.replicate 20 0 ++ [1, 120, 0] by simp [HE1.out, HE0.out]; rfl)
  have hlen : ∀ W, (Builtin.len_ #[9] 3 #[.string ⟨keyB.toArray⟩]).run Tryz.prog W = .ok (.int .i64 42) W := fun W => by kernel_rfl
  have hi0 : ∀ W, (Instr.index 9 (.string ⟨keyB.toArray⟩) (.int .i64 0)).run Tryz.prog W = .ok (.int .u8 98) W := fun W => by kernel_rfl
  have hi1 : ∀ W, (Instr.index 9 (.string ⟨keyB.toArray⟩) (.int .i64 1)).run Tryz.prog W = .ok (.int .u8 0) W := fun W => by kernel_rfl
  have hi41 : ∀ W, (Instr.index 9 (.string ⟨keyB.toArray⟩) (.int .i64 41)).run Tryz.prog W = .ok (.int .u8 3) W := fun W => by kernel_rfl
  go_enter Tryz.func6, Tryz.ntmps6
  go_wp2_with fail
  refine (built22_ex w).mono ?_
  rintro e w1 ⟨rfl, hx1⟩
  have HX1 := Lib.hid hx1
  clear hx1
  go_wp2_with fail
  refine (put22_ex w1).mono ?_
  rintro e w3 ⟨v3, rfl, hv3, hx3⟩
  have HV3 := Lib.hid hv3
  obtain ⟨p3, n3, c3, rfl⟩ : ∃ p n c, v3 = .slice p n c := (by obtain ⟨p, c, h⟩ := hv3.form; exact ⟨p, _, c, h⟩)
  have HX3 := Lib.hid (Agg.belowThen HX1.out (Nat.le_refl _) hx3)
  clear hx3 hv3
  go_wp2_with (first | (refine wpList_new rfl rfl rfl 57 1 6 rfl rfl rfl (by decide) (rowC [] (.slice none 0 0)) (rowC keyB (.slice p3 n3 c3)) (by kernel_rfl) rfl (row_info _ _) (row_one _ _ _ _) rfl (by simp [Act.put]) ?_; intro b5 w5 hb5 hx5 hg5; have HR5 := Lib.hid hb5; have HV5 := Lib.hid (HV3.out.below hx5); have HX5 := Lib.hid (Agg.belowThen HX3.out (Nat.le_refl _) hx5); have HKL := Lib.hid (row_key hb5); clear hb5 hx5 hg5) | (with_reducible refine wpList_loadL HKL.out rfl _ rfl rfl ?_))
  try simp only [Act.put, List.setIfInBounds_toArray, List.set_cons_succ, List.set_cons_zero]
  obtain ⟨v3, hv3⟩ : ∃ v, v = Value.slice p3 n3 c3 := ⟨_, rfl⟩
  rw [← hv3] at HR5 HV5
  clear HV3 hv3
  obtain ⟨w0, hw0⟩ : ∃ W, W = w5.drew := ⟨_, rfl⟩
  have hd : Below w5.heap.size w5 w0 := by rw [hw0]; exact (Below.refl _ _).drew
  have HR0 := Lib.hid (HR5.out.below hd)
  have HRL := Lib.hid HR0.out.lt
  have HV0 := Lib.hid (HV5.out.below hd)
  have HX0 := Lib.hid (Below.refl w0.heap.size w0)
  have HW0 := Lib.hid (Agg.belowThen HX5.out (Nat.le_refl _) hd)
  refine wp_region_held_drew (S := fun W => Blk W b5 57 (rowC keyB v3)) (by kernel_rfl) (by rw [← hw0]; exact HR0.out) (fun hHeld => ?_)
  rw [← hw0] at hHeld ⊢
  clear hw0 hd
  refine Agg.held_take 0 (.pointer (some ⟨b5, 1, none⟩)) rfl (by kernel_rfl) (fun _ _ _ h => h) rfl (fun W _ => by kernel_rfl) (by assumption) ?_
  try simp only [Act.put, List.setIfInBounds_toArray, List.set_cons_succ, List.set_cons_zero]
  refine Agg.held_take 1 (v3) rfl (by kernel_rfl) (fun _ _ _ h => h) rfl (fun W hS => exec_loadB rfl rfl (hS.one (ty := 55) 1 rfl (by kernel_rfl : Tryz.prog.underlying 55 = some (.slice 5)) rfl).now) (by assumption) ?_
  try simp only [Act.put, List.setIfInBounds_toArray, List.set_cons_succ, List.set_cons_zero]
  refine Agg.held_ready [2, 3] (by kernel_rfl) (by simp) ?_
  refine Agg.held_cons rfl ?_ ?_
  · refine step_make20 rfl _ _ rfl rfl rfl ?_
    intro u2 w_2 ho hx
    have HO_2 := Lib.hid (ho.lower HX0.out.size)
    have HR_2 := Lib.hid (HR0.out.below hx)
    have HX_2 := Lib.hid (Agg.belowThen HX0.out (Nat.le_refl _) hx)
    have HV_2 := Lib.hid (HV0.out.below hx)
    clear ho hx
    refine ⟨HR_2.out, ?_⟩
    try simp only [Act.put, List.setIfInBounds_toArray, List.set_cons_succ, List.set_cons_zero]
    refine Agg.held_ready [3] (by kernel_rfl) (by simp) ?_
    refine Agg.held_cons rfl ?_ ?_
    · refine step_bytes3 rfl _ _ _ rfl 1 120 0 rfl rfl rfl ?_
      intro u3 w_2_3 hs hx
      have HS_2_3 := Lib.hid hs
      have HR_2_3 := Lib.hid (HR_2.out.below hx)
      have HX_2_3 := Lib.hid (Agg.belowThen HX_2.out (Nat.le_refl _) hx)
      have HV_2_3 := Lib.hid (HV_2.out.below hx)
      have HO_2_3 := Lib.hid (HO_2.out.below hx)
      clear hs hx
      refine ⟨HR_2_3.out, ?_⟩
      try simp only [Act.put, List.setIfInBounds_toArray, List.set_cons_succ, List.set_cons_zero]
      refine Agg.held_ready [4] (by kernel_rfl) (by simp) ?_
      refine Agg.held_cons rfl ?_ ?_
      · refine step_appendS (E := EB) (base := w0.heap.size) rfl _ _ rfl u3 rfl rfl [1, 120, 0] HO_2_3.out HS_2_3.out (by simp) (by decide) HX_2_3.out.size ?_
        intro u4 w_2_3_4 ho hp
        have hx := hp.below w0.heap.size (Nat.le_refl _) HX_2_3.out.size
        have HA_2_3_4 := Lib.hid ho.slice
        have HR_2_3_4 := Lib.hid (HR_2_3.out.belowAt hx HRL.out)
        have HX_2_3_4 := Lib.hid (HX_2_3.out.trans hx)
        have HV_2_3_4 := Lib.hid (HV0.out.below HX_2_3_4.out)
        clear ho hp hx
        refine ⟨HR_2_3_4.out, ?_⟩
        try simp only [Act.put, List.setIfInBounds_toArray, List.set_cons_succ, List.set_cons_zero]
        refine Agg.held_ready [5] (by kernel_rfl) (by simp) ?_
        refine Agg.held_cons rfl ?_ ?_
        · refine Agg.step_call rfl 31 _ _ rfl #[v3, u4] (by simp only [List.map_toArray, List.map_cons, List.map_nil]; rfl) (fun W => HES.out _ W) ?_
          refine (sameBytes_any v3 u4 _ _ (by rw [HEQ.out]; decide) (by decide) _ HV_2_3_4.out HA_2_3_4.out).mono ?_
          rintro x w9 ⟨rfl, hx⟩
          have HR9 := Lib.hid (HR_2_3_4.out.below hx)
          have HX9 := Lib.hid (Agg.belowThen HX_2_3_4.out (Nat.le_refl _) hx)
          clear hx
          refine ⟨.bool true, by rw [HEQ.out]; exact ret_bool (decide_eq_true rfl), ?_⟩
          refine ⟨HR9.out, ?_⟩
          try simp only [Act.put, List.setIfInBounds_toArray, List.set_cons_succ, List.set_cons_zero]
          refine Agg.held_take 6 (.bool true) rfl (by kernel_rfl) (fun _ _ _ h => h) rfl (fun W _ => by kernel_rfl) (by assumption) ?_
          try simp only [Act.put, List.setIfInBounds_toArray, List.set_cons_zero]
          refine Agg.held_end (by kernel_rfl) ?_
          go_wp2_with fail
          go_ret
          exact ⟨rfl, HW0.out.trans (HX9.out.mono HW0.out.size)⟩
        exact AllReadyH.nil
      exact AllReadyH.nil
    exact AllReadyH.nil
  refine Agg.held_cons rfl ?_ ?_
  · refine step_bytes3 rfl _ _ _ rfl 1 120 0 rfl rfl rfl ?_
    intro u3 w_3 hs hx
    have HS_3 := Lib.hid hs
    have HR_3 := Lib.hid (HR0.out.below hx)
    have HX_3 := Lib.hid (Agg.belowThen HX0.out (Nat.le_refl _) hx)
    have HV_3 := Lib.hid (HV0.out.below hx)
    clear hs hx
    refine ⟨HR_3.out, ?_⟩
    try simp only [Act.put, List.setIfInBounds_toArray, List.set_cons_succ, List.set_cons_zero]
    refine Agg.held_ready [2] (by kernel_rfl) (by simp) ?_
    refine Agg.held_cons rfl ?_ ?_
    · refine step_make20 rfl _ _ rfl rfl rfl ?_
      intro u2 w_2_3 ho hx
      have HO_2_3 := Lib.hid (ho.lower HX_3.out.size)
      have HR_2_3 := Lib.hid (HR_3.out.below hx)
      have HX_2_3 := Lib.hid (Agg.belowThen HX_3.out (Nat.le_refl _) hx)
      have HV_2_3 := Lib.hid (HV_3.out.below hx)
      have HS_2_3 := Lib.hid (HS_3.out.below hx)
      clear ho hx
      refine ⟨HR_2_3.out, ?_⟩
      try simp only [Act.put, List.setIfInBounds_toArray, List.set_cons_succ, List.set_cons_zero]
      refine Agg.held_ready [4] (by kernel_rfl) (by simp) ?_
      refine Agg.held_cons rfl ?_ ?_
      · refine step_appendS (E := EB) (base := w0.heap.size) rfl _ _ rfl u3 rfl rfl [1, 120, 0] HO_2_3.out HS_2_3.out (by simp) (by decide) HX_2_3.out.size ?_
        intro u4 w_2_3_4 ho hp
        have hx := hp.below w0.heap.size (Nat.le_refl _) HX_2_3.out.size
        have HA_2_3_4 := Lib.hid ho.slice
        have HR_2_3_4 := Lib.hid (HR_2_3.out.belowAt hx HRL.out)
        have HX_2_3_4 := Lib.hid (HX_2_3.out.trans hx)
        have HV_2_3_4 := Lib.hid (HV0.out.below HX_2_3_4.out)
        clear ho hp hx
        refine ⟨HR_2_3_4.out, ?_⟩
        try simp only [Act.put, List.setIfInBounds_toArray, List.set_cons_succ, List.set_cons_zero]
        refine Agg.held_ready [5] (by kernel_rfl) (by simp) ?_
        refine Agg.held_cons rfl ?_ ?_
        · refine Agg.step_call rfl 31 _ _ rfl #[v3, u4] (by simp only [List.map_toArray, List.map_cons, List.map_nil]; rfl) (fun W => HES.out _ W) ?_
          refine (sameBytes_any v3 u4 _ _ (by rw [HEQ.out]; decide) (by decide) _ HV_2_3_4.out HA_2_3_4.out).mono ?_
          rintro x w9 ⟨rfl, hx⟩
          have HR9 := Lib.hid (HR_2_3_4.out.below hx)
          have HX9 := Lib.hid (Agg.belowThen HX_2_3_4.out (Nat.le_refl _) hx)
          clear hx
          refine ⟨.bool true, by rw [HEQ.out]; exact ret_bool (decide_eq_true rfl), ?_⟩
          refine ⟨HR9.out, ?_⟩
          try simp only [Act.put, List.setIfInBounds_toArray, List.set_cons_succ, List.set_cons_zero]
          refine Agg.held_take 6 (.bool true) rfl (by kernel_rfl) (fun _ _ _ h => h) rfl (fun W _ => by kernel_rfl) (by assumption) ?_
          try simp only [Act.put, List.setIfInBounds_toArray, List.set_cons_zero]
          refine Agg.held_end (by kernel_rfl) ?_
          go_wp2_with fail
          go_ret
          exact ⟨rfl, HW0.out.trans (HX9.out.mono HW0.out.size)⟩
        exact AllReadyH.nil
      exact AllReadyH.nil
    exact AllReadyH.nil
  exact AllReadyH.nil
end Go.Proofs.YtniibcgomnjfgaaGreat
/-! spencekit.PathsOf; the plain laws of what is kept. -/
namespace Go.Proofs.YtniibcgomnjfgaaGreat
open Go.RowKit Pl Go.Agg
set_option maxRecDepth 100000 in
set_option maxHeartbeats 4000000 in
theorem pathsOf_any (v : Value) (l : List P20) (hl : l.length ≤ 1048576) (hni : ∀ x ∈ l, x.1.2.length ≤ 1048576) (w : World) (hs : ElemsAt w v l) :
    Calls Tryz.prog 5 #[v, .int .i64 2000] w fun e w' => ∃ n : Nat, e = .returned (.int .i64 (n : Int)) ∧ Below w.heap.size w w' := by
  have HS := Lib.hid hs
  have HNI := Lib.hid hni
  have hlv := fun W => elems_len hs W
  clear hs hni
  go_enter Tryz.func5, Tryz.ntmps5
  go_wp2_with fail
  go_loopw [5, 6] (fun n i wr => ∃ k N : Nat, k ≤ l.length ∧ N ≤ 2000000 ∧ n = .int .i64 (N : Int) ∧ i = .int .i64 (k : Int) ∧ Below w.heap.size w wr) (fun _ i _ => l.length - (intOf i).toNat)
  case atStart => exact ⟨0, 0, by omega, by omega, rfl, rfl, Below.refl _ _⟩
  case round =>
    obtain ⟨wr1, rfl⟩ : ∃ y : World, y = wr := ⟨_, rfl⟩
    obtain ⟨k, N, hk, hN, rfl, rfl, hw⟩ := hrel
    have HW := Lib.hid hw
    clear hw
    by_cases hlt : k < l.length
    · have hd : decide ((k : Int) < (l.length : Int)) = true := by simp; omega
      by_cases hN2 : N ≤ 2000
      · have hd2 : decide ((N : Int) ≤ 2000) = true := by simp; omega
        obtain ⟨x, hxk⟩ : ∃ x, l[k]? = some x := ⟨_, List.getElem?_eq_getElem hlt⟩
        obtain ⟨q, hadr, _, hq⟩ := elem_at (HS.out.below HW.out) k x hxk
        have h1 := HNI.out x (List.mem_of_getElem? hxk)
        have HQ := Lib.hid hq
        have hsz := Agg.bytes_size x.1.2
        clear hq hxk
        go_wp2_with (first | (with_reducible refine wpList_loadL HQ.out rfl _ rfl rfl ?_))
        go_roundw
        case rel => exact ⟨k + 1, N + 1 + x.1.2.length, by omega, by omega, by go_num, by go_num, HW.out⟩
        case measure => simp [intOf]; omega
      · have hd2 : decide ((N : Int) ≤ 2000) = false := by simp; omega
        go_wp2_with fail
        go_ret
        exact ⟨N, rfl, HW.out⟩
    · obtain rfl : k = l.length := by omega
      go_wp2_with fail
      go_ret
      exact ⟨N, rfl, HW.out⟩
/-! plain -/
theorem map_filterK {l : List Bu} (p : Bu → Bool) (h : Gr.MapP plOf ltPl rightBu l) : Gr.MapP plOf ltPl rightBu (l.filter p) := by
  rw [Gr.mapP_iff ltPl_ord] at h ⊢
  exact ⟨fun x hx => h.1 x (List.mem_filter.1 hx).1, List.Pairwise.filter _ h.2⟩
theorem rising_len : ∀ (R S : List P20), Rising R → (∀ q ∈ R, q ∈ S) → R.length ≤ S.length
  | [], _, _, _ => by simp
  | a :: t, S, hr, hm => by
    obtain ⟨h1, h2⟩ := List.pairwise_cons.1 hr
    have ha : a ∈ S := hm a (by simp)
    have h3 := rising_len t (S.erase a) h2 fun q hq => by
      have hne : q ≠ a := fun e => by
        have := h1 q hq
        rw [e, lt20_irrefl] at this
        cases this
      exact (List.mem_erase_of_ne hne).2 (hm q (by simp [hq]))
    rw [List.length_erase_of_mem ha] at h3
    have h4 : 0 < S.length := List.length_pos_of_mem ha
    simp only [List.length_cons]
    omega
theorem kept_own {l : List BuV} {R : List P20} (hm : ∀ q, q ∈ R ↔ ∃ x ∈ l, x.1.pa = q) : (l.map (·.1)).filter (fun y => decide (y.pa ∈ R)) = l.map (·.1) := by
  rw [List.filter_eq_self]
  intro y hy
  obtain ⟨x, hx, rfl⟩ := List.mem_map.1 hy
  exact decide_eq_true ((hm _).2 ⟨x, hx, rfl⟩)
theorem kept_none {lz l : List BuV} (h : lz.map (·.1) = (l.map (·.1)).filter (fun y => decide (y.pa ∈ ([] : List P20)))) : lz = [] := by
  have : (l.map (·.1)).filter (fun y => decide (y.pa ∈ ([] : List P20))) = [] := by simp
  rw [this] at h
  exact List.map_eq_nil_iff.1 h
theorem kept_twice {l : List Bu} {p : Bu → Bool} : (l.filter p).filter p = l.filter p := by rw [List.filter_filter]; simp
theorem kept_le {lv l : List BuV} {p : Bu → Bool} (h : lv.map (·.1) = (l.map (·.1)).filter p) : lv.length ≤ l.length := by
  have := congrArg List.length h
  rw [List.length_map] at this
  rw [this]
  exact Nat.le_trans (List.length_filter_le _ _) (by simp)
theorem kept_in {lv l : List BuV} {p : Bu → Bool} (h : lv.map (·.1) = (l.map (·.1)).filter p) {x : BuV} (hx : x ∈ lv) : p x.1 = true ∧ ∃ z ∈ l, z.1 = x.1 := by
  have h1 : x.1 ∈ (l.map (·.1)).filter p := h ▸ List.mem_map.2 ⟨x, hx, rfl⟩
  obtain ⟨h2, h3⟩ := List.mem_filter.1 h1
  exact ⟨h3, List.mem_map.1 h2⟩
theorem kept_ins {lv l : List BuV} {p : Bu → Bool} (h : lv.map (·.1) = (l.map (·.1)).filter p) (hn : ∀ x ∈ l, x.1.ins.length ≤ 1048576) : ∀ x ∈ lv, x.1.ins.length ≤ 1048576 := fun x hx => by
  obtain ⟨_, z, hz, e⟩ := kept_in h hx
  rw [← e]; exact hn z hz
/-- how many up to a place are such -/
def cntK (p : Bu → Bool) (lv : List BuV) (k : Nat) : Nat := ((lv.map (·.1)).take k).countP p
theorem cntK_zero (p : Bu → Bool) (lv : List BuV) : cntK p lv 0 = 0 := rfl
theorem cntK_succ {p : Bu → Bool} {lv : List BuV} {y : BuV} {j : Nat} (hy : lv[j]? = some y) : cntK p lv (j + 1) = cntK p lv j + if p y.1 then 1 else 0 := by
  unfold cntK
  rw [List.take_add_one, List.getElem?_map, hy]
  simp [List.countP_append, List.countP_cons]
theorem cntK_le (p : Bu → Bool) (lv : List BuV) (j : Nat) : cntK p lv j ≤ lv.length := by
  unfold cntK
  exact Nat.le_trans List.countP_le_length (by simp; omega)
theorem cntK_all {p : Bu → Bool} {lv lc : List BuV} (h : lc.map (·.1) = (lv.map (·.1)).filter p) : cntK p lv lv.length = lc.length := by
  unfold cntK
  rw [List.take_of_length_le (by simp), List.countP_eq_length_filter, ← h, List.length_map]
/-- whether a path was seen up to a place -/
theorem mem_takeK {held : List P20} {x q : P20} {k : Nat} (h : held[k]? = some x) : decide (q ∈ held.take (k + 1)) = (decide (q ∈ held.take k) || decide (x = q)) := by
  rw [List.take_add_one, h, Bool.eq_iff_iff]
  simp only [Option.toList, List.mem_append, List.mem_singleton, decide_eq_true_eq, Bool.or_eq_true]
  constructor
  · rintro (h | h)
    · exact .inl h
    · exact .inr h.symm
  · rintro (h | h)
    · exact .inl h
    · exact .inr h.symm
end Go.Proofs.YtniibcgomnjfgaaGreat
/-! spencekit.SamePaths. -/
namespace Go.Proofs.YtniibcgomnjfgaaGreat
open Go.RowKit Pl Go.Agg
theorem ne_atP {a b : List P20} {k : Nat} {x y : P20} (hx : a[k]? = some x) (hy : b[k]? = some y) (h : ¬ x = y) : a ≠ b := by
  rintro rfl
  rw [hx] at hy
  exact h (Option.some.inj hy)
theorem take_succP {a b : List P20} {k : Nat} {x y : P20} (hx : a[k]? = some x) (hy : b[k]? = some y) (ht : a.take k = b.take k) (h : x = y) : a.take (k + 1) = b.take (k + 1) := by
  rw [List.take_add_one, List.take_add_one, hx, hy, ht, h]
set_option maxRecDepth 100000 in
set_option maxHeartbeats 1000000 in
theorem samePaths_any (v u : Value) (a b : List P20) (_ha : a.length ≤ 1048576) (hb : b.length ≤ 1048576) (w : World) (he : ElemsAt w v a) (hf : ElemsAt w u b) :
    Calls Tryz.prog 22 #[v, u] w fun e w' => e = .returned (.bool (decide (a = b))) ∧ Below w.heap.size w w' := by
  have hlv := fun W => elems_len he W
  have hlu := fun W => elems_len hf W
  have HE := Lib.hid he
  have HF := Lib.hid hf
  clear he hf
  by_cases hlen : a.length = b.length
  · have hne : ((a.length : Int) != (b.length : Int)) = false := by simp [hlen]
    have HLEN := Lib.hid hlen
    rw [hlen] at hlv hne
    clear hlen
    go_enter Tryz.func22, Tryz.ntmps22
    go_wp2_with fail
    go_loopw [5] (fun i wr => ∃ k : Nat, k ≤ b.length ∧ i = .int .i64 k ∧ a.take k = b.take k ∧ Below w.heap.size w wr) (fun i _ => b.length - (intOf i).toNat)
    case atStart => exact ⟨0, by omega, rfl, rfl, Below.refl _ _⟩
    case round =>
      obtain ⟨w1, rfl⟩ : ∃ w1 : World, w1 = wr := ⟨_, rfl⟩
      obtain ⟨k, hk, rfl, htk, hw⟩ := hrel
      have HTK := Lib.hid htk
      clear htk
      by_cases hlt : k < b.length
      · obtain ⟨y, hyk⟩ : ∃ y, b[k]? = some y := ⟨_, List.getElem?_eq_getElem hlt⟩
        obtain ⟨x, hxk⟩ : ∃ x, a[k]? = some x := ⟨_, List.getElem?_eq_getElem (by rw [HLEN.out]; exact hlt)⟩
        obtain ⟨p, hadr, hld, _⟩ := elem_at (HE.out.below hw) k x hxk
        obtain ⟨q, hadq, hlq, _⟩ := elem_at (HF.out.below hw) k y hyk
        have HLX := Lib.hid hld
        have HLY := Lib.hid hlq
        have HX := Lib.hid hxk
        have HY := Lib.hid hyk
        have HQ := Lib.hid (fun W => (show (binOp .neq 26 (.agg (pC x.1.1 x.1.2)) (.agg (pC y.1.1 y.1.2))).run Tryz.prog W = .ok (.bool (!(decide (x = y)))) W by rw [neqPB]))
        clear hld hlq hxk hyk
        by_cases hxy : x = y
        · have HXY := Lib.hid hxy
          have HD := Lib.hid (fun W => (HQ.out W).trans (by simp [hxy] : _ = .ok (.bool false) W))
          clear hxy
          go_wp2_with fail
          try simp only [Act.put, List.setIfInBounds_toArray, List.set_cons_succ, List.set_cons_zero]
          refine Agg.wp_region_later_lit (by kernel_rfl) (by kernel_rfl) ?_
          repeat (first | go_big_quiet_skip | ((first | (with_reducible refine Agg.wpQuiet_loadL HLX.out rfl _ rfl rfl ?_) | (with_reducible refine Agg.wpQuiet_loadL HLY.out rfl _ rfl rfl ?_) | (with_reducible refine Agg.wpQuiet_neq 26 26 _ _ rfl rfl (pC x.1.1 x.1.2) (pC y.1.1 y.1.2) rfl rfl (false) (by kernel_rfl) HD.out ?_)); simp only [Act.put, List.setIfInBounds_toArray, List.set_cons_succ, List.set_cons_zero]) | go_big_quiet_step (fail))
          refine wpQuiet_nil ?_
          intro _ hw'
          obtain ⟨x1, rfl⟩ := hw'
          go_wp2_with fail
          go_roundw
          case rel => exact ⟨k + 1, by omega, by go_num, take_succP HX.out HY.out HTK.out HXY.out, Agg.belowThen hw (Nat.le_refl _) x1.h⟩
          case measure => simp [intOf]; omega
        · have HXY := Lib.hid hxy
          have HD := Lib.hid (fun W => (HQ.out W).trans (by simp [hxy] : _ = .ok (.bool true) W))
          clear hxy
          go_wp2_with fail
          try simp only [Act.put, List.setIfInBounds_toArray, List.set_cons_succ, List.set_cons_zero]
          refine Agg.wp_region_later_lit (by kernel_rfl) (by kernel_rfl) ?_
          repeat (first | go_big_quiet_skip | ((first | (with_reducible refine Agg.wpQuiet_loadL HLX.out rfl _ rfl rfl ?_) | (with_reducible refine Agg.wpQuiet_loadL HLY.out rfl _ rfl rfl ?_) | (with_reducible refine Agg.wpQuiet_neq 26 26 _ _ rfl rfl (pC x.1.1 x.1.2) (pC y.1.1 y.1.2) rfl rfl (true) (by kernel_rfl) HD.out ?_)); simp only [Act.put, List.setIfInBounds_toArray, List.set_cons_succ, List.set_cons_zero]) | go_big_quiet_step (fail))
          refine wpQuiet_nil ?_
          intro _ hw'
          obtain ⟨x1, rfl⟩ := hw'
          have HR := Lib.hid (decide_eq_false (ne_atP HX.out HY.out HXY.out))
          go_wp2_with fail
          go_ret
          exact ⟨ret_bool HR.out.symm, Agg.belowThen hw (Nat.le_refl _) x1.h⟩
      · obtain rfl : k = b.length := by omega
        have HR := Lib.hid (show decide (a = b) = true from by
          have h := HTK.out
          rw [List.take_length, ← HLEN.out, List.take_length] at h
          simpa using h)
        go_wp2_with fail
        go_ret
        exact ⟨ret_bool HR.out.symm, hw⟩
  · have hne : ((a.length : Int) != (b.length : Int)) = true := by simp [bne_iff_ne]; omega
    have HR := Lib.hid (show decide (a = b) = false from by
      refine decide_eq_false fun h => hlen (by rw [h]))
    clear hlen
    go_enter Tryz.func22, Tryz.ntmps22
    go_wp2_with fail
    go_ret
    exact ⟨ret_bool HR.out.symm, Below.refl _ _⟩
end Go.Proofs.YtniibcgomnjfgaaGreat
