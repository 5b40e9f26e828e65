/- spencelaw08.stays: all but what is put stays as it was. -/
import Derived.Test.YtfiadgdinhmgbaaDoorGBD
import Derived.Test.YtfiadgdinhmgbaaDoorGBC
import Derived.Test.YtfiadgdinhmgbaaDoorGBI
import Derived.Test.YtfiadgdinhmgbaaDoorGBJ
import Derived.Test.YtfiadgdinhmgbaaDoorGAV
import Derived.Test.YtfiadgdinhmgbaaDoorGBK
namespace Go.Proofs.YtfiadgdinhmgbaaDoor
open Go.RowKit Pl Go.Agg Go.Tr
theorem strs_loadG {W : World} {v : Value} {l : List (List UInt8)} {k : Nat} {s : List UInt8} {p : Addr} (h : SliceOf ES W v l) (hs : l[k]? = some s) (hadr : ∀ W, (Instr.indexAt 37 v (.int .i64 (k : Int))).run Tryd.prog W = .ok (.pointer (some p)) W) : LoadsL Tryd.prog W 9 (some p) (.string ⟨s.toArray⟩) := by
  obtain ⟨q, h1, h2⟩ := strs_at h k s hs
  have h3 := (hadr W).symm.trans (h1 W)
  simp only [Result.ok.injEq, Value.pointer.injEq, Option.some.injEq, and_true] at h3
  rw [h3]; exact h2
set_option maxRecDepth 100000 in
set_option maxHeartbeats 64000000 in
theorem stays_any (t y : T) (s : List UInt8) (hs : s.length ≤ 1048576) (hrt : right t = true) (hry : right y = true) (hst : ∀ m, begins m s = false → begins s m = false → fdE y m = fdE t m ∧ fdT y m = fdT t m) (v1 v2 : Value) (w : World) (hv1 : NodeAt w v1 t) (hv2 : NodeAt w v2 y) :
    Calls Tryd.prog 26 #[v1, v2, .string ⟨s.toArray⟩] w fun e w' => e = .returned (.bool true) ∧ Below w.heap.size w w' := by
  have Y_0 := Lib.hid (Below.refl w.heap.size w)
  obtain ⟨xn, rfl, hx⟩ := hv1
  obtain ⟨xo, rfl, hy⟩ := hv2
  have XN_0 := Lib.hid (show NodeAt w (.agg (ndC xn)) t from ⟨xn, rfl, hx⟩)
  have XO_0 := Lib.hid (show NodeAt w (.agg (ndC xo)) y from ⟨xo, rfl, hy⟩)
  have HRT := Lib.hid hrt
  have HRY := Lib.hid hry
  have HST := Lib.hid hst
  clear hx hy hrt hry hst
  obtain ⟨w0, hw0⟩ : ∃ W, W = w := ⟨_, rfl⟩
  rw [← hw0] at Y_0 XN_0 XO_0 ⊢
  clear hw0
  go_enter Tryd.func26, Tryd.ntmps26
  go_wp2_with (first | (refine Agg.wpList_box rfl 26 _ rfl (ndC xn) rfl ?_; intro g3 w1 hb hx hg; have Y_1 := Lib.hid (Agg.belowThen Y_0.out (Nat.le_refl _) hx); have XN_1 := Lib.hid (XN_0.out.below hx); have XO_1 := Lib.hid (XO_0.out.below hx); have GA_1 := Lib.hid hb; clear hb hx hg Y_0 XN_0 XO_0) | (refine Agg.wpList_box rfl 26 _ rfl (ndC xo) rfl ?_; intro g4 w2 hb hx hg; have Y_2 := Lib.hid (Agg.belowThen Y_1.out (Nat.le_refl _) hx); have XN_2 := Lib.hid (XN_1.out.below hx); have XO_2 := Lib.hid (XO_1.out.below hx); have GA_2 := Lib.hid (GA_1.out.below hx); have GB_2 := Lib.hid hb; clear hb hx hg Y_1 XN_1 XO_1 GA_1) | (with_reducible refine Agg.wpList_loadL (NdL.of_blk GA_2.out).all rfl _ rfl rfl ?_))
  refine (ways_any _ t _ XN_2.out).mono ?_
  rintro e w3 ⟨vl, rfl, ho, hx⟩
  have Y_3 := Lib.hid (Agg.belowThen Y_2.out (Nat.le_refl _) hx)
  have XN_3 := Lib.hid (XN_2.out.below hx)
  have XO_3 := Lib.hid (XO_2.out.below hx)
  have GA_3 := Lib.hid (GA_2.out.below hx)
  have GB_3 := Lib.hid (GB_2.out.below hx)
  have WL_3 := Lib.hid (ho.slice)
  clear hx ho Y_2 XN_2 XO_2 GA_2 GB_2
  obtain ⟨LL, hLL⟩ : ∃ LL, wysT t = LL := ⟨_, rfl⟩
  obtain ⟨nn, hnn⟩ : ∃ n, LL.length = n := ⟨_, rfl⟩
  have WLK := WL_3.out
  rw [show wysR t = LL by simp [wysR, HRT.out, hLL]] at WLK
  have HWL := Lib.hid WLK
  have hll := fun W => strs_len WLK W
  rw [hnn] at hll
  have HLL := Lib.hid hLL
  have h200nn : nn ≤ 1048576 := by rw [← hnn, ← hLL, wysT_length]; have := right_countW HRT.out; omega
  clear WLK hLL
  clear WL_3
  have WL_3 := HWL
  clear HWL
  go_wp2_with fail
  have HZNnn := Lib.hid (Below.refl w3.heap.size w3)
  go_loopw [8] (fun i wr => ∃ k : Nat, k ≤ nn ∧ i = .int .i64 (k : Int) ∧ Below w3.heap.size w3 wr) (fun i _ => nn - (intOf i).toNat)
  case atStart => exact ⟨0, by omega, rfl, HZNnn.out⟩
  case round =>
    obtain ⟨w20, rfl⟩ : ∃ y : World, y = wr := ⟨_, rfl⟩
    obtain ⟨k, hk, rfl, hb⟩ := hrel
    have HR := Lib.hid hb
    clear hb
    have Y_20 := Lib.hid (Agg.belowThen Y_3.out (Nat.le_refl _) HR.out)
    have XN_20 := Lib.hid (XN_3.out.below HR.out)
    have XO_20 := Lib.hid (XO_3.out.below HR.out)
    have GA_20 := Lib.hid (GA_3.out.below HR.out)
    have GB_20 := Lib.hid (GB_3.out.below HR.out)
    have WL_20 := Lib.hid (SliceOf.below WL_3.out HR.out)
    have HRX_20 := HR
    clear HR HZNnn
    by_cases hlt : k < nn
    case pos =>
      have hlq : decide ((k : Int) < (nn : Int)) = true := by simp; omega
      obtain ⟨sk, hsk⟩ : ∃ s, LL[k]? = some s := ⟨_, List.getElem?_eq_getElem (by omega)⟩
      have HSK := Lib.hid hsk
      obtain ⟨xk, wsk, hke, hkt, hkf, hkl, _⟩ := wysT_mem HRT.out (List.mem_append.2 (.inl (show sk ∈ wysT t by rw [HLL.out]; exact List.mem_of_getElem? hsk)))
      have HXK := Lib.hid (And.intro hke hkt)
      have HXR := Lib.hid (find_right HRT.out hkf)
      obtain ⟨pk, hadrk, _⟩ := strs_at WL_20.out k sk hsk
      have HADK := Lib.hid hadrk
      have HLDK := Lib.hid (strs_loadG WL_20.out HSK.out HADK.out)
      clear hsk hke hkt hkf
      go_wp2_with (first | (with_reducible refine Agg.wpList_loadL HLDK.out rfl _ rfl rfl ?_))
      refine (begins_any sk s hs _).mono ?_
      rintro e w9 ⟨rfl, hw9⟩
      rw [show w9 = w20 from hw9]
      clear hw9 w9
      cases hb1 : begins sk s with
      | true =>
        clear hadrk
        go_wp2_with fail
        go_roundw
        case rel => exact ⟨k + 1, by omega, by go_num, HRX_20.out⟩
        case measure => simp [intOf]; omega
      | false =>
        go_wp2_with (first | (with_reducible refine Agg.wpList_loadL HLDK.out rfl _ rfl rfl ?_))
        refine (begins_any s sk (by omega) _).mono ?_
        rintro e w9 ⟨rfl, hw9⟩
        rw [show w9 = w20 from hw9]
        clear hw9 w9
        cases hb2 : begins s sk with
        | true =>
          clear hadrk
          go_wp2_with fail
          go_roundw
          case rel => exact ⟨k + 1, by omega, by go_num, HRX_20.out⟩
          case measure => simp [intOf]; omega
        | false =>
          have HFY := Lib.hid (HST.out sk hb1 hb2)
          clear hadrk hb1 hb2
          have HEF := Lib.hid (enters_of Tryd.func10 (by kernel_rfl) rfl : ∀ args w, (callFunc 10 args).run Tryd.prog w = .ok (.enter 10 args) w)
          go_wp2_with fail
          have HFE := Lib.hid (show fdE t sk = 0 ∧ fdT t sk = xk from HXK.out)
          refine Agg.wp_cutR (fun a0 a' w' => ∃ (g9 : Nat) (x9 : NdV), Blk w' g9 26 (ndC x9) ∧ NodeAt w' (.agg (ndC x9)) xk ∧ Below w20.heap.size w20 w' ∧ ExPut [39, 40, 41, 42, 43, 44, 45, 46, 47] ((a0.put (some 9) (.pointer (some ⟨g9, 0, none⟩))).put (some 10) (.int .i64 0)) a') ?_ ?_
          · try simp only [Act.put, List.setIfInBounds_toArray, List.set_cons_succ, List.set_cons_zero]
            obtain ⟨wa, hwa⟩ : ∃ X, X = w20.drew := ⟨_, rfl⟩
            have hda9 : Below w20.heap.size w20 wa := by rw [hwa]; exact (Below.refl _ _).drew
            have X_ := Lib.hid (XN_20.out.below hda9)
            have G_ := Lib.hid (GA_20.out.below hda9)
            have V_ := Lib.hid (SliceOf.below WL_20.out hda9)
            have Q_ := Lib.hid hda9
            have Z_ := Lib.hid (Nat.le_refl wa.heap.size)
            refine wp_region_held_drew (S := fun W => Blk W g3 26 (ndC xn) ∧ SliceOf ES W vl LL) (by kernel_rfl) (by rw [← hwa]; exact ⟨G_.out, V_.out⟩) (fun hHeld => ?_)
            rw [← hwa] at hHeld ⊢
            clear hwa hda9
            have HW0 := Lib.hid (show w20.heap.size ≤ wa.heap.size from Q_.out.size)
            refine Agg.held_take 0 (.agg (ndC xn)) rfl (by kernel_rfl) (fun _ _ _ h => h) rfl (fun W hS => exec_loadB rfl rfl (NdL.of_blk hS.1).all.now) (by assumption) ?_
            try simp only [Act.put, List.setIfInBounds_toArray, List.set_cons_succ, List.set_cons_zero]
            refine Agg.held_take 1 (vl) rfl (by kernel_rfl) (fun _ _ _ h => h) rfl (fun W _ => by first | kernel_rfl | rfl | simp [execOp]) (by assumption) ?_
            try simp only [Act.put, List.setIfInBounds_toArray, List.set_cons_succ, List.set_cons_zero]
            refine Agg.held_take 2 (.int .i64 (k : Int)) rfl (by kernel_rfl) (fun _ _ _ h => h) rfl (fun W _ => by first | kernel_rfl | rfl | simp [execOp]) (by assumption) ?_
            try simp only [Act.put, List.setIfInBounds_toArray, List.set_cons_succ, List.set_cons_zero]
            refine Agg.held_take 3 (.pointer (some pk)) rfl (by kernel_rfl) (fun _ _ _ h => h) rfl (fun W _ => exec_idx rfl rfl rfl (HADK.out W)) (by assumption) ?_
            try simp only [Act.put, List.setIfInBounds_toArray, List.set_cons_succ, List.set_cons_zero]
            refine Agg.held_take 4 (.string ⟨sk.toArray⟩) rfl (by kernel_rfl) (fun _ _ _ h => h) rfl (fun W hS => exec_loadB rfl rfl (strs_loadG hS.2 HSK.out HADK.out).now) (by assumption) ?_
            try simp only [Act.put, List.setIfInBounds_toArray, List.set_cons_succ, List.set_cons_zero]
            refine Agg.held_ready [5, 9] (by kernel_rfl) (by simp) ?_
            refine Agg.held_cons rfl ?_ ?_
            · refine Agg.step_call rfl 10 _ _ rfl #[.agg (ndC xn), .string ⟨sk.toArray⟩] (by simp only [List.map_toArray, List.map_cons, List.map_nil]; rfl) (fun W => HEF.out _ W) ?_
              refine (tfind_any t sk (by omega) _ _ X_.out).mono ?_
              rintro e wa_5 ⟨x9, rfl, hon, hx⟩
              rw [HFE.out.2] at hon
              rw [HFE.out.1]
              obtain ⟨bs, hot, _⟩ := hon
              have T_5 := Lib.hid hot
              have HRB := Lib.hid (OwnT.range _ _ _ hot)
              have X_5 := Lib.hid (X_.out.below hx)
              have G_5 := Lib.hid (G_.out.below hx)
              have V_5 := Lib.hid (SliceOf.below V_.out hx)
              have Q_5 := Lib.hid (Agg.belowThen Q_.out (Nat.le_refl _) hx)
              have Z_5 := Lib.hid (Nat.le_trans Z_.out hx.size)
              have hS_5 : Blk wa_5 g3 26 (ndC xn) ∧ SliceOf ES wa_5 vl LL := ⟨G_5.out, V_5.out⟩
              clear hx hot
              refine ⟨_, rfl, ?_⟩
              refine ⟨hS_5, ?_⟩
              try simp only [Act.put, List.setIfInBounds_toArray, List.set_cons_succ, List.set_cons_zero]
              refine Agg.held_take 6 (.tuple #[.agg (ndC x9), .int .i64 ((0 : Nat) : Int)]) rfl (by kernel_rfl) (fun _ _ _ h => h) rfl (fun W _ => by first | kernel_rfl | rfl | simp [execOp]) (by assumption) ?_
              try simp only [Act.put, List.setIfInBounds_toArray, List.set_cons_succ, List.set_cons_zero]
              refine Agg.held_take 7 (.agg (ndC x9)) rfl (by kernel_rfl) (fun _ _ _ h => h) rfl (fun W _ => by first | kernel_rfl | rfl | simp [execOp]) (by assumption) ?_
              try simp only [Act.put, List.setIfInBounds_toArray, List.set_cons_succ, List.set_cons_zero]
              refine Agg.held_take 8 (.int .i64 0) rfl (by kernel_rfl) (fun _ _ _ h => h) rfl (fun W _ => by first | kernel_rfl | rfl | simp [execOp]) (by assumption) ?_
              try simp only [Act.put, List.setIfInBounds_toArray, List.set_cons_succ, List.set_cons_zero]
              refine Agg.held_ready [9] (by kernel_rfl) (by simp) ?_
              refine Agg.held_cons rfl ?_ ?_
              · refine step_zero rfl 26 rfl (ndC ndZ) nd_zero ?_
                intro g9 wa_5_9 hb hx hg
                have N_5_9 := Lib.hid hb
                have HGG := Lib.hid (show wa_5.heap.size ≤ g9 ∧ g9 < wa_5_9.heap.size ∧ wa.heap.size ≤ g9 from ⟨hg, hb.lt, Nat.le_trans Z_5.out hg⟩)
                have T_5_9 := Lib.hid (OwnT.below hx T_5.out)
                have X_5_9 := Lib.hid (X_5.out.below hx)
                have G_5_9 := Lib.hid (G_5.out.below hx)
                have V_5_9 := Lib.hid (SliceOf.below V_5.out hx)
                have Q_5_9 := Lib.hid (Agg.belowThen Q_5.out (Nat.le_refl _) hx)
                have Z_5_9 := Lib.hid (Nat.le_trans Z_5.out hx.size)
                have hS_5_9 : Blk wa_5_9 g3 26 (ndC xn) ∧ SliceOf ES wa_5_9 vl LL := ⟨G_5_9.out, V_5_9.out⟩
                clear hb hx hg
                refine ⟨hS_5_9, ?_⟩
                try simp only [Act.put, List.setIfInBounds_toArray, List.set_cons_succ, List.set_cons_zero]
                refine Agg.held_ready [10] (by kernel_rfl) (by simp) ?_
                refine Agg.held_cons rfl ?_ ?_
                · refine step_put rfl rfl 26 _ _ rfl g9 (ndC x9) (ndC ndZ) rfl rfl N_5_9.out (nd_info _) rfl (ndC_one _) ?_
                  intro wa_5_9_10 hb hx hs hk9
                  have ho := Only.of_eq (S := (· = g9)) hx hs hk9 rfl
                  have N_5_9_10 := Lib.hid hb
                  have T_5_9_10 := Lib.hid (OwnT.only ho _ _ _ T_5_9.out (fun j hj e => by have h1 := HRB.out j hj; have h2 := HGG.out; omega))
                  have G_5_9_10 := Lib.hid (Agg.Blk.keepO G_5_9.out ho (fun e => by have h1 := G_.out.lt; have h2 := HGG.out; have h3 := HW0.out; omega))
                  have Q_5_9_10 := Lib.hid (Q_5_9.out.trans (hx.mono (by have h2 := HGG.out; have h3 := HW0.out; omega)))
                  have V_5_9_10 := Lib.hid (SliceOf.below WL_20.out Q_5_9_10.out)
                  clear hb hx hs hk9 ho
                  have hS_5_9_10 : Blk wa_5_9_10 g3 26 (ndC xn) ∧ SliceOf ES wa_5_9_10 vl LL := ⟨G_5_9_10.out, V_5_9_10.out⟩
                  refine ⟨hS_5_9_10, ?_⟩
                  try simp only [Act.put, List.setIfInBounds_toArray, List.set_cons_succ, List.set_cons_zero]
                  refine Agg.held_take 11 (.int .i64 0) rfl (by kernel_rfl) (fun _ _ _ h => h) rfl (fun W _ => by first | kernel_rfl | rfl | simp [execOp]) (by assumption) ?_
                  try simp only [Act.put, List.setIfInBounds_toArray, List.set_cons_succ, List.set_cons_zero]
                  refine Agg.held_end (by kernel_rfl) ?_
                  simp only [Agg.ExPut, Act.put, List.setIfInBounds_toArray, List.set_cons_succ, List.set_cons_zero]
                  exact ⟨g9, x9, N_5_9_10.out, ⟨x9, rfl, OwnT.reads _ _ _ T_5_9_10.out⟩, Q_5_9_10.out, _, _, _, _, _, _, _, _, _, rfl⟩
                exact AllReadyH.nil
              exact AllReadyH.nil
            refine Agg.held_cons rfl ?_ ?_
            · refine step_zero rfl 26 rfl (ndC ndZ) nd_zero ?_
              intro g9 wa_9 hb hx hg
              have N_9 := Lib.hid hb
              have HGG := Lib.hid (show wa.heap.size ≤ g9 ∧ g9 < wa_9.heap.size ∧ wa.heap.size ≤ g9 from ⟨hg, hb.lt, Nat.le_trans Z_.out hg⟩)
              have X_9 := Lib.hid (X_.out.below hx)
              have G_9 := Lib.hid (G_.out.below hx)
              have V_9 := Lib.hid (SliceOf.below V_.out hx)
              have Q_9 := Lib.hid (Agg.belowThen Q_.out (Nat.le_refl _) hx)
              have Z_9 := Lib.hid (Nat.le_trans Z_.out hx.size)
              have hS_9 : Blk wa_9 g3 26 (ndC xn) ∧ SliceOf ES wa_9 vl LL := ⟨G_9.out, V_9.out⟩
              clear hb hx hg
              refine ⟨hS_9, ?_⟩
              try simp only [Act.put, List.setIfInBounds_toArray, List.set_cons_succ, List.set_cons_zero]
              refine Agg.held_ready [5] (by kernel_rfl) (by simp) ?_
              refine Agg.held_cons rfl ?_ ?_
              · refine Agg.step_call rfl 10 _ _ rfl #[.agg (ndC xn), .string ⟨sk.toArray⟩] (by simp only [List.map_toArray, List.map_cons, List.map_nil]; rfl) (fun W => HEF.out _ W) ?_
                refine (tfind_any t sk (by omega) _ _ X_9.out).mono ?_
                rintro e wa_5_9 ⟨x9, rfl, hon, hx⟩
                rw [HFE.out.2] at hon
                rw [HFE.out.1]
                obtain ⟨bs, hot, _⟩ := hon
                have T_5_9 := Lib.hid hot
                have HRB := Lib.hid (OwnT.range _ _ _ hot)
                have N_5_9 := Lib.hid (N_9.out.below hx)
                have X_5_9 := Lib.hid (X_9.out.below hx)
                have G_5_9 := Lib.hid (G_9.out.below hx)
                have V_5_9 := Lib.hid (SliceOf.below V_9.out hx)
                have Q_5_9 := Lib.hid (Agg.belowThen Q_9.out (Nat.le_refl _) hx)
                have Z_5_9 := Lib.hid (Nat.le_trans Z_9.out hx.size)
                have hS_5_9 : Blk wa_5_9 g3 26 (ndC xn) ∧ SliceOf ES wa_5_9 vl LL := ⟨G_5_9.out, V_5_9.out⟩
                clear hx hot
                refine ⟨_, rfl, ?_⟩
                refine ⟨hS_5_9, ?_⟩
                try simp only [Act.put, List.setIfInBounds_toArray, List.set_cons_succ, List.set_cons_zero]
                refine Agg.held_take 6 (.tuple #[.agg (ndC x9), .int .i64 ((0 : Nat) : Int)]) rfl (by kernel_rfl) (fun _ _ _ h => h) rfl (fun W _ => by first | kernel_rfl | rfl | simp [execOp]) (by assumption) ?_
                try simp only [Act.put, List.setIfInBounds_toArray, List.set_cons_succ, List.set_cons_zero]
                refine Agg.held_take 7 (.agg (ndC x9)) rfl (by kernel_rfl) (fun _ _ _ h => h) rfl (fun W _ => by first | kernel_rfl | rfl | simp [execOp]) (by assumption) ?_
                try simp only [Act.put, List.setIfInBounds_toArray, List.set_cons_succ, List.set_cons_zero]
                refine Agg.held_take 8 (.int .i64 0) rfl (by kernel_rfl) (fun _ _ _ h => h) rfl (fun W _ => by first | kernel_rfl | rfl | simp [execOp]) (by assumption) ?_
                try simp only [Act.put, List.setIfInBounds_toArray, List.set_cons_succ, List.set_cons_zero]
                refine Agg.held_ready [10] (by kernel_rfl) (by simp) ?_
                refine Agg.held_cons rfl ?_ ?_
                · refine step_put rfl rfl 26 _ _ rfl g9 (ndC x9) (ndC ndZ) rfl rfl N_5_9.out (nd_info _) rfl (ndC_one _) ?_
                  intro wa_5_9_10 hb hx hs hk9
                  have ho := Only.of_eq (S := (· = g9)) hx hs hk9 rfl
                  have N_5_9_10 := Lib.hid hb
                  have T_5_9_10 := Lib.hid (OwnT.only ho _ _ _ T_5_9.out (fun j hj e => by have h1 := HRB.out j hj; have h2 := HGG.out; omega))
                  have G_5_9_10 := Lib.hid (Agg.Blk.keepO G_5_9.out ho (fun e => by have h1 := G_.out.lt; have h2 := HGG.out; have h3 := HW0.out; omega))
                  have Q_5_9_10 := Lib.hid (Q_5_9.out.trans (hx.mono (by have h2 := HGG.out; have h3 := HW0.out; omega)))
                  have V_5_9_10 := Lib.hid (SliceOf.below WL_20.out Q_5_9_10.out)
                  clear hb hx hs hk9 ho
                  have hS_5_9_10 : Blk wa_5_9_10 g3 26 (ndC xn) ∧ SliceOf ES wa_5_9_10 vl LL := ⟨G_5_9_10.out, V_5_9_10.out⟩
                  refine ⟨hS_5_9_10, ?_⟩
                  try simp only [Act.put, List.setIfInBounds_toArray, List.set_cons_succ, List.set_cons_zero]
                  refine Agg.held_take 11 (.int .i64 0) rfl (by kernel_rfl) (fun _ _ _ h => h) rfl (fun W _ => by first | kernel_rfl | rfl | simp [execOp]) (by assumption) ?_
                  try simp only [Act.put, List.setIfInBounds_toArray, List.set_cons_succ, List.set_cons_zero]
                  refine Agg.held_end (by kernel_rfl) ?_
                  simp only [Agg.ExPut, Act.put, List.setIfInBounds_toArray, List.set_cons_succ, List.set_cons_zero]
                  exact ⟨g9, x9, N_5_9_10.out, ⟨x9, rfl, OwnT.reads _ _ _ T_5_9_10.out⟩, Q_5_9_10.out, _, _, _, _, _, _, _, _, _, rfl⟩
                exact AllReadyH.nil
              exact AllReadyH.nil
            exact AllReadyH.nil
          · rintro a' w21 ⟨g9, x9, hb, hn, hx, hex⟩
            simp only [Agg.ExPut, Act.put, List.setIfInBounds_toArray, List.set_cons_succ, List.set_cons_zero] at hex
            obtain ⟨y39, y40, y41, y42, y43, y44, y45, y46, y47, rfl⟩ := hex
            have Y_21 := Lib.hid (Agg.belowThen Y_20.out (Nat.le_refl _) hx)
            have XN_21 := Lib.hid (XN_20.out.below hx)
            have XO_21 := Lib.hid (XO_20.out.below hx)
            have GA_21 := Lib.hid (GA_20.out.below hx)
            have GB_21 := Lib.hid (GB_20.out.below hx)
            have WL_21 := Lib.hid (SliceOf.below WL_20.out hx)
            have HRX_21 := Lib.hid (Agg.belowThen HRX_20.out (Nat.le_refl _) hx)
            have Gg9_21 := Lib.hid hb
            have Xg9_21 := Lib.hid hn
            clear hb hn hx Y_20 XN_20 XO_20 GA_20 GB_20 WL_20 HRX_20
            have HFE := Lib.hid (show fdE y sk = 0 ∧ fdT y sk = xk from ⟨HFY.out.1.trans HXK.out.1, HFY.out.2.trans HXK.out.2⟩)
            go_wp2_with fail
            refine Agg.wp_cutR (fun a0 a' w' => ∃ (g11 : Nat) (x11 : NdV), Blk w' g11 26 (ndC x11) ∧ NodeAt w' (.agg (ndC x11)) xk ∧ Below w21.heap.size w21 w' ∧ ExPut [48, 49, 50, 51, 52, 53, 54, 55, 56] ((a0.put (some 11) (.pointer (some ⟨g11, 0, none⟩))).put (some 12) (.int .i64 0)) a') ?_ ?_
            · try simp only [Act.put, List.setIfInBounds_toArray, List.set_cons_succ, List.set_cons_zero]
              obtain ⟨wa, hwa⟩ : ∃ X, X = w21.drew := ⟨_, rfl⟩
              have hda9 : Below w21.heap.size w21 wa := by rw [hwa]; exact (Below.refl _ _).drew
              have X_ := Lib.hid (XO_21.out.below hda9)
              have G_ := Lib.hid (GB_21.out.below hda9)
              have V_ := Lib.hid (SliceOf.below WL_21.out hda9)
              have Q_ := Lib.hid hda9
              have Z_ := Lib.hid (Nat.le_refl wa.heap.size)
              refine wp_region_held_drew (S := fun W => Blk W g4 26 (ndC xo) ∧ SliceOf ES W vl LL) (by kernel_rfl) (by rw [← hwa]; exact ⟨G_.out, V_.out⟩) (fun hHeld => ?_)
              rw [← hwa] at hHeld ⊢
              clear hwa hda9
              have HW0 := Lib.hid (show w21.heap.size ≤ wa.heap.size from Q_.out.size)
              refine Agg.held_take 0 (.agg (ndC xo)) rfl (by kernel_rfl) (fun _ _ _ h => h) rfl (fun W hS => exec_loadB rfl rfl (NdL.of_blk hS.1).all.now) (by assumption) ?_
              try simp only [Act.put, List.setIfInBounds_toArray, List.set_cons_succ, List.set_cons_zero]
              refine Agg.held_take 1 (vl) rfl (by kernel_rfl) (fun _ _ _ h => h) rfl (fun W _ => by first | kernel_rfl | rfl | simp [execOp]) (by assumption) ?_
              try simp only [Act.put, List.setIfInBounds_toArray, List.set_cons_succ, List.set_cons_zero]
              refine Agg.held_take 2 (.int .i64 (k : Int)) rfl (by kernel_rfl) (fun _ _ _ h => h) rfl (fun W _ => by first | kernel_rfl | rfl | simp [execOp]) (by assumption) ?_
              try simp only [Act.put, List.setIfInBounds_toArray, List.set_cons_succ, List.set_cons_zero]
              refine Agg.held_take 3 (.pointer (some pk)) rfl (by kernel_rfl) (fun _ _ _ h => h) rfl (fun W _ => exec_idx rfl rfl rfl (HADK.out W)) (by assumption) ?_
              try simp only [Act.put, List.setIfInBounds_toArray, List.set_cons_succ, List.set_cons_zero]
              refine Agg.held_take 4 (.string ⟨sk.toArray⟩) rfl (by kernel_rfl) (fun _ _ _ h => h) rfl (fun W hS => exec_loadB rfl rfl (strs_loadG hS.2 HSK.out HADK.out).now) (by assumption) ?_
              try simp only [Act.put, List.setIfInBounds_toArray, List.set_cons_succ, List.set_cons_zero]
              refine Agg.held_ready [5, 9] (by kernel_rfl) (by simp) ?_
              refine Agg.held_cons rfl ?_ ?_
              · refine Agg.step_call rfl 10 _ _ rfl #[.agg (ndC xo), .string ⟨sk.toArray⟩] (by simp only [List.map_toArray, List.map_cons, List.map_nil]; rfl) (fun W => HEF.out _ W) ?_
                refine (tfind_any y sk (by omega) _ _ X_.out).mono ?_
                rintro e wa_5 ⟨x11, rfl, hon, hx⟩
                rw [HFE.out.2] at hon
                rw [HFE.out.1]
                obtain ⟨bs, hot, _⟩ := hon
                have T_5 := Lib.hid hot
                have HRB := Lib.hid (OwnT.range _ _ _ hot)
                have X_5 := Lib.hid (X_.out.below hx)
                have G_5 := Lib.hid (G_.out.below hx)
                have V_5 := Lib.hid (SliceOf.below V_.out hx)
                have Q_5 := Lib.hid (Agg.belowThen Q_.out (Nat.le_refl _) hx)
                have Z_5 := Lib.hid (Nat.le_trans Z_.out hx.size)
                have hS_5 : Blk wa_5 g4 26 (ndC xo) ∧ SliceOf ES wa_5 vl LL := ⟨G_5.out, V_5.out⟩
                clear hx hot
                refine ⟨_, rfl, ?_⟩
                refine ⟨hS_5, ?_⟩
                try simp only [Act.put, List.setIfInBounds_toArray, List.set_cons_succ, List.set_cons_zero]
                refine Agg.held_take 6 (.tuple #[.agg (ndC x11), .int .i64 ((0 : Nat) : Int)]) rfl (by kernel_rfl) (fun _ _ _ h => h) rfl (fun W _ => by first | kernel_rfl | rfl | simp [execOp]) (by assumption) ?_
                try simp only [Act.put, List.setIfInBounds_toArray, List.set_cons_succ, List.set_cons_zero]
                refine Agg.held_take 7 (.agg (ndC x11)) rfl (by kernel_rfl) (fun _ _ _ h => h) rfl (fun W _ => by first | kernel_rfl | rfl | simp [execOp]) (by assumption) ?_
                try simp only [Act.put, List.setIfInBounds_toArray, List.set_cons_succ, List.set_cons_zero]
                refine Agg.held_take 8 (.int .i64 0) rfl (by kernel_rfl) (fun _ _ _ h => h) rfl (fun W _ => by first | kernel_rfl | rfl | simp [execOp]) (by assumption) ?_
                try simp only [Act.put, List.setIfInBounds_toArray, List.set_cons_succ, List.set_cons_zero]
                refine Agg.held_ready [9] (by kernel_rfl) (by simp) ?_
                refine Agg.held_cons rfl ?_ ?_
                · refine step_zero rfl 26 rfl (ndC ndZ) nd_zero ?_
                  intro g11 wa_5_9 hb hx hg
                  have N_5_9 := Lib.hid hb
                  have HGG := Lib.hid (show wa_5.heap.size ≤ g11 ∧ g11 < wa_5_9.heap.size ∧ wa.heap.size ≤ g11 from ⟨hg, hb.lt, Nat.le_trans Z_5.out hg⟩)
                  have T_5_9 := Lib.hid (OwnT.below hx T_5.out)
                  have X_5_9 := Lib.hid (X_5.out.below hx)
                  have G_5_9 := Lib.hid (G_5.out.below hx)
                  have V_5_9 := Lib.hid (SliceOf.below V_5.out hx)
                  have Q_5_9 := Lib.hid (Agg.belowThen Q_5.out (Nat.le_refl _) hx)
                  have Z_5_9 := Lib.hid (Nat.le_trans Z_5.out hx.size)
                  have hS_5_9 : Blk wa_5_9 g4 26 (ndC xo) ∧ SliceOf ES wa_5_9 vl LL := ⟨G_5_9.out, V_5_9.out⟩
                  clear hb hx hg
                  refine ⟨hS_5_9, ?_⟩
                  try simp only [Act.put, List.setIfInBounds_toArray, List.set_cons_succ, List.set_cons_zero]
                  refine Agg.held_ready [10] (by kernel_rfl) (by simp) ?_
                  refine Agg.held_cons rfl ?_ ?_
                  · refine step_put rfl rfl 26 _ _ rfl g11 (ndC x11) (ndC ndZ) rfl rfl N_5_9.out (nd_info _) rfl (ndC_one _) ?_
                    intro wa_5_9_10 hb hx hs hk9
                    have ho := Only.of_eq (S := (· = g11)) hx hs hk9 rfl
                    have N_5_9_10 := Lib.hid hb
                    have T_5_9_10 := Lib.hid (OwnT.only ho _ _ _ T_5_9.out (fun j hj e => by have h1 := HRB.out j hj; have h2 := HGG.out; omega))
                    have G_5_9_10 := Lib.hid (Agg.Blk.keepO G_5_9.out ho (fun e => by have h1 := G_.out.lt; have h2 := HGG.out; have h3 := HW0.out; omega))
                    have Q_5_9_10 := Lib.hid (Q_5_9.out.trans (hx.mono (by have h2 := HGG.out; have h3 := HW0.out; omega)))
                    have V_5_9_10 := Lib.hid (SliceOf.below WL_21.out Q_5_9_10.out)
                    clear hb hx hs hk9 ho
                    have hS_5_9_10 : Blk wa_5_9_10 g4 26 (ndC xo) ∧ SliceOf ES wa_5_9_10 vl LL := ⟨G_5_9_10.out, V_5_9_10.out⟩
                    refine ⟨hS_5_9_10, ?_⟩
                    try simp only [Act.put, List.setIfInBounds_toArray, List.set_cons_succ, List.set_cons_zero]
                    refine Agg.held_take 11 (.int .i64 0) rfl (by kernel_rfl) (fun _ _ _ h => h) rfl (fun W _ => by first | kernel_rfl | rfl | simp [execOp]) (by assumption) ?_
                    try simp only [Act.put, List.setIfInBounds_toArray, List.set_cons_succ, List.set_cons_zero]
                    refine Agg.held_end (by kernel_rfl) ?_
                    simp only [Agg.ExPut, Act.put, List.setIfInBounds_toArray, List.set_cons_succ, List.set_cons_zero]
                    exact ⟨g11, x11, N_5_9_10.out, ⟨x11, rfl, OwnT.reads _ _ _ T_5_9_10.out⟩, Q_5_9_10.out, _, _, _, _, _, _, _, _, _, rfl⟩
                  exact AllReadyH.nil
                exact AllReadyH.nil
              refine Agg.held_cons rfl ?_ ?_
              · refine step_zero rfl 26 rfl (ndC ndZ) nd_zero ?_
                intro g11 wa_9 hb hx hg
                have N_9 := Lib.hid hb
                have HGG := Lib.hid (show wa.heap.size ≤ g11 ∧ g11 < wa_9.heap.size ∧ wa.heap.size ≤ g11 from ⟨hg, hb.lt, Nat.le_trans Z_.out hg⟩)
                have X_9 := Lib.hid (X_.out.below hx)
                have G_9 := Lib.hid (G_.out.below hx)
                have V_9 := Lib.hid (SliceOf.below V_.out hx)
                have Q_9 := Lib.hid (Agg.belowThen Q_.out (Nat.le_refl _) hx)
                have Z_9 := Lib.hid (Nat.le_trans Z_.out hx.size)
                have hS_9 : Blk wa_9 g4 26 (ndC xo) ∧ SliceOf ES wa_9 vl LL := ⟨G_9.out, V_9.out⟩
                clear hb hx hg
                refine ⟨hS_9, ?_⟩
                try simp only [Act.put, List.setIfInBounds_toArray, List.set_cons_succ, List.set_cons_zero]
                refine Agg.held_ready [5] (by kernel_rfl) (by simp) ?_
                refine Agg.held_cons rfl ?_ ?_
                · refine Agg.step_call rfl 10 _ _ rfl #[.agg (ndC xo), .string ⟨sk.toArray⟩] (by simp only [List.map_toArray, List.map_cons, List.map_nil]; rfl) (fun W => HEF.out _ W) ?_
                  refine (tfind_any y sk (by omega) _ _ X_9.out).mono ?_
                  rintro e wa_5_9 ⟨x11, rfl, hon, hx⟩
                  rw [HFE.out.2] at hon
                  rw [HFE.out.1]
                  obtain ⟨bs, hot, _⟩ := hon
                  have T_5_9 := Lib.hid hot
                  have HRB := Lib.hid (OwnT.range _ _ _ hot)
                  have N_5_9 := Lib.hid (N_9.out.below hx)
                  have X_5_9 := Lib.hid (X_9.out.below hx)
                  have G_5_9 := Lib.hid (G_9.out.below hx)
                  have V_5_9 := Lib.hid (SliceOf.below V_9.out hx)
                  have Q_5_9 := Lib.hid (Agg.belowThen Q_9.out (Nat.le_refl _) hx)
                  have Z_5_9 := Lib.hid (Nat.le_trans Z_9.out hx.size)
                  have hS_5_9 : Blk wa_5_9 g4 26 (ndC xo) ∧ SliceOf ES wa_5_9 vl LL := ⟨G_5_9.out, V_5_9.out⟩
                  clear hx hot
                  refine ⟨_, rfl, ?_⟩
                  refine ⟨hS_5_9, ?_⟩
                  try simp only [Act.put, List.setIfInBounds_toArray, List.set_cons_succ, List.set_cons_zero]
                  refine Agg.held_take 6 (.tuple #[.agg (ndC x11), .int .i64 ((0 : Nat) : Int)]) rfl (by kernel_rfl) (fun _ _ _ h => h) rfl (fun W _ => by first | kernel_rfl | rfl | simp [execOp]) (by assumption) ?_
                  try simp only [Act.put, List.setIfInBounds_toArray, List.set_cons_succ, List.set_cons_zero]
                  refine Agg.held_take 7 (.agg (ndC x11)) rfl (by kernel_rfl) (fun _ _ _ h => h) rfl (fun W _ => by first | kernel_rfl | rfl | simp [execOp]) (by assumption) ?_
                  try simp only [Act.put, List.setIfInBounds_toArray, List.set_cons_succ, List.set_cons_zero]
                  refine Agg.held_take 8 (.int .i64 0) rfl (by kernel_rfl) (fun _ _ _ h => h) rfl (fun W _ => by first | kernel_rfl | rfl | simp [execOp]) (by assumption) ?_
                  try simp only [Act.put, List.setIfInBounds_toArray, List.set_cons_succ, List.set_cons_zero]
                  refine Agg.held_ready [10] (by kernel_rfl) (by simp) ?_
                  refine Agg.held_cons rfl ?_ ?_
                  · refine step_put rfl rfl 26 _ _ rfl g11 (ndC x11) (ndC ndZ) rfl rfl N_5_9.out (nd_info _) rfl (ndC_one _) ?_
                    intro wa_5_9_10 hb hx hs hk9
                    have ho := Only.of_eq (S := (· = g11)) hx hs hk9 rfl
                    have N_5_9_10 := Lib.hid hb
                    have T_5_9_10 := Lib.hid (OwnT.only ho _ _ _ T_5_9.out (fun j hj e => by have h1 := HRB.out j hj; have h2 := HGG.out; omega))
                    have G_5_9_10 := Lib.hid (Agg.Blk.keepO G_5_9.out ho (fun e => by have h1 := G_.out.lt; have h2 := HGG.out; have h3 := HW0.out; omega))
                    have Q_5_9_10 := Lib.hid (Q_5_9.out.trans (hx.mono (by have h2 := HGG.out; have h3 := HW0.out; omega)))
                    have V_5_9_10 := Lib.hid (SliceOf.below WL_21.out Q_5_9_10.out)
                    clear hb hx hs hk9 ho
                    have hS_5_9_10 : Blk wa_5_9_10 g4 26 (ndC xo) ∧ SliceOf ES wa_5_9_10 vl LL := ⟨G_5_9_10.out, V_5_9_10.out⟩
                    refine ⟨hS_5_9_10, ?_⟩
                    try simp only [Act.put, List.setIfInBounds_toArray, List.set_cons_succ, List.set_cons_zero]
                    refine Agg.held_take 11 (.int .i64 0) rfl (by kernel_rfl) (fun _ _ _ h => h) rfl (fun W _ => by first | kernel_rfl | rfl | simp [execOp]) (by assumption) ?_
                    try simp only [Act.put, List.setIfInBounds_toArray, List.set_cons_succ, List.set_cons_zero]
                    refine Agg.held_end (by kernel_rfl) ?_
                    simp only [Agg.ExPut, Act.put, List.setIfInBounds_toArray, List.set_cons_succ, List.set_cons_zero]
                    exact ⟨g11, x11, N_5_9_10.out, ⟨x11, rfl, OwnT.reads _ _ _ T_5_9_10.out⟩, Q_5_9_10.out, _, _, _, _, _, _, _, _, _, rfl⟩
                  exact AllReadyH.nil
                exact AllReadyH.nil
              exact AllReadyH.nil
            · rintro a' w22 ⟨g11, x11, hb, hn, hx, hex⟩
              simp only [Agg.ExPut, Act.put, List.setIfInBounds_toArray, List.set_cons_succ, List.set_cons_zero] at hex
              obtain ⟨y48, y49, y50, y51, y52, y53, y54, y55, y56, rfl⟩ := hex
              have Y_22 := Lib.hid (Agg.belowThen Y_21.out (Nat.le_refl _) hx)
              have XN_22 := Lib.hid (XN_21.out.below hx)
              have XO_22 := Lib.hid (XO_21.out.below hx)
              have GA_22 := Lib.hid (GA_21.out.below hx)
              have GB_22 := Lib.hid (GB_21.out.below hx)
              have WL_22 := Lib.hid (SliceOf.below WL_21.out hx)
              have HRX_22 := Lib.hid (Agg.belowThen HRX_21.out (Nat.le_refl _) hx)
              have Gg9_22 := Lib.hid (Gg9_21.out.below hx)
              have Xg9_22 := Lib.hid (Xg9_21.out.below hx)
              have Gg11_22 := Lib.hid hb
              have Xg11_22 := Lib.hid hn
              clear hb hn hx Y_21 XN_21 XO_21 GA_21 GB_21 WL_21 HRX_21 Gg9_21 Xg9_21
              go_wp2_with (first | (with_reducible refine Agg.wpList_loadL (NdL.of_blk Gg9_22.out).all rfl _ rfl rfl ?_) | (with_reducible refine Agg.wpList_loadL (NdL.of_blk Gg11_22.out).all rfl _ rfl rfl ?_))
              have HSAM := Lib.hid (show (right xk && (right xk && same xk xk)) = true by rw [HXR.out, (same_iff xk xk).2 rfl]; rfl)
              refine (equal_any xk xk _ _ _ Xg9_22.out Xg11_22.out).mono ?_
              rintro e w23 ⟨rfl, hx⟩
              have Y_23 := Lib.hid (Agg.belowThen Y_22.out (Nat.le_refl _) hx)
              have XN_23 := Lib.hid (XN_22.out.below hx)
              have XO_23 := Lib.hid (XO_22.out.below hx)
              have GA_23 := Lib.hid (GA_22.out.below hx)
              have GB_23 := Lib.hid (GB_22.out.below hx)
              have WL_23 := Lib.hid (SliceOf.below WL_22.out hx)
              have HRX_23 := Lib.hid (Agg.belowThen HRX_22.out (Nat.le_refl _) hx)
              have Gg9_23 := Lib.hid (Gg9_22.out.below hx)
              have Xg9_23 := Lib.hid (Xg9_22.out.below hx)
              have Gg11_23 := Lib.hid (Gg11_22.out.below hx)
              have Xg11_23 := Lib.hid (Xg11_22.out.below hx)
              clear hx  Y_22 XN_22 XO_22 GA_22 GB_22 WL_22 HRX_22 Gg9_22 Xg9_22 Gg11_22 Xg11_22
              rw [HSAM.out]
              go_wp2_with fail
              go_roundw
              case rel => exact ⟨k + 1, by omega, by go_num, HRX_23.out⟩
              case measure => simp [intOf]; omega
    case neg =>
      obtain rfl : k = nn := by omega
      have hlq : decide ((k : Int) < (k : Int)) = false := by simp
      go_wp2_with (first | (with_reducible refine Agg.wpList_loadL (NdL.of_blk GB_20.out).all rfl _ rfl rfl ?_))
      refine (ways_any _ y _ XO_20.out).mono ?_
      rintro e w21 ⟨v2, rfl, ho, hx⟩
      have Y_21 := Lib.hid (Agg.belowThen Y_20.out (Nat.le_refl _) hx)
      have XN_21 := Lib.hid (XN_20.out.below hx)
      have XO_21 := Lib.hid (XO_20.out.below hx)
      have GA_21 := Lib.hid (GA_20.out.below hx)
      have GB_21 := Lib.hid (GB_20.out.below hx)
      have WM_21 := Lib.hid (ho.slice)
      clear hx ho Y_20 XN_20 XO_20 GA_20 GB_20
      obtain ⟨LM, hLM⟩ : ∃ LL, wysT y = LL := ⟨_, rfl⟩
      obtain ⟨nm, hnm⟩ : ∃ n, LM.length = n := ⟨_, rfl⟩
      have WLK := WM_21.out
      rw [show wysR y = LM by simp [wysR, HRY.out, hLM]] at WLK
      have HWM := Lib.hid WLK
      have hlm := fun W => strs_len WLK W
      rw [hnm] at hlm
      have HLM := Lib.hid hLM
      have h200nm : nm ≤ 1048576 := by rw [← hnm, ← hLM, wysT_length]; have := right_countW HRY.out; omega
      clear WLK hLM
      clear WM_21
      have WM_21 := HWM
      clear HWM
      go_wp2_with fail
      have HZNnm := Lib.hid (Below.refl w21.heap.size w21)
      go_loopw [14] (fun i wr => ∃ k : Nat, k ≤ nm ∧ i = .int .i64 (k : Int) ∧ Below w21.heap.size w21 wr) (fun i _ => nm - (intOf i).toNat)
      case atStart => exact ⟨0, by omega, rfl, HZNnm.out⟩
      case round =>
        obtain ⟨w60, rfl⟩ : ∃ y : World, y = wr := ⟨_, rfl⟩
        obtain ⟨k, hk, rfl, hb⟩ := hrel
        have HR := Lib.hid hb
        clear hb
        have Y_60 := Lib.hid (Agg.belowThen Y_21.out (Nat.le_refl _) HR.out)
        have XN_60 := Lib.hid (XN_21.out.below HR.out)
        have XO_60 := Lib.hid (XO_21.out.below HR.out)
        have GA_60 := Lib.hid (GA_21.out.below HR.out)
        have GB_60 := Lib.hid (GB_21.out.below HR.out)
        have WM_60 := Lib.hid (SliceOf.below WM_21.out HR.out)
        have HRX_60 := HR
        clear HR HZNnm
        by_cases hlt : k < nm
        case neg =>
          obtain rfl : k = nm := by omega
          have hlq2 : decide ((k : Int) < (k : Int)) = false := by simp
          go_wp2_with fail
          go_ret
          exact ⟨rfl, Y_60.out⟩
        case pos =>
          have hlq2 : decide ((k : Int) < (nm : Int)) = true := by simp; omega
          obtain ⟨sk, hsk⟩ : ∃ s, LM[k]? = some s := ⟨_, List.getElem?_eq_getElem (by omega)⟩
          have HSK := Lib.hid hsk
          obtain ⟨xk, wsk, hke, hkt, hkf, hkl, _⟩ := wysT_mem HRY.out (List.mem_append.2 (.inl (show sk ∈ wysT y by rw [HLM.out]; exact List.mem_of_getElem? hsk)))
          have HXK := Lib.hid (And.intro hke hkt)
          have HXR := Lib.hid (find_right HRY.out hkf)
          obtain ⟨pk, hadrk, _⟩ := strs_at WM_60.out k sk hsk
          have HADK := Lib.hid hadrk
          have HLDK := Lib.hid (strs_loadG WM_60.out HSK.out HADK.out)
          clear hsk hke hkt hkf
          have HEF := Lib.hid (enters_of Tryd.func10 (by kernel_rfl) rfl : ∀ args w, (callFunc 10 args).run Tryd.prog w = .ok (.enter 10 args) w)
          obtain ⟨ee, hee⟩ : ∃ e, fdE t sk = e := ⟨_, rfl⟩
          obtain ⟨xt, hxt⟩ : ∃ x, fdT t sk = x := ⟨_, rfl⟩
          have HFE := Lib.hid (And.intro hee hxt)
          clear hee hxt hadrk
          go_wp2_with fail
          refine Agg.wp_cutR (fun a0 a' w' => ∃ (g15 : Nat) (x15 : NdV), Blk w' g15 26 (ndC x15) ∧ NodeAt w' (.agg (ndC x15)) xt ∧ Below w60.heap.size w60 w' ∧ ExPut [77, 78, 79, 80, 81, 82, 83, 84, 85] ((a0.put (some 15) (.pointer (some ⟨g15, 0, none⟩))).put (some 16) (.int .i64 (ee : Int))) a') ?_ ?_
          · try simp only [Act.put, List.setIfInBounds_toArray, List.set_cons_succ, List.set_cons_zero]
            obtain ⟨wa, hwa⟩ : ∃ X, X = w60.drew := ⟨_, rfl⟩
            have hda9 : Below w60.heap.size w60 wa := by rw [hwa]; exact (Below.refl _ _).drew
            have X_ := Lib.hid (XN_60.out.below hda9)
            have G_ := Lib.hid (GA_60.out.below hda9)
            have V_ := Lib.hid (SliceOf.below WM_60.out hda9)
            have Q_ := Lib.hid hda9
            have Z_ := Lib.hid (Nat.le_refl wa.heap.size)
            refine wp_region_held_drew (S := fun W => Blk W g3 26 (ndC xn) ∧ SliceOf ES W v2 LM) (by kernel_rfl) (by rw [← hwa]; exact ⟨G_.out, V_.out⟩) (fun hHeld => ?_)
            rw [← hwa] at hHeld ⊢
            clear hwa hda9
            have HW0 := Lib.hid (show w60.heap.size ≤ wa.heap.size from Q_.out.size)
            refine Agg.held_take 0 (.agg (ndC xn)) rfl (by kernel_rfl) (fun _ _ _ h => h) rfl (fun W hS => exec_loadB rfl rfl (NdL.of_blk hS.1).all.now) (by assumption) ?_
            try simp only [Act.put, List.setIfInBounds_toArray, List.set_cons_succ, List.set_cons_zero]
            refine Agg.held_take 1 (v2) rfl (by kernel_rfl) (fun _ _ _ h => h) rfl (fun W _ => by first | kernel_rfl | rfl | simp [execOp]) (by assumption) ?_
            try simp only [Act.put, List.setIfInBounds_toArray, List.set_cons_succ, List.set_cons_zero]
            refine Agg.held_take 2 (.int .i64 (k : Int)) rfl (by kernel_rfl) (fun _ _ _ h => h) rfl (fun W _ => by first | kernel_rfl | rfl | simp [execOp]) (by assumption) ?_
            try simp only [Act.put, List.setIfInBounds_toArray, List.set_cons_succ, List.set_cons_zero]
            refine Agg.held_take 3 (.pointer (some pk)) rfl (by kernel_rfl) (fun _ _ _ h => h) rfl (fun W _ => exec_idx rfl rfl rfl (HADK.out W)) (by assumption) ?_
            try simp only [Act.put, List.setIfInBounds_toArray, List.set_cons_succ, List.set_cons_zero]
            refine Agg.held_take 4 (.string ⟨sk.toArray⟩) rfl (by kernel_rfl) (fun _ _ _ h => h) rfl (fun W hS => exec_loadB rfl rfl (strs_loadG hS.2 HSK.out HADK.out).now) (by assumption) ?_
            try simp only [Act.put, List.setIfInBounds_toArray, List.set_cons_succ, List.set_cons_zero]
            refine Agg.held_ready [5, 9] (by kernel_rfl) (by simp) ?_
            refine Agg.held_cons rfl ?_ ?_
            · refine Agg.step_call rfl 10 _ _ rfl #[.agg (ndC xn), .string ⟨sk.toArray⟩] (by simp only [List.map_toArray, List.map_cons, List.map_nil]; rfl) (fun W => HEF.out _ W) ?_
              refine (tfind_any t sk (by omega) _ _ X_.out).mono ?_
              rintro e wa_5 ⟨x15, rfl, hon, hx⟩
              rw [HFE.out.2] at hon
              rw [HFE.out.1]
              obtain ⟨bs, hot, _⟩ := hon
              have T_5 := Lib.hid hot
              have HRB := Lib.hid (OwnT.range _ _ _ hot)
              have X_5 := Lib.hid (X_.out.below hx)
              have G_5 := Lib.hid (G_.out.below hx)
              have V_5 := Lib.hid (SliceOf.below V_.out hx)
              have Q_5 := Lib.hid (Agg.belowThen Q_.out (Nat.le_refl _) hx)
              have Z_5 := Lib.hid (Nat.le_trans Z_.out hx.size)
              have hS_5 : Blk wa_5 g3 26 (ndC xn) ∧ SliceOf ES wa_5 v2 LM := ⟨G_5.out, V_5.out⟩
              clear hx hot
              refine ⟨_, rfl, ?_⟩
              refine ⟨hS_5, ?_⟩
              try simp only [Act.put, List.setIfInBounds_toArray, List.set_cons_succ, List.set_cons_zero]
              refine Agg.held_take 6 (.tuple #[.agg (ndC x15), .int .i64 ((ee : Nat) : Int)]) rfl (by kernel_rfl) (fun _ _ _ h => h) rfl (fun W _ => by first | kernel_rfl | rfl | simp [execOp]) (by assumption) ?_
              try simp only [Act.put, List.setIfInBounds_toArray, List.set_cons_succ, List.set_cons_zero]
              refine Agg.held_take 7 (.agg (ndC x15)) rfl (by kernel_rfl) (fun _ _ _ h => h) rfl (fun W _ => by first | kernel_rfl | rfl | simp [execOp]) (by assumption) ?_
              try simp only [Act.put, List.setIfInBounds_toArray, List.set_cons_succ, List.set_cons_zero]
              refine Agg.held_take 8 (.int .i64 (ee : Int)) rfl (by kernel_rfl) (fun _ _ _ h => h) rfl (fun W _ => by first | kernel_rfl | rfl | simp [execOp]) (by assumption) ?_
              try simp only [Act.put, List.setIfInBounds_toArray, List.set_cons_succ, List.set_cons_zero]
              refine Agg.held_ready [9] (by kernel_rfl) (by simp) ?_
              refine Agg.held_cons rfl ?_ ?_
              · refine step_zero rfl 26 rfl (ndC ndZ) nd_zero ?_
                intro g15 wa_5_9 hb hx hg
                have N_5_9 := Lib.hid hb
                have HGG := Lib.hid (show wa_5.heap.size ≤ g15 ∧ g15 < wa_5_9.heap.size ∧ wa.heap.size ≤ g15 from ⟨hg, hb.lt, Nat.le_trans Z_5.out hg⟩)
                have T_5_9 := Lib.hid (OwnT.below hx T_5.out)
                have X_5_9 := Lib.hid (X_5.out.below hx)
                have G_5_9 := Lib.hid (G_5.out.below hx)
                have V_5_9 := Lib.hid (SliceOf.below V_5.out hx)
                have Q_5_9 := Lib.hid (Agg.belowThen Q_5.out (Nat.le_refl _) hx)
                have Z_5_9 := Lib.hid (Nat.le_trans Z_5.out hx.size)
                have hS_5_9 : Blk wa_5_9 g3 26 (ndC xn) ∧ SliceOf ES wa_5_9 v2 LM := ⟨G_5_9.out, V_5_9.out⟩
                clear hb hx hg
                refine ⟨hS_5_9, ?_⟩
                try simp only [Act.put, List.setIfInBounds_toArray, List.set_cons_succ, List.set_cons_zero]
                refine Agg.held_ready [10] (by kernel_rfl) (by simp) ?_
                refine Agg.held_cons rfl ?_ ?_
                · refine step_put rfl rfl 26 _ _ rfl g15 (ndC x15) (ndC ndZ) rfl rfl N_5_9.out (nd_info _) rfl (ndC_one _) ?_
                  intro wa_5_9_10 hb hx hs hk9
                  have ho := Only.of_eq (S := (· = g15)) hx hs hk9 rfl
                  have N_5_9_10 := Lib.hid hb
                  have T_5_9_10 := Lib.hid (OwnT.only ho _ _ _ T_5_9.out (fun j hj e => by have h1 := HRB.out j hj; have h2 := HGG.out; omega))
                  have G_5_9_10 := Lib.hid (Agg.Blk.keepO G_5_9.out ho (fun e => by have h1 := G_.out.lt; have h2 := HGG.out; have h3 := HW0.out; omega))
                  have Q_5_9_10 := Lib.hid (Q_5_9.out.trans (hx.mono (by have h2 := HGG.out; have h3 := HW0.out; omega)))
                  have V_5_9_10 := Lib.hid (SliceOf.below WM_60.out Q_5_9_10.out)
                  clear hb hx hs hk9 ho
                  have hS_5_9_10 : Blk wa_5_9_10 g3 26 (ndC xn) ∧ SliceOf ES wa_5_9_10 v2 LM := ⟨G_5_9_10.out, V_5_9_10.out⟩
                  refine ⟨hS_5_9_10, ?_⟩
                  try simp only [Act.put, List.setIfInBounds_toArray, List.set_cons_succ, List.set_cons_zero]
                  refine Agg.held_take 11 (.int .i64 (ee : Int)) rfl (by kernel_rfl) (fun _ _ _ h => h) rfl (fun W _ => by first | kernel_rfl | rfl | simp [execOp]) (by assumption) ?_
                  try simp only [Act.put, List.setIfInBounds_toArray, List.set_cons_succ, List.set_cons_zero]
                  refine Agg.held_end (by kernel_rfl) ?_
                  simp only [Agg.ExPut, Act.put, List.setIfInBounds_toArray, List.set_cons_succ, List.set_cons_zero]
                  exact ⟨g15, x15, N_5_9_10.out, ⟨x15, rfl, OwnT.reads _ _ _ T_5_9_10.out⟩, Q_5_9_10.out, _, _, _, _, _, _, _, _, _, rfl⟩
                exact AllReadyH.nil
              exact AllReadyH.nil
            refine Agg.held_cons rfl ?_ ?_
            · refine step_zero rfl 26 rfl (ndC ndZ) nd_zero ?_
              intro g15 wa_9 hb hx hg
              have N_9 := Lib.hid hb
              have HGG := Lib.hid (show wa.heap.size ≤ g15 ∧ g15 < wa_9.heap.size ∧ wa.heap.size ≤ g15 from ⟨hg, hb.lt, Nat.le_trans Z_.out hg⟩)
              have X_9 := Lib.hid (X_.out.below hx)
              have G_9 := Lib.hid (G_.out.below hx)
              have V_9 := Lib.hid (SliceOf.below V_.out hx)
              have Q_9 := Lib.hid (Agg.belowThen Q_.out (Nat.le_refl _) hx)
              have Z_9 := Lib.hid (Nat.le_trans Z_.out hx.size)
              have hS_9 : Blk wa_9 g3 26 (ndC xn) ∧ SliceOf ES wa_9 v2 LM := ⟨G_9.out, V_9.out⟩
              clear hb hx hg
              refine ⟨hS_9, ?_⟩
              try simp only [Act.put, List.setIfInBounds_toArray, List.set_cons_succ, List.set_cons_zero]
              refine Agg.held_ready [5] (by kernel_rfl) (by simp) ?_
              refine Agg.held_cons rfl ?_ ?_
              · refine Agg.step_call rfl 10 _ _ rfl #[.agg (ndC xn), .string ⟨sk.toArray⟩] (by simp only [List.map_toArray, List.map_cons, List.map_nil]; rfl) (fun W => HEF.out _ W) ?_
                refine (tfind_any t sk (by omega) _ _ X_9.out).mono ?_
                rintro e wa_5_9 ⟨x15, rfl, hon, hx⟩
                rw [HFE.out.2] at hon
                rw [HFE.out.1]
                obtain ⟨bs, hot, _⟩ := hon
                have T_5_9 := Lib.hid hot
                have HRB := Lib.hid (OwnT.range _ _ _ hot)
                have N_5_9 := Lib.hid (N_9.out.below hx)
                have X_5_9 := Lib.hid (X_9.out.below hx)
                have G_5_9 := Lib.hid (G_9.out.below hx)
                have V_5_9 := Lib.hid (SliceOf.below V_9.out hx)
                have Q_5_9 := Lib.hid (Agg.belowThen Q_9.out (Nat.le_refl _) hx)
                have Z_5_9 := Lib.hid (Nat.le_trans Z_9.out hx.size)
                have hS_5_9 : Blk wa_5_9 g3 26 (ndC xn) ∧ SliceOf ES wa_5_9 v2 LM := ⟨G_5_9.out, V_5_9.out⟩
                clear hx hot
                refine ⟨_, rfl, ?_⟩
                refine ⟨hS_5_9, ?_⟩
                try simp only [Act.put, List.setIfInBounds_toArray, List.set_cons_succ, List.set_cons_zero]
                refine Agg.held_take 6 (.tuple #[.agg (ndC x15), .int .i64 ((ee : Nat) : Int)]) rfl (by kernel_rfl) (fun _ _ _ h => h) rfl (fun W _ => by first | kernel_rfl | rfl | simp [execOp]) (by assumption) ?_
                try simp only [Act.put, List.setIfInBounds_toArray, List.set_cons_succ, List.set_cons_zero]
                refine Agg.held_take 7 (.agg (ndC x15)) rfl (by kernel_rfl) (fun _ _ _ h => h) rfl (fun W _ => by first | kernel_rfl | rfl | simp [execOp]) (by assumption) ?_
                try simp only [Act.put, List.setIfInBounds_toArray, List.set_cons_succ, List.set_cons_zero]
                refine Agg.held_take 8 (.int .i64 (ee : Int)) rfl (by kernel_rfl) (fun _ _ _ h => h) rfl (fun W _ => by first | kernel_rfl | rfl | simp [execOp]) (by assumption) ?_
                try simp only [Act.put, List.setIfInBounds_toArray, List.set_cons_succ, List.set_cons_zero]
                refine Agg.held_ready [10] (by kernel_rfl) (by simp) ?_
                refine Agg.held_cons rfl ?_ ?_
                · refine step_put rfl rfl 26 _ _ rfl g15 (ndC x15) (ndC ndZ) rfl rfl N_5_9.out (nd_info _) rfl (ndC_one _) ?_
                  intro wa_5_9_10 hb hx hs hk9
                  have ho := Only.of_eq (S := (· = g15)) hx hs hk9 rfl
                  have N_5_9_10 := Lib.hid hb
                  have T_5_9_10 := Lib.hid (OwnT.only ho _ _ _ T_5_9.out (fun j hj e => by have h1 := HRB.out j hj; have h2 := HGG.out; omega))
                  have G_5_9_10 := Lib.hid (Agg.Blk.keepO G_5_9.out ho (fun e => by have h1 := G_.out.lt; have h2 := HGG.out; have h3 := HW0.out; omega))
                  have Q_5_9_10 := Lib.hid (Q_5_9.out.trans (hx.mono (by have h2 := HGG.out; have h3 := HW0.out; omega)))
                  have V_5_9_10 := Lib.hid (SliceOf.below WM_60.out Q_5_9_10.out)
                  clear hb hx hs hk9 ho
                  have hS_5_9_10 : Blk wa_5_9_10 g3 26 (ndC xn) ∧ SliceOf ES wa_5_9_10 v2 LM := ⟨G_5_9_10.out, V_5_9_10.out⟩
                  refine ⟨hS_5_9_10, ?_⟩
                  try simp only [Act.put, List.setIfInBounds_toArray, List.set_cons_succ, List.set_cons_zero]
                  refine Agg.held_take 11 (.int .i64 (ee : Int)) rfl (by kernel_rfl) (fun _ _ _ h => h) rfl (fun W _ => by first | kernel_rfl | rfl | simp [execOp]) (by assumption) ?_
                  try simp only [Act.put, List.setIfInBounds_toArray, List.set_cons_succ, List.set_cons_zero]
                  refine Agg.held_end (by kernel_rfl) ?_
                  simp only [Agg.ExPut, Act.put, List.setIfInBounds_toArray, List.set_cons_succ, List.set_cons_zero]
                  exact ⟨g15, x15, N_5_9_10.out, ⟨x15, rfl, OwnT.reads _ _ _ T_5_9_10.out⟩, Q_5_9_10.out, _, _, _, _, _, _, _, _, _, rfl⟩
                exact AllReadyH.nil
              exact AllReadyH.nil
            exact AllReadyH.nil
          · rintro a' w61 ⟨g15, x15, hb, hn, hx, hex⟩
            simp only [Agg.ExPut, Act.put, List.setIfInBounds_toArray, List.set_cons_succ, List.set_cons_zero] at hex
            obtain ⟨y77, y78, y79, y80, y81, y82, y83, y84, y85, rfl⟩ := hex
            have Y_61 := Lib.hid (Agg.belowThen Y_60.out (Nat.le_refl _) hx)
            have XN_61 := Lib.hid (XN_60.out.below hx)
            have XO_61 := Lib.hid (XO_60.out.below hx)
            have GA_61 := Lib.hid (GA_60.out.below hx)
            have GB_61 := Lib.hid (GB_60.out.below hx)
            have WM_61 := Lib.hid (SliceOf.below WM_60.out hx)
            have HRX_61 := Lib.hid (Agg.belowThen HRX_60.out (Nat.le_refl _) hx)
            have Gg15_61 := Lib.hid hb
            have Xg15_61 := Lib.hid hn
            clear hb hn hx Y_60 XN_60 XO_60 GA_60 GB_60 WM_60 HRX_60
            have hadrk := HADK.out
            have HLDK := Lib.hid (strs_loadG WM_61.out HSK.out HADK.out)
            by_cases he0 : ee = 0
            · subst he0
              go_wp2_with fail
              go_roundw
              case rel => exact ⟨k + 1, by omega, by go_num, HRX_61.out⟩
              case measure => simp [intOf]; omega
            · have hd1 : decide ((ee : Int) = 0) = false := decide_eq_false (by omega)
              have hd2 : ((ee : Int) == 0) = false := by rw [beq_eq_false_iff_ne]; omega
              have hd3 : decide (¬ (ee : Int) = 0) = true := decide_eq_true (by omega)
              have hd4 : decide (ee = 0) = false := decide_eq_false he0
              have hd5 : ¬ (ee : Int) = 0 := by omega
              have HNE := Lib.hid he0
              go_wp2_with (first | (with_reducible refine Agg.wpList_loadL HLDK.out rfl _ rfl rfl ?_))
              refine (begins_any sk s hs _).mono ?_
              rintro e w9 ⟨rfl, hw9⟩
              rw [show w9 = w61 from hw9]
              clear hw9 w9
              cases hb1 : begins sk s with
              | true =>
                go_wp2_with fail
                go_roundw
                case rel => exact ⟨k + 1, by omega, by go_num, HRX_61.out⟩
                case measure => simp [intOf]; omega
              | false =>
                go_wp2_with (first | (with_reducible refine Agg.wpList_loadL HLDK.out rfl _ rfl rfl ?_))
                refine (begins_any s sk (by omega) _).mono ?_
                rintro e w9 ⟨rfl, hw9⟩
                rw [show w9 = w61 from hw9]
                clear hw9 w9
                cases hb2 : begins s sk with
                | false =>
                  exact absurd (HFE.out.1.symm.trans ((HST.out sk hb1 hb2).1.symm.trans HXK.out.1)) HNE.out
                | true =>
                  go_wp2_with fail
                  go_roundw
                  case rel => exact ⟨k + 1, by omega, by go_num, HRX_61.out⟩
                  case measure => simp [intOf]; omega
end Go.Proofs.YtfiadgdinhmgbaaDoor
