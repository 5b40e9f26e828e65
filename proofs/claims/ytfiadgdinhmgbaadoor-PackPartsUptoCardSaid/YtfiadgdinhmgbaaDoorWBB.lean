/- spencelaw09.PackParts. -/
import Derived.Test.YtfiadgdinhmgbaaDoorWAR
import Derived.Test.YtfiadgdinhmgbaaDoorWAS
import Derived.Test.YtfiadgdinhmgbaaDoorWAZ
import Derived.Test.YtfiadgdinhmgbaaDoorWBA
namespace Go.Tr
open Go.Proofs.YtfiadgdinhmgbaaDoor
end Go.Tr
namespace Go.Proofs.YtfiadgdinhmgbaaDoor
open Go.RowKit Pl Go.Agg Go.Tr
set_option maxRecDepth 100000 in
set_option maxHeartbeats 16000000 in
theorem packParts_any (v : Value) (at0 : Int) (b : List UInt8) (hb : b.length ≤ 1048576) (w : World) (hv : BytesAt w v b) (hcap : ∀ p n c, v = .slice p n c → n ≤ c) :
    Calls Tryd.prog 6 #[v, .int .i64 at0] w fun e w' => e = .returned (.bool true) ∧ Below w.heap.size w w' := by
  have hlv := fun W => bytes_len hv W
  have Y_0 := Lib.hid (Below.refl w.heap.size w)
  have B_0 := Lib.hid hv
  clear hv
  obtain ⟨w0, hw0⟩ : ∃ W, W = w := ⟨_, rfl⟩
  rw [← hw0] at Y_0 B_0 ⊢
  clear hw0
  go_enter Tryd.func6, Tryd.ntmps6
  go_wp2_with fail
  refine (awake09_any w0).mono ?_
  rintro e w1 ⟨rfl, hx⟩
  have Y_1 := Lib.hid (Agg.belowThen Y_0.out (Nat.le_refl _) hx)
  have B_1 := Lib.hid (SliceOf.below B_0.out hx)
  clear hx  Y_0 B_0
  by_cases h6 : 6000 < b.length
  · have hd : decide (6000 < (b.length : Int)) = true := by simp; omega
    go_wp2_with fail
    go_ret
    exact ⟨rfl, Y_1.out⟩
  have hd : decide (6000 < (b.length : Int)) = false := by simp; omega
  go_wp2_with fail
  refine (open_any v b w1 (by omega) B_1.out).mono ?_
  rintro e w2 ⟨x5, rfl, hon, hx⟩
  have Y_2 := Lib.hid (Agg.belowThen Y_1.out (Nat.le_refl _) hx)
  have B_2 := Lib.hid (SliceOf.below B_1.out hx)
  have XN_2 := Lib.hid (show NodeAt _ (.agg (ndC x5)) (opT b) from ⟨x5, rfl, hon.reads⟩)
  clear hx hon Y_1 B_1
  by_cases he : opE b = 0
  case neg =>
    have HAT := Lib.hid (show atE b [] = opE b ∧ atB b [] = [] by have h : atE b [] = opE b := by rw [atE, if_neg he]
                                                                  exact ⟨h, by rw [atB, if_neg (by rw [h]; exact he)]⟩)
    have hne : ((opE b : Int) != 0) = true := by simp; omega
    have hne2 : decide (¬ (opE b : Int) = 0) = true := by simp; omega
    have hee : ∀ n : Nat, decide ((n : Int) = (n : Int)) = true := fun n => by simp
    go_wp2_with (first | (refine Agg.wpList_new rfl rfl rfl 26 5 25 rfl rfl rfl (by decide) (ndC ndZ) (ndC x5) nd_zero (rfl) (nd_info _) (ndC_one _) rfl (by first | (simp; done) | simp [Act.put]) ?_; intro g5 w3 hb hx hg; have Y_3 := Lib.hid (Agg.belowThen Y_2.out (Nat.le_refl _) hx); have B_3 := Lib.hid (SliceOf.below B_2.out hx); have XN_3 := Lib.hid (XN_2.out.below hx); have G5_3 := Lib.hid (hb); clear hb hx hg Y_2 B_2 XN_2))
    refine (at_any v b [] (by omega) (by simp) _ B_3.out).mono ?_
    rintro e w4 ⟨vr, rfl, ho, hx⟩
    have Y_4 := Lib.hid (Agg.belowThen Y_3.out (Nat.le_refl _) hx)
    have B_4 := Lib.hid (SliceOf.below B_3.out hx)
    have XN_4 := Lib.hid (XN_3.out.below hx)
    have G5_4 := Lib.hid (G5_3.out.below hx)
    have RA_4 := Lib.hid (ho)
    clear hx ho Y_3 B_3 XN_3 G5_3
    rw [HAT.out.1]
    have ho9 := RA_4.out
    rw [HAT.out.2] at ho9
    have hlr := fun W => bytes_len ho9.slice W
    clear ho9
    go_wp2_with fail
    go_ret
    exact ⟨rfl, Y_4.out⟩
  have hne : ((opE b : Int) != 0) = false := by simp [he]
  have hne2 : decide (¬ (opE b : Int) = 0) = false := by simp [he]
  have HRT := Lib.hid (back_open he).2.1
  have HE0 := Lib.hid he
  obtain ⟨eo, heo⟩ : ∃ eo, opE b = eo := ⟨_, rfl⟩
  rw [heo] at hne hne2 ⊢
  have HEO := Lib.hid heo
  clear he heo
  go_wp2_with (first | (refine Agg.wpList_new rfl rfl rfl 26 5 25 rfl rfl rfl (by decide) (ndC ndZ) (ndC x5) nd_zero (rfl) (nd_info _) (ndC_one _) rfl (by first | (simp; done) | simp [Act.put]) ?_; intro g5 w3 hb hx hg; have Y_3 := Lib.hid (Agg.belowThen Y_2.out (Nat.le_refl _) hx); have B_3 := Lib.hid (SliceOf.below B_2.out hx); have XN_3 := Lib.hid (XN_2.out.below hx); have G5_3 := Lib.hid (hb); clear hb hx hg Y_2 B_2 XN_2) | (with_reducible refine Agg.wpList_loadL (NdL.of_blk G5_3.out).all rfl _ rfl rfl ?_))
  have YK := Lib.hid Y_3.out
  have BK := Lib.hid B_3.out
  have XNK := Lib.hid XN_3.out
  have G5K := Lib.hid G5_3.out
  have Z_3 := Lib.hid (Below.refl w3.heap.size w3)
  refine (ways_any (.agg (ndC x5)) (opT b) _ XN_3.out).mono ?_
  rintro e w4 ⟨vl, rfl, ho, hx⟩
  have Y_4 := Lib.hid (Agg.belowThen Y_3.out (Nat.le_refl _) hx)
  have B_4 := Lib.hid (SliceOf.below B_3.out hx)
  have XN_4 := Lib.hid (XN_3.out.below hx)
  have G5_4 := Lib.hid (G5_3.out.below hx)
  have Z_4 := Lib.hid (Agg.belowThen Z_3.out (Nat.le_refl _) hx)
  have WL_4 := Lib.hid (ho)
  clear hx ho Y_3 B_3 XN_3 G5_3 Z_3
  have hwl : (wysR (opT b)).length ≤ 200 := by rw [wysR, if_pos HRT.out, wysT_length]; exact right_countW HRT.out
  obtain ⟨LL, hLL⟩ : ∃ LL, wysR (opT b) ++ [[]] = LL := ⟨_, rfl⟩
  have HLL := Lib.hid hLL
  have hl1 : 1 ≤ LL.length ∧ LL.length ≤ 201 := by rw [← hLL, List.length_append, List.length_singleton]; omega
  clear hLL
  go_wp2_with (first | (refine Agg.wpList_push (E := ES) (base := w3.heap.size) rfl rfl 44 rfl _ rfl _ rfl ([] : List UInt8) rfl (fun _ => rfl) (by first | (simp; done) | simp [Act.put]) WL_4.out (by omega) (by decide) Z_4.out.size ?_; intro u5 v5 w5 ho5 hp5; have Z_5 := Lib.hid (Z_4.out.trans (hp5.below w3.heap.size (Nat.le_refl _) Z_4.out.size)); have Y_5 := Lib.hid (Agg.belowThen YK.out (Nat.le_refl _) Z_5.out); have B_5 := Lib.hid (SliceOf.below BK.out Z_5.out); have XN_5 := Lib.hid (XNK.out.below Z_5.out); have G5_5 := Lib.hid (G5K.out.below Z_5.out); rw [HLL.out] at ho5; have WL_5 := Lib.hid ho5; have hll := fun W => strs_len ho5.slice W; clear ho5 hp5 Y_4 B_4 XN_4 G5_4 Z_4 WL_4))
  refine (pick_any at0 LL.length hl1.1 (by omega) _).mono ?_
  rintro e w9 ⟨⟨kk, hkk, rfl⟩, rfl⟩
  obtain ⟨s, hs⟩ : ∃ s, LL[kk]? = some s := ⟨_, List.getElem?_eq_getElem hkk⟩
  obtain ⟨pp, hadr, hld⟩ := strs_at WL_5.out.slice kk s hs
  have HLD := Lib.hid hld
  obtain ⟨x, ws, hfe, hft, hfw, hsl, _⟩ := wysT_mem HRT.out (show s ∈ wysT (opT b) ++ [[]] by have h := List.mem_of_getElem? hs; rw [← HLL.out, wysR, if_pos HRT.out] at h; exact h)
  obtain ⟨hp1, hp2, hp3⟩ := parts HE0.out hfw
  have hae : atE b s = 0 := by rw [atE, if_pos HE0.out, hfe]
  have hab : atB b s = packB x := by rw [atB, if_pos hae, hft]
  have hrx := find_right HRT.out hfw
  have hpl := right_pack hrx
  have HP := Lib.hid (And.intro hp1 (And.intro hp2 hp3))
  have HRX := Lib.hid hrx
  have HF := Lib.hid (And.intro hfe hft)
  have HA := Lib.hid (And.intro hae hab)
  clear hld hs hfe hft hfw hp1 hp2 hp3 hae hab hrx
  go_wp2_with (first | (with_reducible refine Agg.wpList_loadL HLD.out rfl _ rfl rfl ?_))
  clear hadr HLD hll
  refine (at_any v b s (by omega) (by omega) _ B_5.out).mono ?_
  rintro e w6 ⟨vr, rfl, ho, hx⟩
  have Y_6 := Lib.hid (Agg.belowThen Y_5.out (Nat.le_refl _) hx)
  have B_6 := Lib.hid (SliceOf.below B_5.out hx)
  have XN_6 := Lib.hid (XN_5.out.below hx)
  have G5_6 := Lib.hid (G5_5.out.below hx)
  have Z_6 := Lib.hid (Agg.belowThen Z_5.out (Nat.le_refl _) hx)
  have WL_6 := Lib.hid (WL_5.out.below hx)
  have RA_6 := Lib.hid (HA.out.2 ▸ ho)
  clear hx ho Y_5 B_5 XN_5 G5_5 Z_5 WL_5
  rw [HA.out.1]
  go_wp2_with fail
  refine (open_any vr (packB x) _ (by omega) RA_6.out.slice).mono ?_
  rintro e w7 ⟨xm, rfl, hon, hx⟩
  have Y_7 := Lib.hid (Agg.belowThen Y_6.out (Nat.le_refl _) hx)
  have B_7 := Lib.hid (SliceOf.below B_6.out hx)
  have XN_7 := Lib.hid (XN_6.out.below hx)
  have G5_7 := Lib.hid (G5_6.out.below hx)
  have Z_7 := Lib.hid (Agg.belowThen Z_6.out (Nat.le_refl _) hx)
  have WL_7 := Lib.hid (WL_6.out.below hx)
  have RA_7 := Lib.hid (RA_6.out.below hx)
  have XM_7 := Lib.hid (show NodeAt _ (.agg (ndC xm)) x from ⟨xm, rfl, HP.out.2.1 ▸ hon.reads⟩)
  clear hx hon Y_6 B_6 XN_6 G5_6 Z_6 WL_6 RA_6
  rw [HP.out.1]
  go_wp2_with (first | (refine Agg.wpList_new rfl rfl rfl 26 13 62 rfl rfl rfl (by decide) (ndC ndZ) (ndC xm) nd_zero (rfl) (nd_info _) (ndC_one _) rfl (by first | (simp; done) | simp [Act.put]) ?_; intro g13 w8 hb hx hg; have Y_8 := Lib.hid (Agg.belowThen Y_7.out (Nat.le_refl _) hx); have B_8 := Lib.hid (SliceOf.below B_7.out hx); have XN_8 := Lib.hid (XN_7.out.below hx); have G5_8 := Lib.hid (G5_7.out.below hx); have Z_8 := Lib.hid (Agg.belowThen Z_7.out (Nat.le_refl _) hx); have WL_8 := Lib.hid (WL_7.out.below hx); have RA_8 := Lib.hid (RA_7.out.below hx); have XM_8 := Lib.hid (XM_7.out.below hx); have GM_8 := Lib.hid (hb); clear hb hx hg Y_7 B_7 XN_7 G5_7 Z_7 WL_7 RA_7 XM_7) | (with_reducible refine Agg.wpList_loadL (NdL.of_blk G5_8.out).all rfl _ rfl rfl ?_))
  refine (tfind_any (opT b) s (by omega) _ _ XN_8.out).mono ?_
  rintro e w9 ⟨xf, rfl, hon, hx⟩
  have Y_9 := Lib.hid (Agg.belowThen Y_8.out (Nat.le_refl _) hx)
  have B_9 := Lib.hid (SliceOf.below B_8.out hx)
  have XN_9 := Lib.hid (XN_8.out.below hx)
  have G5_9 := Lib.hid (G5_8.out.below hx)
  have Z_9 := Lib.hid (Agg.belowThen Z_8.out (Nat.le_refl _) hx)
  have WL_9 := Lib.hid (WL_8.out.below hx)
  have RA_9 := Lib.hid (RA_8.out.below hx)
  have XM_9 := Lib.hid (XM_8.out.below hx)
  have GM_9 := Lib.hid (GM_8.out.below hx)
  have XF_9 := Lib.hid (show NodeAt _ (.agg (ndC xf)) x from ⟨xf, rfl, HF.out.2 ▸ hon.reads⟩)
  clear hx hon Y_8 B_8 XN_8 G5_8 Z_8 WL_8 RA_8 XM_8 GM_8
  rw [HF.out.1]
  go_wp2_with (first | (refine Agg.wpList_new rfl rfl rfl 26 15 68 rfl rfl rfl (by decide) (ndC ndZ) (ndC xf) nd_zero (rfl) (nd_info _) (ndC_one _) rfl (by first | (simp; done) | simp [Act.put]) ?_; intro g15 w10 hb hx hg; have Y_10 := Lib.hid (Agg.belowThen Y_9.out (Nat.le_refl _) hx); have B_10 := Lib.hid (SliceOf.below B_9.out hx); have XN_10 := Lib.hid (XN_9.out.below hx); have G5_10 := Lib.hid (G5_9.out.below hx); have Z_10 := Lib.hid (Agg.belowThen Z_9.out (Nat.le_refl _) hx); have WL_10 := Lib.hid (WL_9.out.below hx); have RA_10 := Lib.hid (RA_9.out.below hx); have XM_10 := Lib.hid (XM_9.out.below hx); have GM_10 := Lib.hid (GM_9.out.below hx); have XF_10 := Lib.hid (XF_9.out.below hx); have GF_10 := Lib.hid (hb); clear hb hx hg Y_9 B_9 XN_9 G5_9 Z_9 WL_9 RA_9 XM_9 GM_9 XF_9) | (with_reducible refine Agg.wpList_loadL (NdL.of_blk GM_10.out).all rfl _ rfl rfl ?_) | (with_reducible refine Agg.wpList_loadL (NdL.of_blk GF_10.out).all rfl _ rfl rfl ?_))
  refine (equal_any x x _ _ _ XM_10.out XF_10.out).mono ?_
  rintro e w11 ⟨rfl, hx⟩
  have Y_11 := Lib.hid (Agg.belowThen Y_10.out (Nat.le_refl _) hx)
  have B_11 := Lib.hid (SliceOf.below B_10.out hx)
  have XN_11 := Lib.hid (XN_10.out.below hx)
  have G5_11 := Lib.hid (G5_10.out.below hx)
  have Z_11 := Lib.hid (Agg.belowThen Z_10.out (Nat.le_refl _) hx)
  have WL_11 := Lib.hid (WL_10.out.below hx)
  have RA_11 := Lib.hid (RA_10.out.below hx)
  have XM_11 := Lib.hid (XM_10.out.below hx)
  have GM_11 := Lib.hid (GM_10.out.below hx)
  have XF_11 := Lib.hid (XF_10.out.below hx)
  have GF_11 := Lib.hid (GF_10.out.below hx)
  clear hx  Y_10 B_10 XN_10 G5_10 Z_10 WL_10 RA_10 XM_10 GM_10 XF_10 GF_10
  rw [show (right x && (right x && same x x)) = true by rw [HRX.out, (same_iff x x).2 rfl]; rfl]
  go_wp2_with fail
  refine (within_any vr v (packB x) b HP.out.2.2 hb _ RA_11.out.slice B_11.out hcap).mono ?_
  rintro e w12 ⟨rfl, hx⟩
  have Y_12 := Lib.hid (Agg.belowThen Y_11.out (Nat.le_refl _) hx)
  have B_12 := Lib.hid (SliceOf.below B_11.out hx)
  have XN_12 := Lib.hid (XN_11.out.below hx)
  have G5_12 := Lib.hid (G5_11.out.below hx)
  have Z_12 := Lib.hid (Agg.belowThen Z_11.out (Nat.le_refl _) hx)
  have WL_12 := Lib.hid (WL_11.out.below hx)
  have RA_12 := Lib.hid (RA_11.out.below hx)
  have XM_12 := Lib.hid (XM_11.out.below hx)
  have GM_12 := Lib.hid (GM_11.out.below hx)
  have XF_12 := Lib.hid (XF_11.out.below hx)
  have GF_12 := Lib.hid (GF_11.out.below hx)
  clear hx  Y_11 B_11 XN_11 G5_11 Z_11 WL_11 RA_11 XM_11 GM_11 XF_11 GF_11
  go_wp2_with fail
  go_ret
  exact ⟨rfl, Y_12.out⟩
end Go.Proofs.YtfiadgdinhmgbaaDoor
