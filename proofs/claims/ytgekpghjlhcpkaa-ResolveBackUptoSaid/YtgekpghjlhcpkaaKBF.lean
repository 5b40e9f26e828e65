/- spencelaw20.ResolveBack. -/
import Derived.Test.YtgekpghjlhcpkaaKBB
import Derived.Test.YtgekpghjlhcpkaaKBE
namespace Go.Proofs.Ytgekpghjlhcpkaa
open Go.RowKit Pl Go.Agg
theorem build_rsz (w : World) : (Instr.build 33 #[]).run Try.prog w = .ok (.agg (rsC [] (.slice none 0 0) (.slice none 0 0))) w := by kernel_rfl
set_option maxRecDepth 100000 in
set_option maxHeartbeats 64000000 in
theorem resolveBack_any (v1 v2 v3 : Value) (r s : Rv) (b : List UInt8) (hrn : r.1.length ≤ 1048576) (hrr : r.2.2.length ≤ 1048576) (hri : ∀ x ∈ r.2.1, x.1.length ≤ 1048576 ∧ x.2.1.2.length ≤ 1048576) (hrl : r.2.1.length ≤ 1048576)
    (hsn : s.1.length ≤ 1048576) (hsr : s.2.2.length ≤ 1048576) (hsi : ∀ x ∈ s.2.1, x.1.length ≤ 1048576 ∧ x.2.1.2.length ≤ 1048576) (hsl : s.2.1.length ≤ 1048576) (hbl0 : b.length ≤ 1048576) (w0 : World) (h1 : RvAt w0 v1 r) (h2 : RvAt w0 v2 s) (h3 : BytesAt w0 v3 b) :
    Calls Try.prog 5 #[v1, v2, v3] w0 fun e w' => e = .returned (.bool true) ∧ Below w0.heap.size w0 w' := by
  obtain ⟨vi, vr, rfl, hvi, hvr⟩ := h1
  obtain ⟨ui, ur, rfl, hui, hur⟩ := h2
  have hbl : b.length ≤ 16777216 := by omega
  have hlb := bytes_len h3
  have RI_0 := Lib.hid hvi
  have RR_0 := Lib.hid hvr
  have SI_0 := Lib.hid hui
  have SR_0 := Lib.hid hur
  have B_0 := Lib.hid h3
  have X_0 := Lib.hid (Below.refl w0.heap.size w0)
  have HGET := Lib.hid (fun (v : Value) (b : List UInt8) (W : World) (hl : b.length ≤ 16777216) (h : BytesAt W v b) => rget_any v b W hl h)
  obtain ⟨k1, hk1e⟩ : ∃ q, tagL tKey r = q := ⟨_, rfl⟩
  obtain ⟨k2, hk2e⟩ : ∃ q, tagL tKey s = q := ⟨_, rfl⟩
  obtain ⟨j1, hj1e⟩ : ∃ q, dummyH r = q := ⟨_, rfl⟩
  obtain ⟨j2, hj2e⟩ : ∃ q, dummyH s = q := ⟨_, rfl⟩
  have hk1 : k1.length = 20 := by rw [← hk1e]; exact tagL_length _ _
  have hk2 : k2.length = 20 := by rw [← hk2e]; exact tagL_length _ _
  have hj1 : j1.length = 20 := by rw [← hj1e]; exact tagL_length _ _
  have hj2 : j2.length = 20 := by rw [← hj2e]; exact tagL_length _ _
  have HK1 := Lib.hid hk1e
  have HK2 := Lib.hid hk2e
  have HJ1 := Lib.hid hj1e
  have HJ2 := Lib.hid hj2e
  have HKR := Lib.hid (fun (v : Value) (W : World) (h : RvAt W v r) => rkey_any v r hrl W h)
  have HKS := Lib.hid (fun (v : Value) (W : World) (h : RvAt W v s) => rkey_any v s hsl W h)
  have HDR := Lib.hid (fun (v : Value) (W : World) (h : RvAt W v r) => rdummy_any v r hrl W h)
  have HDS := Lib.hid (fun (v : Value) (W : World) (h : RvAt W v s) => rdummy_any v s hsl W h)
  rw [hk1e] at HKR
  rw [hk2e] at HKS
  rw [hj1e] at HDR
  rw [hj2e] at HDS
  clear hk1e hk2e hj1e hj2e hvi hvr hui hur h3
  go_enter Try.func5, Try.ntmps5
  go_wp2_with (first | (with_reducible refine Agg.wpList_box rfl 33 _ rfl (#[.string ⟨r.1.toArray⟩, vi, vr]) rfl ?_; intro g3 w1 hb hx hg; have RI_1 := Lib.hid (SliceOf.below RI_0.out hx); have RR_1 := Lib.hid (SliceOf.below RR_0.out hx); have SI_1 := Lib.hid (SliceOf.below SI_0.out hx); have SR_1 := Lib.hid (SliceOf.below SR_0.out hx); have B_1 := Lib.hid (SliceOf.below B_0.out hx); have X_1 := Lib.hid (Agg.belowThen X_0.out (Nat.le_refl _) hx); have RB_1 := Lib.hid (RvB.of_blk hb); clear hb hx hg RI_0 RR_0 SI_0 SR_0 B_0 X_0) | (with_reducible refine Agg.wpList_box rfl 33 _ rfl (#[.string ⟨s.1.toArray⟩, ui, ur]) rfl ?_; intro g4 w2 hb hx hg; have RI_2 := Lib.hid (SliceOf.below RI_1.out hx); have RR_2 := Lib.hid (SliceOf.below RR_1.out hx); have SI_2 := Lib.hid (SliceOf.below SI_1.out hx); have SR_2 := Lib.hid (SliceOf.below SR_1.out hx); have B_2 := Lib.hid (SliceOf.below B_1.out hx); have X_2 := Lib.hid (Agg.belowThen X_1.out (Nat.le_refl _) hx); have RB_2 := Lib.hid (RB_1.out.below hx); have SB_2 := Lib.hid (RvB.of_blk hb); clear hb hx hg RI_1 RR_1 SI_1 SR_1 B_1 X_1 RB_1))
  refine (awake20_any _).mono ?_
  rintro e w3 ⟨rfl, hx⟩
  have RI_3 := Lib.hid (SliceOf.below RI_2.out hx)
  have RR_3 := Lib.hid (SliceOf.below RR_2.out hx)
  have SI_3 := Lib.hid (SliceOf.below SI_2.out hx)
  have SR_3 := Lib.hid (SliceOf.below SR_2.out hx)
  have B_3 := Lib.hid (SliceOf.below B_2.out hx)
  have X_3 := Lib.hid (Agg.belowThen X_2.out (Nat.le_refl _) hx)
  have RB_3 := Lib.hid (RB_2.out.below hx)
  have SB_3 := Lib.hid (SB_2.out.below hx)
  clear hx  RI_2 RR_2 SI_2 SR_2 B_2 X_2 RB_2 SB_2
  go_wp2_with (first | (with_reducible refine Agg.wpList_loadL RB_3.out.all rfl _ rfl rfl ?_))
  refine (great20_any _ r hrn hrr hri hrl _ ⟨vi, vr, rfl, RI_3.out, RR_3.out⟩).mono ?_
  rintro e w4 ⟨⟨bb, rfl⟩, hx⟩
  have RI_4 := Lib.hid (SliceOf.below RI_3.out hx)
  have RR_4 := Lib.hid (SliceOf.below RR_3.out hx)
  have SI_4 := Lib.hid (SliceOf.below SI_3.out hx)
  have SR_4 := Lib.hid (SliceOf.below SR_3.out hx)
  have B_4 := Lib.hid (SliceOf.below B_3.out hx)
  have X_4 := Lib.hid (Agg.belowThen X_3.out (Nat.le_refl _) hx)
  have RB_4 := Lib.hid (RB_3.out.below hx)
  have SB_4 := Lib.hid (SB_3.out.below hx)
  clear hx  RI_3 RR_3 SI_3 SR_3 B_3 X_3 RB_3 SB_3
  cases bb with
  | true =>
    go_wp2_with fail
    go_ret
    exact ⟨rfl, X_4.out⟩
  | false =>
  go_wp2_with (first | (with_reducible refine Agg.wpList_loadL SB_4.out.all rfl _ rfl rfl ?_))
  refine (great20_any _ s hsn hsr hsi hsl _ ⟨ui, ur, rfl, SI_4.out, SR_4.out⟩).mono ?_
  rintro e w5 ⟨⟨bb, rfl⟩, hx⟩
  have RI_5 := Lib.hid (SliceOf.below RI_4.out hx)
  have RR_5 := Lib.hid (SliceOf.below RR_4.out hx)
  have SI_5 := Lib.hid (SliceOf.below SI_4.out hx)
  have SR_5 := Lib.hid (SliceOf.below SR_4.out hx)
  have B_5 := Lib.hid (SliceOf.below B_4.out hx)
  have X_5 := Lib.hid (Agg.belowThen X_4.out (Nat.le_refl _) hx)
  have RB_5 := Lib.hid (RB_4.out.below hx)
  have SB_5 := Lib.hid (SB_4.out.below hx)
  clear hx  RI_4 RR_4 SI_4 SR_4 B_4 X_4 RB_4 SB_4
  cases bb with
  | true =>
    go_wp2_with fail
    go_ret
    exact ⟨rfl, X_5.out⟩
  | false =>
  by_cases hb3 : 3000 < b.length
  · have hd3 : decide (3000 < (b.length : Int)) = true := by simp; omega
    go_wp2_with fail
    go_ret
    exact ⟨rfl, X_5.out⟩
  have hd3 : decide (3000 < (b.length : Int)) = false := by simp; omega
  go_wp2_with (first | (with_reducible refine Agg.wpList_loadL RB_5.out.all rfl _ rfl rfl ?_))
  refine (rput_any _ r hrl _ ⟨vi, vr, rfl, RI_5.out, RR_5.out⟩).mono ?_
  rintro e w6 ⟨xv, rfl, hxv, hx⟩
  have RI_6 := Lib.hid (SliceOf.below RI_5.out hx)
  have RR_6 := Lib.hid (SliceOf.below RR_5.out hx)
  have SI_6 := Lib.hid (SliceOf.below SI_5.out hx)
  have SR_6 := Lib.hid (SliceOf.below SR_5.out hx)
  have B_6 := Lib.hid (SliceOf.below B_5.out hx)
  have X_6 := Lib.hid (Agg.belowThen X_5.out (Nat.le_refl _) hx)
  have RB_6 := Lib.hid (RB_5.out.below hx)
  have SB_6 := Lib.hid (SB_5.out.below hx)
  have XV_6 := Lib.hid (hxv.slice)
  clear hx hxv RI_5 RR_5 SI_5 SR_5 B_5 X_5 RB_5 SB_5
  go_wp2_with (first | (with_reducible refine Agg.wpList_loadL SB_6.out.all rfl _ rfl rfl ?_))
  refine (rput_any _ s hsl _ ⟨ui, ur, rfl, SI_6.out, SR_6.out⟩).mono ?_
  rintro e w7 ⟨yv, rfl, hyv, hx⟩
  have RI_7 := Lib.hid (SliceOf.below RI_6.out hx)
  have RR_7 := Lib.hid (SliceOf.below RR_6.out hx)
  have SI_7 := Lib.hid (SliceOf.below SI_6.out hx)
  have SR_7 := Lib.hid (SliceOf.below SR_6.out hx)
  have B_7 := Lib.hid (SliceOf.below B_6.out hx)
  have X_7 := Lib.hid (Agg.belowThen X_6.out (Nat.le_refl _) hx)
  have RB_7 := Lib.hid (RB_6.out.below hx)
  have SB_7 := Lib.hid (SB_6.out.below hx)
  have XV_7 := Lib.hid (SliceOf.below XV_6.out hx)
  have YV_7 := Lib.hid (hyv.slice)
  clear hx hyv RI_6 RR_6 SI_6 SR_6 B_6 X_6 RB_6 SB_6 XV_6
  cases hcr : canRv r with
  | false =>
    have her : errRv r = 2 := by simp [errRv, hcr]
    rw [her]
    have HCR := Lib.hid hcr
    clear her hcr
    go_wp2_with (first | (with_reducible refine Agg.wpList_loadL RB_7.out.all rfl _ rfl rfl ?_))
    refine (rsCan_any _ r hrl _ ⟨vi, vr, rfl, RI_7.out, RR_7.out⟩).mono ?_
    rw [HCR.out]
    rintro e w8 ⟨rfl, hx⟩
    have RI_8 := Lib.hid (SliceOf.below RI_7.out hx)
    have RR_8 := Lib.hid (SliceOf.below RR_7.out hx)
    have SI_8 := Lib.hid (SliceOf.below SI_7.out hx)
    have SR_8 := Lib.hid (SliceOf.below SR_7.out hx)
    have B_8 := Lib.hid (SliceOf.below B_7.out hx)
    have X_8 := Lib.hid (Agg.belowThen X_7.out (Nat.le_refl _) hx)
    have RB_8 := Lib.hid (RB_7.out.below hx)
    have SB_8 := Lib.hid (SB_7.out.below hx)
    have XV_8 := Lib.hid (SliceOf.below XV_7.out hx)
    have YV_8 := Lib.hid (SliceOf.below YV_7.out hx)
    clear hx  RI_7 RR_7 SI_7 SR_7 B_7 X_7 RB_7 SB_7 XV_7 YV_7
    go_wp2_with fail
    refine (HGET.out v3 b _ hbl (B_8.out)).mono ?_
    rintro e w9 ⟨zi, zr, rfl, hzi, hzr, hx⟩
    have RI_9 := Lib.hid (SliceOf.below RI_8.out hx)
    have RR_9 := Lib.hid (SliceOf.below RR_8.out hx)
    have SI_9 := Lib.hid (SliceOf.below SI_8.out hx)
    have SR_9 := Lib.hid (SliceOf.below SR_8.out hx)
    have B_9 := Lib.hid (SliceOf.below B_8.out hx)
    have X_9 := Lib.hid (Agg.belowThen X_8.out (Nat.le_refl _) hx)
    have RB_9 := Lib.hid (RB_8.out.below hx)
    have SB_9 := Lib.hid (SB_8.out.below hx)
    have XV_9 := Lib.hid (SliceOf.below XV_8.out hx)
    have YV_9 := Lib.hid (SliceOf.below YV_8.out hx)
    have ZI_9 := Lib.hid (hzi.slice)
    have ZR_9 := Lib.hid (hzr.slice)
    clear hx hzi hzr RI_8 RR_8 SI_8 SR_8 B_8 X_8 RB_8 SB_8 XV_8 YV_8
    cases hgb : getRv b with
    | none =>
      obtain ⟨hgo, hge⟩ := getO_none hgb
      have HZC := Lib.hid (show canRv zRv = false by decide +kernel)
      have HPE := Lib.hid (show errRv zRv = 2 by simp [errRv, HZC.out])
      rw [hgo] at ZI_9 ZR_9
      rw [hgo, hge]
      have hpe : errRv zRv = 2 := HPE.out
      clear hgo hge hgb
      go_wp2_with (first | (refine Agg.wpList_new rfl rfl rfl 33 21 136 rfl rfl rfl (by decide) (rsC [] (.slice none 0 0) (.slice none 0 0)) (rsC ([] : List UInt8) zi zr) rsC_zero (rsC_ss _ _ _ _ _ _) (rsC_info _ _ _) (rsC_one _ ZI_9.out ZR_9.out) rfl (by first | (simp; done) | simp [Act.put]) ?_; intro gz w10 hb hx hg; have RI_10 := Lib.hid (SliceOf.below RI_9.out hx); have RR_10 := Lib.hid (SliceOf.below RR_9.out hx); have SI_10 := Lib.hid (SliceOf.below SI_9.out hx); have SR_10 := Lib.hid (SliceOf.below SR_9.out hx); have B_10 := Lib.hid (SliceOf.below B_9.out hx); have X_10 := Lib.hid (Agg.belowThen X_9.out (Nat.le_refl _) hx); have RB_10 := Lib.hid (RB_9.out.below hx); have SB_10 := Lib.hid (SB_9.out.below hx); have XV_10 := Lib.hid (SliceOf.below XV_9.out hx); have YV_10 := Lib.hid (SliceOf.below YV_9.out hx); have ZI_10 := Lib.hid (SliceOf.below ZI_9.out hx); have ZR_10 := Lib.hid (SliceOf.below ZR_9.out hx); have ZB_10 := Lib.hid ((RvB.of_blk hb)); clear hb hx hg RI_9 RR_9 SI_9 SR_9 B_9 X_9 RB_9 SB_9 XV_9 YV_9 ZI_9 ZR_9) | (with_reducible refine Agg.wpList_loadL ZB_10.out.all rfl _ rfl rfl ?_))
      refine (rput_any _ zRv (by first | decide | (have := can_parts HPG.out.1; have := this.inp; omega)) _ ⟨zi, zr, rfl, ZI_10.out, ZR_10.out⟩).mono ?_
      rintro e w11 ⟨zv, rfl, hzv, hx⟩
      have RI_11 := Lib.hid (SliceOf.below RI_10.out hx)
      have RR_11 := Lib.hid (SliceOf.below RR_10.out hx)
      have SI_11 := Lib.hid (SliceOf.below SI_10.out hx)
      have SR_11 := Lib.hid (SliceOf.below SR_10.out hx)
      have B_11 := Lib.hid (SliceOf.below B_10.out hx)
      have X_11 := Lib.hid (Agg.belowThen X_10.out (Nat.le_refl _) hx)
      have RB_11 := Lib.hid (RB_10.out.below hx)
      have SB_11 := Lib.hid (SB_10.out.below hx)
      have XV_11 := Lib.hid (SliceOf.below XV_10.out hx)
      have YV_11 := Lib.hid (SliceOf.below YV_10.out hx)
      have ZI_11 := Lib.hid (SliceOf.below ZI_10.out hx)
      have ZR_11 := Lib.hid (SliceOf.below ZR_10.out hx)
      have ZB_11 := Lib.hid (ZB_10.out.below hx)
      have ZV_11 := Lib.hid (hzv.slice)
      clear hx hzv RI_10 RR_10 SI_10 SR_10 B_10 X_10 RB_10 SB_10 XV_10 YV_10 ZI_10 ZR_10 ZB_10
      rw [hpe]
      go_wp2_with (first | (with_reducible refine Agg.wpList_loadL ZB_11.out.all rfl _ rfl rfl ?_) | (with_reducible refine Agg.wpList_build0 33 rfl (by kernel_rfl) (.agg (rsC [] (.slice none 0 0) (.slice none 0 0))) build_rsz ?_))
      refine (alike_any _ _ zRv zRv (by decide) (by decide) (by decide) (by decide) _ ⟨zi, zr, rfl, ZI_11.out, ZR_11.out⟩ ⟨_, _, rfl, SliceOf.nil _ _ _, SliceOf.nil _ _ _⟩).mono ?_
      rintro e w12 ⟨rfl, hx⟩
      have RI_12 := Lib.hid (SliceOf.below RI_11.out hx)
      have RR_12 := Lib.hid (SliceOf.below RR_11.out hx)
      have SI_12 := Lib.hid (SliceOf.below SI_11.out hx)
      have SR_12 := Lib.hid (SliceOf.below SR_11.out hx)
      have B_12 := Lib.hid (SliceOf.below B_11.out hx)
      have X_12 := Lib.hid (Agg.belowThen X_11.out (Nat.le_refl _) hx)
      have RB_12 := Lib.hid (RB_11.out.below hx)
      have SB_12 := Lib.hid (SB_11.out.below hx)
      have XV_12 := Lib.hid (SliceOf.below XV_11.out hx)
      have YV_12 := Lib.hid (SliceOf.below YV_11.out hx)
      have ZI_12 := Lib.hid (SliceOf.below ZI_11.out hx)
      have ZR_12 := Lib.hid (SliceOf.below ZR_11.out hx)
      have ZB_12 := Lib.hid (ZB_11.out.below hx)
      have ZV_12 := Lib.hid (SliceOf.below ZV_11.out hx)
      clear hx  RI_11 RR_11 SI_11 SR_11 B_11 X_11 RB_11 SB_11 XV_11 YV_11 ZI_11 ZR_11 ZB_11 ZV_11
      go_wp2_with fail
      go_ret
      exact ⟨ret_bool (by simp), X_12.out⟩
    | some q =>
      obtain ⟨hgo, hge⟩ := getO_some hgb
      have HPG := Lib.hid (put_get hgb)
      have HPE := Lib.hid (show errRv q = 0 by simp [errRv, HPG.out.1])
      rw [hgo] at ZI_9 ZR_9
      rw [hgo, hge]
      have hpe : errRv q = 0 := HPE.out
      clear hgo hge hgb
      go_wp2_with (first | (refine Agg.wpList_new rfl rfl rfl 33 21 136 rfl rfl rfl (by decide) (rsC [] (.slice none 0 0) (.slice none 0 0)) (rsC q.1 zi zr) rsC_zero (rsC_ss _ _ _ _ _ _) (rsC_info _ _ _) (rsC_one _ ZI_9.out ZR_9.out) rfl (by first | (simp; done) | simp [Act.put]) ?_; intro gz w10 hb hx hg; have RI_10 := Lib.hid (SliceOf.below RI_9.out hx); have RR_10 := Lib.hid (SliceOf.below RR_9.out hx); have SI_10 := Lib.hid (SliceOf.below SI_9.out hx); have SR_10 := Lib.hid (SliceOf.below SR_9.out hx); have B_10 := Lib.hid (SliceOf.below B_9.out hx); have X_10 := Lib.hid (Agg.belowThen X_9.out (Nat.le_refl _) hx); have RB_10 := Lib.hid (RB_9.out.below hx); have SB_10 := Lib.hid (SB_9.out.below hx); have XV_10 := Lib.hid (SliceOf.below XV_9.out hx); have YV_10 := Lib.hid (SliceOf.below YV_9.out hx); have ZI_10 := Lib.hid (SliceOf.below ZI_9.out hx); have ZR_10 := Lib.hid (SliceOf.below ZR_9.out hx); have ZB_10 := Lib.hid ((RvB.of_blk hb)); clear hb hx hg RI_9 RR_9 SI_9 SR_9 B_9 X_9 RB_9 SB_9 XV_9 YV_9 ZI_9 ZR_9) | (with_reducible refine Agg.wpList_loadL ZB_10.out.all rfl _ rfl rfl ?_))
      refine (rput_any _ q (by first | decide | (have := can_parts HPG.out.1; have := this.inp; omega)) _ ⟨zi, zr, rfl, ZI_10.out, ZR_10.out⟩).mono ?_
      rintro e w11 ⟨zv, rfl, hzv, hx⟩
      have RI_11 := Lib.hid (SliceOf.below RI_10.out hx)
      have RR_11 := Lib.hid (SliceOf.below RR_10.out hx)
      have SI_11 := Lib.hid (SliceOf.below SI_10.out hx)
      have SR_11 := Lib.hid (SliceOf.below SR_10.out hx)
      have B_11 := Lib.hid (SliceOf.below B_10.out hx)
      have X_11 := Lib.hid (Agg.belowThen X_10.out (Nat.le_refl _) hx)
      have RB_11 := Lib.hid (RB_10.out.below hx)
      have SB_11 := Lib.hid (SB_10.out.below hx)
      have XV_11 := Lib.hid (SliceOf.below XV_10.out hx)
      have YV_11 := Lib.hid (SliceOf.below YV_10.out hx)
      have ZI_11 := Lib.hid (SliceOf.below ZI_10.out hx)
      have ZR_11 := Lib.hid (SliceOf.below ZR_10.out hx)
      have ZB_11 := Lib.hid (ZB_10.out.below hx)
      have ZV_11 := Lib.hid (hzv.slice)
      clear hx hzv RI_10 RR_10 SI_10 SR_10 B_10 X_10 RB_10 SB_10 XV_10 YV_10 ZI_10 ZR_10 ZB_10
      rw [hpe]
      rw [show putRv q = b by unfold putRv; rw [if_pos HPG.out.1, HPG.out.2]] at ZV_11
      go_wp2_with (first | (with_reducible refine Agg.wpList_loadL ZB_11.out.all rfl _ rfl rfl ?_))
      refine (sameBytes_any zv v3 b b (by omega) (by omega) _ ZV_11.out B_11.out).mono ?_
      rintro e w12 ⟨rfl, hx⟩
      have RI_12 := Lib.hid (SliceOf.below RI_11.out hx)
      have RR_12 := Lib.hid (SliceOf.below RR_11.out hx)
      have SI_12 := Lib.hid (SliceOf.below SI_11.out hx)
      have SR_12 := Lib.hid (SliceOf.below SR_11.out hx)
      have B_12 := Lib.hid (SliceOf.below B_11.out hx)
      have X_12 := Lib.hid (Agg.belowThen X_11.out (Nat.le_refl _) hx)
      have RB_12 := Lib.hid (RB_11.out.below hx)
      have SB_12 := Lib.hid (SB_11.out.below hx)
      have XV_12 := Lib.hid (SliceOf.below XV_11.out hx)
      have YV_12 := Lib.hid (SliceOf.below YV_11.out hx)
      have ZI_12 := Lib.hid (SliceOf.below ZI_11.out hx)
      have ZR_12 := Lib.hid (SliceOf.below ZR_11.out hx)
      have ZB_12 := Lib.hid (ZB_11.out.below hx)
      have ZV_12 := Lib.hid (SliceOf.below ZV_11.out hx)
      clear hx  RI_11 RR_11 SI_11 SR_11 B_11 X_11 RB_11 SB_11 XV_11 YV_11 ZI_11 ZR_11 ZB_11 ZV_11
      go_wp2_with fail
      go_ret
      exact ⟨ret_bool (by simp), X_12.out⟩
  | true =>
  have her : errRv r = 0 := by simp [errRv, hcr]
  have hpr : putRv r = putRs r := by simp [putRv, hcr]
  rw [hpr] at XV_7
  rw [her]
  have HCR := Lib.hid hcr
  have HGP := Lib.hid (getO_some (get_put hcr))
  have HPL := Lib.hid (putRs_len hcr)
  have HER := Lib.hid her
  clear her hcr hpr
  go_wp2_with (first | (with_reducible refine Agg.wpList_loadL RB_7.out.all rfl _ rfl rfl ?_))
  refine (rsCan_any _ r hrl _ ⟨vi, vr, rfl, RI_7.out, RR_7.out⟩).mono ?_
  rw [HCR.out]
  rintro e w8 ⟨rfl, hx⟩
  have RI_8 := Lib.hid (SliceOf.below RI_7.out hx)
  have RR_8 := Lib.hid (SliceOf.below RR_7.out hx)
  have SI_8 := Lib.hid (SliceOf.below SI_7.out hx)
  have SR_8 := Lib.hid (SliceOf.below SR_7.out hx)
  have B_8 := Lib.hid (SliceOf.below B_7.out hx)
  have X_8 := Lib.hid (Agg.belowThen X_7.out (Nat.le_refl _) hx)
  have RB_8 := Lib.hid (RB_7.out.below hx)
  have SB_8 := Lib.hid (SB_7.out.below hx)
  have XV_8 := Lib.hid (SliceOf.below XV_7.out hx)
  have YV_8 := Lib.hid (SliceOf.below YV_7.out hx)
  clear hx  RI_7 RR_7 SI_7 SR_7 B_7 X_7 RB_7 SB_7 XV_7 YV_7
  go_wp2_with fail
  refine (HGET.out xv (putRs r) _ (by have := HPL.out; omega) (XV_8.out)).mono ?_
  rw [HGP.out.1, HGP.out.2]
  rintro e w9 ⟨qi, qr, rfl, hqi, hqr, hx⟩
  have RI_9 := Lib.hid (SliceOf.below RI_8.out hx)
  have RR_9 := Lib.hid (SliceOf.below RR_8.out hx)
  have SI_9 := Lib.hid (SliceOf.below SI_8.out hx)
  have SR_9 := Lib.hid (SliceOf.below SR_8.out hx)
  have B_9 := Lib.hid (SliceOf.below B_8.out hx)
  have X_9 := Lib.hid (Agg.belowThen X_8.out (Nat.le_refl _) hx)
  have RB_9 := Lib.hid (RB_8.out.below hx)
  have SB_9 := Lib.hid (SB_8.out.below hx)
  have XV_9 := Lib.hid (SliceOf.below XV_8.out hx)
  have YV_9 := Lib.hid (SliceOf.below YV_8.out hx)
  have QI_9 := Lib.hid (hqi.slice)
  have QR_9 := Lib.hid (hqr.slice)
  clear hx hqi hqr RI_8 RR_8 SI_8 SR_8 B_8 X_8 RB_8 SB_8 XV_8 YV_8
  go_wp2_with (first | (refine Agg.wpList_new rfl rfl rfl 33 11 66 rfl rfl rfl (by decide) (rsC [] (.slice none 0 0) (.slice none 0 0)) (rsC r.1 qi qr) rsC_zero (rsC_ss _ _ _ _ _ _) (rsC_info _ _ _) (rsC_one _ QI_9.out QR_9.out) rfl (by first | (simp; done) | simp [Act.put]) ?_; intro g11 w10 hb hx hg; have RI_10 := Lib.hid (SliceOf.below RI_9.out hx); have RR_10 := Lib.hid (SliceOf.below RR_9.out hx); have SI_10 := Lib.hid (SliceOf.below SI_9.out hx); have SR_10 := Lib.hid (SliceOf.below SR_9.out hx); have B_10 := Lib.hid (SliceOf.below B_9.out hx); have X_10 := Lib.hid (Agg.belowThen X_9.out (Nat.le_refl _) hx); have RB_10 := Lib.hid (RB_9.out.below hx); have SB_10 := Lib.hid (SB_9.out.below hx); have XV_10 := Lib.hid (SliceOf.below XV_9.out hx); have YV_10 := Lib.hid (SliceOf.below YV_9.out hx); have QI_10 := Lib.hid (SliceOf.below QI_9.out hx); have QR_10 := Lib.hid (SliceOf.below QR_9.out hx); have QB_10 := Lib.hid (RvB.of_blk hb); clear hb hx hg RI_9 RR_9 SI_9 SR_9 B_9 X_9 RB_9 SB_9 XV_9 YV_9 QI_9 QR_9) | (with_reducible refine Agg.wpList_loadL QB_10.out.all rfl _ rfl rfl ?_) | (with_reducible refine Agg.wpList_loadL RB_10.out.all rfl _ rfl rfl ?_))
  refine (alike_any _ _ r r hrl hrl hrr hrr _ ⟨qi, qr, rfl, QI_10.out, QR_10.out⟩ ⟨vi, vr, rfl, RI_10.out, RR_10.out⟩).mono ?_
  rw [decide_eq_true (rfl : r = r)]
  rintro e w11 ⟨rfl, hx⟩
  have RI_11 := Lib.hid (SliceOf.below RI_10.out hx)
  have RR_11 := Lib.hid (SliceOf.below RR_10.out hx)
  have SI_11 := Lib.hid (SliceOf.below SI_10.out hx)
  have SR_11 := Lib.hid (SliceOf.below SR_10.out hx)
  have B_11 := Lib.hid (SliceOf.below B_10.out hx)
  have X_11 := Lib.hid (Agg.belowThen X_10.out (Nat.le_refl _) hx)
  have RB_11 := Lib.hid (RB_10.out.below hx)
  have SB_11 := Lib.hid (SB_10.out.below hx)
  have XV_11 := Lib.hid (SliceOf.below XV_10.out hx)
  have YV_11 := Lib.hid (SliceOf.below YV_10.out hx)
  have QI_11 := Lib.hid (SliceOf.below QI_10.out hx)
  have QR_11 := Lib.hid (SliceOf.below QR_10.out hx)
  have QB_11 := Lib.hid (QB_10.out.below hx)
  clear hx  RI_10 RR_10 SI_10 SR_10 B_10 X_10 RB_10 SB_10 XV_10 YV_10 QI_10 QR_10 QB_10
  go_wp2_with (first | (with_reducible refine Agg.wpList_loadL RB_11.out.all rfl _ rfl rfl ?_))
  refine (HKR.out _ _ ⟨vi, vr, rfl, RI_11.out, RR_11.out⟩).mono ?_
  rintro e w12 ⟨rfl, hx⟩
  have RI_12 := Lib.hid (SliceOf.below RI_11.out hx)
  have RR_12 := Lib.hid (SliceOf.below RR_11.out hx)
  have SI_12 := Lib.hid (SliceOf.below SI_11.out hx)
  have SR_12 := Lib.hid (SliceOf.below SR_11.out hx)
  have B_12 := Lib.hid (SliceOf.below B_11.out hx)
  have X_12 := Lib.hid (Agg.belowThen X_11.out (Nat.le_refl _) hx)
  have RB_12 := Lib.hid (RB_11.out.below hx)
  have SB_12 := Lib.hid (SB_11.out.below hx)
  have XV_12 := Lib.hid (SliceOf.below XV_11.out hx)
  have YV_12 := Lib.hid (SliceOf.below YV_11.out hx)
  clear hx  RI_11 RR_11 SI_11 SR_11 B_11 X_11 RB_11 SB_11 XV_11 YV_11
  rw [HER.out]
  go_wp2_with (first | (refine Agg.wpList_new rfl rfl rfl 45 13 79 rfl rfl rfl (by decide) (hC z20) (hC k1) hash_zero2 (by rw [hC_size, hC_size, hk1, z20_length]) (hash_info1 _ hk1) (hC_one1 _) rfl (by first | (simp; done) | simp [Act.put]) ?_; intro g13 w13 hb hx hg; have RI_13 := Lib.hid (SliceOf.below RI_12.out hx); have RR_13 := Lib.hid (SliceOf.below RR_12.out hx); have SI_13 := Lib.hid (SliceOf.below SI_12.out hx); have SR_13 := Lib.hid (SliceOf.below SR_12.out hx); have B_13 := Lib.hid (SliceOf.below B_12.out hx); have X_13 := Lib.hid (Agg.belowThen X_12.out (Nat.le_refl _) hx); have RB_13 := Lib.hid (RB_12.out.below hx); have SB_13 := Lib.hid (SB_12.out.below hx); have XV_13 := Lib.hid (SliceOf.below XV_12.out hx); have YV_13 := Lib.hid (SliceOf.below YV_12.out hx); have K1_13 := Lib.hid ((hb.loads (P := Try.prog) Try.underlying45 rfl (hash_info1 _ hk1))); clear hb hx hg RI_12 RR_12 SI_12 SR_12 B_12 X_12 RB_12 SB_12 XV_12 YV_12) | (with_reducible refine Agg.wpList_loadL RB_13.out.all rfl _ rfl rfl ?_))
  refine (HDR.out _ _ ⟨vi, vr, rfl, RI_13.out, RR_13.out⟩).mono ?_
  rintro e w14 ⟨rfl, hx⟩
  have RI_14 := Lib.hid (SliceOf.below RI_13.out hx)
  have RR_14 := Lib.hid (SliceOf.below RR_13.out hx)
  have SI_14 := Lib.hid (SliceOf.below SI_13.out hx)
  have SR_14 := Lib.hid (SliceOf.below SR_13.out hx)
  have B_14 := Lib.hid (SliceOf.below B_13.out hx)
  have X_14 := Lib.hid (Agg.belowThen X_13.out (Nat.le_refl _) hx)
  have RB_14 := Lib.hid (RB_13.out.below hx)
  have SB_14 := Lib.hid (SB_13.out.below hx)
  have XV_14 := Lib.hid (SliceOf.below XV_13.out hx)
  have YV_14 := Lib.hid (SliceOf.below YV_13.out hx)
  have K1_14 := Lib.hid (K1_13.out.below hx)
  clear hx  RI_13 RR_13 SI_13 SR_13 B_13 X_13 RB_13 SB_13 XV_13 YV_13 K1_13
  rw [HER.out]
  have hdn : dummyN r = r.1 := by unfold dummyN; rw [if_pos HCR.out]
  rw [hdn]
  clear hdn
  go_wp2_with (first | (refine Agg.wpList_new rfl rfl rfl 47 15 84 rfl rfl rfl (by decide) (pC z20 []) (pC j1 r.1) pC_zero (by rw [pC_size, pC_size, hj1, z20_length]) (pC_info _ _ hj1) (pC_one _ _) rfl (by first | (simp; done) | simp [Act.put]) ?_; intro g15 w15 hb hx hg; have RI_15 := Lib.hid (SliceOf.below RI_14.out hx); have RR_15 := Lib.hid (SliceOf.below RR_14.out hx); have SI_15 := Lib.hid (SliceOf.below SI_14.out hx); have SR_15 := Lib.hid (SliceOf.below SR_14.out hx); have B_15 := Lib.hid (SliceOf.below B_14.out hx); have X_15 := Lib.hid (Agg.belowThen X_14.out (Nat.le_refl _) hx); have RB_15 := Lib.hid (RB_14.out.below hx); have SB_15 := Lib.hid (SB_14.out.below hx); have XV_15 := Lib.hid (SliceOf.below XV_14.out hx); have YV_15 := Lib.hid (SliceOf.below YV_14.out hx); have K1_15 := Lib.hid (K1_14.out.below hx); have P1_15 := Lib.hid ((hb.loads (P := Try.prog) pC_under rfl (pC_info _ _ hj1))); have N1_15 := Lib.hid ((hb.one (P := Try.prog) (ty := 9) 20 (pC_name _ _ hj1) Try.underlying9 rfl)); clear hb hx hg RI_14 RR_14 SI_14 SR_14 B_14 X_14 RB_14 SB_14 XV_14 YV_14 K1_14) | (with_reducible refine Agg.wpList_loadL N1_15.out rfl _ rfl rfl ?_) | (with_reducible refine Agg.wpList_loadL RB_15.out.name rfl _ rfl rfl ?_) | (refine Agg.wpList_neqS (s := r.1) (r := r.1) rfl rfl rfl rfl false (by simp) ?_))
  cases hcs : canRv s with
  | false =>
    have HES := Lib.hid (show errRv s = 2 by simp [errRv, hcs])
    have HCS := Lib.hid hcs
    clear hcs
    rw [HES.out]
    go_wp2_with fail
    try simp only [Act.put, List.setIfInBounds_toArray, List.set_cons_succ, List.set_cons_zero]
    refine Agg.wp_region_later_lit (by kernel_rfl) (by kernel_rfl) ?_
    repeat (first | go_big_quiet_skip | ((first | (with_reducible refine Agg.wpQuiet_loadL RB_15.out.all rfl _ rfl rfl ?_) | (with_reducible refine Agg.wpQuiet_loadL SB_15.out.all rfl _ rfl rfl ?_)); simp only [Act.put, List.setIfInBounds_toArray, List.set_cons_succ, List.set_cons_zero]) | go_big_quiet_step (fail))
    refine wpQuiet_nil ?_
    intro _ hw'
    obtain ⟨x1, rfl⟩ := hw'
    obtain ⟨w16, hww⟩ : ∃ W, W = x1.w := ⟨_, rfl⟩
    have hx : Below w15.heap.size w15 w16 := by rw [hww]; exact x1.h
    rw [← hww]
    have RI_16 := Lib.hid (SliceOf.below RI_15.out hx)
    have RR_16 := Lib.hid (SliceOf.below RR_15.out hx)
    have SI_16 := Lib.hid (SliceOf.below SI_15.out hx)
    have SR_16 := Lib.hid (SliceOf.below SR_15.out hx)
    have B_16 := Lib.hid (SliceOf.below B_15.out hx)
    have X_16 := Lib.hid (Agg.belowThen X_15.out (Nat.le_refl _) hx)
    have RB_16 := Lib.hid (RB_15.out.below hx)
    have SB_16 := Lib.hid (SB_15.out.below hx)
    have XV_16 := Lib.hid (SliceOf.below XV_15.out hx)
    have YV_16 := Lib.hid (SliceOf.below YV_15.out hx)
    have K1_16 := Lib.hid (K1_15.out.below hx)
    have P1_16 := Lib.hid (P1_15.out.below hx)
    have N1_16 := Lib.hid (N1_15.out.below hx)
    clear hx hww RI_15 RR_15 SI_15 SR_15 B_15 X_15 RB_15 SB_15 XV_15 YV_15 K1_15 P1_15 N1_15
    go_wp2_with (first | (with_reducible refine Agg.wpList_loadL SB_16.out.all rfl _ rfl rfl ?_))
    refine (HKS.out _ _ ⟨ui, ur, rfl, SI_16.out, SR_16.out⟩).mono ?_
    rintro e w17 ⟨rfl, hx⟩
    have RI_17 := Lib.hid (SliceOf.below RI_16.out hx)
    have RR_17 := Lib.hid (SliceOf.below RR_16.out hx)
    have SI_17 := Lib.hid (SliceOf.below SI_16.out hx)
    have SR_17 := Lib.hid (SliceOf.below SR_16.out hx)
    have B_17 := Lib.hid (SliceOf.below B_16.out hx)
    have X_17 := Lib.hid (Agg.belowThen X_16.out (Nat.le_refl _) hx)
    have RB_17 := Lib.hid (RB_16.out.below hx)
    have SB_17 := Lib.hid (SB_16.out.below hx)
    have XV_17 := Lib.hid (SliceOf.below XV_16.out hx)
    have YV_17 := Lib.hid (SliceOf.below YV_16.out hx)
    have K1_17 := Lib.hid (K1_16.out.below hx)
    have P1_17 := Lib.hid (P1_16.out.below hx)
    have N1_17 := Lib.hid (N1_16.out.below hx)
    clear hx  RI_16 RR_16 SI_16 SR_16 B_16 X_16 RB_16 SB_16 XV_16 YV_16 K1_16 P1_16 N1_16
    rw [HES.out]
    go_wp2_with (first | (refine Agg.wpList_new rfl rfl rfl 45 17 113 rfl rfl rfl (by decide) (hC z20) (hC k2) hash_zero2 (by rw [hC_size, hC_size, hk2, z20_length]) (hash_info1 _ hk2) (hC_one1 _) rfl (by first | (simp; done) | simp [Act.put]) ?_; intro g17 w18 hb hx hg; have RI_18 := Lib.hid (SliceOf.below RI_17.out hx); have RR_18 := Lib.hid (SliceOf.below RR_17.out hx); have SI_18 := Lib.hid (SliceOf.below SI_17.out hx); have SR_18 := Lib.hid (SliceOf.below SR_17.out hx); have B_18 := Lib.hid (SliceOf.below B_17.out hx); have X_18 := Lib.hid (Agg.belowThen X_17.out (Nat.le_refl _) hx); have RB_18 := Lib.hid (RB_17.out.below hx); have SB_18 := Lib.hid (SB_17.out.below hx); have XV_18 := Lib.hid (SliceOf.below XV_17.out hx); have YV_18 := Lib.hid (SliceOf.below YV_17.out hx); have K1_18 := Lib.hid (K1_17.out.below hx); have P1_18 := Lib.hid (P1_17.out.below hx); have N1_18 := Lib.hid (N1_17.out.below hx); have K2_18 := Lib.hid ((hb.loads (P := Try.prog) Try.underlying45 rfl (hash_info1 _ hk2))); clear hb hx hg RI_17 RR_17 SI_17 SR_17 B_17 X_17 RB_17 SB_17 XV_17 YV_17 K1_17 P1_17 N1_17) | (with_reducible refine Agg.wpList_loadL SB_18.out.all rfl _ rfl rfl ?_))
    refine (HDS.out _ _ ⟨ui, ur, rfl, SI_18.out, SR_18.out⟩).mono ?_
    rintro e w19 ⟨rfl, hx⟩
    have RI_19 := Lib.hid (SliceOf.below RI_18.out hx)
    have RR_19 := Lib.hid (SliceOf.below RR_18.out hx)
    have SI_19 := Lib.hid (SliceOf.below SI_18.out hx)
    have SR_19 := Lib.hid (SliceOf.below SR_18.out hx)
    have B_19 := Lib.hid (SliceOf.below B_18.out hx)
    have X_19 := Lib.hid (Agg.belowThen X_18.out (Nat.le_refl _) hx)
    have RB_19 := Lib.hid (RB_18.out.below hx)
    have SB_19 := Lib.hid (SB_18.out.below hx)
    have XV_19 := Lib.hid (SliceOf.below XV_18.out hx)
    have YV_19 := Lib.hid (SliceOf.below YV_18.out hx)
    have K1_19 := Lib.hid (K1_18.out.below hx)
    have P1_19 := Lib.hid (P1_18.out.below hx)
    have N1_19 := Lib.hid (N1_18.out.below hx)
    have K2_19 := Lib.hid (K2_18.out.below hx)
    clear hx  RI_18 RR_18 SI_18 SR_18 B_18 X_18 RB_18 SB_18 XV_18 YV_18 K1_18 P1_18 N1_18 K2_18
    rw [HES.out]
    obtain ⟨nn, hnn⟩ : ∃ q, dummyN s = q := ⟨_, rfl⟩
    have HNN := Lib.hid hnn
    rw [hnn]
    clear hnn
    go_wp2_with (first | (refine Agg.wpList_new rfl rfl rfl 47 19 118 rfl rfl rfl (by decide) (pC z20 []) (pC j2 nn) pC_zero (by rw [pC_size, pC_size, hj2, z20_length]) (pC_info _ _ hj2) (pC_one _ _) rfl (by first | (simp; done) | simp [Act.put]) ?_; intro g19 w20 hb hx hg; have RI_20 := Lib.hid (SliceOf.below RI_19.out hx); have RR_20 := Lib.hid (SliceOf.below RR_19.out hx); have SI_20 := Lib.hid (SliceOf.below SI_19.out hx); have SR_20 := Lib.hid (SliceOf.below SR_19.out hx); have B_20 := Lib.hid (SliceOf.below B_19.out hx); have X_20 := Lib.hid (Agg.belowThen X_19.out (Nat.le_refl _) hx); have RB_20 := Lib.hid (RB_19.out.below hx); have SB_20 := Lib.hid (SB_19.out.below hx); have XV_20 := Lib.hid (SliceOf.below XV_19.out hx); have YV_20 := Lib.hid (SliceOf.below YV_19.out hx); have K1_20 := Lib.hid (K1_19.out.below hx); have P1_20 := Lib.hid (P1_19.out.below hx); have N1_20 := Lib.hid (N1_19.out.below hx); have K2_20 := Lib.hid (K2_19.out.below hx); have P2_20 := Lib.hid ((hb.loads (P := Try.prog) pC_under rfl (pC_info _ _ hj2))); clear hb hx hg RI_19 RR_19 SI_19 SR_19 B_19 X_19 RB_19 SB_19 XV_19 YV_19 K1_19 P1_19 N1_19 K2_19) | (with_reducible refine Agg.wpList_loadL RB_20.out.all rfl _ rfl rfl ?_) | (with_reducible refine Agg.wpList_loadL SB_20.out.all rfl _ rfl rfl ?_))
    refine (alike_any _ _ r s hrl hsl hrr hsr _ ⟨vi, vr, rfl, RI_20.out, RR_20.out⟩ ⟨ui, ur, rfl, SI_20.out, SR_20.out⟩).mono ?_
    rintro e w21 ⟨rfl, hx⟩
    have RI_21 := Lib.hid (SliceOf.below RI_20.out hx)
    have RR_21 := Lib.hid (SliceOf.below RR_20.out hx)
    have SI_21 := Lib.hid (SliceOf.below SI_20.out hx)
    have SR_21 := Lib.hid (SliceOf.below SR_20.out hx)
    have B_21 := Lib.hid (SliceOf.below B_20.out hx)
    have X_21 := Lib.hid (Agg.belowThen X_20.out (Nat.le_refl _) hx)
    have RB_21 := Lib.hid (RB_20.out.below hx)
    have SB_21 := Lib.hid (SB_20.out.below hx)
    have XV_21 := Lib.hid (SliceOf.below XV_20.out hx)
    have YV_21 := Lib.hid (SliceOf.below YV_20.out hx)
    have K1_21 := Lib.hid (K1_20.out.below hx)
    have P1_21 := Lib.hid (P1_20.out.below hx)
    have N1_21 := Lib.hid (N1_20.out.below hx)
    have K2_21 := Lib.hid (K2_20.out.below hx)
    have P2_21 := Lib.hid (P2_20.out.below hx)
    clear hx  RI_20 RR_20 SI_20 SR_20 B_20 X_20 RB_20 SB_20 XV_20 YV_20 K1_20 P1_20 N1_20 K2_20 P2_20
    by_cases hrs : r = s
    · exact absurd (hrs ▸ HCR.out) (by rw [HCS.out]; simp)
    · rw [decide_eq_false hrs]
      go_wp2_with fail
      refine (HGET.out v3 b _ hbl (B_21.out)).mono ?_
      rintro e w22 ⟨zi, zr, rfl, hzi, hzr, hx⟩
      have RI_22 := Lib.hid (SliceOf.below RI_21.out hx)
      have RR_22 := Lib.hid (SliceOf.below RR_21.out hx)
      have SI_22 := Lib.hid (SliceOf.below SI_21.out hx)
      have SR_22 := Lib.hid (SliceOf.below SR_21.out hx)
      have B_22 := Lib.hid (SliceOf.below B_21.out hx)
      have X_22 := Lib.hid (Agg.belowThen X_21.out (Nat.le_refl _) hx)
      have RB_22 := Lib.hid (RB_21.out.below hx)
      have SB_22 := Lib.hid (SB_21.out.below hx)
      have XV_22 := Lib.hid (SliceOf.below XV_21.out hx)
      have YV_22 := Lib.hid (SliceOf.below YV_21.out hx)
      have K1_22 := Lib.hid (K1_21.out.below hx)
      have P1_22 := Lib.hid (P1_21.out.below hx)
      have N1_22 := Lib.hid (N1_21.out.below hx)
      have K2_22 := Lib.hid (K2_21.out.below hx)
      have P2_22 := Lib.hid (P2_21.out.below hx)
      have ZI_22 := Lib.hid (hzi.slice)
      have ZR_22 := Lib.hid (hzr.slice)
      clear hx hzi hzr RI_21 RR_21 SI_21 SR_21 B_21 X_21 RB_21 SB_21 XV_21 YV_21 K1_21 P1_21 N1_21 K2_21 P2_21
      cases hgb : getRv b with
      | none =>
        obtain ⟨hgo, hge⟩ := getO_none hgb
        have HZC := Lib.hid (show canRv zRv = false by decide +kernel)
        have HPE := Lib.hid (show errRv zRv = 2 by simp [errRv, HZC.out])
        rw [hgo] at ZI_22 ZR_22
        rw [hgo, hge]
        have hpe : errRv zRv = 2 := HPE.out
        clear hgo hge hgb
        go_wp2_with (first | (refine Agg.wpList_new rfl rfl rfl 33 21 136 rfl rfl rfl (by decide) (rsC [] (.slice none 0 0) (.slice none 0 0)) (rsC ([] : List UInt8) zi zr) rsC_zero (rsC_ss _ _ _ _ _ _) (rsC_info _ _ _) (rsC_one _ ZI_22.out ZR_22.out) rfl (by first | (simp; done) | simp [Act.put]) ?_; intro gz w23 hb hx hg; have RI_23 := Lib.hid (SliceOf.below RI_22.out hx); have RR_23 := Lib.hid (SliceOf.below RR_22.out hx); have SI_23 := Lib.hid (SliceOf.below SI_22.out hx); have SR_23 := Lib.hid (SliceOf.below SR_22.out hx); have B_23 := Lib.hid (SliceOf.below B_22.out hx); have X_23 := Lib.hid (Agg.belowThen X_22.out (Nat.le_refl _) hx); have RB_23 := Lib.hid (RB_22.out.below hx); have SB_23 := Lib.hid (SB_22.out.below hx); have XV_23 := Lib.hid (SliceOf.below XV_22.out hx); have YV_23 := Lib.hid (SliceOf.below YV_22.out hx); have K1_23 := Lib.hid (K1_22.out.below hx); have P1_23 := Lib.hid (P1_22.out.below hx); have N1_23 := Lib.hid (N1_22.out.below hx); have K2_23 := Lib.hid (K2_22.out.below hx); have P2_23 := Lib.hid (P2_22.out.below hx); have ZI_23 := Lib.hid (SliceOf.below ZI_22.out hx); have ZR_23 := Lib.hid (SliceOf.below ZR_22.out hx); have ZB_23 := Lib.hid ((RvB.of_blk hb)); clear hb hx hg RI_22 RR_22 SI_22 SR_22 B_22 X_22 RB_22 SB_22 XV_22 YV_22 K1_22 P1_22 N1_22 K2_22 P2_22 ZI_22 ZR_22) | (with_reducible refine Agg.wpList_loadL ZB_23.out.all rfl _ rfl rfl ?_))
        refine (rput_any _ zRv (by first | decide | (have := can_parts HPG.out.1; have := this.inp; omega)) _ ⟨zi, zr, rfl, ZI_23.out, ZR_23.out⟩).mono ?_
        rintro e w24 ⟨zv, rfl, hzv, hx⟩
        have RI_24 := Lib.hid (SliceOf.below RI_23.out hx)
        have RR_24 := Lib.hid (SliceOf.below RR_23.out hx)
        have SI_24 := Lib.hid (SliceOf.below SI_23.out hx)
        have SR_24 := Lib.hid (SliceOf.below SR_23.out hx)
        have B_24 := Lib.hid (SliceOf.below B_23.out hx)
        have X_24 := Lib.hid (Agg.belowThen X_23.out (Nat.le_refl _) hx)
        have RB_24 := Lib.hid (RB_23.out.below hx)
        have SB_24 := Lib.hid (SB_23.out.below hx)
        have XV_24 := Lib.hid (SliceOf.below XV_23.out hx)
        have YV_24 := Lib.hid (SliceOf.below YV_23.out hx)
        have K1_24 := Lib.hid (K1_23.out.below hx)
        have P1_24 := Lib.hid (P1_23.out.below hx)
        have N1_24 := Lib.hid (N1_23.out.below hx)
        have K2_24 := Lib.hid (K2_23.out.below hx)
        have P2_24 := Lib.hid (P2_23.out.below hx)
        have ZI_24 := Lib.hid (SliceOf.below ZI_23.out hx)
        have ZR_24 := Lib.hid (SliceOf.below ZR_23.out hx)
        have ZB_24 := Lib.hid (ZB_23.out.below hx)
        have ZV_24 := Lib.hid (hzv.slice)
        clear hx hzv RI_23 RR_23 SI_23 SR_23 B_23 X_23 RB_23 SB_23 XV_23 YV_23 K1_23 P1_23 N1_23 K2_23 P2_23 ZI_23 ZR_23 ZB_23
        rw [hpe]
        go_wp2_with (first | (with_reducible refine Agg.wpList_loadL ZB_24.out.all rfl _ rfl rfl ?_) | (with_reducible refine Agg.wpList_build0 33 rfl (by kernel_rfl) (.agg (rsC [] (.slice none 0 0) (.slice none 0 0))) build_rsz ?_))
        refine (alike_any _ _ zRv zRv (by decide) (by decide) (by decide) (by decide) _ ⟨zi, zr, rfl, ZI_24.out, ZR_24.out⟩ ⟨_, _, rfl, SliceOf.nil _ _ _, SliceOf.nil _ _ _⟩).mono ?_
        rintro e w25 ⟨rfl, hx⟩
        have RI_25 := Lib.hid (SliceOf.below RI_24.out hx)
        have RR_25 := Lib.hid (SliceOf.below RR_24.out hx)
        have SI_25 := Lib.hid (SliceOf.below SI_24.out hx)
        have SR_25 := Lib.hid (SliceOf.below SR_24.out hx)
        have B_25 := Lib.hid (SliceOf.below B_24.out hx)
        have X_25 := Lib.hid (Agg.belowThen X_24.out (Nat.le_refl _) hx)
        have RB_25 := Lib.hid (RB_24.out.below hx)
        have SB_25 := Lib.hid (SB_24.out.below hx)
        have XV_25 := Lib.hid (SliceOf.below XV_24.out hx)
        have YV_25 := Lib.hid (SliceOf.below YV_24.out hx)
        have K1_25 := Lib.hid (K1_24.out.below hx)
        have P1_25 := Lib.hid (P1_24.out.below hx)
        have N1_25 := Lib.hid (N1_24.out.below hx)
        have K2_25 := Lib.hid (K2_24.out.below hx)
        have P2_25 := Lib.hid (P2_24.out.below hx)
        have ZI_25 := Lib.hid (SliceOf.below ZI_24.out hx)
        have ZR_25 := Lib.hid (SliceOf.below ZR_24.out hx)
        have ZB_25 := Lib.hid (ZB_24.out.below hx)
        have ZV_25 := Lib.hid (SliceOf.below ZV_24.out hx)
        clear hx  RI_24 RR_24 SI_24 SR_24 B_24 X_24 RB_24 SB_24 XV_24 YV_24 K1_24 P1_24 N1_24 K2_24 P2_24 ZI_24 ZR_24 ZB_24 ZV_24
        go_wp2_with fail
        go_ret
        exact ⟨ret_bool (by simp), X_25.out⟩
      | some q =>
        obtain ⟨hgo, hge⟩ := getO_some hgb
        have HPG := Lib.hid (put_get hgb)
        have HPE := Lib.hid (show errRv q = 0 by simp [errRv, HPG.out.1])
        rw [hgo] at ZI_22 ZR_22
        rw [hgo, hge]
        have hpe : errRv q = 0 := HPE.out
        clear hgo hge hgb
        go_wp2_with (first | (refine Agg.wpList_new rfl rfl rfl 33 21 136 rfl rfl rfl (by decide) (rsC [] (.slice none 0 0) (.slice none 0 0)) (rsC q.1 zi zr) rsC_zero (rsC_ss _ _ _ _ _ _) (rsC_info _ _ _) (rsC_one _ ZI_22.out ZR_22.out) rfl (by first | (simp; done) | simp [Act.put]) ?_; intro gz w23 hb hx hg; have RI_23 := Lib.hid (SliceOf.below RI_22.out hx); have RR_23 := Lib.hid (SliceOf.below RR_22.out hx); have SI_23 := Lib.hid (SliceOf.below SI_22.out hx); have SR_23 := Lib.hid (SliceOf.below SR_22.out hx); have B_23 := Lib.hid (SliceOf.below B_22.out hx); have X_23 := Lib.hid (Agg.belowThen X_22.out (Nat.le_refl _) hx); have RB_23 := Lib.hid (RB_22.out.below hx); have SB_23 := Lib.hid (SB_22.out.below hx); have XV_23 := Lib.hid (SliceOf.below XV_22.out hx); have YV_23 := Lib.hid (SliceOf.below YV_22.out hx); have K1_23 := Lib.hid (K1_22.out.below hx); have P1_23 := Lib.hid (P1_22.out.below hx); have N1_23 := Lib.hid (N1_22.out.below hx); have K2_23 := Lib.hid (K2_22.out.below hx); have P2_23 := Lib.hid (P2_22.out.below hx); have ZI_23 := Lib.hid (SliceOf.below ZI_22.out hx); have ZR_23 := Lib.hid (SliceOf.below ZR_22.out hx); have ZB_23 := Lib.hid ((RvB.of_blk hb)); clear hb hx hg RI_22 RR_22 SI_22 SR_22 B_22 X_22 RB_22 SB_22 XV_22 YV_22 K1_22 P1_22 N1_22 K2_22 P2_22 ZI_22 ZR_22) | (with_reducible refine Agg.wpList_loadL ZB_23.out.all rfl _ rfl rfl ?_))
        refine (rput_any _ q (by first | decide | (have := can_parts HPG.out.1; have := this.inp; omega)) _ ⟨zi, zr, rfl, ZI_23.out, ZR_23.out⟩).mono ?_
        rintro e w24 ⟨zv, rfl, hzv, hx⟩
        have RI_24 := Lib.hid (SliceOf.below RI_23.out hx)
        have RR_24 := Lib.hid (SliceOf.below RR_23.out hx)
        have SI_24 := Lib.hid (SliceOf.below SI_23.out hx)
        have SR_24 := Lib.hid (SliceOf.below SR_23.out hx)
        have B_24 := Lib.hid (SliceOf.below B_23.out hx)
        have X_24 := Lib.hid (Agg.belowThen X_23.out (Nat.le_refl _) hx)
        have RB_24 := Lib.hid (RB_23.out.below hx)
        have SB_24 := Lib.hid (SB_23.out.below hx)
        have XV_24 := Lib.hid (SliceOf.below XV_23.out hx)
        have YV_24 := Lib.hid (SliceOf.below YV_23.out hx)
        have K1_24 := Lib.hid (K1_23.out.below hx)
        have P1_24 := Lib.hid (P1_23.out.below hx)
        have N1_24 := Lib.hid (N1_23.out.below hx)
        have K2_24 := Lib.hid (K2_23.out.below hx)
        have P2_24 := Lib.hid (P2_23.out.below hx)
        have ZI_24 := Lib.hid (SliceOf.below ZI_23.out hx)
        have ZR_24 := Lib.hid (SliceOf.below ZR_23.out hx)
        have ZB_24 := Lib.hid (ZB_23.out.below hx)
        have ZV_24 := Lib.hid (hzv.slice)
        clear hx hzv RI_23 RR_23 SI_23 SR_23 B_23 X_23 RB_23 SB_23 XV_23 YV_23 K1_23 P1_23 N1_23 K2_23 P2_23 ZI_23 ZR_23 ZB_23
        rw [hpe]
        rw [show putRv q = b by unfold putRv; rw [if_pos HPG.out.1, HPG.out.2]] at ZV_24
        go_wp2_with (first | (with_reducible refine Agg.wpList_loadL ZB_24.out.all rfl _ rfl rfl ?_))
        refine (sameBytes_any zv v3 b b (by omega) (by omega) _ ZV_24.out B_24.out).mono ?_
        rintro e w25 ⟨rfl, hx⟩
        have RI_25 := Lib.hid (SliceOf.below RI_24.out hx)
        have RR_25 := Lib.hid (SliceOf.below RR_24.out hx)
        have SI_25 := Lib.hid (SliceOf.below SI_24.out hx)
        have SR_25 := Lib.hid (SliceOf.below SR_24.out hx)
        have B_25 := Lib.hid (SliceOf.below B_24.out hx)
        have X_25 := Lib.hid (Agg.belowThen X_24.out (Nat.le_refl _) hx)
        have RB_25 := Lib.hid (RB_24.out.below hx)
        have SB_25 := Lib.hid (SB_24.out.below hx)
        have XV_25 := Lib.hid (SliceOf.below XV_24.out hx)
        have YV_25 := Lib.hid (SliceOf.below YV_24.out hx)
        have K1_25 := Lib.hid (K1_24.out.below hx)
        have P1_25 := Lib.hid (P1_24.out.below hx)
        have N1_25 := Lib.hid (N1_24.out.below hx)
        have K2_25 := Lib.hid (K2_24.out.below hx)
        have P2_25 := Lib.hid (P2_24.out.below hx)
        have ZI_25 := Lib.hid (SliceOf.below ZI_24.out hx)
        have ZR_25 := Lib.hid (SliceOf.below ZR_24.out hx)
        have ZB_25 := Lib.hid (ZB_24.out.below hx)
        have ZV_25 := Lib.hid (SliceOf.below ZV_24.out hx)
        clear hx  RI_24 RR_24 SI_24 SR_24 B_24 X_24 RB_24 SB_24 XV_24 YV_24 K1_24 P1_24 N1_24 K2_24 P2_24 ZI_24 ZR_24 ZB_24 ZV_24
        go_wp2_with fail
        go_ret
        exact ⟨ret_bool (by simp), X_25.out⟩
  | true =>
    have HES := Lib.hid (show errRv s = 0 by simp [errRv, hcs])
    have HCS := Lib.hid hcs
    have hps : putRv s = putRs s := by simp [putRv, hcs]
    rw [hps] at YV_15
    have HPS := Lib.hid (putRs_len hcs)
    have HEQ := Lib.hid (show decide (putRs r = putRs s) = decide (r = s) by rw [decide_eq_decide]; exact ⟨fun e => putRs_inj HCR.out hcs e, fun e => by rw [e]⟩)
    clear hps
    clear hcs
    rw [HES.out]
    go_wp2_with fail
    have hne : ∀ bb : Bool, (!(bb == bb)) = false := fun bb => by cases bb <;> rfl
    have HSBX := Lib.hid (fun (y : Later w15) => sameBytes_any xv yv (putRs r) (putRs s) (by have := HPL.out; omega) (by have := HPS.out; omega) y.w (SliceOf.below XV_15.out y.h) (SliceOf.below YV_15.out y.h))
    have HALX := Lib.hid (fun (y : Later w15) => alike_any _ _ r s hrl hsl hrr hsr y.w ⟨vi, vr, rfl, SliceOf.below RI_15.out y.h, SliceOf.below RR_15.out y.h⟩ ⟨ui, ur, rfl, SliceOf.below SI_15.out y.h, SliceOf.below SR_15.out y.h⟩)
    try simp only [Act.put, List.setIfInBounds_toArray, List.set_cons_succ, List.set_cons_zero]
    refine Agg.wp_region_later_lit (by kernel_rfl) (by kernel_rfl) ?_
    repeat (first | go_big_quiet_skip | ((first | (with_reducible refine Agg.wpQuiet_loadL RB_15.out.all rfl _ rfl rfl ?_) | (with_reducible refine Agg.wpQuiet_loadL SB_15.out.all rfl _ rfl rfl ?_)); simp only [Act.put, List.setIfInBounds_toArray, List.set_cons_succ, List.set_cons_zero]) | go_big_quiet_step ((first | (go_at_call 24; with_reducible exact Agg.Calls.later (HSBX.out _)) | (go_at_call 16; with_reducible exact Agg.Calls.later (HALX.out _)))))
    refine wpQuiet_nil ?_
    intro _ hw'
    obtain ⟨x1, rfl⟩ := hw'
    obtain ⟨w16, hww⟩ : ∃ W, W = x1.w := ⟨_, rfl⟩
    have hx : Below w15.heap.size w15 w16 := by rw [hww]; exact x1.h
    rw [← hww]
    have RI_16 := Lib.hid (SliceOf.below RI_15.out hx)
    have RR_16 := Lib.hid (SliceOf.below RR_15.out hx)
    have SI_16 := Lib.hid (SliceOf.below SI_15.out hx)
    have SR_16 := Lib.hid (SliceOf.below SR_15.out hx)
    have B_16 := Lib.hid (SliceOf.below B_15.out hx)
    have X_16 := Lib.hid (Agg.belowThen X_15.out (Nat.le_refl _) hx)
    have RB_16 := Lib.hid (RB_15.out.below hx)
    have SB_16 := Lib.hid (SB_15.out.below hx)
    have XV_16 := Lib.hid (SliceOf.below XV_15.out hx)
    have YV_16 := Lib.hid (SliceOf.below YV_15.out hx)
    have K1_16 := Lib.hid (K1_15.out.below hx)
    have P1_16 := Lib.hid (P1_15.out.below hx)
    have N1_16 := Lib.hid (N1_15.out.below hx)
    clear hx hww RI_15 RR_15 SI_15 SR_15 B_15 X_15 RB_15 SB_15 XV_15 YV_15 K1_15 P1_15 N1_15
    rw [HEQ.out, hne]
    go_wp2_with (first | (with_reducible refine Agg.wpList_loadL SB_16.out.all rfl _ rfl rfl ?_))
    refine (HKS.out _ _ ⟨ui, ur, rfl, SI_16.out, SR_16.out⟩).mono ?_
    rintro e w17 ⟨rfl, hx⟩
    have RI_17 := Lib.hid (SliceOf.below RI_16.out hx)
    have RR_17 := Lib.hid (SliceOf.below RR_16.out hx)
    have SI_17 := Lib.hid (SliceOf.below SI_16.out hx)
    have SR_17 := Lib.hid (SliceOf.below SR_16.out hx)
    have B_17 := Lib.hid (SliceOf.below B_16.out hx)
    have X_17 := Lib.hid (Agg.belowThen X_16.out (Nat.le_refl _) hx)
    have RB_17 := Lib.hid (RB_16.out.below hx)
    have SB_17 := Lib.hid (SB_16.out.below hx)
    have XV_17 := Lib.hid (SliceOf.below XV_16.out hx)
    have YV_17 := Lib.hid (SliceOf.below YV_16.out hx)
    have K1_17 := Lib.hid (K1_16.out.below hx)
    have P1_17 := Lib.hid (P1_16.out.below hx)
    have N1_17 := Lib.hid (N1_16.out.below hx)
    clear hx  RI_16 RR_16 SI_16 SR_16 B_16 X_16 RB_16 SB_16 XV_16 YV_16 K1_16 P1_16 N1_16
    rw [HES.out]
    go_wp2_with (first | (refine Agg.wpList_new rfl rfl rfl 45 17 113 rfl rfl rfl (by decide) (hC z20) (hC k2) hash_zero2 (by rw [hC_size, hC_size, hk2, z20_length]) (hash_info1 _ hk2) (hC_one1 _) rfl (by first | (simp; done) | simp [Act.put]) ?_; intro g17 w18 hb hx hg; have RI_18 := Lib.hid (SliceOf.below RI_17.out hx); have RR_18 := Lib.hid (SliceOf.below RR_17.out hx); have SI_18 := Lib.hid (SliceOf.below SI_17.out hx); have SR_18 := Lib.hid (SliceOf.below SR_17.out hx); have B_18 := Lib.hid (SliceOf.below B_17.out hx); have X_18 := Lib.hid (Agg.belowThen X_17.out (Nat.le_refl _) hx); have RB_18 := Lib.hid (RB_17.out.below hx); have SB_18 := Lib.hid (SB_17.out.below hx); have XV_18 := Lib.hid (SliceOf.below XV_17.out hx); have YV_18 := Lib.hid (SliceOf.below YV_17.out hx); have K1_18 := Lib.hid (K1_17.out.below hx); have P1_18 := Lib.hid (P1_17.out.below hx); have N1_18 := Lib.hid (N1_17.out.below hx); have K2_18 := Lib.hid ((hb.loads (P := Try.prog) Try.underlying45 rfl (hash_info1 _ hk2))); clear hb hx hg RI_17 RR_17 SI_17 SR_17 B_17 X_17 RB_17 SB_17 XV_17 YV_17 K1_17 P1_17 N1_17) | (with_reducible refine Agg.wpList_loadL SB_18.out.all rfl _ rfl rfl ?_))
    refine (HDS.out _ _ ⟨ui, ur, rfl, SI_18.out, SR_18.out⟩).mono ?_
    rintro e w19 ⟨rfl, hx⟩
    have RI_19 := Lib.hid (SliceOf.below RI_18.out hx)
    have RR_19 := Lib.hid (SliceOf.below RR_18.out hx)
    have SI_19 := Lib.hid (SliceOf.below SI_18.out hx)
    have SR_19 := Lib.hid (SliceOf.below SR_18.out hx)
    have B_19 := Lib.hid (SliceOf.below B_18.out hx)
    have X_19 := Lib.hid (Agg.belowThen X_18.out (Nat.le_refl _) hx)
    have RB_19 := Lib.hid (RB_18.out.below hx)
    have SB_19 := Lib.hid (SB_18.out.below hx)
    have XV_19 := Lib.hid (SliceOf.below XV_18.out hx)
    have YV_19 := Lib.hid (SliceOf.below YV_18.out hx)
    have K1_19 := Lib.hid (K1_18.out.below hx)
    have P1_19 := Lib.hid (P1_18.out.below hx)
    have N1_19 := Lib.hid (N1_18.out.below hx)
    have K2_19 := Lib.hid (K2_18.out.below hx)
    clear hx  RI_18 RR_18 SI_18 SR_18 B_18 X_18 RB_18 SB_18 XV_18 YV_18 K1_18 P1_18 N1_18 K2_18
    rw [HES.out]
    obtain ⟨nn, hnn⟩ : ∃ q, dummyN s = q := ⟨_, rfl⟩
    have HNN := Lib.hid hnn
    rw [hnn]
    clear hnn
    go_wp2_with (first | (refine Agg.wpList_new rfl rfl rfl 47 19 118 rfl rfl rfl (by decide) (pC z20 []) (pC j2 nn) pC_zero (by rw [pC_size, pC_size, hj2, z20_length]) (pC_info _ _ hj2) (pC_one _ _) rfl (by first | (simp; done) | simp [Act.put]) ?_; intro g19 w20 hb hx hg; have RI_20 := Lib.hid (SliceOf.below RI_19.out hx); have RR_20 := Lib.hid (SliceOf.below RR_19.out hx); have SI_20 := Lib.hid (SliceOf.below SI_19.out hx); have SR_20 := Lib.hid (SliceOf.below SR_19.out hx); have B_20 := Lib.hid (SliceOf.below B_19.out hx); have X_20 := Lib.hid (Agg.belowThen X_19.out (Nat.le_refl _) hx); have RB_20 := Lib.hid (RB_19.out.below hx); have SB_20 := Lib.hid (SB_19.out.below hx); have XV_20 := Lib.hid (SliceOf.below XV_19.out hx); have YV_20 := Lib.hid (SliceOf.below YV_19.out hx); have K1_20 := Lib.hid (K1_19.out.below hx); have P1_20 := Lib.hid (P1_19.out.below hx); have N1_20 := Lib.hid (N1_19.out.below hx); have K2_20 := Lib.hid (K2_19.out.below hx); have P2_20 := Lib.hid ((hb.loads (P := Try.prog) pC_under rfl (pC_info _ _ hj2))); clear hb hx hg RI_19 RR_19 SI_19 SR_19 B_19 X_19 RB_19 SB_19 XV_19 YV_19 K1_19 P1_19 N1_19 K2_19) | (with_reducible refine Agg.wpList_loadL RB_20.out.all rfl _ rfl rfl ?_) | (with_reducible refine Agg.wpList_loadL SB_20.out.all rfl _ rfl rfl ?_))
    refine (alike_any _ _ r s hrl hsl hrr hsr _ ⟨vi, vr, rfl, RI_20.out, RR_20.out⟩ ⟨ui, ur, rfl, SI_20.out, SR_20.out⟩).mono ?_
    rintro e w21 ⟨rfl, hx⟩
    have RI_21 := Lib.hid (SliceOf.below RI_20.out hx)
    have RR_21 := Lib.hid (SliceOf.below RR_20.out hx)
    have SI_21 := Lib.hid (SliceOf.below SI_20.out hx)
    have SR_21 := Lib.hid (SliceOf.below SR_20.out hx)
    have B_21 := Lib.hid (SliceOf.below B_20.out hx)
    have X_21 := Lib.hid (Agg.belowThen X_20.out (Nat.le_refl _) hx)
    have RB_21 := Lib.hid (RB_20.out.below hx)
    have SB_21 := Lib.hid (SB_20.out.below hx)
    have XV_21 := Lib.hid (SliceOf.below XV_20.out hx)
    have YV_21 := Lib.hid (SliceOf.below YV_20.out hx)
    have K1_21 := Lib.hid (K1_20.out.below hx)
    have P1_21 := Lib.hid (P1_20.out.below hx)
    have N1_21 := Lib.hid (N1_20.out.below hx)
    have K2_21 := Lib.hid (K2_20.out.below hx)
    have P2_21 := Lib.hid (P2_20.out.below hx)
    clear hx  RI_20 RR_20 SI_20 SR_20 B_20 X_20 RB_20 SB_20 XV_20 YV_20 K1_20 P1_20 N1_20 K2_20 P2_20
    by_cases hrs : r = s
    · have e1 : k1 = k2 := by rw [← HK1.out, ← HK2.out, hrs]
      have e2 : j1 = j2 := by rw [← HJ1.out, ← HJ2.out, hrs]
      have e3 : nn = r.1 := by rw [← HNN.out, ← hrs]; unfold dummyN; rw [if_pos HCR.out]
      have HQ1 := Lib.hid (fun W => (show (binOp .neq 45 (.agg (hC k1)) (.agg (hC k2))).run Try.prog W = .ok (.bool false) W by have := neqH ⟨k1, hk1⟩ ⟨k2, hk2⟩ W; rw [this]; simp [e1]))
      have HQ2 := Lib.hid (fun W => (show (binOp .neq 47 (.agg (pC j1 r.1)) (.agg (pC j2 nn))).run Try.prog W = .ok (.bool false) W by have := neqPB ⟨(j1, r.1), hj1⟩ ⟨(j2, nn), hj2⟩ W; rw [this]; simp [e2, e3]))
      rw [decide_eq_true hrs]
      clear e1 e2 e3 hrs
      go_wp2_with (first | (with_reducible refine Agg.wpList_loadL K1_21.out rfl _ rfl rfl ?_) | (with_reducible refine Agg.wpList_loadL K2_21.out rfl _ rfl rfl ?_) | (with_reducible refine Agg.wpList_loadL P1_21.out rfl _ rfl rfl ?_) | (with_reducible refine Agg.wpList_loadL P2_21.out rfl _ rfl rfl ?_) | (with_reducible refine Agg.wpList_neqw 45 45 _ _ rfl rfl (hC k1) (hC k2) rfl rfl false (by kernel_rfl) HQ1.out ?_) | (with_reducible refine Agg.wpList_neqw 47 47 _ _ rfl rfl (pC j1 r.1) (pC j2 nn) rfl rfl false (by kernel_rfl) HQ2.out ?_))
      refine (HGET.out v3 b _ hbl (B_21.out)).mono ?_
      rintro e w22 ⟨zi, zr, rfl, hzi, hzr, hx⟩
      have RI_22 := Lib.hid (SliceOf.below RI_21.out hx)
      have RR_22 := Lib.hid (SliceOf.below RR_21.out hx)
      have SI_22 := Lib.hid (SliceOf.below SI_21.out hx)
      have SR_22 := Lib.hid (SliceOf.below SR_21.out hx)
      have B_22 := Lib.hid (SliceOf.below B_21.out hx)
      have X_22 := Lib.hid (Agg.belowThen X_21.out (Nat.le_refl _) hx)
      have RB_22 := Lib.hid (RB_21.out.below hx)
      have SB_22 := Lib.hid (SB_21.out.below hx)
      have XV_22 := Lib.hid (SliceOf.below XV_21.out hx)
      have YV_22 := Lib.hid (SliceOf.below YV_21.out hx)
      have K1_22 := Lib.hid (K1_21.out.below hx)
      have P1_22 := Lib.hid (P1_21.out.below hx)
      have N1_22 := Lib.hid (N1_21.out.below hx)
      have K2_22 := Lib.hid (K2_21.out.below hx)
      have P2_22 := Lib.hid (P2_21.out.below hx)
      have ZI_22 := Lib.hid (hzi.slice)
      have ZR_22 := Lib.hid (hzr.slice)
      clear hx hzi hzr RI_21 RR_21 SI_21 SR_21 B_21 X_21 RB_21 SB_21 XV_21 YV_21 K1_21 P1_21 N1_21 K2_21 P2_21
      cases hgb : getRv b with
      | none =>
        obtain ⟨hgo, hge⟩ := getO_none hgb
        have HZC := Lib.hid (show canRv zRv = false by decide +kernel)
        have HPE := Lib.hid (show errRv zRv = 2 by simp [errRv, HZC.out])
        rw [hgo] at ZI_22 ZR_22
        rw [hgo, hge]
        have hpe : errRv zRv = 2 := HPE.out
        clear hgo hge hgb
        go_wp2_with (first | (refine Agg.wpList_new rfl rfl rfl 33 21 136 rfl rfl rfl (by decide) (rsC [] (.slice none 0 0) (.slice none 0 0)) (rsC ([] : List UInt8) zi zr) rsC_zero (rsC_ss _ _ _ _ _ _) (rsC_info _ _ _) (rsC_one _ ZI_22.out ZR_22.out) rfl (by first | (simp; done) | simp [Act.put]) ?_; intro gz w23 hb hx hg; have RI_23 := Lib.hid (SliceOf.below RI_22.out hx); have RR_23 := Lib.hid (SliceOf.below RR_22.out hx); have SI_23 := Lib.hid (SliceOf.below SI_22.out hx); have SR_23 := Lib.hid (SliceOf.below SR_22.out hx); have B_23 := Lib.hid (SliceOf.below B_22.out hx); have X_23 := Lib.hid (Agg.belowThen X_22.out (Nat.le_refl _) hx); have RB_23 := Lib.hid (RB_22.out.below hx); have SB_23 := Lib.hid (SB_22.out.below hx); have XV_23 := Lib.hid (SliceOf.below XV_22.out hx); have YV_23 := Lib.hid (SliceOf.below YV_22.out hx); have K1_23 := Lib.hid (K1_22.out.below hx); have P1_23 := Lib.hid (P1_22.out.below hx); have N1_23 := Lib.hid (N1_22.out.below hx); have K2_23 := Lib.hid (K2_22.out.below hx); have P2_23 := Lib.hid (P2_22.out.below hx); have ZI_23 := Lib.hid (SliceOf.below ZI_22.out hx); have ZR_23 := Lib.hid (SliceOf.below ZR_22.out hx); have ZB_23 := Lib.hid ((RvB.of_blk hb)); clear hb hx hg RI_22 RR_22 SI_22 SR_22 B_22 X_22 RB_22 SB_22 XV_22 YV_22 K1_22 P1_22 N1_22 K2_22 P2_22 ZI_22 ZR_22) | (with_reducible refine Agg.wpList_loadL ZB_23.out.all rfl _ rfl rfl ?_))
        refine (rput_any _ zRv (by first | decide | (have := can_parts HPG.out.1; have := this.inp; omega)) _ ⟨zi, zr, rfl, ZI_23.out, ZR_23.out⟩).mono ?_
        rintro e w24 ⟨zv, rfl, hzv, hx⟩
        have RI_24 := Lib.hid (SliceOf.below RI_23.out hx)
        have RR_24 := Lib.hid (SliceOf.below RR_23.out hx)
        have SI_24 := Lib.hid (SliceOf.below SI_23.out hx)
        have SR_24 := Lib.hid (SliceOf.below SR_23.out hx)
        have B_24 := Lib.hid (SliceOf.below B_23.out hx)
        have X_24 := Lib.hid (Agg.belowThen X_23.out (Nat.le_refl _) hx)
        have RB_24 := Lib.hid (RB_23.out.below hx)
        have SB_24 := Lib.hid (SB_23.out.below hx)
        have XV_24 := Lib.hid (SliceOf.below XV_23.out hx)
        have YV_24 := Lib.hid (SliceOf.below YV_23.out hx)
        have K1_24 := Lib.hid (K1_23.out.below hx)
        have P1_24 := Lib.hid (P1_23.out.below hx)
        have N1_24 := Lib.hid (N1_23.out.below hx)
        have K2_24 := Lib.hid (K2_23.out.below hx)
        have P2_24 := Lib.hid (P2_23.out.below hx)
        have ZI_24 := Lib.hid (SliceOf.below ZI_23.out hx)
        have ZR_24 := Lib.hid (SliceOf.below ZR_23.out hx)
        have ZB_24 := Lib.hid (ZB_23.out.below hx)
        have ZV_24 := Lib.hid (hzv.slice)
        clear hx hzv RI_23 RR_23 SI_23 SR_23 B_23 X_23 RB_23 SB_23 XV_23 YV_23 K1_23 P1_23 N1_23 K2_23 P2_23 ZI_23 ZR_23 ZB_23
        rw [hpe]
        go_wp2_with (first | (with_reducible refine Agg.wpList_loadL ZB_24.out.all rfl _ rfl rfl ?_) | (with_reducible refine Agg.wpList_build0 33 rfl (by kernel_rfl) (.agg (rsC [] (.slice none 0 0) (.slice none 0 0))) build_rsz ?_))
        refine (alike_any _ _ zRv zRv (by decide) (by decide) (by decide) (by decide) _ ⟨zi, zr, rfl, ZI_24.out, ZR_24.out⟩ ⟨_, _, rfl, SliceOf.nil _ _ _, SliceOf.nil _ _ _⟩).mono ?_
        rintro e w25 ⟨rfl, hx⟩
        have RI_25 := Lib.hid (SliceOf.below RI_24.out hx)
        have RR_25 := Lib.hid (SliceOf.below RR_24.out hx)
        have SI_25 := Lib.hid (SliceOf.below SI_24.out hx)
        have SR_25 := Lib.hid (SliceOf.below SR_24.out hx)
        have B_25 := Lib.hid (SliceOf.below B_24.out hx)
        have X_25 := Lib.hid (Agg.belowThen X_24.out (Nat.le_refl _) hx)
        have RB_25 := Lib.hid (RB_24.out.below hx)
        have SB_25 := Lib.hid (SB_24.out.below hx)
        have XV_25 := Lib.hid (SliceOf.below XV_24.out hx)
        have YV_25 := Lib.hid (SliceOf.below YV_24.out hx)
        have K1_25 := Lib.hid (K1_24.out.below hx)
        have P1_25 := Lib.hid (P1_24.out.below hx)
        have N1_25 := Lib.hid (N1_24.out.below hx)
        have K2_25 := Lib.hid (K2_24.out.below hx)
        have P2_25 := Lib.hid (P2_24.out.below hx)
        have ZI_25 := Lib.hid (SliceOf.below ZI_24.out hx)
        have ZR_25 := Lib.hid (SliceOf.below ZR_24.out hx)
        have ZB_25 := Lib.hid (ZB_24.out.below hx)
        have ZV_25 := Lib.hid (SliceOf.below ZV_24.out hx)
        clear hx  RI_24 RR_24 SI_24 SR_24 B_24 X_24 RB_24 SB_24 XV_24 YV_24 K1_24 P1_24 N1_24 K2_24 P2_24 ZI_24 ZR_24 ZB_24 ZV_24
        go_wp2_with fail
        go_ret
        exact ⟨ret_bool (by simp), X_25.out⟩
      | some q =>
        obtain ⟨hgo, hge⟩ := getO_some hgb
        have HPG := Lib.hid (put_get hgb)
        have HPE := Lib.hid (show errRv q = 0 by simp [errRv, HPG.out.1])
        rw [hgo] at ZI_22 ZR_22
        rw [hgo, hge]
        have hpe : errRv q = 0 := HPE.out
        clear hgo hge hgb
        go_wp2_with (first | (refine Agg.wpList_new rfl rfl rfl 33 21 136 rfl rfl rfl (by decide) (rsC [] (.slice none 0 0) (.slice none 0 0)) (rsC q.1 zi zr) rsC_zero (rsC_ss _ _ _ _ _ _) (rsC_info _ _ _) (rsC_one _ ZI_22.out ZR_22.out) rfl (by first | (simp; done) | simp [Act.put]) ?_; intro gz w23 hb hx hg; have RI_23 := Lib.hid (SliceOf.below RI_22.out hx); have RR_23 := Lib.hid (SliceOf.below RR_22.out hx); have SI_23 := Lib.hid (SliceOf.below SI_22.out hx); have SR_23 := Lib.hid (SliceOf.below SR_22.out hx); have B_23 := Lib.hid (SliceOf.below B_22.out hx); have X_23 := Lib.hid (Agg.belowThen X_22.out (Nat.le_refl _) hx); have RB_23 := Lib.hid (RB_22.out.below hx); have SB_23 := Lib.hid (SB_22.out.below hx); have XV_23 := Lib.hid (SliceOf.below XV_22.out hx); have YV_23 := Lib.hid (SliceOf.below YV_22.out hx); have K1_23 := Lib.hid (K1_22.out.below hx); have P1_23 := Lib.hid (P1_22.out.below hx); have N1_23 := Lib.hid (N1_22.out.below hx); have K2_23 := Lib.hid (K2_22.out.below hx); have P2_23 := Lib.hid (P2_22.out.below hx); have ZI_23 := Lib.hid (SliceOf.below ZI_22.out hx); have ZR_23 := Lib.hid (SliceOf.below ZR_22.out hx); have ZB_23 := Lib.hid ((RvB.of_blk hb)); clear hb hx hg RI_22 RR_22 SI_22 SR_22 B_22 X_22 RB_22 SB_22 XV_22 YV_22 K1_22 P1_22 N1_22 K2_22 P2_22 ZI_22 ZR_22) | (with_reducible refine Agg.wpList_loadL ZB_23.out.all rfl _ rfl rfl ?_))
        refine (rput_any _ q (by first | decide | (have := can_parts HPG.out.1; have := this.inp; omega)) _ ⟨zi, zr, rfl, ZI_23.out, ZR_23.out⟩).mono ?_
        rintro e w24 ⟨zv, rfl, hzv, hx⟩
        have RI_24 := Lib.hid (SliceOf.below RI_23.out hx)
        have RR_24 := Lib.hid (SliceOf.below RR_23.out hx)
        have SI_24 := Lib.hid (SliceOf.below SI_23.out hx)
        have SR_24 := Lib.hid (SliceOf.below SR_23.out hx)
        have B_24 := Lib.hid (SliceOf.below B_23.out hx)
        have X_24 := Lib.hid (Agg.belowThen X_23.out (Nat.le_refl _) hx)
        have RB_24 := Lib.hid (RB_23.out.below hx)
        have SB_24 := Lib.hid (SB_23.out.below hx)
        have XV_24 := Lib.hid (SliceOf.below XV_23.out hx)
        have YV_24 := Lib.hid (SliceOf.below YV_23.out hx)
        have K1_24 := Lib.hid (K1_23.out.below hx)
        have P1_24 := Lib.hid (P1_23.out.below hx)
        have N1_24 := Lib.hid (N1_23.out.below hx)
        have K2_24 := Lib.hid (K2_23.out.below hx)
        have P2_24 := Lib.hid (P2_23.out.below hx)
        have ZI_24 := Lib.hid (SliceOf.below ZI_23.out hx)
        have ZR_24 := Lib.hid (SliceOf.below ZR_23.out hx)
        have ZB_24 := Lib.hid (ZB_23.out.below hx)
        have ZV_24 := Lib.hid (hzv.slice)
        clear hx hzv RI_23 RR_23 SI_23 SR_23 B_23 X_23 RB_23 SB_23 XV_23 YV_23 K1_23 P1_23 N1_23 K2_23 P2_23 ZI_23 ZR_23 ZB_23
        rw [hpe]
        rw [show putRv q = b by unfold putRv; rw [if_pos HPG.out.1, HPG.out.2]] at ZV_24
        go_wp2_with (first | (with_reducible refine Agg.wpList_loadL ZB_24.out.all rfl _ rfl rfl ?_))
        refine (sameBytes_any zv v3 b b (by omega) (by omega) _ ZV_24.out B_24.out).mono ?_
        rintro e w25 ⟨rfl, hx⟩
        have RI_25 := Lib.hid (SliceOf.below RI_24.out hx)
        have RR_25 := Lib.hid (SliceOf.below RR_24.out hx)
        have SI_25 := Lib.hid (SliceOf.below SI_24.out hx)
        have SR_25 := Lib.hid (SliceOf.below SR_24.out hx)
        have B_25 := Lib.hid (SliceOf.below B_24.out hx)
        have X_25 := Lib.hid (Agg.belowThen X_24.out (Nat.le_refl _) hx)
        have RB_25 := Lib.hid (RB_24.out.below hx)
        have SB_25 := Lib.hid (SB_24.out.below hx)
        have XV_25 := Lib.hid (SliceOf.below XV_24.out hx)
        have YV_25 := Lib.hid (SliceOf.below YV_24.out hx)
        have K1_25 := Lib.hid (K1_24.out.below hx)
        have P1_25 := Lib.hid (P1_24.out.below hx)
        have N1_25 := Lib.hid (N1_24.out.below hx)
        have K2_25 := Lib.hid (K2_24.out.below hx)
        have P2_25 := Lib.hid (P2_24.out.below hx)
        have ZI_25 := Lib.hid (SliceOf.below ZI_24.out hx)
        have ZR_25 := Lib.hid (SliceOf.below ZR_24.out hx)
        have ZB_25 := Lib.hid (ZB_24.out.below hx)
        have ZV_25 := Lib.hid (SliceOf.below ZV_24.out hx)
        clear hx  RI_24 RR_24 SI_24 SR_24 B_24 X_24 RB_24 SB_24 XV_24 YV_24 K1_24 P1_24 N1_24 K2_24 P2_24 ZI_24 ZR_24 ZB_24 ZV_24
        go_wp2_with fail
        go_ret
        exact ⟨ret_bool (by simp), X_25.out⟩
    · rw [decide_eq_false hrs]
      go_wp2_with fail
      refine (HGET.out v3 b _ hbl (B_21.out)).mono ?_
      rintro e w22 ⟨zi, zr, rfl, hzi, hzr, hx⟩
      have RI_22 := Lib.hid (SliceOf.below RI_21.out hx)
      have RR_22 := Lib.hid (SliceOf.below RR_21.out hx)
      have SI_22 := Lib.hid (SliceOf.below SI_21.out hx)
      have SR_22 := Lib.hid (SliceOf.below SR_21.out hx)
      have B_22 := Lib.hid (SliceOf.below B_21.out hx)
      have X_22 := Lib.hid (Agg.belowThen X_21.out (Nat.le_refl _) hx)
      have RB_22 := Lib.hid (RB_21.out.below hx)
      have SB_22 := Lib.hid (SB_21.out.below hx)
      have XV_22 := Lib.hid (SliceOf.below XV_21.out hx)
      have YV_22 := Lib.hid (SliceOf.below YV_21.out hx)
      have K1_22 := Lib.hid (K1_21.out.below hx)
      have P1_22 := Lib.hid (P1_21.out.below hx)
      have N1_22 := Lib.hid (N1_21.out.below hx)
      have K2_22 := Lib.hid (K2_21.out.below hx)
      have P2_22 := Lib.hid (P2_21.out.below hx)
      have ZI_22 := Lib.hid (hzi.slice)
      have ZR_22 := Lib.hid (hzr.slice)
      clear hx hzi hzr RI_21 RR_21 SI_21 SR_21 B_21 X_21 RB_21 SB_21 XV_21 YV_21 K1_21 P1_21 N1_21 K2_21 P2_21
      cases hgb : getRv b with
      | none =>
        obtain ⟨hgo, hge⟩ := getO_none hgb
        have HZC := Lib.hid (show canRv zRv = false by decide +kernel)
        have HPE := Lib.hid (show errRv zRv = 2 by simp [errRv, HZC.out])
        rw [hgo] at ZI_22 ZR_22
        rw [hgo, hge]
        have hpe : errRv zRv = 2 := HPE.out
        clear hgo hge hgb
        go_wp2_with (first | (refine Agg.wpList_new rfl rfl rfl 33 21 136 rfl rfl rfl (by decide) (rsC [] (.slice none 0 0) (.slice none 0 0)) (rsC ([] : List UInt8) zi zr) rsC_zero (rsC_ss _ _ _ _ _ _) (rsC_info _ _ _) (rsC_one _ ZI_22.out ZR_22.out) rfl (by first | (simp; done) | simp [Act.put]) ?_; intro gz w23 hb hx hg; have RI_23 := Lib.hid (SliceOf.below RI_22.out hx); have RR_23 := Lib.hid (SliceOf.below RR_22.out hx); have SI_23 := Lib.hid (SliceOf.below SI_22.out hx); have SR_23 := Lib.hid (SliceOf.below SR_22.out hx); have B_23 := Lib.hid (SliceOf.below B_22.out hx); have X_23 := Lib.hid (Agg.belowThen X_22.out (Nat.le_refl _) hx); have RB_23 := Lib.hid (RB_22.out.below hx); have SB_23 := Lib.hid (SB_22.out.below hx); have XV_23 := Lib.hid (SliceOf.below XV_22.out hx); have YV_23 := Lib.hid (SliceOf.below YV_22.out hx); have K1_23 := Lib.hid (K1_22.out.below hx); have P1_23 := Lib.hid (P1_22.out.below hx); have N1_23 := Lib.hid (N1_22.out.below hx); have K2_23 := Lib.hid (K2_22.out.below hx); have P2_23 := Lib.hid (P2_22.out.below hx); have ZI_23 := Lib.hid (SliceOf.below ZI_22.out hx); have ZR_23 := Lib.hid (SliceOf.below ZR_22.out hx); have ZB_23 := Lib.hid ((RvB.of_blk hb)); clear hb hx hg RI_22 RR_22 SI_22 SR_22 B_22 X_22 RB_22 SB_22 XV_22 YV_22 K1_22 P1_22 N1_22 K2_22 P2_22 ZI_22 ZR_22) | (with_reducible refine Agg.wpList_loadL ZB_23.out.all rfl _ rfl rfl ?_))
        refine (rput_any _ zRv (by first | decide | (have := can_parts HPG.out.1; have := this.inp; omega)) _ ⟨zi, zr, rfl, ZI_23.out, ZR_23.out⟩).mono ?_
        rintro e w24 ⟨zv, rfl, hzv, hx⟩
        have RI_24 := Lib.hid (SliceOf.below RI_23.out hx)
        have RR_24 := Lib.hid (SliceOf.below RR_23.out hx)
        have SI_24 := Lib.hid (SliceOf.below SI_23.out hx)
        have SR_24 := Lib.hid (SliceOf.below SR_23.out hx)
        have B_24 := Lib.hid (SliceOf.below B_23.out hx)
        have X_24 := Lib.hid (Agg.belowThen X_23.out (Nat.le_refl _) hx)
        have RB_24 := Lib.hid (RB_23.out.below hx)
        have SB_24 := Lib.hid (SB_23.out.below hx)
        have XV_24 := Lib.hid (SliceOf.below XV_23.out hx)
        have YV_24 := Lib.hid (SliceOf.below YV_23.out hx)
        have K1_24 := Lib.hid (K1_23.out.below hx)
        have P1_24 := Lib.hid (P1_23.out.below hx)
        have N1_24 := Lib.hid (N1_23.out.below hx)
        have K2_24 := Lib.hid (K2_23.out.below hx)
        have P2_24 := Lib.hid (P2_23.out.below hx)
        have ZI_24 := Lib.hid (SliceOf.below ZI_23.out hx)
        have ZR_24 := Lib.hid (SliceOf.below ZR_23.out hx)
        have ZB_24 := Lib.hid (ZB_23.out.below hx)
        have ZV_24 := Lib.hid (hzv.slice)
        clear hx hzv RI_23 RR_23 SI_23 SR_23 B_23 X_23 RB_23 SB_23 XV_23 YV_23 K1_23 P1_23 N1_23 K2_23 P2_23 ZI_23 ZR_23 ZB_23
        rw [hpe]
        go_wp2_with (first | (with_reducible refine Agg.wpList_loadL ZB_24.out.all rfl _ rfl rfl ?_) | (with_reducible refine Agg.wpList_build0 33 rfl (by kernel_rfl) (.agg (rsC [] (.slice none 0 0) (.slice none 0 0))) build_rsz ?_))
        refine (alike_any _ _ zRv zRv (by decide) (by decide) (by decide) (by decide) _ ⟨zi, zr, rfl, ZI_24.out, ZR_24.out⟩ ⟨_, _, rfl, SliceOf.nil _ _ _, SliceOf.nil _ _ _⟩).mono ?_
        rintro e w25 ⟨rfl, hx⟩
        have RI_25 := Lib.hid (SliceOf.below RI_24.out hx)
        have RR_25 := Lib.hid (SliceOf.below RR_24.out hx)
        have SI_25 := Lib.hid (SliceOf.below SI_24.out hx)
        have SR_25 := Lib.hid (SliceOf.below SR_24.out hx)
        have B_25 := Lib.hid (SliceOf.below B_24.out hx)
        have X_25 := Lib.hid (Agg.belowThen X_24.out (Nat.le_refl _) hx)
        have RB_25 := Lib.hid (RB_24.out.below hx)
        have SB_25 := Lib.hid (SB_24.out.below hx)
        have XV_25 := Lib.hid (SliceOf.below XV_24.out hx)
        have YV_25 := Lib.hid (SliceOf.below YV_24.out hx)
        have K1_25 := Lib.hid (K1_24.out.below hx)
        have P1_25 := Lib.hid (P1_24.out.below hx)
        have N1_25 := Lib.hid (N1_24.out.below hx)
        have K2_25 := Lib.hid (K2_24.out.below hx)
        have P2_25 := Lib.hid (P2_24.out.below hx)
        have ZI_25 := Lib.hid (SliceOf.below ZI_24.out hx)
        have ZR_25 := Lib.hid (SliceOf.below ZR_24.out hx)
        have ZB_25 := Lib.hid (ZB_24.out.below hx)
        have ZV_25 := Lib.hid (SliceOf.below ZV_24.out hx)
        clear hx  RI_24 RR_24 SI_24 SR_24 B_24 X_24 RB_24 SB_24 XV_24 YV_24 K1_24 P1_24 N1_24 K2_24 P2_24 ZI_24 ZR_24 ZB_24 ZV_24
        go_wp2_with fail
        go_ret
        exact ⟨ret_bool (by simp), X_25.out⟩
      | some q =>
        obtain ⟨hgo, hge⟩ := getO_some hgb
        have HPG := Lib.hid (put_get hgb)
        have HPE := Lib.hid (show errRv q = 0 by simp [errRv, HPG.out.1])
        rw [hgo] at ZI_22 ZR_22
        rw [hgo, hge]
        have hpe : errRv q = 0 := HPE.out
        clear hgo hge hgb
        go_wp2_with (first | (refine Agg.wpList_new rfl rfl rfl 33 21 136 rfl rfl rfl (by decide) (rsC [] (.slice none 0 0) (.slice none 0 0)) (rsC q.1 zi zr) rsC_zero (rsC_ss _ _ _ _ _ _) (rsC_info _ _ _) (rsC_one _ ZI_22.out ZR_22.out) rfl (by first | (simp; done) | simp [Act.put]) ?_; intro gz w23 hb hx hg; have RI_23 := Lib.hid (SliceOf.below RI_22.out hx); have RR_23 := Lib.hid (SliceOf.below RR_22.out hx); have SI_23 := Lib.hid (SliceOf.below SI_22.out hx); have SR_23 := Lib.hid (SliceOf.below SR_22.out hx); have B_23 := Lib.hid (SliceOf.below B_22.out hx); have X_23 := Lib.hid (Agg.belowThen X_22.out (Nat.le_refl _) hx); have RB_23 := Lib.hid (RB_22.out.below hx); have SB_23 := Lib.hid (SB_22.out.below hx); have XV_23 := Lib.hid (SliceOf.below XV_22.out hx); have YV_23 := Lib.hid (SliceOf.below YV_22.out hx); have K1_23 := Lib.hid (K1_22.out.below hx); have P1_23 := Lib.hid (P1_22.out.below hx); have N1_23 := Lib.hid (N1_22.out.below hx); have K2_23 := Lib.hid (K2_22.out.below hx); have P2_23 := Lib.hid (P2_22.out.below hx); have ZI_23 := Lib.hid (SliceOf.below ZI_22.out hx); have ZR_23 := Lib.hid (SliceOf.below ZR_22.out hx); have ZB_23 := Lib.hid ((RvB.of_blk hb)); clear hb hx hg RI_22 RR_22 SI_22 SR_22 B_22 X_22 RB_22 SB_22 XV_22 YV_22 K1_22 P1_22 N1_22 K2_22 P2_22 ZI_22 ZR_22) | (with_reducible refine Agg.wpList_loadL ZB_23.out.all rfl _ rfl rfl ?_))
        refine (rput_any _ q (by first | decide | (have := can_parts HPG.out.1; have := this.inp; omega)) _ ⟨zi, zr, rfl, ZI_23.out, ZR_23.out⟩).mono ?_
        rintro e w24 ⟨zv, rfl, hzv, hx⟩
        have RI_24 := Lib.hid (SliceOf.below RI_23.out hx)
        have RR_24 := Lib.hid (SliceOf.below RR_23.out hx)
        have SI_24 := Lib.hid (SliceOf.below SI_23.out hx)
        have SR_24 := Lib.hid (SliceOf.below SR_23.out hx)
        have B_24 := Lib.hid (SliceOf.below B_23.out hx)
        have X_24 := Lib.hid (Agg.belowThen X_23.out (Nat.le_refl _) hx)
        have RB_24 := Lib.hid (RB_23.out.below hx)
        have SB_24 := Lib.hid (SB_23.out.below hx)
        have XV_24 := Lib.hid (SliceOf.below XV_23.out hx)
        have YV_24 := Lib.hid (SliceOf.below YV_23.out hx)
        have K1_24 := Lib.hid (K1_23.out.below hx)
        have P1_24 := Lib.hid (P1_23.out.below hx)
        have N1_24 := Lib.hid (N1_23.out.below hx)
        have K2_24 := Lib.hid (K2_23.out.below hx)
        have P2_24 := Lib.hid (P2_23.out.below hx)
        have ZI_24 := Lib.hid (SliceOf.below ZI_23.out hx)
        have ZR_24 := Lib.hid (SliceOf.below ZR_23.out hx)
        have ZB_24 := Lib.hid (ZB_23.out.below hx)
        have ZV_24 := Lib.hid (hzv.slice)
        clear hx hzv RI_23 RR_23 SI_23 SR_23 B_23 X_23 RB_23 SB_23 XV_23 YV_23 K1_23 P1_23 N1_23 K2_23 P2_23 ZI_23 ZR_23 ZB_23
        rw [hpe]
        rw [show putRv q = b by unfold putRv; rw [if_pos HPG.out.1, HPG.out.2]] at ZV_24
        go_wp2_with (first | (with_reducible refine Agg.wpList_loadL ZB_24.out.all rfl _ rfl rfl ?_))
        refine (sameBytes_any zv v3 b b (by omega) (by omega) _ ZV_24.out B_24.out).mono ?_
        rintro e w25 ⟨rfl, hx⟩
        have RI_25 := Lib.hid (SliceOf.below RI_24.out hx)
        have RR_25 := Lib.hid (SliceOf.below RR_24.out hx)
        have SI_25 := Lib.hid (SliceOf.below SI_24.out hx)
        have SR_25 := Lib.hid (SliceOf.below SR_24.out hx)
        have B_25 := Lib.hid (SliceOf.below B_24.out hx)
        have X_25 := Lib.hid (Agg.belowThen X_24.out (Nat.le_refl _) hx)
        have RB_25 := Lib.hid (RB_24.out.below hx)
        have SB_25 := Lib.hid (SB_24.out.below hx)
        have XV_25 := Lib.hid (SliceOf.below XV_24.out hx)
        have YV_25 := Lib.hid (SliceOf.below YV_24.out hx)
        have K1_25 := Lib.hid (K1_24.out.below hx)
        have P1_25 := Lib.hid (P1_24.out.below hx)
        have N1_25 := Lib.hid (N1_24.out.below hx)
        have K2_25 := Lib.hid (K2_24.out.below hx)
        have P2_25 := Lib.hid (P2_24.out.below hx)
        have ZI_25 := Lib.hid (SliceOf.below ZI_24.out hx)
        have ZR_25 := Lib.hid (SliceOf.below ZR_24.out hx)
        have ZB_25 := Lib.hid (ZB_24.out.below hx)
        have ZV_25 := Lib.hid (SliceOf.below ZV_24.out hx)
        clear hx  RI_24 RR_24 SI_24 SR_24 B_24 X_24 RB_24 SB_24 XV_24 YV_24 K1_24 P1_24 N1_24 K2_24 P2_24 ZI_24 ZR_24 ZB_24 ZV_24
        go_wp2_with fail
        go_ret
        exact ⟨ret_bool (by simp), X_25.out⟩
end Go.Proofs.Ytgekpghjlhcpkaa
