/- spenceref20.Key, Dummy. -/
import Derived.Test.YtdebbmembkbniaaGreatTAS
import Derived.Test.YtdebbmembkbniaaGreatTBC
import Derived.Test.YtdebbmembkbniaaGreatTBF
import Derived.Test.YtdebbmembkbniaaGreatTAM
namespace Go.Agg
open Go.RowKit
theorem exec_build2K {P : Program} {o : Oper} {a : Act} {w : World} {ty : TypeId} {i j : Nat} {x y : Operand} {vx vy v : Value} (ho : o.op = .build ty #[(i, x), (j, y)]) (hx : a.eval x = vx) (hy : a.eval y = vy) (hr : (Instr.build ty #[(i, vx), (j, vy)]).run P w = .ok v w) : (execOp a.eval o).run P w = .ok (.value v) w := by
 simp [execOp, ho, hx, hy, hr]
end Go.Agg
namespace Go.Proofs.YtdebbmembkbniaaGreat
open Go.RowKit Pl Go.Agg Go.Sha
theorem build_z20 (w : World) : (Instr.build 43 #[]).run Tryz.prog w = .ok (.agg (hC z20)) w := by kernel_rfl
theorem build_pz (w : World) : (Instr.build 48 #[]).run Tryz.prog w = .ok (.agg (pC z20 [])) w := by kernel_rfl
set_option maxRecDepth 100000 in
set_option maxHeartbeats 8000000 in
theorem rfKey_any (v : Value) (r : Rv) (hb : RvLen r) (w : World) (h : RfAt w v r) :
  Calls Tryz.prog 15 #[v] w fun e w' => e = .returned (.tuple #[.agg (hC (tagL tKey r)), .int .i64 (errRv r : Int)]) ∧ Below w.heap.size w w' := by
 obtain ⟨vi, vr, rfl, hvi, hvr⟩ := h
 have HV := Lib.hid (And.intro hvi hvr)
 clear hvi hvr
 go_enter Tryz.func15, Tryz.ntmps15
 go_wp2_with (first | (with_reducible refine wpList_box rfl 36 _ rfl (#[.string ⟨r.1.toArray⟩, vi, vr]) rfl ?_; intro g1 w1 hb hx1 hg; have HR1 := Lib.hid hb; have HX1 := Lib.hid hx1; clear hb hx1 hg) | (with_reducible refine wpList_zero rfl 43 rfl (hC z20) hash_zero2 ?_; intro g2 w2 hb hx hg; have HA2 := Lib.hid hb; have HX2 := Lib.hid (belowThen HX1.out (Nat.le_refl _) hx); have HG2 := Lib.hid (Nat.le_trans HX1.out.size hg); have HL2 := Lib.hid (RfB.of_blk (HR1.out.below hx)); clear hb hx hg) | (with_reducible refine wpList_loadL HL2.out.all rfl _ rfl rfl ?_))
 refine (rfPut_any _ r hb w2 ⟨vi, vr, rfl, HV.out.1.below HX2.out, HV.out.2.below HX2.out⟩).mono ?_
 rintro e w3 ⟨v3, rfl, ho3, hx3⟩
 have HO3 := Lib.hid ho3
 have HA3 := Lib.hid (HA2.out.below hx3)
 have HX3 := Lib.hid (belowThen HX2.out (Nat.le_refl _) hx3)
 clear hx3 ho3
 cases hcan : canRv r with
 | false =>
  have HE := Lib.hid (show errRv r = 2 ∧ tagL tKey r = z20 by simp [errRv, tagL, hcan])
  have hee : errRv r = 2 := HE.out.1
  rw [hee]
  clear hcan hee
  go_wp2_with (first | (with_reducible refine wpList_build0 43 rfl rfl (.agg (hC z20)) build_z20 ?_) | ((with_reducible refine wpList_put rfl rfl 43 _ _ rfl g2 (hC z20) (hC z20) rfl rfl HA3.out (hash_info1 _ rfl) rfl (hC_one1 _) ?_); intro w8 hb8 hx8 _ _))
  exact post_row_tmp rfl rfl rfl hb8 Tryz.underlying43 rfl (hash_info1 _ rfl) rfl ⟨by rw [HE.out.2, HE.out.1]; rfl, HX3.out.trans (hx8.mono HG2.out)⟩
 | true =>
  have HE := Lib.hid (show errRv r = 0 ∧ tagL tKey r = sumF (hashL tKey [putRs r]) ∧ putRv r = putRs r by simp [errRv, tagL, putRv, hcan])
  have hee : errRv r = 0 := HE.out.1
  have HPL := Lib.hid (putRs_len hcan)
  rw [hee]
  rw [HE.out.2.2] at HO3
  obtain ⟨s3, hs3⟩ := own_sv HO3.out
  have HT3 := Lib.hid (TypedB.of_own HO3.out)
  rw [← hs3] at HT3 ⊢
  clear hcan hee hs3 HO3
  go_wp2_with (first | (refine wpList_slice1 (E := EBB) (base := w3.heap.size) rfl _ rfl s3 rfl (Nat.le_refl _) ?_; intro ys w4 hys hx4; have HPA := Lib.hid (parts_one hys.slice (HT3.out.below hx4).1 HT3.out.2.2); have HA4 := Lib.hid (HA3.out.below hx4); have HX4 := Lib.hid (belowThen HX3.out (Nat.le_refl _) hx4); clear hys hx4))
  refine (refOf2_any tKey ys [s3] [putRs r] (hashL_one _ _ (by decide) (by have := HPL.out; omega)) (by simp) w4 HPA.out).mono ?_
  rintro e w5 ⟨rfl, hx5⟩
  obtain ⟨hh, hhh⟩ : ∃ q, sumF (hashL tKey [putRs r]) = q := ⟨_, rfl⟩
  have hhl : hh.length = 20 := by rw [← hhh]; exact sumF_length _
  have HHH := Lib.hid hhh
  have HA5 := Lib.hid (HA4.out.below hx5)
  have HX5 := Lib.hid (belowThen HX4.out (Nat.le_refl _) hx5)
  rw [hhh]
  clear hx5 hhh
  go_wp2_with (first | ((with_reducible refine wpList_put rfl rfl 43 _ _ rfl g2 (hC hh) (hC z20) rfl rfl HA5.out (hash_info1 _ hhl) (by rw [hC_size, hC_size, hhl, z20_length]) (hC_one1 _) ?_); intro w8 hb8 hx8 _ _))
  exact post_row_tmp rfl rfl rfl hb8 Tryz.underlying43 rfl (hash_info1 _ hhl) rfl ⟨by rw [HE.out.2.1, HE.out.1, HHH.out]; rfl, HX5.out.trans (hx8.mono HG2.out)⟩
set_option maxRecDepth 100000 in
set_option maxHeartbeats 8000000 in
theorem rfDummy_any (v : Value) (r : Rv) (hb : RvLen r) (w : World) (h : RfAt w v r) :
  Calls Tryz.prog 17 #[v] w fun e w' => e = .returned (.tuple #[.agg (pC (dummyH r) (dummyN r)), .int .i64 (errRv r : Int)]) ∧ Below w.heap.size w w' := by
 obtain ⟨vi, vr, rfl, hvi, hvr⟩ := h
 have HV := Lib.hid (And.intro hvi hvr)
 have HEO := Lib.hid (enters_of Tryz.func51 (by kernel_rfl) rfl : ∀ args w, (callFunc 51 args).run Tryz.prog w = .ok (.enter 51 args) w)
 clear hvi hvr
 go_enter Tryz.func17, Tryz.ntmps17
 go_wp2_with (first | (with_reducible refine wpList_box rfl 36 _ rfl (#[.string ⟨r.1.toArray⟩, vi, vr]) rfl ?_; intro g1 w1 hb hx1 hg; have HR1 := Lib.hid hb; have HX1 := Lib.hid hx1; clear hb hx1 hg) | (with_reducible refine wpList_zero rfl 48 rfl (pC z20 []) pC_zero ?_; intro g2 w2 hb hx hg; have HA2 := Lib.hid hb; have HR2 := Lib.hid (HR1.out.below hx); have HX2 := Lib.hid (belowThen HX1.out (Nat.le_refl _) hx); have HG2 := Lib.hid (Nat.le_trans HX1.out.size hg); have HL2 := Lib.hid (RfB.of_blk HR2.out); have HN12 := Lib.hid (show g1 ≠ g2 from fun e => by have := HR1.out.lt; omega); clear hb hx hg) | (with_reducible refine wpList_loadL HL2.out.all rfl _ rfl rfl ?_))
 refine (rfPut_any _ r hb w2 ⟨vi, vr, rfl, HV.out.1.below HX2.out, HV.out.2.below HX2.out⟩).mono ?_
 rintro e w3 ⟨v3, rfl, ho3, hx3⟩
 have HO3 := Lib.hid ho3
 have HA3 := Lib.hid (HA2.out.below hx3)
 have HR3 := Lib.hid (HR2.out.below hx3)
 have HX3 := Lib.hid (belowThen HX2.out (Nat.le_refl _) hx3)
 clear hx3 ho3
 cases hcan : canRv r with
 | false =>
  have HE := Lib.hid (show errRv r = 2 ∧ dummyH r = z20 ∧ dummyN r = [] by simp [errRv, dummyH, tagL, dummyN, hcan])
  have hee : errRv r = 2 := HE.out.1
  rw [hee]
  clear hcan hee
  go_wp2_with (first | (with_reducible refine wpList_build0 48 rfl rfl (.agg (pC z20 [])) build_pz ?_) | ((with_reducible refine wpList_put rfl rfl 48 _ _ rfl g2 (pC z20 []) (pC z20 []) rfl rfl HA3.out (pC_info _ _ rfl) rfl (pC_one _ _) ?_); intro w8 hb8 hx8 _ _))
  exact post_row_tmp rfl rfl rfl hb8 pC_under rfl (pC_info _ _ rfl) rfl ⟨by rw [HE.out.2.1, HE.out.2.2, HE.out.1]; rfl, HX3.out.trans (hx8.mono HG2.out)⟩
 | true =>
  have HE := Lib.hid (show errRv r = 0 ∧ dummyN r = r.1 by simp [errRv, dummyN, hcan])
  have HQ := Lib.hid (show dummyH r = sumF (hashL tSelf [putRs r]) ∧ putRv r = putRs r by simp [dummyH, tagL, putRv, hcan])
  have hee : errRv r = 0 := HE.out.1
  have HPL := Lib.hid (putRs_len hcan)
  have HLN := Lib.hid (hashL_one tSelf (putRs r) (by decide) (by have := HPL.out; omega))
  rw [hee]
  rw [HQ.out.2] at HO3
  obtain ⟨s3, hs3⟩ := own_sv HO3.out
  have HT3 := Lib.hid (TypedB.of_own HO3.out)
  rw [← hs3] at HT3 ⊢
  obtain ⟨hh, hhh⟩ : ∃ q, sumF (hashL tSelf [putRs r]) = q := ⟨_, rfl⟩
  have HHL := Lib.hid (show hh.length = 20 by rw [← hhh]; exact sumF_length _)
  have HHH := Lib.hid hhh
  have HDH := Lib.hid (show dummyH r = hh by rw [HQ.out.1, hhh])
  clear hcan hee hs3 HO3 hhh
  go_wp2_with fail
  try simp only [Act.put, List.setIfInBounds_toArray, List.set_cons_succ, List.set_cons_zero]
  obtain ⟨w4, hwd⟩ : ∃ W, W = w3.drew := ⟨_, rfl⟩
  have hd : Below w3.heap.size w3 w4 := by rw [hwd]; exact (Below.refl _ _).drew
  have HT4 := Lib.hid (HT3.out.below hd)
  have HA4 := Lib.hid (HA3.out.below hd)
  have HR4 := Lib.hid (HR3.out.below hd)
  have HX4 := Lib.hid (belowThen HX3.out (Nat.le_refl _) hd)
  refine wp_region_held_drew (S := fun W => Blk W g1 36 #[.string ⟨r.1.toArray⟩, vi, vr]) (by kernel_rfl) (by rw [← hwd]; exact HR4.out) (fun hHeld => ?_)
  rw [← hwd] at hHeld ⊢
  clear hwd hd
  refine held_take 0 (s3.1) rfl (by kernel_rfl) (fun _ _ _ h => h) rfl (fun W _ => by kernel_rfl) (by assumption) ?_
  try simp only [Act.put, List.setIfInBounds_toArray, List.set_cons_succ, List.set_cons_zero]
  refine held_take 3 (.pointer (some ⟨g1, 0, none⟩)) rfl (by kernel_rfl) (fun _ _ _ h => h) rfl (fun W _ => by kernel_rfl) (by assumption) ?_
  try simp only [Act.put, List.setIfInBounds_toArray, List.set_cons_succ, List.set_cons_zero]
  refine held_take 4 (.string ⟨r.1.toArray⟩) rfl (by kernel_rfl) (fun _ _ _ h => h) rfl (fun W hS => exec_loadC rfl rfl (RfB.of_blk hS).name.now) (by assumption) ?_
  try simp only [Act.put, List.setIfInBounds_toArray, List.set_cons_succ, List.set_cons_zero]
  refine held_one 1 rfl (by kernel_rfl) ?_
  refine step_slice1 (E := EBB) rfl _ rfl s3 rfl ?_
  intro ys w5 hys hx5
  have HPA := Lib.hid (parts_one hys.slice (HT4.out.below hx5).1 HT4.out.2.2)
  have HA5 := Lib.hid (HA4.out.below hx5)
  have HR5 := Lib.hid (HR4.out.below hx5)
  have HX5 := Lib.hid (belowThen HX4.out (Nat.le_refl _) hx5)
  clear hys hx5
  refine ⟨HR5.out, ?_⟩
  try simp only [Act.put, List.setIfInBounds_toArray, List.set_cons_succ, List.set_cons_zero]
  refine held_one 2 rfl (by kernel_rfl) ?_
  refine step_call rfl 51 _ _ rfl #[.string ⟨tSelf.toArray⟩, ys] (by simp only [List.map_toArray, List.map_cons, List.map_nil]; rfl) (fun W => HEO.out _ W) ?_
  refine (refOf2_any tSelf ys [s3] [putRs r] HLN.out (by simp) w5 HPA.out).mono ?_
  rintro x w6 ⟨rfl, hx6⟩
  have HA6 := Lib.hid (HA5.out.below hx6)
  have HR6 := Lib.hid (HR5.out.below hx6)
  have HX6 := Lib.hid (belowThen HX5.out (Nat.le_refl _) hx6)
  clear hx6
  rw [HHH.out]
  refine ⟨_, rfl, ?_⟩
  refine ⟨HR6.out, ?_⟩
  try simp only [Act.put, List.setIfInBounds_toArray, List.set_cons_succ, List.set_cons_zero]
  refine held_take 5 (.agg (pC hh r.1)) rfl (by kernel_rfl) (fun _ _ _ h => h) rfl (fun W _ => exec_build2K rfl rfl rfl (build_path hh r.1 HHL.out W)) (by assumption) ?_
  try simp only [Act.put, List.setIfInBounds_toArray, List.set_cons_succ, List.set_cons_zero]
  refine held_one 6 rfl (by kernel_rfl) ?_
  refine step_put rfl rfl 48 _ _ rfl g2 (pC hh r.1) (pC z20 []) rfl rfl HA6.out (pC_info _ _ HHL.out) (by rw [pC_size, pC_size, HHL.out, z20_length]) (pC_one _ _) ?_
  intro w7 hb7 hx7 _ hk7
  have HB7 := Lib.hid hb7
  have HR7 := Lib.hid (show Blk w7 g1 36 _ from (hk7 g1 HN12.out).trans HR6.out)
  have HX7 := Lib.hid (HX6.out.trans (hx7.mono HG2.out))
  clear hb7 hx7 hk7
  refine ⟨HR7.out, ?_⟩
  try simp only [Act.put, List.setIfInBounds_toArray, List.set_cons_succ, List.set_cons_zero]
  refine held_take 7 (.int .i64 0) rfl (by kernel_rfl) (fun _ _ _ h => h) rfl (fun W _ => by kernel_rfl) (by assumption) ?_
  try simp only [Act.put, List.setIfInBounds_toArray, List.set_cons_succ, List.set_cons_zero]
  refine held_end (by kernel_rfl) ?_
  go_wp2_with fail
  exact post_row_tmp rfl rfl rfl HB7.out pC_under rfl (pC_info _ _ HHL.out) rfl ⟨by rw [HE.out.2, HDH.out, HE.out.1]; rfl, HX7.out⟩
end Go.Proofs.YtdebbmembkbniaaGreat
