/- resolve.tagged, Key, Dummy. -/
import Derived.Test.YtdebbmembkbniaaGreatTAR
import Derived.Test.YtdebbmembkbniaaGreatTBB
namespace Go.Proofs.YtdebbmembkbniaaGreat
open Go.RowKit Pl Go.Agg Go.Sha
def tagL (tag : List UInt8) (r : Rv) : List UInt8 := if canRv r then sumF (hashL tag [putRs r]) else z20
theorem tagL_length (tag : List UInt8) (r : Rv) : (tagL tag r).length = 20 := by
 unfold tagL
 split
 ·exact sumF_length _
 ·rfl
def tKey : List UInt8 := [107, 101, 121]
def tSelf : List UInt8 := [115, 101, 108, 102]
theorem hash_zero2 : (Tryz.prog.info? 43).map (·.zero) = some (some (.agg (hC z20))) := hash_zero1
theorem hashL_one (tag b : List UInt8) (ht : tag.length ≤ 1000) (hb : b.length ≤ 4000) : (hashL tag [b]).length < 100000000 := by
 have h1 := encN_len (n := tag.length) (by omega)
 have h2 := encN_len (n := b.length) (by omega)
 simp only [hashL, encP, List.flatMap_cons, List.flatMap_nil, List.append_nil, List.length_append]
 omega
theorem parts_one {w : World} {v : Value} {s : SV} {b : List UInt8} (h : SliceOf EBB w v [s]) (hs : SliceOf EB w s.1 b) (hc : ∀ p n c, s.1 = .slice p n c → n ≤ c) : PartsAt w v [s] [b] :=
 ⟨h, rfl, fun k t c h1 h2 => by
  match k, h1, h2 with
  | 0, h1, h2 => simp at h1 h2; subst h1 h2; exact ⟨hs, hc⟩
  | k + 1, h1, h2 => simp at h1⟩
set_option maxRecDepth 100000 in
set_option maxHeartbeats 8000000 in
theorem tagged_any (tag : List UInt8) (v : Value) (r : Rv) (ht : tag.length ≤ 1000) (hil : r.2.1.length ≤ 1048576) (w : World) (h : RvAt w v r) :
  Calls Tryz.prog 50 #[.string ⟨tag.toArray⟩, v] w fun e w' => e = .returned (.tuple #[.agg (hC (tagL tag r)), .int .i64 (errRv r : Int)]) ∧ Below w.heap.size w w' := by
 obtain ⟨vi, vr, rfl, hvi, hvr⟩ := h
 have HV := Lib.hid (And.intro hvi hvr)
 clear hvi hvr
 go_enter Tryz.func50, Tryz.ntmps50
 go_wp2_with (first | (with_reducible refine wpList_box rfl 25 _ rfl (#[.string ⟨r.1.toArray⟩, vi, vr]) rfl ?_; intro g1 w1 hb hx1 hg; have HR1 := Lib.hid hb; have HX1 := Lib.hid hx1; clear hb hx1 hg) | (with_reducible refine wpList_zero rfl 43 rfl (hC z20) hash_zero2 ?_; intro g2 w2 hb hx hg; have HA2 := Lib.hid hb; have HX2 := Lib.hid (belowThen HX1.out (Nat.le_refl _) hx); have HG2 := Lib.hid (Nat.le_trans HX1.out.size hg); have HL2 := Lib.hid (RvB.of_blk (HR1.out.below hx)); clear hb hx hg) | (with_reducible refine wpList_loadL HL2.out.all rfl _ rfl rfl ?_))
 refine (rput_any _ r hil w2 ⟨vi, vr, rfl, HV.out.1.below HX2.out, HV.out.2.below HX2.out⟩).mono ?_
 rintro e w3 ⟨v3, rfl, ho3, hx3⟩
 have HO3 := Lib.hid ho3
 have HA3 := Lib.hid (HA2.out.below hx3)
 have HX3 := Lib.hid (belowThen HX2.out (Nat.le_refl _) hx3)
 clear hx3 ho3
 cases hcan : canRv r with
 | false =>
  have HE := Lib.hid (show errRv r = 2 ∧ tagL tag r = z20 by simp [errRv, tagL, hcan])
  have hee : errRv r = 2 := HE.out.1
  rw [hee]
  have HLH := Lib.hid (HA3.out.loads (P := Tryz.prog) Tryz.underlying43 rfl (hash_info1 z20 rfl))
  clear hcan hee
  go_wp2_with (first | (with_reducible refine wpList_loadL HLH.out rfl _ rfl rfl ?_) | ((with_reducible refine wpList_put rfl rfl 43 _ _ rfl g2 (hC z20) (hC z20) rfl rfl HA3.out (hash_info1 _ rfl) rfl (hC_one1 _) ?_); intro w8 hb8 hx8 _ _))
  exact post_row_tmp rfl rfl rfl hb8 Tryz.underlying43 rfl (hash_info1 _ rfl) rfl ⟨by rw [HE.out.2, HE.out.1]; rfl, HX3.out.trans (hx8.mono HG2.out)⟩
 | true =>
  have HE := Lib.hid (show errRv r = 0 ∧ tagL tag r = sumF (hashL tag [putRs r]) ∧ putRv r = putRs r by simp [errRv, tagL, putRv, hcan])
  have hee : errRv r = 0 := HE.out.1
  have HPL := Lib.hid (putRs_len hcan)
  rw [hee]
  rw [HE.out.2.2] at HO3
  obtain ⟨s3, hs3⟩ := own_sv HO3.out
  have HT3 := Lib.hid (TypedB.of_own HO3.out)
  rw [← hs3] at HT3 ⊢
  clear hcan hee hs3 HO3
  go_wp2_with (first | (refine wpList_slice1 (E := EBB) (base := w3.heap.size) rfl _ rfl s3 rfl (Nat.le_refl _) ?_; intro ys w4 hys hx4; have HPA := Lib.hid (parts_one hys.slice (HT3.out.below hx4).1 HT3.out.2.2); have HA4 := Lib.hid (HA3.out.below hx4); have HX4 := Lib.hid (belowThen HX3.out (Nat.le_refl _) hx4); clear hys hx4))
  refine (of_any tag ys [s3] [putRs r] (hashL_one _ _ ht (by have := HPL.out; omega)) (by simp) w4 HPA.out).mono ?_
  rintro e w5 ⟨rfl, hx5⟩
  obtain ⟨hh, hhh⟩ : ∃ q, sumF (hashL tag [putRs r]) = q := ⟨_, rfl⟩
  have hhl : hh.length = 20 := by rw [← hhh]; exact sumF_length _
  have HHH := Lib.hid hhh
  have HA5 := Lib.hid (HA4.out.below hx5)
  have HX5 := Lib.hid (belowThen HX4.out (Nat.le_refl _) hx5)
  rw [hhh]
  clear hx5 hhh
  go_wp2_with (first | ((with_reducible refine wpList_put rfl rfl 43 _ _ rfl g2 (hC hh) (hC z20) rfl rfl HA5.out (hash_info1 _ hhl) (by rw [hC_size, hC_size, hhl, z20_length]) (hC_one1 _) ?_); intro w8 hb8 hx8 _ _))
  exact post_row_tmp rfl rfl rfl hb8 Tryz.underlying43 rfl (hash_info1 _ hhl) rfl ⟨by rw [HE.out.2.1, HE.out.1, HHH.out]; rfl, HX5.out.trans (hx8.mono HG2.out)⟩
set_option maxRecDepth 100000 in
set_option maxHeartbeats 8000000 in
theorem rkey_any (v : Value) (r : Rv) (hil : r.2.1.length ≤ 1048576) (w : World) (h : RvAt w v r) :
  Calls Tryz.prog 14 #[v] w fun e w' => e = .returned (.tuple #[.agg (hC (tagL tKey r)), .int .i64 (errRv r : Int)]) ∧ Below w.heap.size w w' := by
 obtain ⟨vi, vr, rfl, hvi, hvr⟩ := h
 have HV := Lib.hid (And.intro hvi hvr)
 clear hvi hvr
 obtain ⟨hh, hhh⟩ : ∃ q, tagL tKey r = q := ⟨_, rfl⟩
 have hhl : hh.length = 20 := by rw [← hhh]; exact tagL_length _ _
 have HT := Lib.hid (fun (v : Value) (W : World) (h : RvAt W v r) => tagged_any tKey v r (by decide) hil W h)
 rw [hhh] at HT ⊢
 clear hhh
 go_enter Tryz.func14, Tryz.ntmps14
 go_wp2_with (first | (with_reducible refine wpList_box rfl 25 _ rfl (#[.string ⟨r.1.toArray⟩, vi, vr]) rfl ?_; intro g1 w1 hb hx1 hg; have HR1 := Lib.hid hb; have HX1 := Lib.hid hx1; clear hb hx1 hg) | (with_reducible refine wpList_zero rfl 43 rfl (hC z20) hash_zero2 ?_; intro g2 w2 hb hx hg; have HA2 := Lib.hid hb; have HX2 := Lib.hid (belowThen HX1.out (Nat.le_refl _) hx); have HG2 := Lib.hid (Nat.le_trans HX1.out.size hg); have HL2 := Lib.hid (RvB.of_blk (HR1.out.below hx)); clear hb hx hg) | (with_reducible refine wpList_loadL HL2.out.all rfl _ rfl rfl ?_))
 refine (HT.out _ w2 ⟨vi, vr, rfl, HV.out.1.below HX2.out, HV.out.2.below HX2.out⟩).mono ?_
 rintro e w3 ⟨rfl, hx3⟩
 have HA3 := Lib.hid (HA2.out.below hx3)
 have HX3 := Lib.hid (belowThen HX2.out (Nat.le_refl _) hx3)
 clear hx3
 go_wp2_with (first | ((with_reducible refine wpList_put rfl rfl 43 _ _ rfl g2 (hC hh) (hC z20) rfl rfl HA3.out (hash_info1 _ hhl) (by rw [hC_size, hC_size, hhl, z20_length]) (hC_one1 _) ?_); intro w8 hb8 hx8 _ _))
 exact post_row_tmp rfl rfl rfl hb8 Tryz.underlying43 rfl (hash_info1 _ hhl) rfl ⟨rfl, HX3.out.trans (hx8.mono HG2.out)⟩
def dummyH (r : Rv) : List UInt8 := tagL tSelf r
def dummyN (r : Rv) : List UInt8 := if canRv r then r.1 else []
set_option maxRecDepth 100000 in
set_option maxHeartbeats 8000000 in
theorem rdummy_any (v : Value) (r : Rv) (hil : r.2.1.length ≤ 1048576) (w : World) (h : RvAt w v r) :
  Calls Tryz.prog 16 #[v] w fun e w' => e = .returned (.tuple #[.agg (pC (dummyH r) (dummyN r)), .int .i64 (errRv r : Int)]) ∧ Below w.heap.size w w' := by
 obtain ⟨vi, vr, rfl, hvi, hvr⟩ := h
 have HV := Lib.hid (And.intro hvi hvr)
 clear hvi hvr
 obtain ⟨hh, hhh⟩ : ∃ q, tagL tSelf r = q := ⟨_, rfl⟩
 have hhl : hh.length = 20 := by rw [← hhh]; exact tagL_length _ _
 have HT := Lib.hid (fun (v : Value) (W : World) (h : RvAt W v r) => tagged_any tSelf v r (by decide) hil W h)
 have HDH := Lib.hid (show dummyH r = hh from hhh)
 rw [hhh] at HT
 go_enter Tryz.func16, Tryz.ntmps16
 go_wp2_with (first | (with_reducible refine wpList_box rfl 25 _ rfl (#[.string ⟨r.1.toArray⟩, vi, vr]) rfl ?_; intro g1 w1 hb hx1 hg; have HR1 := Lib.hid hb; have HX1 := Lib.hid hx1; clear hb hx1 hg) | (with_reducible refine wpList_zero rfl 48 rfl (pC z20 []) pC_zero ?_; intro g2 w2 hb hx hg; have HA2 := Lib.hid hb; have HR2 := Lib.hid (HR1.out.below hx); have HX2 := Lib.hid (belowThen HX1.out (Nat.le_refl _) hx); have HG2 := Lib.hid (Nat.le_trans HX1.out.size hg); have HL2 := Lib.hid (RvB.of_blk HR2.out); clear hb hx hg) | (with_reducible refine wpList_loadL HL2.out.all rfl _ rfl rfl ?_))
 refine (HT.out _ w2 ⟨vi, vr, rfl, HV.out.1.below HX2.out, HV.out.2.below HX2.out⟩).mono ?_
 rintro e w3 ⟨rfl, hx3⟩
 have HA3 := Lib.hid (HA2.out.below hx3)
 have HR3 := Lib.hid (HR2.out.below hx3)
 have HX3 := Lib.hid (belowThen HX2.out (Nat.le_refl _) hx3)
 clear hx3
 cases hcan : canRv r with
 | false =>
  have HE := Lib.hid (show errRv r = 2 ∧ dummyH r = z20 ∧ dummyN r = [] by simp [errRv, dummyH, tagL, dummyN, hcan])
  have hee : errRv r = 2 := HE.out.1
  rw [hee]
  clear hcan hee hhh
  go_wp2_with (first | (refine wpList_new rfl rfl rfl 43 4 8 rfl rfl rfl (by decide) (hC z20) (hC hh) hash_zero2 (by rw [hC_size, hC_size, hhl, z20_length]) (hash_info1 _ hhl) (hC_one1 _) rfl (by simp) ?_; intro g4 w4 hb4 hx4 hg4; have HA4 := Lib.hid (HA3.out.below hx4); have HX4 := Lib.hid (belowThen HX3.out (Nat.le_refl _) hx4); have HLP := Lib.hid ((HA3.out.below hx4).loads (P := Tryz.prog) pC_under rfl (pC_info z20 [] rfl)); clear hb4 hx4 hg4) | (with_reducible refine wpList_loadL HLP.out rfl _ rfl rfl ?_) | ((with_reducible refine wpList_put rfl rfl 48 _ _ rfl g2 (pC z20 []) (pC z20 []) rfl rfl HA4.out (pC_info _ _ rfl) rfl (pC_one _ _) ?_); intro w8 hb8 hx8 _ _))
  exact post_row_tmp rfl rfl rfl hb8 pC_under rfl (pC_info _ _ rfl) rfl ⟨by rw [HE.out.2.1, HE.out.2.2, HE.out.1]; rfl, HX4.out.trans (hx8.mono HG2.out)⟩
 | true =>
  have HE := Lib.hid (show errRv r = 0 ∧ dummyN r = r.1 by simp [errRv, dummyN, hcan])
  have hee : errRv r = 0 := HE.out.1
  rw [hee]
  clear hcan hee hhh
  go_wp2_with (first | (refine wpList_new rfl rfl rfl 43 4 8 rfl rfl rfl (by decide) (hC z20) (hC hh) hash_zero2 (by rw [hC_size, hC_size, hhl, z20_length]) (hash_info1 _ hhl) (hC_one1 _) rfl (by simp [Act.put]) ?_; intro g4 w4 hb4 hx4 hg4; have HA4 := Lib.hid (HA3.out.below hx4); have HX4 := Lib.hid (belowThen HX3.out (Nat.le_refl _) hx4); have HLH := Lib.hid (hb4.loads (P := Tryz.prog) Tryz.underlying43 rfl (hash_info1 _ hhl)); have HLN := Lib.hid (RvB.of_blk (HR3.out.below hx4)).name; clear hb4 hx4 hg4) | (with_reducible refine wpList_loadL HLH.out rfl _ rfl rfl ?_) | (with_reducible refine wpList_loadL HLN.out rfl _ rfl rfl ?_) | (with_reducible refine wpList_build2 48 0 _ 1 _ rfl rfl (.agg (hC hh)) (.string ⟨r.1.toArray⟩) rfl rfl (.agg (pC hh r.1)) (build_path hh r.1 hhl) ?_) | ((with_reducible refine wpList_put rfl rfl 48 _ _ rfl g2 (pC hh r.1) (pC z20 []) rfl rfl HA4.out (pC_info _ _ hhl) (by rw [pC_size, pC_size, hhl, z20_length]) (pC_one _ _) ?_); intro w8 hb8 hx8 _ _))
  exact post_row_tmp rfl rfl rfl hb8 pC_under rfl (pC_info _ _ hhl) rfl ⟨by rw [HE.out.2, HDH.out, HE.out.1]; rfl, HX4.out.trans (hx8.mono HG2.out)⟩
end Go.Proofs.YtdebbmembkbniaaGreat
