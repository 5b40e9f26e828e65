/- (resolve.outputs).path, resolve.Of. -/
import Derived.Test.YtdebbmembkbniaaGreatTAI
import Derived.Test.YtdebbmembkbniaaGreatTAJ
import Derived.Test.YtdebbmembkbniaaGreatTBK
import Derived.Test.YtdebbmembkbniaaGreatTAD
import Derived.Test.YtdebbmembkbniaaGreatTAC
import Derived.Test.YtdebbmembkbniaaGreatTAK
namespace Go.Proofs.YtdebbmembkbniaaGreat
open Go.RowKit Pl Go.Agg Go.Mp
theorem path_zeroV (w : World) : (zeroValue 48).run Tryz.prog w = .ok (.agg (pC z20 [])) w := by
 have hz := pC_zero
 cases hq : Tryz.prog.info? 48 with
 | none => rw [hq] at hz; cases hz
 | some i =>
  rw [hq] at hz
  have : i.zero = some (.agg (pC z20 [])) := by simpa using hz
  simp [zeroValue, typeInfo, hq, this]
set_option maxRecDepth 100000 in
set_option maxHeartbeats 4000000 in
theorem opath_any (g : Nat) (m : List (H20 × P20)) (made : List Md) (x : Inp) (w : World) (hm : MapIs w g hV pV m) (hmg : ∀ c, mget m c = firstP made c) :
  Calls Tryz.prog 72 #[.map (some g), .agg (iC x)] w fun e w' => e = .returned (.tuple #[.agg (pC ((pathOf made x).getD zP).1.1 ((pathOf made x).getD zP).1.2), .bool (pathOf made x).isSome]) ∧ Below w.heap.size w w' := by
 have HM := Lib.hid hm
 have HMG := Lib.hid hmg
 clear hm hmg
 obtain ⟨bb, hbb⟩ : ∃ bb, x.2.2 = bb := ⟨_, rfl⟩
 have HB := Lib.hid hbb
 cases bb with
 | false =>
  have HP := Lib.hid (show pathOf made x = some x.1 by simp [pathOf, hbb])
  clear hbb
  go_enter Tryz.func72, Tryz.ntmps72
  go_wp2_with (first | (with_reducible refine wpList_box rfl 70 _ rfl (iC x) rfl ?_; intro g3 w1 hb hx1 hg; have HI1 := Lib.hid hb; have HX1 := Lib.hid hx1; clear hb hx1 hg) | (with_reducible refine Agg.wpList_zero rfl 48 rfl (pC z20 []) pC_zero ?_; intro g4 w2 hb hx hg; have HZ2 := Lib.hid hb; have HI2 := Lib.hid (HI1.out.below hx); have HX2 := Lib.hid (belowThen HX1.out (Nat.le_refl _) hx); have HG4 := Lib.hid (Nat.le_trans HX1.out.size hg); have HM2 := Lib.hid (HM.out.keep ((HX2.out).block _ HM.out.lt)); have HIS := Lib.hid (HI2.out.one (P := Tryz.prog) (ty := 4) (v := .bool false) 41 (by rw [iC_is, HB.out]) Tryz.underlying4 rfl); have HLS := Lib.hid (HI2.out.sub (P := Tryz.prog) 0 _ (iC_src x) pC_under rfl (pC_info _ _ x.1.2)); clear hb hx hg) | (with_reducible refine wpList_loadL HIS.out rfl _ rfl rfl ?_) | (with_reducible refine wpList_loadL HLS.out rfl _ rfl rfl ?_) | ((with_reducible refine wpList_put rfl rfl 48 _ _ rfl g4 (pC x.1.1.1 x.1.1.2) (pC z20 []) rfl rfl HZ2.out (pC_info _ _ x.1.2) (by rw [pC_size, pC_size, x.1.2, z20_length]) (pC_one _ _) ?_); intro w3 hb hx _ _; have HZ3 := Lib.hid hb; have HX3 := Lib.hid (HX2.out.trans (hx.mono HG4.out)); have HLD3 := Lib.hid (hb.loads (P := Tryz.prog) pC_under rfl (pC_info _ _ x.1.2)); clear hb hx HZ2) | (with_reducible refine wpList_loadL HLD3.out rfl _ rfl rfl ?_) | ((with_reducible refine wpList_put rfl rfl 48 _ _ rfl g4 (pC x.1.1.1 x.1.1.2) (pC x.1.1.1 x.1.1.2) rfl rfl HZ3.out (pC_info _ _ x.1.2) rfl (pC_one _ _) ?_); intro w4 hb hx _ _; have HZ4 := Lib.hid hb; have HX4 := Lib.hid (HX3.out.trans (hx.mono HG4.out)); clear hb hx))
  exact post_row_tmp rfl rfl rfl HZ3.out pC_under rfl (pC_info _ _ x.1.2) rfl ⟨by rw [HP.out]; rfl, HX3.out⟩
 | true =>
  have HP0 := Lib.hid (show pathOf made x = mget m x.2.1 by simp [pathOf, hbb, HMG.out])
  clear hbb
  cases hq : mget m x.2.1 with
  | none =>
   have HP := Lib.hid (show pathOf made x = none from HP0.out.trans hq)
   have HQ := Lib.hid hq
   clear hq
   go_enter Tryz.func72, Tryz.ntmps72
   go_wp2_with (first | (with_reducible refine wpList_box rfl 70 _ rfl (iC x) rfl ?_; intro g3 w1 hb hx1 hg; have HI1 := Lib.hid hb; have HX1 := Lib.hid hx1; clear hb hx1 hg) | (with_reducible refine Agg.wpList_zero rfl 48 rfl (pC z20 []) pC_zero ?_; intro g4 w2 hb hx hg; have HZ2 := Lib.hid hb; have HI2 := Lib.hid (HI1.out.below hx); have HX2 := Lib.hid (belowThen HX1.out (Nat.le_refl _) hx); have HG4 := Lib.hid (Nat.le_trans HX1.out.size hg); have HM2 := Lib.hid (HM.out.keep ((HX2.out).block _ HM.out.lt)); have HIS := Lib.hid (HI2.out.one (P := Tryz.prog) (ty := 4) (v := .bool true) 41 (by rw [iC_is, HB.out]) Tryz.underlying4 rfl); have HLS := Lib.hid (HI2.out.sub (P := Tryz.prog) 21 _ (iC_cls x) Tryz.underlying43 rfl (hC_info _ x.2.1.2)); clear hb hx hg) | (with_reducible refine wpList_loadL HIS.out rfl _ rfl rfl ?_) | (with_reducible refine wpList_loadL HLS.out rfl _ rfl rfl ?_) | (refine Mp.wpList_lookup_miss rfl _ _ 147 _ _ rfl Tryz.underlying147 hash_key path_zeroV rfl HM2.out x.2.1 rfl HQ.out ?_) | ((with_reducible refine wpList_put rfl rfl 48 _ _ rfl g4 (pC zP.1.1 zP.1.2) (pC z20 []) rfl rfl HZ2.out (pC_info _ _ zP.2) (by rw [pC_size, pC_size, zP.2, z20_length]) (pC_one _ _) ?_); intro w3 hb hx _ _; have HZ3 := Lib.hid hb; have HX3 := Lib.hid (HX2.out.trans (hx.mono HG4.out)); have HLD3 := Lib.hid (hb.loads (P := Tryz.prog) pC_under rfl (pC_info _ _ zP.2)); clear hb hx HZ2) | (with_reducible refine wpList_loadL HLD3.out rfl _ rfl rfl ?_) | ((with_reducible refine wpList_put rfl rfl 48 _ _ rfl g4 (pC zP.1.1 zP.1.2) (pC zP.1.1 zP.1.2) rfl rfl HZ3.out (pC_info _ _ zP.2) rfl (pC_one _ _) ?_); intro w4 hb hx _ _; have HZ4 := Lib.hid hb; have HX4 := Lib.hid (HX3.out.trans (hx.mono HG4.out)); clear hb hx))
   exact post_row_tmp rfl rfl rfl HZ4.out pC_under rfl (pC_info _ _ zP.2) rfl ⟨by rw [HP.out]; rfl, HX4.out⟩
  | some q =>
   have HP := Lib.hid (show pathOf made x = some q from HP0.out.trans hq)
   have HQ := Lib.hid hq
   clear hq
   go_enter Tryz.func72, Tryz.ntmps72
   go_wp2_with (first | (with_reducible refine wpList_box rfl 70 _ rfl (iC x) rfl ?_; intro g3 w1 hb hx1 hg; have HI1 := Lib.hid hb; have HX1 := Lib.hid hx1; clear hb hx1 hg) | (with_reducible refine Agg.wpList_zero rfl 48 rfl (pC z20 []) pC_zero ?_; intro g4 w2 hb hx hg; have HZ2 := Lib.hid hb; have HI2 := Lib.hid (HI1.out.below hx); have HX2 := Lib.hid (belowThen HX1.out (Nat.le_refl _) hx); have HG4 := Lib.hid (Nat.le_trans HX1.out.size hg); have HM2 := Lib.hid (HM.out.keep ((HX2.out).block _ HM.out.lt)); have HIS := Lib.hid (HI2.out.one (P := Tryz.prog) (ty := 4) (v := .bool true) 41 (by rw [iC_is, HB.out]) Tryz.underlying4 rfl); have HLS := Lib.hid (HI2.out.sub (P := Tryz.prog) 21 _ (iC_cls x) Tryz.underlying43 rfl (hC_info _ x.2.1.2)); clear hb hx hg) | (with_reducible refine wpList_loadL HIS.out rfl _ rfl rfl ?_) | (with_reducible refine wpList_loadL HLS.out rfl _ rfl rfl ?_) | (refine Mp.wpList_lookup_hit rfl _ _ 147 _ _ rfl Tryz.underlying147 hash_key path_zeroV rfl HM2.out x.2.1 rfl q HQ.out ?_; simp only [pV]) | ((with_reducible refine wpList_put rfl rfl 48 _ _ rfl g4 (pC q.1.1 q.1.2) (pC z20 []) rfl rfl HZ2.out (pC_info _ _ q.2) (by rw [pC_size, pC_size, q.2, z20_length]) (pC_one _ _) ?_); intro w3 hb hx _ _; have HZ3 := Lib.hid hb; have HX3 := Lib.hid (HX2.out.trans (hx.mono HG4.out)); have HLD3 := Lib.hid (hb.loads (P := Tryz.prog) pC_under rfl (pC_info _ _ q.2)); clear hb hx HZ2) | (with_reducible refine wpList_loadL HLD3.out rfl _ rfl rfl ?_) | ((with_reducible refine wpList_put rfl rfl 48 _ _ rfl g4 (pC q.1.1 q.1.2) (pC q.1.1 q.1.2) rfl rfl HZ3.out (pC_info _ _ q.2) rfl (pC_one _ _) ?_); intro w4 hb hx _ _; have HZ4 := Lib.hid hb; have HX4 := Lib.hid (HX3.out.trans (hx.mono HG4.out)); clear hb hx))
   exact post_row_tmp rfl rfl rfl HZ4.out pC_under rfl (pC_info _ _ q.2) rfl ⟨by rw [HP.out]; rfl, HX4.out⟩
set_option maxRecDepth 100000 in
theorem mnameless_any (x : Md) (w : World) : Calls Tryz.prog 68 #[.agg (mC x)] w fun e w' => e = .returned (.bool (!(isName x.2.1.2))) ∧ Below w.heap.size w w' := by
 go_enter Tryz.func68, Tryz.ntmps68
 go_wp2_with (first | (with_reducible refine wpList_box rfl 75 _ rfl (mC x) rfl ?_; intro g w1 hb hx1 hg; have HP := Lib.hid (hb.one (P := Tryz.prog) (ty := 9) 40 (mC_pa x 20 _ (pC_name _ _ x.2.2)) Tryz.underlying9 rfl); have HX1 := Lib.hid hx1; clear hb hx1 hg) | (with_reducible refine wpList_loadL HP.out rfl _ rfl rfl ?_))
 refine (name_any _ _).mono ?_
 rintro e w2 ⟨rfl, hx2⟩
 have HW2 := Lib.hid (belowThen HX1.out (Nat.le_refl _) hx2)
 go_wp2_with fail
 go_ret
 exact ⟨rfl, HW2.out⟩
theorem madesName_succ {l : List Md} {k : Nat} {x : Md} (hx : l[k]? = some x) (h : madesName (l.take k) = true) (hn : isName x.2.1.2 = true) : madesName (l.take (k + 1)) = true := by
 unfold madesName at *
 rw [List.take_add_one, hx, List.all_append, h]
 simp [hn]
theorem madesName_false {l : List Md} {k : Nat} {x : Md} (hx : l[k]? = some x) (hn : isName x.2.1.2 = false) : madesName l = false := by
 unfold madesName
 rw [List.all_eq_false]
 exact ⟨x, List.mem_of_getElem? hx, by simp [hn]⟩
set_option maxRecDepth 100000 in
set_option maxHeartbeats 1000000 in
theorem mindex_any (v : Value) (l : List Md) (w : World) (hn : l.length ≤ 1048576) (hs : MdsAt w v l) :
  Calls Tryz.prog 119 #[v, .func (.func 68) #[] #[]] w fun e w' => (∃ r : Int, e = .returned (.int .i64 r) ∧ decide (0 ≤ r) = !(madesName l)) ∧ Below w.heap.size w w' := by
 have hlv := fun W => mds_len hs W
 have HE := Lib.hid hs
 clear hs
 go_enter Tryz.func119, Tryz.ntmps119
 go_wp2_with fail
 go_loopw [5, 8] (fun _ i wr => ∃ k : Nat, k ≤ l.length ∧ i = .int .i64 k ∧ madesName (l.take k) = true ∧ Below w.heap.size w wr) (fun _ i _ => l.length - (intOf i).toNat)
 case atStart => exact ⟨0, by omega, rfl, rfl, Below.refl _ _⟩
 case round =>
  obtain ⟨w1, rfl⟩ : ∃ w1 : World, w1 = wr := ⟨_, rfl⟩
  obtain ⟨k, hk, rfl, htk, hw⟩ := hrel
  have HTK := Lib.hid htk
  clear htk
  by_cases hlt : k < l.length
  ·obtain ⟨x, hxk⟩ : ∃ x, l[k]? = some x := ⟨_, List.getElem?_eq_getElem hlt⟩
   obtain ⟨p, hadr, hld⟩ := md_atB (SliceOf.below HE.out hw) k x hxk
   have HLX := Lib.hid hld
   have HX := Lib.hid hxk
   have HW := Lib.hid hw
   clear hld hxk hw
   go_wp2_with (first | (with_reducible refine wpList_loadL HLX.out rfl _ rfl rfl ?_))
   refine (mnameless_any x _).mono ?_
   rintro e w2 ⟨rfl, hx2⟩
   have HX2 := Lib.hid (belowThen HW.out (Nat.le_refl _) hx2)
   clear hx2
   cases hnm : isName x.2.1.2 with
   | true =>
    have HN := Lib.hid hnm
    clear hnm
    go_wp2_with fail
    go_roundw
    case rel => exact ⟨k + 1, by omega, by go_num, madesName_succ HX.out HTK.out HN.out, HX2.out⟩
    case measure => simp [intOf]; omega
   | false =>
    have HN := Lib.hid hnm
    clear hnm
    go_wp2_with fail
    go_ret
    exact ⟨⟨(k : Int), rfl, by rw [madesName_false HX.out HN.out]; simp⟩, HX2.out⟩
  ·obtain rfl : k = l.length := by omega
   rw [List.take_length] at HTK
   have HW := Lib.hid hw
   clear hw
   go_wp2_with fail
   go_ret
   exact ⟨⟨-1, rfl, by rw [HTK.out]; rfl⟩, HW.out⟩
set_option maxRecDepth 100000 in
theorem mcontains_any (v : Value) (l : List Md) (w : World) (hn : l.length ≤ 1048576) (hs : MdsAt w v l) :
  Calls Tryz.prog 70 #[v, .func (.func 68) #[] #[]] w fun e w' => e = .returned (.bool (!(madesName l))) ∧ Below w.heap.size w w' := by
 have HC := Lib.hid (mindex_any v l w hn hs)
 clear hs
 go_enter Tryz.func70, Tryz.ntmps70
 go_wp2_with fail
 refine HC.out.mono ?_
 rintro e w2 ⟨⟨r, rfl, hr⟩, hx2⟩
 have HR := Lib.hid hr
 have HX2 := Lib.hid hx2
 clear hx2 hr
 go_wp2_with fail
 go_ret
 exact ⟨by rw [← HR.out]; rfl, HX2.out⟩
set_option maxRecDepth 100000 in
set_option maxHeartbeats 16000000 in
theorem rof2_any (dv v : Value) (d : Drv) (made : List Md) (hdl : d.2.1.length ≤ 1048576) (hrl : d.2.2.length ≤ 33554432) (hml : made.length ≤ 1048576) (w : World) (hd : DrvAt w dv d) (hm : MdsAt w v made) :
  Calls Tryz.prog 30 #[dv, v] w fun e w' => ∃ vi vr, e = .returned (.tuple #[.agg (rsC (ofP d made).1.1 vi vr), .int .i64 ((ofP d made).2 : Int)]) ∧ Agg.Own ERi w.heap.size w' vi (ofP d made).1.2.1 ∧ Agg.Own EB w.heap.size w' vr (ofP d made).1.2.2 ∧ Below w.heap.size w w' := by
 obtain ⟨vn, vr, rfl, hvn, hvr⟩ := hd
 have hln := nams_len hvn
 have HDV := Lib.hid (And.intro hvn hvr)
 have HMD := Lib.hid hm
 clear hvn hvr hm
 go_enter Tryz.func30, Tryz.ntmps30
 go_wp2_with (first | (with_reducible refine wpList_box rfl 66 _ rfl (#[.string ⟨d.1.toArray⟩, vn, vr]) rfl ?_; intro g2 w1 hb hx1 hg; have HB1 := Lib.hid hb; have HX1 := Lib.hid hx1; have HG2 := Lib.hid hg; clear hb hx1 hg) | (with_reducible refine Agg.wpList_zero rfl 25 rfl (rsC [] (.slice none 0 0) (.slice none 0 0)) rsC_zero ?_; intro g4 w2 hb hx hg; have HNE := Lib.hid (show ¬ g2 = g4 from fun e => by have := HB1.out.lt; omega); have HR2 := Lib.hid hb; have HB2 := Lib.hid (HB1.out.below hx); have HX2 := Lib.hid (belowThen HX1.out (Nat.le_refl _) hx); have HG4 := Lib.hid (Nat.le_trans HX1.out.size hg); have HLD2 := Lib.hid (DrvL.of_blk HB2.out); clear hb hx hg) | (with_reducible refine wpList_loadL HLD2.out.all rfl _ rfl rfl ?_))
 refine (textCan_any _ d hdl w2 ⟨vn, vr, rfl, HDV.out.1.below HX2.out, HDV.out.2.below HX2.out⟩).mono ?_
 rintro e w3 ⟨rfl, hx3⟩
 have HR3 := Lib.hid (HR2.out.below hx3)
 have HB3 := Lib.hid (HB2.out.below hx3)
 have HX3 := Lib.hid (belowThen HX2.out (Nat.le_refl _) hx3)
 have HLR3 := Lib.hid (RvB.of_blk HR3.out)
 clear hx3
 cases hcan : canDrv d with
 | false =>
  have HO := Lib.hid (show ofP d made = (zRv, 2) by simp [ofP, hcan])
  clear hcan
  go_wp2_with (first | (with_reducible refine wpList_loadL HLR3.out.all rfl _ rfl rfl ?_) | ((with_reducible refine wpList_put rfl rfl 25 _ _ rfl g4 (rsC [] (.slice none 0 0) (.slice none 0 0)) (rsC [] (.slice none 0 0) (.slice none 0 0)) rfl rfl HR3.out (rsC_info _ _ _) rfl rsC_z ?_); intro w8 hb8 hx8 _ _))
  exact post_row_tmp rfl rfl rfl hb8 rv_under rfl (by kernel_rfl) rfl ⟨_, _, by rw [HO.out]; rfl, by rw [HO.out]; exact Agg.Own.nil _ _ _, by rw [HO.out]; exact Agg.Own.nil _ _ _, HX3.out.trans (hx8.mono HG4.out)⟩
 | true =>
  have HCN := Lib.hid hcan
  clear hcan
  go_wp2_with fail
  refine (mcontains_any v made w3 hml (SliceOf.below HMD.out HX3.out)).mono ?_
  rintro e w4 ⟨rfl, hx4⟩
  have HR4 := Lib.hid (HR3.out.below hx4)
  have HB4 := Lib.hid (HB3.out.below hx4)
  have HX4 := Lib.hid (belowThen HX3.out (Nat.le_refl _) hx4)
  have HLR4 := Lib.hid (RvB.of_blk HR4.out)
  clear hx4
  cases hmn : madesName made with
  | false =>
   have HO := Lib.hid (show ofP d made = (zRv, 2) by simp [ofP, hmn])
   clear hmn
   go_wp2_with (first | (with_reducible refine wpList_loadL HLR4.out.all rfl _ rfl rfl ?_) | ((with_reducible refine wpList_put rfl rfl 25 _ _ rfl g4 (rsC [] (.slice none 0 0) (.slice none 0 0)) (rsC [] (.slice none 0 0) (.slice none 0 0)) rfl rfl HR4.out (rsC_info _ _ _) rfl rsC_z ?_); intro w8 hb8 hx8 _ _))
   exact post_row_tmp rfl rfl rfl hb8 rv_under rfl (by kernel_rfl) rfl ⟨_, _, by rw [HO.out]; rfl, by rw [HO.out]; exact Agg.Own.nil _ _ _, by rw [HO.out]; exact Agg.Own.nil _ _ _, HX4.out.trans (hx8.mono HG4.out)⟩
  | true =>
   have HMN := Lib.hid hmn
   clear hmn
   go_wp2_with fail
   refine (rof_any v made hml w4 (SliceOf.below HMD.out HX4.out)).mono ?_
   rintro e w5 ⟨gm, m, rfl, hgm, hmi, hmg, hx5⟩
   have HMI := Lib.hid hmi
   have HMG := Lib.hid hmg
   have HR5 := Lib.hid (HR4.out.below hx5)
   have HB5 := Lib.hid (HB4.out.below hx5)
   have HX5 := Lib.hid (belowThen HX4.out (Nat.le_refl _) hx5)
   have HGM := Lib.hid (show ¬ gm = g4 from fun e => by have := HR4.out.lt; omega)
   have HLD5 := Lib.hid (DrvL.of_blk HB5.out)
   clear hx5 hmi hmg hgm
   go_wp2_with (first | (with_reducible refine wpList_loadL HLD5.out.inp rfl _ rfl rfl ?_))
   go_loopw [26] (fun i wr => ∃ (k : Nat) (vi : Value) (q : List Rin), k ≤ d.2.1.length ∧ i = .int .i64 (k : Int) ∧ inputsOf made (d.2.1.take k) = some q ∧ q.length = k ∧ Agg.Own ERi w.heap.size wr vi q ∧ Blk wr g4 25 (rsC [] vi (.slice none 0 0)) ∧ Blk wr g2 66 #[.string ⟨d.1.toArray⟩, vn, vr] ∧ MapIs wr gm hV pV m ∧ Below w.heap.size w wr) (fun i _ => d.2.1.length - (intOf i).toNat)
   case atStart => exact ⟨0, _, [], by omega, rfl, rfl, rfl, Agg.Own.nil _ _ _, HR5.out, HB5.out, HMI.out, HX5.out⟩
   case round =>
    obtain ⟨wr1, rfl⟩ : ∃ y : World, y = wr := ⟨_, rfl⟩
    obtain ⟨k, vi, q, hk, rfl, hin, hql, ho, hr, hb, hm, hw⟩ := hrel
    have HIN := Lib.hid hin
    have HQL := Lib.hid hql
    have HO := Lib.hid ho
    have HR := Lib.hid hr
    have HB := Lib.hid hb
    have HM := Lib.hid hm
    have HW := Lib.hid hw
    clear hin hql ho hr hb hm hw
    by_cases hlt : k < d.2.1.length
    ·have hd1 : decide ((k : Int) < (d.2.1.length : Int)) = true := by simp; omega
     obtain ⟨x, hxk⟩ : ∃ x, d.2.1[k]? = some x := ⟨_, List.getElem?_eq_getElem hlt⟩
     obtain ⟨p, hadr, hld⟩ := nam_at (HDV.out.1.below HW.out) k x hxk
     have HLX := Lib.hid hld.all
     have HIS := Lib.hid (inputsOf_succ made hxk HIN.out)
     have HXK := Lib.hid hxk
     clear hld hxk
     go_wp2_with (first | (with_reducible refine wpList_loadL HLX.out rfl _ rfl rfl ?_) | (refine wpList_new rfl rfl rfl 73 9 29 rfl rfl rfl (by decide) (nmC zN) (nmC x) nmC_zero (by rw [nmC_size, nmC_size]) (nmC_info x) (nmC_one x) rfl (by simp [Act.put]) ?_; intro g9 w6 hb9 hx9 hg9; have HN6 := Lib.hid hb9; have HLI6 := Lib.hid (hb9.sub (P := Tryz.prog) 1 _ (nmC_inp x) iC_under rfl (iC_info _)); have HO6 := Lib.hid (HO.out.below hx9); have HR6 := Lib.hid (HR.out.below hx9); have HB6 := Lib.hid (HB.out.below hx9); have HM6 := Lib.hid (HM.out.keep (hx9.block _ HM.out.lt)); have HW6 := Lib.hid (belowThen HW.out (Nat.le_refl _) hx9); clear hb9 hx9 hg9) | (with_reducible refine wpList_loadL HLI6.out rfl _ rfl rfl ?_))
     refine (opath_any gm m made x.2 w6 HM6.out HMG.out).mono ?_
     rintro e w7 ⟨rfl, hx7⟩
     obtain ⟨pp, hpp⟩ : ∃ y : P20, (pathOf made x.2).getD zP = y := ⟨_, rfl⟩
     rw [hpp]
     have HPP := Lib.hid hpp
     have HN7 := Lib.hid (HN6.out.below hx7)
     have HO7 := Lib.hid (HO6.out.below hx7)
     have HR7 := Lib.hid (HR6.out.below hx7)
     have HB7 := Lib.hid (HB6.out.below hx7)
     have HM7 := Lib.hid (HM6.out.keep (hx7.block _ HM6.out.lt))
     have HW7 := Lib.hid (belowThen HW6.out (Nat.le_refl _) hx7)
     clear hx7 hpp
     cases hpo : pathOf made x.2 with
     | none =>
      have HOF := Lib.hid (show ofP d made = (zRv, 5) from ofP_none HCN.out HMN.out (inputsOf_none made HXK.out HIN.out hpo))
      clear hpo
      go_wp2_with (first | (refine wpList_new rfl rfl rfl 48 10 35 rfl rfl rfl (by decide) (pC z20 []) (pC pp.1.1 pp.1.2) pC_zero (by rw [pC_size, pC_size, pp.2]; rfl) (pC_info _ _ pp.2) (pC_one _ _) rfl (by simp [Act.put]) ?_; intro g10 w8 hb10 hx10 hg10; have HR8 := Lib.hid (HR7.out.below hx10); have HW8 := Lib.hid (belowThen HW7.out (Nat.le_refl _) hx10); have HV8 := Lib.hid HO7.out.slice; clear hb10 hx10 hg10) | (with_reducible refine wpList_build0 25 rfl (by kernel_rfl) (.agg (rsC [] (.slice none 0 0) (.slice none 0 0))) (fun W => by kernel_rfl) ?_) | ((with_reducible refine wpList_put rfl rfl 25 _ _ rfl g4 (rsC [] (.slice none 0 0) (.slice none 0 0)) (rsC [] vi (.slice none 0 0)) rfl rfl HR8.out (rsC_info _ _ _) (rsC_ss _ _ _ _ _ _) rsC_z ?_); intro w9 hb9 hx9 _ _))
      exact post_row_tmp rfl rfl rfl hb9 rv_under rfl (by kernel_rfl) rfl ⟨_, _, by rw [HOF.out]; rfl, by rw [HOF.out]; exact Agg.Own.nil _ _ _, by rw [HOF.out]; exact Agg.Own.nil _ _ _, HW8.out.trans (hx9.mono HG4.out)⟩
     | some p1 =>
      have HPE := Lib.hid (show p1 = pp by have := HPP.out; rw [hpo] at this; exact this)
      have HIS2 := Lib.hid (show inputsOf made (d.2.1.take (k + 1)) = some (q ++ [(x.1, pp)]) by rw [HIS.out, hpo, HPE.out])
      have HLN7 := Lib.hid (NamL.of_blk HN7.out)
      clear hpo
      go_wp2_with (first | (refine wpList_new rfl rfl rfl 48 10 35 rfl rfl rfl (by decide) (pC z20 []) (pC pp.1.1 pp.1.2) pC_zero (by rw [pC_size, pC_size, pp.2]; rfl) (pC_info _ _ pp.2) (pC_one _ _) rfl (by simp [Act.put]) ?_; intro g10 w8 hb10 hx10 hg10; have HP8 := Lib.hid (hb10.loads (P := Tryz.prog) pC_under rfl (pC_info _ _ pp.2)); have HR8 := Lib.hid (HR7.out.below hx10); have HB8 := Lib.hid (HB7.out.below hx10); have HM8 := Lib.hid (HM7.out.keep (hx10.block _ HM7.out.lt)); have HO8 := Lib.hid (HO7.out.below hx10); have HW8 := Lib.hid (belowThen HW7.out (Nat.le_refl _) hx10); have HI8 := Lib.hid (RvB.of_blk HR8.out).inp; have HNN8 := Lib.hid (HLN7.out.below hx10).name; clear hb10 hx10 hg10) | (with_reducible refine wpList_loadL HI8.out rfl _ rfl rfl ?_) | (with_reducible refine wpList_loadL HNN8.out rfl _ rfl rfl ?_) | (with_reducible refine wpList_loadL HP8.out rfl _ rfl rfl ?_) | (refine wpList_build2 77 0 _ 1 _ rfl rfl (.string ⟨x.1.toArray⟩) (.agg (pC pp.1.1 pp.1.2)) rfl rfl (.agg (riC (x.1, pp))) (build_rin x.1 pp) ?_) | (refine wpList_push (E := ERi) (base := w.heap.size) rfl rfl 46 rfl _ rfl _ rfl (x.1, pp) rfl (fun _ => rfl) (by simp [Act.put]) HO8.out (by rw [HQL.out]; omega) (by decide) HW8.out.size ?_; intro u5 v9 w9 ho9 hp9; have HR9 := Lib.hid (HR8.out.pushedB hp9 (by decide)); have HB9 := Lib.hid (HB8.out.pushedB hp9 (by decide)); have HM9 := Lib.hid (HM8.out.pushed hp9); have HO9 := Lib.hid ho9; have HW9 := Lib.hid (HW8.out.trans (hp9.below w.heap.size (Nat.le_refl _) HW8.out.size)); obtain ⟨p9, c9, hf9⟩ := ho9.slice.form; obtain ⟨w10, hr10, hb10, ho10⟩ := Blk.run_one (P := Tryz.prog) (ty := 22) HR9.out 1 (rsC_lt _ _ _ _ (by decide)) v9 (by rw [hf9]; rfl) (by rw [hf9]; rfl) (by kernel_rfl) (rsC [] v9 (.slice none 0 0)) rfl; have HR10 := Lib.hid hb10; have HX10 := Lib.hid ho10; clear ho9 hp9 hf9 hb10 ho10) | (refine wpList_store rfl rfl 22 _ _ rfl (.pointer (some ⟨g4, 1, none⟩)) v9 rfl rfl hr10 ?_))
      go_roundw
      case rel => exact ⟨k + 1, v9, q ++ [(x.1, pp)], by omega, by go_num, HIS2.out, by rw [List.length_append, HQL.out]; rfl, HO9.out.onlyB HX10.out HR9.out (by decide), HR10.out, HB9.out.onlyQ HX10.out HNE.out, HM9.out.keep (HX10.out.block _ HM9.out.lt HGM.out), HW9.out.trans (HX10.out.below (B := w.heap.size) HW9.out.size (fun i hi => by subst hi; exact HG4.out))⟩
      case measure => simp [intOf]; omega
    ·obtain rfl : k = d.2.1.length := by omega
     have HRR := Lib.hid (show ofP d made = ((d.1, q, d.2.2), 0) from ofP_some HCN.out HMN.out (by have := HIN.out; rwa [List.take_length] at this))
     have HEC := Lib.hid (enters_of Tryz.func73 (by kernel_rfl) rfl : ∀ args w, (callFunc 73 args).run Tryz.prog w = .ok (.enter 73 args) w)
     go_wp2_with fail
     try simp only [Act.put, List.setIfInBounds_toArray, List.set_cons_succ, List.set_cons_zero]
     obtain ⟨w0, hw0⟩ : ∃ W, W = wr1.drew := ⟨_, rfl⟩
     have hd0 : Below wr1.heap.size wr1 w0 := by rw [hw0]; exact (Below.refl _ _).drew
     have HS0 := Lib.hid (HB.out.below hd0)
     have HB0 := Lib.hid (HR.out.below hd0)
     have HO0 := Lib.hid (HO.out.below hd0)
     have HW0 := Lib.hid (belowThen HW.out (Nat.le_refl _) hd0)
     refine wp_region_held_drew (S := fun W => Blk W g2 66 #[.string ⟨d.1.toArray⟩, vn, vr]) (by kernel_rfl) (by rw [← hw0]; exact HS0.out) (fun hHeld => ?_)
     rw [← hw0] at hHeld ⊢
     clear hw0 hd0
     refine held_take 0 (.pointer (some ⟨g2, 0, none⟩)) rfl (by kernel_rfl) (fun _ _ _ h => h) rfl (fun W _ => by kernel_rfl) (by assumption) ?_
     try simp only [Act.put, List.setIfInBounds_toArray, List.set_cons_succ, List.set_cons_zero]
     refine held_take 1 (.string ⟨d.1.toArray⟩) rfl (by kernel_rfl) (fun _ _ _ h => h) rfl (fun W hS => exec_loadB rfl rfl (hS.one (ty := 9) 0 rfl Tryz.underlying9 rfl).now) (by assumption) ?_
     try simp only [Act.put, List.setIfInBounds_toArray, List.set_cons_succ, List.set_cons_zero]
     refine held_take 2 (.pointer (some ⟨g2, 2, none⟩)) rfl (by kernel_rfl) (fun _ _ _ h => h) rfl (fun W _ => by kernel_rfl) (by assumption) ?_
     try simp only [Act.put, List.setIfInBounds_toArray, List.set_cons_succ, List.set_cons_zero]
     refine held_take 3 (vr) rfl (by kernel_rfl) (fun _ _ _ h => h) rfl (fun W hS => exec_loadB rfl rfl (hS.one (ty := 23) 2 rfl bytes_under rfl).now) (by assumption) ?_
     try simp only [Act.put, List.setIfInBounds_toArray, List.set_cons_succ, List.set_cons_zero]
     refine held_take 5 (.pointer (some ⟨g4, 0, none⟩)) rfl (by kernel_rfl) (fun _ _ _ h => h) rfl (fun W _ => by kernel_rfl) (by assumption) ?_
     try simp only [Act.put, List.setIfInBounds_toArray, List.set_cons_succ, List.set_cons_zero]
     refine held_one 4 rfl (by kernel_rfl) ?_
     refine step_call rfl 73 _ _ rfl #[vr] (by simp only [List.map_toArray, List.map_cons, List.map_nil]; rfl) (fun W => HEC.out _ W) ?_
     refine (sclone_any vr d.2.2 _ hrl (HDV.out.2.below HW0.out)).mono ?_
     rintro x w5 ⟨v5, rfl, ho5, hx5⟩
     obtain ⟨p5, c5, hf5⟩ := ho5.slice.form
     have HF5 := Lib.hid hf5
     have HC5 := Lib.hid (ho5.lower HW0.out.size)
     have HS5 := Lib.hid (HS0.out.below hx5)
     have HB5 := Lib.hid (HB0.out.below hx5)
     have HO5 := Lib.hid (HO0.out.below hx5)
     have HW5 := Lib.hid (belowThen HW0.out (Nat.le_refl _) hx5)
     clear ho5 hx5 hf5
     refine ⟨_, rfl, ?_⟩
     refine ⟨HS5.out, ?_⟩
     try simp only [Act.put, List.setIfInBounds_toArray, List.set_cons_succ, List.set_cons_zero]
     refine held_one 6 rfl (by kernel_rfl) ?_
     obtain ⟨w6, hr6, hb6, ho6⟩ := Blk.run_one (P := Tryz.prog) (ty := 9) HB5.out 0 (rsC_lt _ _ _ _ (by decide)) (.string ⟨d.1.toArray⟩) rfl rfl (by kernel_rfl) (rsC d.1 vi (.slice none 0 0)) rfl
     refine Agg.step_store rfl rfl 9 _ _ rfl (.pointer (some ⟨g4, 0, none⟩)) (.string ⟨d.1.toArray⟩) rfl rfl hr6 ?_
     have HS6 := Lib.hid (HS5.out.onlyQ ho6 HNE.out)
     have HB6 := Lib.hid hb6
     have HC6 := Lib.hid (HC5.out.onlyB ho6 HB5.out (by decide))
     have HO6 := Lib.hid (HO5.out.onlyB ho6 HB5.out (by decide))
     have HW6 := Lib.hid (HW5.out.trans (ho6.below (B := w.heap.size) HW5.out.size (fun i hi => by subst hi; exact HG4.out)))
     clear hr6 hb6 ho6
     refine ⟨HS6.out, ?_⟩
     try simp only [Act.put, List.setIfInBounds_toArray, List.set_cons_succ, List.set_cons_zero]
     refine held_take 7 (.pointer (some ⟨g4, 2, none⟩)) rfl (by kernel_rfl) (fun _ _ _ h => h) rfl (fun W _ => by kernel_rfl) (by assumption) ?_
     try simp only [Act.put, List.setIfInBounds_toArray, List.set_cons_succ, List.set_cons_zero]
     refine held_one 8 rfl (by kernel_rfl) ?_
     obtain ⟨w7, hr7, hb7, ho7⟩ := Blk.run_one (P := Tryz.prog) (ty := 23) HB6.out 2 (rsC_lt _ _ _ _ (by decide)) v5 (by rw [HF5.out]; rfl) (by rw [HF5.out]; rfl) (by kernel_rfl) (rsC d.1 vi v5) rfl
     refine Agg.step_store rfl rfl 23 _ _ rfl (.pointer (some ⟨g4, 2, none⟩)) v5 rfl rfl hr7 ?_
     have HS7 := Lib.hid (HS6.out.onlyQ ho7 HNE.out)
     have HB7 := Lib.hid hb7
     have HC7 := Lib.hid (HC6.out.onlyB ho7 HB6.out (by decide))
     have HO7 := Lib.hid (HO6.out.onlyB ho7 HB6.out (by decide))
     have HW7 := Lib.hid (HW6.out.trans (ho7.below (B := w.heap.size) HW6.out.size (fun i hi => by subst hi; exact HG4.out)))
     clear hr7 hb7 ho7
     refine ⟨HS7.out, ?_⟩
     try simp only [Act.put, List.setIfInBounds_toArray, List.set_cons_succ, List.set_cons_zero]
     refine held_end (by kernel_rfl) ?_
     have HLA := Lib.hid (RvB.of_blk HB7.out)
     go_wp2_with (first | (with_reducible refine wpList_loadL HLA.out.all rfl _ rfl rfl ?_) | ((with_reducible refine wpList_put rfl rfl 25 _ _ rfl g4 (rsC d.1 vi v5) (rsC d.1 vi v5) rfl rfl HB7.out (rsC_info _ _ _) rfl (rsC_one _ HO7.out.slice HC7.out.slice) ?_); intro w8 hb8 hx8 hs8 hk8))
     have ho8 : Only (· = g4) w7 w8 := ⟨hx8.os, hx8.tape, hx8.output, by rw [hs8]; exact Nat.le_refl _, fun k _ hk => hk8 k hk⟩
     refine post_row_tmp rfl rfl rfl hb8 rv_under rfl (by kernel_rfl) rfl ⟨vi, v5, ?_, HO7.out.onlyB ho8 HB7.out (by decide) |> (fun h => by rw [HRR.out]; exact h), by rw [HRR.out]; exact HC7.out.onlyB ho8 HB7.out (by decide), HW7.out.trans (hx8.mono HG4.out)⟩
     rw [HRR.out]; rfl
end Go.Proofs.YtdebbmembkbniaaGreat
