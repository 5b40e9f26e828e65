/- spenceref20.Put. -/
import Derived.Test.YtdebbmembkbniaaGreatTAO
import Derived.Test.YtdebbmembkbniaaGreatTAR
namespace Go.Proofs.YtdebbmembkbniaaGreat
open Go.RowKit Pl Go.Agg
theorem mr_keeps {g b2 : Nat} {w w' : World} {v v' : Value} {cs : Array Value} {l : List UInt8} {t : TypeId} (hm : MrV g w v l) (hb : Blk w b2 t cs) (ht : t ≠ 5) (hs : MkStep g w w' v v') (hne : b2 ≠ g) : Blk w' b2 t cs :=
 hb.onlyC hs.only fun h => h.elim hne fun e => by
  obtain ⟨_, cur, hc⟩ := hm.own.block _ e
  unfold Blk at hb
  rw [hb] at hc
  injection hc with hc
  injection hc with _ h2
  exact ht h2
theorem putHd_zero (r : Rv) : putHd r 0 = (encN r.1.length ++ r.1) ++ encN r.2.1.length := by simp [putHd]
theorem slice_hash1 (g : Nat) (w : World) : (Instr.sliceAt 43 (.pointer (some ⟨g, 1, none⟩)) none none none).run Tryz.prog w = .ok (.slice (some ⟨g, 1, none⟩) 20 20) w := by kernel_rfl
set_option maxRecDepth 100000 in
set_option maxHeartbeats 16000000 in
theorem rfPut_any (v : Value) (r : Rv) (hb : RvLen r) (w : World) (h : RfAt w v r) :
  Calls Tryz.prog 10 #[v] w fun e w' => ∃ v', e = .returned (.tuple #[v', .int .i64 (errRv r : Int)]) ∧ Agg.Own EB w.heap.size w' v' (putRv r) ∧ Below w.heap.size w w' := by
 obtain ⟨vi, vr, rfl, hvi, hvr⟩ := h
 have hli := rfs_len hvi
 have HV := Lib.hid (And.intro hvi hvr)
 have HBD := Lib.hid hb
 have HBLD := Lib.hid (fun W => (by kernel_rfl : (Instr.build 92 #[]).run Tryz.prog W = .ok (.agg (mkC (.slice none 0 0))) W))
 clear hvi hvr hb
 go_enter Tryz.func10, Tryz.ntmps10
 go_wp2_with (first | (with_reducible refine wpList_box rfl 36 _ rfl (#[.string ⟨r.1.toArray⟩, vi, vr]) rfl ?_; intro g1 w1 hb hx1 hg; have HR1 := Lib.hid hb; have HX1 := Lib.hid hx1; have HL1 := Lib.hid (RfB.of_blk hb); clear hb hx1 hg) | (with_reducible refine wpList_loadL HL1.out.all rfl _ rfl rfl ?_))
 refine (rfCan_any _ r HBD.out w1 ⟨vi, vr, rfl, HV.out.1.below HX1.out, HV.out.2.below HX1.out⟩).mono ?_
 rintro e w2 ⟨rfl, hx2⟩
 have HL2 := Lib.hid (HL1.out.below hx2)
 have HX2 := Lib.hid (belowThen HX1.out (Nat.le_refl _) hx2)
 clear hx2
 cases hcan : canRv r with
 | false =>
  have HO := Lib.hid (show putRv r = [] ∧ errRv r = 2 by simp [putRv, errRv, hcan])
  clear hcan
  go_wp2_with fail
  go_ret2
  exact ⟨_, by rw [HO.out.2]; rfl, by rw [HO.out.1]; exact Agg.Own.nil _ _ _, HX2.out⟩
 | true =>
  have HO := Lib.hid (show putRv r = putRs r ∧ errRv r = 0 by simp [putRv, errRv, hcan])
  have HCN := Lib.hid hcan
  have hP := can_parts hcan
  have hp1 := hP.name
  have hp2 := hP.inp
  have hp3 := hP.rcp
  clear hcan hP
  go_wp2_with (first | (with_reducible refine wpList_build0 92 rfl rfl (.agg (mkC (.slice none 0 0))) HBLD.out ?_) | (with_reducible refine wpList_box rfl 92 _ rfl (mkC (.slice none 0 0)) rfl ?_; intro g4 w4 hb4 hx4 hg4; have HG := Lib.hid hg4; have HM4 := Lib.hid (⟨hb4, Agg.Own.nil _ _ _⟩ : MrV g4 w4 (.slice none 0 0) []); have HK4 := Lib.hid hx4; have HL4 := Lib.hid (HL2.out.below hx4); clear hb4 hx4 hg4) | (with_reducible refine wpList_loadL HL4.out.name rfl _ rfl rfl ?_) | (with_reducible refine wpList_toBytes r.1 _ rfl rfl rfl ?_; intro x5 w5 hn hx; have HN5 := Lib.hid hn; have HM5 := Lib.hid (HM4.out.below hx); have HK5 := Lib.hid (belowThen HK4.out (Nat.le_refl _) hx); clear hn hx))
  refine (rmText_any g4 _ x5 r.1 [] w5 (by simp) (by omega) (Off.behind (w0 := w4) HN5.out.slice (newBytes_ownB HN5.out) HM4.out.blk.lt HM4.out.lt) HM5.out).mono ?_
  rintro e w6 ⟨⟨q6, rfl⟩, v6, hm, hs⟩
  have HM6 := Lib.hid (show MrV g4 w6 v6 (encN r.1.length ++ r.1) from by simpa using hm)
  have HK6 := Lib.hid (HK5.out.trans ((HM5.out.stepBelow hs).mono HG.out))
  have HL6 := Lib.hid (HL2.out.below HK6.out)
  clear hm hs
  go_wp2_with (first | (with_reducible refine wpList_loadL HL6.out.inp rfl _ rfl rfl ?_))
  refine (rmNum_any g4 v6 r.2.1.length _ w6 (by omega) (by have := encN_len (n := r.1.length) (by omega); rw [List.length_append]; omega) HM6.out).mono ?_
  rintro e w7 ⟨⟨q7, rfl⟩, v7, hm, hs⟩
  have HM7 := Lib.hid (show MrV g4 w7 v7 (putHd r 0) from by rw [putHd_zero]; exact hm)
  have HK7 := Lib.hid (HK6.out.trans ((HM6.out.stepBelow hs).mono HG.out))
  clear hm hs HM4 HM5 HK4 HK5 HL4 HN5 HM6 HK6 HL6
  go_wp2_with fail
  go_loopw [5] (fun i wr => ∃ (k : Nat) (vb : Value), k ≤ r.2.1.length ∧ i = .int .i64 (k : Int) ∧ MrV g4 wr vb (putHd r k) ∧ Below w2.heap.size w2 wr) (fun i _ => r.2.1.length - (intOf i).toNat)
  case atStart => exact ⟨0, v7, by omega, rfl, HM7.out, HK7.out⟩
  case round =>
   obtain ⟨wr1, rfl⟩ : ∃ y : World, y = wr := ⟨_, rfl⟩
   obtain ⟨k, vb, hk, rfl, hm, hx⟩ := hrel
   have HM := Lib.hid hm
   have HK := Lib.hid hx
   have HL := Lib.hid (HL2.out.below hx)
   have HHL := Lib.hid (putHd_len HCN.out k)
   clear hm hx
   by_cases hlt : k < r.2.1.length
   ·have hd1 : decide (k < r.2.1.length) = true := by simpa using hlt
    obtain ⟨x, hxk⟩ : ∃ x, r.2.1[k]? = some x := ⟨_, List.getElem?_eq_getElem hlt⟩
    obtain ⟨p, hadr, hle, _⟩ := rf_at ((HV.out.1.below HX2.out).below HK.out) k x hxk
    have HE := Lib.hid hle
    have hpx := (can_parts HCN.out).ins x (List.mem_of_getElem? hxk)
    have hpn := hpx.1
    have hpp := hpx.2
    have HTK := Lib.hid (putHd_succ hxk)
    have hx20 := x.2.2
    obtain ⟨hd, hhd⟩ : ∃ hd, putHd r k = hd := ⟨_, rfl⟩
    rw [hhd] at HM HHL HTK
    have hhl := HHL.out
    clear hle hxk hpx hhd
    go_wp2_with (first | (with_reducible refine wpList_loadL HL.out.inp rfl _ rfl rfl ?_) | (with_reducible refine wpList_loadL HE.out rfl _ rfl rfl ?_) | (refine wpList_new rfl rfl rfl 95 6 33 rfl rfl rfl (by decide) (riC zR) (riC x) rfC_zero (by rw [riC_size, riC_size]) (rfC_info x) (riC_one x) rfl (by simp [Act.put]) ?_; intro g6 wa hb6 hx6 hg6; have HB6 := Lib.hid hb6; have HI6 := Lib.hid (RfiB.of_blk hb6); have HMa := Lib.hid (HM.out.below hx6); have HKa := Lib.hid (belowThen HK.out (Nat.le_refl _) hx6); have HN6 := Lib.hid (show g6 ≠ g4 from fun e => by have := HM.out.blk.lt; omega); clear hb6 hx6 hg6) | (with_reducible refine wpList_loadL HI6.out.name rfl _ rfl rfl ?_) | (with_reducible refine wpList_toBytes x.1 _ rfl rfl rfl ?_; intro y1 wb hn hx; have HNb := Lib.hid hn; have HBb := Lib.hid (HB6.out.below hx); have HMb := Lib.hid (HMa.out.below hx); have HKb := Lib.hid (belowThen HKa.out (Nat.le_refl _) hx); clear hn hx))
    refine (rmText_any g4 vb y1 x.1 hd wb (by omega) (by omega) (Off.behind (w0 := wa) HNb.out.slice (newBytes_ownB HNb.out) HMa.out.blk.lt HMa.out.lt) HMb.out).mono ?_
    rintro e wc ⟨⟨q8, rfl⟩, v8, hm, hs⟩
    have HMc := Lib.hid hm
    have HBc := Lib.hid (mr_keeps HMb.out HBb.out (by decide) hs HN6.out)
    have HKc := Lib.hid (HKb.out.trans ((HMb.out.stepBelow hs).mono HG.out))
    have hsl := slice_hash1 g6
    have hn1 := encN_len (n := x.1.length) (by omega)
    clear hm hs
    go_wp2_with fail
    refine (rmRaw_any g4 v8 _ x.2.1.1 _ wc (by simp only [List.length_append]; omega) (by omega) (hash_slice HBc.out x.2.2 (riC_hash x)) HMc.out).mono ?_
    rintro e wd ⟨⟨q9, rfl⟩, v9, hm, hs⟩
    have HMd := Lib.hid hm
    have HBd := Lib.hid (mr_keeps HMc.out HBc.out (by decide) hs HN6.out)
    have HKd := Lib.hid (HKc.out.trans ((HMc.out.stepBelow hs).mono HG.out))
    have HId := Lib.hid (RfiB.of_blk HBd.out)
    clear hm hs hsl
    go_wp2_with (first | (with_reducible refine wpList_loadL HId.out.pname rfl _ rfl rfl ?_) | (with_reducible refine wpList_toBytes x.2.1.2 _ rfl rfl rfl ?_; intro y2 we hn hx; have HNe := Lib.hid hn; have HMe := Lib.hid (HMd.out.below hx); have HKe := Lib.hid (belowThen HKd.out (Nat.le_refl _) hx); clear hn hx))
    refine (rmText_any g4 v9 y2 x.2.1.2 _ we (by simp only [List.length_append]; omega) (by omega) (Off.behind (w0 := wd) HNe.out.slice (newBytes_ownB HNe.out) HMd.out.blk.lt HMd.out.lt) HMe.out).mono ?_
    rintro e wf ⟨⟨q10, rfl⟩, v10, hm, hs⟩
    have HMf := Lib.hid hm
    have HKf := Lib.hid (HKe.out.trans ((HMe.out.stepBelow hs).mono HG.out))
    clear hm hs
    go_wp2_with fail
    go_roundw
    case rel => exact ⟨k + 1, v10, by omega, by go_num, by rw [HTK.out]; exact HMf.out, HKf.out⟩
    case measure => simp [intOf]; omega
   ·obtain rfl : k = r.2.1.length := by omega
    have hd1 : decide (r.2.1.length < r.2.1.length) = false := by simp
    have hhl := HHL.out
    go_wp2_with (first | (with_reducible refine wpList_loadL HL.out.inp rfl _ rfl rfl ?_) | (with_reducible refine wpList_loadL HL.out.rcp rfl _ rfl rfl ?_))
    refine (rmText_any g4 vb vr r.2.2 _ wr1 (by omega) (by omega) (Off.before (w0 := w2) (HV.out.2.below HX2.out) HK.out HG.out (fun k hk => Nat.le_trans HG.out (HM.out.ge k hk))) HM.out).mono ?_
    rintro e wa ⟨⟨q8, rfl⟩, va, hm, hs⟩
    have HMA := Lib.hid (show MrV g4 wa va (putRs r) from by have := hm; rwa [putHd_all] at this)
    have HXA := Lib.hid (HX2.out.trans ((HK.out.trans ((HM.out.stepBelow hs).mono HG.out)).mono HX2.out.size))
    have hpl := putRs_len HCN.out
    clear hm hs
    go_wp2_with fail
    refine (rmDone_any g4 va _ wa (by omega) HMA.out).mono ?_
    rintro e wb ⟨v', rfl, ho, hx⟩
    have HOB := Lib.hid (ho.lower HXA.out.size)
    have HXB := Lib.hid (belowThen HXA.out (Nat.le_refl _) hx)
    clear ho hx
    go_wp2_with fail
    go_ret2
    exact ⟨v', by rw [HO.out.2]; rfl, by rw [HO.out.1]; exact HOB.out, HXB.out⟩
end Go.Proofs.YtdebbmembkbniaaGreat
