/- spencelaw20.ResolveOf. -/
import Derived.Test.YtgekpghjlhcpkaaDBB
import Derived.Test.YtgekpghjlhcpkaaDBE
import Derived.Test.YtgekpghjlhcpkaaDBF
import Derived.Test.YtgekpghjlhcpkaaDBG
import Derived.Test.YtgekpghjlhcpkaaDBD
import Derived.Test.YtgekpghjlhcpkaaDBC
import Derived.Test.YtgekpghjlhcpkaaDBH
import Derived.Test.YtgekpghjlhcpkaaDAL
namespace Go.Proofs.Ytgekpghjlhcpkaa
open Go.RowKit Pl Go.Agg
theorem build_riz (w : World) : (Instr.build 49 #[]).run Try.prog w = .ok (.agg (riC zR)) w := by kernel_rfl
set_option maxRecDepth 100000 in
set_option maxHeartbeats 16000000 in
theorem resolveOf_any (v0 v1 : Value) (d : Drv) (made : List Md) (hd1 : d.1.length ≤ 1048576) (hd2 : d.2.1.length ≤ 1048576) (hd3 : d.2.2.length ≤ 1048576) (hd4 : namsSz d.2.1 ≤ 4194304) (hm1 : made.length ≤ 1048576) (hmn : ∀ x ∈ made, x.2.1.2.length ≤ 1048576) (w0 : World) (h1 : DrvAt w0 v0 d) (h2 : MdsAt w0 v1 made) :
    Calls Try.prog 3 #[v0, v1] w0 fun e w' => e = .returned (.bool true) ∧ Below w0.heap.size w0 w' := by
  obtain ⟨vn, vr, rfl, hvn, hvr⟩ := h1
  have hl1 := mds_len h2
  obtain ⟨rr, hrr⟩ : ∃ q, ofP d made = q := ⟨_, rfl⟩
  obtain ⟨hz1, hz2⟩ : rr.1.2.1.length ≤ d.2.1.length ∧ rr.1.2.2.length ≤ d.2.2.length := by rw [← hrr]; exact ofP_len d made
  have DN_0 := Lib.hid hvn
  have DR_0 := Lib.hid hvr
  have M1_0 := Lib.hid h2
  have X_0 := Lib.hid (Below.refl w0.heap.size w0)
  clear hvn hvr h2
  go_enter Try.func3, Try.ntmps3
  go_wp2_with (first | (with_reducible refine Agg.wpList_box rfl 25 _ rfl (#[.string ⟨d.1.toArray⟩, vn, vr]) rfl ?_; intro g2 w1 hb hx hg; have DN_1 := Lib.hid (SliceOf.below DN_0.out hx); have DR_1 := Lib.hid (SliceOf.below DR_0.out hx); have M1_1 := Lib.hid (SliceOf.below M1_0.out hx); have X_1 := Lib.hid (Agg.belowThen X_0.out (Nat.le_refl _) hx); have DB_1 := Lib.hid (DrvL.of_blk hb); clear hb hx hg DN_0 DR_0 M1_0 X_0) | (with_reducible refine Agg.wpList_loadL DB_1.out.all rfl _ rfl rfl ?_))
  refine (drvOf_any _ d 3000 (by omega) hd1 hd3 hd2 hd4 _ ⟨vn, vr, rfl, DN_1.out, DR_1.out⟩).mono ?_
  rintro e w2 ⟨rfl, hx⟩
  have DN_2 := Lib.hid (SliceOf.below DN_1.out hx)
  have DR_2 := Lib.hid (SliceOf.below DR_1.out hx)
  have M1_2 := Lib.hid (SliceOf.below M1_1.out hx)
  have X_2 := Lib.hid (Agg.belowThen X_1.out (Nat.le_refl _) hx)
  have DB_2 := Lib.hid (DB_1.out.below hx)
  clear hx  DN_1 DR_1 M1_1 X_1 DB_1
  obtain ⟨dn, hdn⟩ : ∃ q, drvN 3000 d = q := ⟨_, rfl⟩
  rw [hdn]
  clear hdn
  by_cases hb1 : 3000 < dn
  · have hc1 : decide (3000 < (dn : Int)) = true := by simp; omega
    go_wp2_with fail
    refine (awake20_any _).mono ?_
    rintro e w3 ⟨rfl, hx⟩
    have DN_3 := Lib.hid (SliceOf.below DN_2.out hx)
    have DR_3 := Lib.hid (SliceOf.below DR_2.out hx)
    have M1_3 := Lib.hid (SliceOf.below M1_2.out hx)
    have X_3 := Lib.hid (Agg.belowThen X_2.out (Nat.le_refl _) hx)
    have DB_3 := Lib.hid (DB_2.out.below hx)
    clear hx  DN_2 DR_2 M1_2 X_2 DB_2
    go_wp2_with fail
    go_ret
    exact ⟨rfl, X_3.out⟩
  have hc1 : decide (3000 < (dn : Int)) = false := by simp; omega
  by_cases hb2 : 3000 < made.length
  · have hc2 : decide (3000 < (made.length : Int)) = true := by simp; omega
    go_wp2_with fail
    refine (awake20_any _).mono ?_
    rintro e w3 ⟨rfl, hx⟩
    have DN_3 := Lib.hid (SliceOf.below DN_2.out hx)
    have DR_3 := Lib.hid (SliceOf.below DR_2.out hx)
    have M1_3 := Lib.hid (SliceOf.below M1_2.out hx)
    have X_3 := Lib.hid (Agg.belowThen X_2.out (Nat.le_refl _) hx)
    have DB_3 := Lib.hid (DB_2.out.below hx)
    clear hx  DN_2 DR_2 M1_2 X_2 DB_2
    go_wp2_with fail
    go_ret
    exact ⟨rfl, X_3.out⟩
  have hc2 : decide (3000 < (made.length : Int)) = false := by simp; omega
  go_wp2_with (first | (with_reducible refine Agg.wpList_loadL DB_2.out.all rfl _ rfl rfl ?_))
  refine (lentDrv_any _ d hd2 hd3 _ ⟨vn, vr, rfl, DN_2.out, DR_2.out⟩).mono ?_
  rintro e w3 ⟨u, rfl, hx, hl⟩
  have DN_3 := Lib.hid (SliceOf.below DN_2.out hx)
  have DR_3 := Lib.hid (SliceOf.below DR_2.out hx)
  have M1_3 := Lib.hid (SliceOf.below M1_2.out hx)
  have X_3 := Lib.hid (Agg.belowThen X_2.out (Nat.le_refl _) hx)
  have DB_3 := Lib.hid (DB_2.out.below hx)
  have LD_3 := Lib.hid (hl)
  clear hx hl DN_2 DR_2 M1_2 X_2 DB_2
  go_wp2_with fail
  refine (lentMades_any v1 made hm1 _ M1_3.out).mono ?_
  rintro e w4 ⟨um, rfl, hx, hl⟩
  have DN_4 := Lib.hid (SliceOf.below DN_3.out hx)
  have DR_4 := Lib.hid (SliceOf.below DR_3.out hx)
  have M1_4 := Lib.hid (SliceOf.below M1_3.out hx)
  have X_4 := Lib.hid (Agg.belowThen X_3.out (Nat.le_refl _) hx)
  have DB_4 := Lib.hid (DB_3.out.below hx)
  have LD_4 := Lib.hid (LD_3.out.below hx)
  have LM_4 := Lib.hid (hl.lent (by rw [marksG_length]; decide))
  clear hx hl DN_3 DR_3 M1_3 X_3 DB_3 LD_3
  obtain ⟨un, ur, rfl, hun, hur⟩ := LD_4.out
  have LN_4 := Lib.hid hun
  have LR_4 := Lib.hid hur
  have HON := Lib.hid (show (#[.string ⟨d.1.toArray⟩, un, ur] : Array Value).all (·.oneCell') = true by obtain ⟨p1, c1, e1⟩ := hun.slice.form; obtain ⟨p2, c2, e2⟩ := hur.slice.form; rw [e1, e2]; simp [Value.oneCell'])
  have hlm := mds_len LM_4.out.slice
  clear hun hur LD_4
  go_wp2_with (first | (refine Agg.wpList_new rfl rfl rfl 25 5 24 rfl rfl rfl (by decide) #[.string ⟨#[]⟩, .slice none 0 0, .slice none 0 0] #[.string ⟨d.1.toArray⟩, un, ur] drv_zero0 (rfl) (drv_info3 _ _ _) (HON.out) rfl (by first | (simp; done) | simp [Act.put]) ?_; intro g5 w5 hb hx hg; have DN_5 := Lib.hid (SliceOf.below DN_4.out hx); have DR_5 := Lib.hid (SliceOf.below DR_4.out hx); have M1_5 := Lib.hid (SliceOf.below M1_4.out hx); have X_5 := Lib.hid (Agg.belowThen X_4.out (Nat.le_refl _) hx); have DB_5 := Lib.hid (DB_4.out.below hx); have LM_5 := Lib.hid (LM_4.out.below hx); have LN_5 := Lib.hid (LN_4.out.below hx); have LR_5 := Lib.hid (LR_4.out.below hx); have D5_5 := Lib.hid (DrvL.of_blk hb); clear hb hx hg DN_4 DR_4 M1_4 X_4 DB_4 LM_4 LN_4 LR_4) | (with_reducible refine Agg.wpList_loadL D5_5.out.all rfl _ rfl rfl ?_))
  have XA_5 := Lib.hid (Below.refl w5.heap.size w5)
  refine (rof2_any _ um d made hd2 (by omega) (by omega) _ ⟨un, ur, rfl, LN_5.out.slice, LR_5.out.slice⟩ LM_5.out.slice).mono ?_
  rw [hrr]
  rintro e w6 ⟨vi, ri, rfl, hvi, hri, hx⟩
  have XA_6 := Lib.hid (Agg.belowThen XA_5.out (Nat.le_refl _) hx)
  have OI_6 := Lib.hid (hvi)
  have OR_6 := Lib.hid (hri)
  clear hx hvi hri XA_5
  go_wp2_with (first | (refine Agg.wpList_new rfl rfl rfl 33 7 31 rfl rfl rfl (by decide) (rsC [] (.slice none 0 0) (.slice none 0 0)) (rsC rr.1.1 vi ri) rsC_zero (rsC_ss _ _ _ _ _ _) (rsC_info _ _ _) (rsC_one _ OI_6.out.slice OR_6.out.slice) rfl (by first | (simp; done) | simp [Act.put]) ?_; intro g7 w7 hb hx hg; have XA_7 := Lib.hid (Agg.belowThen XA_6.out (Nat.le_refl _) hx); have OI_7 := Lib.hid (OI_6.out.below hx); have OR_7 := Lib.hid (OR_6.out.below hx); have RB_7 := Lib.hid (hb); have HDB := Lib.hid (DB_5.out.below (Agg.belowThen XA_6.out (Nat.le_refl _) hx)); clear hb hx hg XA_6 OI_6 OR_6) | (with_reducible refine Agg.wpList_loadL HDB.out.all rfl _ rfl rfl ?_))
  refine (refOf_any _ v1 d made hd1 hd2 hd4 (by omega) (by omega) hmn _ ⟨vn, vr, rfl, (SliceOf.below DN_5.out XA_7.out), (SliceOf.below DR_5.out XA_7.out)⟩ (SliceOf.below M1_5.out XA_7.out)).mono ?_
  rw [hrr]
  rintro e w8 ⟨ui, si, rfl, hvi, hri, hx⟩
  have XA_8 := Lib.hid (Agg.belowThen XA_7.out (Nat.le_refl _) hx)
  have OI_8 := Lib.hid (OI_7.out.below hx)
  have OR_8 := Lib.hid (OR_7.out.below hx)
  have RB_8 := Lib.hid (RB_7.out.below hx)
  have SI_8 := Lib.hid (hvi)
  have SR_8 := Lib.hid (hri)
  have AP_8 := Lib.hid (hri.apL OR_7.out (Nat.le_refl _))
  clear hx hvi hri XA_7 OI_7 OR_7 RB_7
  have hne : ((rr.2 : Int) != (rr.2 : Int)) = false := by simp
  go_wp2_with (first | (refine Agg.wpList_new rfl rfl rfl 39 9 37 rfl rfl rfl (by decide) (rsC [] (.slice none 0 0) (.slice none 0 0)) (rsC rr.1.1 ui si) rfC_zero0 (rsC_ss _ _ _ _ _ _) (rf_info _ _ _) (by obtain ⟨p1, c1, e1⟩ := SI_8.out.slice.form; obtain ⟨p2, c2, e2⟩ := SR_8.out.slice.form; rw [e1, e2]; simp [rsC, Value.oneCell']) rfl (by first | (simp; done) | simp [Act.put]) ?_; intro g9 w9 hb hx hg; have XA_9 := Lib.hid (Agg.belowThen XA_8.out (Nat.le_refl _) hx); have OI_9 := Lib.hid (OI_8.out.below hx); have OR_9 := Lib.hid (OR_8.out.below hx); have RB_9 := Lib.hid (RB_8.out.below hx); have SI_9 := Lib.hid (SI_8.out.below hx); have SR_9 := Lib.hid (SR_8.out.below hx); have FB_9 := Lib.hid (hb); have HLR := Lib.hid (RvB.of_blk RB_9.out); have HLF := Lib.hid (RfB.of_blk hb); clear hb hx hg XA_8 OI_8 OR_8 RB_8 SI_8 SR_8) | (with_reducible refine Agg.wpList_loadL HLR.out.all rfl _ rfl rfl ?_) | (with_reducible refine Agg.wpList_loadL HLF.out.all rfl _ rfl rfl ?_))
  refine (same20_any _ _ rr.1 rr.1 (by omega) (by omega) (by omega) _ ⟨vi, ri, rfl, OI_9.out.slice, OR_9.out.slice⟩ ⟨ui, si, rfl, SI_9.out.slice, SR_9.out.slice⟩).mono ?_
  rw [decide_eq_true (rfl : rr.1 = rr.1)]
  rintro e w10 ⟨rfl, hx⟩
  have XA_10 := Lib.hid (Agg.belowThen XA_9.out (Nat.le_refl _) hx)
  have OI_10 := Lib.hid (OI_9.out.below hx)
  have OR_10 := Lib.hid (OR_9.out.below hx)
  have RB_10 := Lib.hid (RB_9.out.below hx)
  have SI_10 := Lib.hid (SI_9.out.below hx)
  have SR_10 := Lib.hid (SR_9.out.below hx)
  have FB_10 := Lib.hid (FB_9.out.below hx)
  clear hx  XA_9 OI_9 OR_9 RB_9 SI_9 SR_9 FB_9
  have HLR2 := Lib.hid (RvB.of_blk RB_10.out)
  go_wp2_with (first | (with_reducible refine Agg.wpList_loadL HLR2.out.rcp rfl _ rfl rfl ?_))
  refine (overBytes_any ri rr.1.2.2 _ (by omega) _ OR_10.out).mono ?_
  rintro e w11 ⟨⟨rv, rfl⟩, ho⟩
  have XA_11 := Lib.hid (XA_10.out.trans (ho.below (B := w5.heap.size) XA_10.out.size (fun i hi => (OR_10.out.block i hi).1)))
  have OI_11 := Lib.hid (OI_10.out.onlyS ho (OI_10.out.apT OR_10.out (by decide)))
  have SI_11 := Lib.hid (SI_10.out.onlyS ho (SI_10.out.apT OR_10.out (by decide)))
  have SR_11 := Lib.hid (SR_10.out.onlyS ho AP_8.out)
  have RB_11 := Lib.hid (Agg.Blk.onlyQ RB_10.out ho (OR_10.out.notB RB_10.out (by decide)))
  have FB_11 := Lib.hid (Agg.Blk.onlyQ FB_10.out ho (OR_10.out.notB FB_10.out (by decide)))
  clear ho OR_10
  clear XA_10 OI_10 RB_10 SI_10 SR_10 FB_10
  have hlv := ris_len OI_11.out.slice
  go_wp2_with fail
  go_loopw [11] (fun i wr => ∃ (k : Nat) (l : List Rin), k ≤ rr.1.2.1.length ∧ i = .int .i64 (k : Int) ∧ l.length = rr.1.2.1.length ∧ RoomN ERi wr vi l ∧ Only (fun b => vi.ownBlock = some b) w11 wr) (fun i _ => rr.1.2.1.length - (intOf i).toNat)
  case atStart => exact ⟨0, _, by omega, rfl, rfl, RoomN.of_own OI_11.out, Only.refl _ _⟩
  case round =>
    obtain ⟨w30, rfl⟩ : ∃ y : World, y = wr := ⟨_, rfl⟩
    obtain ⟨k, l, hk, rfl, hll, hro, ho⟩ := hrel
    have HO := Lib.hid ho
    have HLB := Lib.hid (RvB.of_blk (Agg.Blk.onlyQ RB_11.out ho (OI_11.out.notB RB_11.out (by decide))))
    clear ho
    by_cases hlt : k < rr.1.2.1.length
    · have hd1 : decide ((k : Int) < (rr.1.2.1.length : Int)) = true := by simp; omega
      obtain ⟨p, w31, hadr, hst, hro2, ho2⟩ := hro.store k zR (by omega)
      have HRO := Lib.hid hro2
      have HO2 := Lib.hid ho2
      clear hro hro2 ho2
      have hadr' : ∀ W, (Instr.indexAt 31 vi (.int .i64 (k : Int))).run Try.prog W = .ok (.pointer (some p)) W := hadr
      have hst' : (Instr.storeAt 49 (.pointer (some p)) (.agg (riC zR))).run Try.prog w30 = .ok () w31 := hst
      clear hadr hst
      go_wp2_with (first | (with_reducible refine Agg.wpList_loadL HLB.out.inp rfl _ rfl rfl ?_) | (with_reducible refine Agg.wpList_build0 49 rfl (by kernel_rfl) (.agg (riC zR)) build_riz ?_) | (refine wpList_store rfl rfl 49 _ _ rfl (.pointer (some p)) (.agg (riC zR)) rfl rfl hst' ?_))
      go_roundw
      case rel => exact ⟨k + 1, l.set k zR, by omega, by go_num, by rw [List.length_set]; exact hll, HRO.out, HO.out.trans HO2.out (fun _ _ h => h)⟩
      case measure => simp [intOf]; omega
    have hd1 : decide ((k : Int) < (rr.1.2.1.length : Int)) = false := by simp; omega
    have ho := HO.out
    have XA_30 := Lib.hid (XA_11.out.trans (ho.below (B := w5.heap.size) XA_11.out.size (fun i hi => (OI_11.out.block i hi).1)))
    have SI_30 := Lib.hid (SI_11.out.onlyS ho (SI_11.out.apT OI_11.out (by decide)))
    have SR_30 := Lib.hid (SR_11.out.onlyS ho (SR_11.out.apT OI_11.out (by decide)))
    have FB_30 := Lib.hid (Agg.Blk.onlyQ FB_11.out ho (OI_11.out.notB FB_11.out (by decide)))
    clear ho HO hro
    clear XA_11 OI_11 RB_11 SI_11 SR_11 FB_11
    have HD5 := Lib.hid (D5_5.out.below XA_30.out)
    go_wp2_with (first | (with_reducible refine Agg.wpList_loadL HLB.out.inp rfl _ rfl rfl ?_) | (with_reducible refine Agg.wpList_loadL HD5.out.all rfl _ rfl rfl ?_))
    refine (rof2_any _ um d made hd2 (by omega) (by omega) _ ⟨un, ur, rfl, (LN_5.out.below XA_30.out).slice, (LR_5.out.below XA_30.out).slice⟩ (LM_5.out.below XA_30.out).slice).mono ?_
    rw [hrr]
    rintro e w31 ⟨ti, tr, rfl, hvi, hri, hx⟩
    have XA_31 := Lib.hid (Agg.belowThen XA_30.out (Nat.le_refl _) hx)
    have SI_31 := Lib.hid (SI_30.out.below hx)
    have SR_31 := Lib.hid (SR_30.out.below hx)
    have FB_31 := Lib.hid (FB_30.out.below hx)
    have TI_31 := Lib.hid (hvi.slice)
    have TR_31 := Lib.hid (hri.slice)
    clear hx hvi hri XA_30 SI_30 SR_30 FB_30
    go_wp2_with (first | (refine Agg.wpList_new rfl rfl rfl 33 12 67 rfl rfl rfl (by decide) (rsC [] (.slice none 0 0) (.slice none 0 0)) (rsC rr.1.1 ti tr) rsC_zero (rsC_ss _ _ _ _ _ _) (rsC_info _ _ _) (rsC_one _ TI_31.out TR_31.out) rfl (by first | (simp; done) | simp [Act.put]) ?_; intro g12 w32 hb hx hg; have XA_32 := Lib.hid (Agg.belowThen XA_31.out (Nat.le_refl _) hx); have SI_32 := Lib.hid (SI_31.out.below hx); have SR_32 := Lib.hid (SR_31.out.below hx); have FB_32 := Lib.hid (FB_31.out.below hx); have TI_32 := Lib.hid (SliceOf.below TI_31.out hx); have TR_32 := Lib.hid (SliceOf.below TR_31.out hx); have TB_32 := Lib.hid (RvB.of_blk hb); have HLF2 := Lib.hid (RfB.of_blk FB_32.out); clear hb hx hg XA_31 SI_31 SR_31 FB_31 TI_31 TR_31) | (with_reducible refine Agg.wpList_loadL TB_32.out.all rfl _ rfl rfl ?_) | (with_reducible refine Agg.wpList_loadL HLF2.out.all rfl _ rfl rfl ?_))
    refine (same20_any _ _ rr.1 rr.1 (by omega) (by omega) (by omega) _ ⟨ti, tr, rfl, TI_32.out, TR_32.out⟩ ⟨ui, si, rfl, SI_32.out.slice, SR_32.out.slice⟩).mono ?_
    rw [decide_eq_true (rfl : rr.1 = rr.1)]
    rintro e w33 ⟨rfl, hx⟩
    have XA_33 := Lib.hid (Agg.belowThen XA_32.out (Nat.le_refl _) hx)
    have SI_33 := Lib.hid (SI_32.out.below hx)
    have SR_33 := Lib.hid (SR_32.out.below hx)
    have FB_33 := Lib.hid (FB_32.out.below hx)
    have TI_33 := Lib.hid (SliceOf.below TI_32.out hx)
    have TR_33 := Lib.hid (SliceOf.below TR_32.out hx)
    have TB_33 := Lib.hid (TB_32.out.below hx)
    clear hx  XA_32 SI_32 SR_32 FB_32 TI_32 TR_32 TB_32
    have HD5b := Lib.hid (D5_5.out.below XA_33.out)
    have HDBb := Lib.hid (DB_5.out.below XA_33.out)
    go_wp2_with (first | (with_reducible refine Agg.wpList_loadL HD5b.out.all rfl _ rfl rfl ?_) | (with_reducible refine Agg.wpList_loadL HDBb.out.all rfl _ rfl rfl ?_))
    refine (keptDrv_any _ _ d hd2 hd3 _ _ ⟨un, ur, rfl, (LN_5.out.below XA_33.out), (LR_5.out.below XA_33.out)⟩ ⟨vn, vr, rfl, (SliceOf.below DN_5.out XA_33.out), (SliceOf.below DR_5.out XA_33.out)⟩).mono ?_
    rintro e w34 ⟨rfl, hx⟩
    have XA_34 := Lib.hid (Agg.belowThen XA_33.out (Nat.le_refl _) hx)
    have SI_34 := Lib.hid (SI_33.out.below hx)
    have SR_34 := Lib.hid (SR_33.out.below hx)
    have FB_34 := Lib.hid (FB_33.out.below hx)
    have TI_34 := Lib.hid (SliceOf.below TI_33.out hx)
    have TR_34 := Lib.hid (SliceOf.below TR_33.out hx)
    have TB_34 := Lib.hid (TB_33.out.below hx)
    clear hx  XA_33 SI_33 SR_33 FB_33 TI_33 TR_33 TB_33
    go_wp2_with fail
    refine (keptMades_any um v1 made hm1 _ _ (LM_5.out.below XA_34.out) (SliceOf.below M1_5.out XA_34.out)).mono ?_
    rintro e w35 ⟨rfl, hx⟩
    have XA_35 := Lib.hid (Agg.belowThen XA_34.out (Nat.le_refl _) hx)
    have SI_35 := Lib.hid (SI_34.out.below hx)
    have SR_35 := Lib.hid (SR_34.out.below hx)
    have FB_35 := Lib.hid (FB_34.out.below hx)
    have TI_35 := Lib.hid (SliceOf.below TI_34.out hx)
    have TR_35 := Lib.hid (SliceOf.below TR_34.out hx)
    have TB_35 := Lib.hid (TB_34.out.below hx)
    clear hx  XA_34 SI_34 SR_34 FB_34 TI_34 TR_34 TB_34
    go_wp2_with fail
    refine (awake20_any _).mono ?_
    rintro e w36 ⟨rfl, hx⟩
    have XA_36 := Lib.hid (Agg.belowThen XA_35.out (Nat.le_refl _) hx)
    have SI_36 := Lib.hid (SI_35.out.below hx)
    have SR_36 := Lib.hid (SR_35.out.below hx)
    have FB_36 := Lib.hid (FB_35.out.below hx)
    have TI_36 := Lib.hid (SliceOf.below TI_35.out hx)
    have TR_36 := Lib.hid (SliceOf.below TR_35.out hx)
    have TB_36 := Lib.hid (TB_35.out.below hx)
    clear hx  XA_35 SI_35 SR_35 FB_35 TI_35 TR_35 TB_35
    go_wp2_with fail
    go_ret
    exact ⟨rfl, Agg.belowThen X_5.out (Nat.le_refl _) XA_36.out⟩
end Go.Proofs.Ytgekpghjlhcpkaa
