/- spenceref20.Get. -/
import Derived.Test.YtdebbmembkbniaaGreatTAS
import Derived.Test.YtdebbmembkbniaaGreatTAU
import Derived.Test.YtdebbmembkbniaaGreatTAW
namespace Go.Proofs.YtdebbmembkbniaaGreat
open Go.RowKit Pl Go.Agg
theorem rfsC_zero : (Tryz.prog.info? 36).map (·.zero) = some (some (.agg (rsC [] (.slice none 0 0) (.slice none 0 0)))) := by kernel_rfl
theorem rfsC_info (n : List UInt8) (a b : Value) : (Tryz.prog.info? 36).map (·.size) = some (rsC n a b).size := by kernel_rfl
theorem rfC_build1 (n : List UInt8) (W : World) : (Instr.build 95 #[(0, .string ⟨n.toArray⟩)]).run Tryz.prog W = .ok (.agg (riC (n, ⟨(z20, []), rfl⟩))) W := by kernel_rfl
theorem rfs_build1 (n : List UInt8) (W : World) : (Instr.build 36 #[(0, .string ⟨n.toArray⟩)]).run Tryz.prog W = .ok (.agg (rsC n (.slice none 0 0) (.slice none 0 0))) W := by kernel_rfl
theorem rfs_build0 (W : World) : (Instr.build 36 #[]).run Tryz.prog W = .ok (.agg (rsC [] (.slice none 0 0) (.slice none 0 0))) W := by kernel_rfl
theorem rfsC_one {w1 w2 : World} {vi vr : Value} {l : List Rin} {b : List UInt8} (n : List UInt8) (h1 : SliceOf ERf w1 vi l) (h2 : SliceOf EB w2 vr b) : (rsC n vi vr).all (·.oneCell') = true := by
 obtain ⟨p, c, rfl⟩ := h1.form
 obtain ⟨q, d, rfl⟩ := h2.form
 simp [rsC, Value.oneCell']
theorem rfin_list {w : World} {g : Nat} {n : List UInt8} (h : Blk w g 95 (riC (n, ⟨(z20, []), rfl⟩))) : Blk w g 95 ([Value.string ⟨n.toArray⟩] ++ (Lib.byteCells z20 ++ [Value.string ⟨#[]⟩])).toArray := by
 have e : riC (n, ⟨(z20, []), rfl⟩) = ([Value.string ⟨n.toArray⟩] ++ (Lib.byteCells z20 ++ [Value.string ⟨#[]⟩])).toArray := by simp [riC, pC, hC]
 rw [← e]; exact h
theorem own_onlyF {base g : Nat} {w w' : World} {v : Value} {l : List Rin} {b : Nat} {s : Option (List UInt8)} (h : Agg.Own ERf base w v l) (hc : CrS b g w s) (ho : Only (· = g) w w') : Agg.Own ERf base w' v l := by
 obtain ⟨cs, hb⟩ := hc.blk
 exact h.onlyB ho hb (by decide)
theorem getRv_parts {b nm rc : List UInt8} {s1 s2 s3 s4 : Option (List UInt8)} {n : Nat} {l : List Rin} (h1 : sText 24 (some b) = (nm, s1)) (h2 : sNum 8 s1 = (n, s2)) (h3 : sIns n s2 = (l, s3)) (h4 : sText 1000 s3 = (rc, s4)) :
  getRv b = if s4 = some [] ∧ canRv (nm, l, rc) = true then some (nm, l, rc) else none := by
 simp only [getRv, gRv, gRc, gIns, gN, gNm, h1, h2, h3, h4]
theorem sIn_le (s : Option (List UInt8)) : (sIn s).1.1.length ≤ 24 ∧ (sIn s).1.2.1.2.length ≤ 24 := by
 obtain ⟨n, s1, q1⟩ : ∃ n s1, sText 24 s = (n, s1) := ⟨_, _, rfl⟩
 obtain ⟨p, s3, q3⟩ : ∃ p s3, sText 24 (sHash s1).2 = (p, s3) := ⟨_, _, rfl⟩
 rw [sIn_eq q1 q3]
 have h1 := sText_le 24 s
 have h2 := sText_le 24 (sHash s1).2
 rw [q1] at h1
 rw [q3] at h2
 exact ⟨h1, h2⟩
theorem sIns_le : ∀ (k : Nat) (s : Option (List UInt8)), ∀ x ∈ (sIns k s).1, x.1.length ≤ 24 ∧ x.2.1.2.length ≤ 24
 | 0, s, x, h => by simp [sIns] at h
 | k + 1, s, x, h => by
  simp only [sIns, List.mem_append, List.mem_cons, List.not_mem_nil, or_false] at h
  rcases h with h | rfl
  ·exact sIns_le k s x h
  ·exact sIn_le _
set_option maxRecDepth 100000 in
set_option maxHeartbeats 16000000 in
theorem rfGet_any (v : Value) (b : List UInt8) (w : World) (hl : b.length ≤ 1048576) (hb : BytesAt w v b) :
  Calls Tryz.prog 13 #[v] w fun e w' => ∃ vi vr, e = .returned (.tuple #[.agg (rsC (getO b).1 vi vr), .int .i64 (getE b : Int)]) ∧ Agg.Own ERf w.heap.size w' vi (getO b).2.1 ∧ Agg.Own EB w.heap.size w' vr (getO b).2.2 ∧ Below w.heap.size w w' := by
 obtain ⟨nm, s1, q1⟩ : ∃ k s, sText 24 (some b) = (k, s) := ⟨_, _, rfl⟩
 obtain ⟨n, s2, q2⟩ : ∃ k s, sNum 8 s1 = (k, s) := ⟨_, _, rfl⟩
 have h0 : stLen (some b) ≤ 1048576 := hl
 have h1 : stLen s1 ≤ 1048576 := by have := sText_len 24 (some b); rw [q1] at this; exact Nat.le_trans this h0
 have h2 : stLen s2 ≤ 1048576 := by have := sNum_len 8 s1; rw [q2] at this; exact Nat.le_trans this h1
 have hn : n ≤ 8 := by have := sNum_le 8 s1; rw [q2] at this; exact this
 have HQ1 := Lib.hid q1
 have HQ2 := Lib.hid q2
 have HBY := Lib.hid hb
 clear q1 q2 hb
 go_enter Tryz.func13, Tryz.ntmps13
 go_wp2_with (first | (with_reducible refine Agg.wpList_zero rfl 36 rfl (rsC [] (.slice none 0 0) (.slice none 0 0)) rfsC_zero ?_; intro g2 w1 hb1 hx1 hg2; have HB1 := Lib.hid hb1; have HX1 := Lib.hid hx1; have HG2 := Lib.hid hg2; clear hb1 hx1 hg2) | (refine wpList_slice0 (base := w1.heap.size) EB rfl rfl (Nat.le_refl _) ?_; intro v0 w2 ho0 hx0 _; have HO0 := Lib.hid ho0; have HX0 := Lib.hid hx0; have HY0 := Lib.hid (SliceOf.below (SliceOf.below HBY.out HX1.out) hx0); have HB2 := Lib.hid (HB1.out.below hx0); have hsz0 := hx0.size; clear ho0 hx0) | (refine Agg.wpList_appendS (E := EB) (base := w1.heap.size) rfl _ _ rfl v rfl rfl b HO0.out HY0.out (by simp; omega) (by decide) hsz0 ?_; intro v1 w3 ho1 hp1 _; have HR1 := Lib.hid (show Rest w1.heap.size w3 v1 b from by simpa using Rest.of_own ho1); have hvf : ∃ p n c, v1 = .slice p n c := (by obtain ⟨p, c, hf⟩ := ho1.slice.form; exact ⟨p, _, c, hf⟩); have HX3 := Lib.hid (belowThen HX1.out (Nat.le_refl _) (HX0.out.trans (hp1.below w1.heap.size (Nat.le_refl _) hsz0))); have HB3 : Hid (Blk w3 g2 36 (rsC [] (.slice none 0 0) (.slice none 0 0))) := Lib.hid (hp1.blk g2 _ _ _ (by decide) HB2.out); have hsz3 : w1.heap.size ≤ w3.heap.size := Nat.le_trans hsz0 hp1.size; clear ho1 hp1) | (with_reducible refine wpList_build1 107 0 _ rfl rfl v1 rfl (.agg (cuC v1 0)) (cr_buildK hvf) ?_) | (with_reducible refine wpList_box rfl 107 _ rfl (cuC v1 0) rfl ?_; intro gc w4 hb4 hx4 hgc; have HC4 := Lib.hid (CrS.good ⟨hb4, HR1.out.below hx4⟩); have HB4 := Lib.hid (HB3.out.below hx4); have HX4 := Lib.hid (belowThen HX3.out (Nat.le_refl _) hx4); have HGC := Lib.hid (Nat.le_trans HX3.out.size hgc); have HN2 := Lib.hid (show ¬ g2 = gc from fun e => by have := HB3.out.lt; omega); clear hb4 hx4 hgc))
 refine (rctext_any w1.heap.size gc 24 (some b) w4 (by omega) HC4.out).mono ?_
 rintro e w5 ⟨u5, rfl, hu, hc, ho⟩
 rw [HQ1.out] at hc hu
 have HU5 := Lib.hid hu.slice
 have HC5 := Lib.hid hc
 have HB5 := Lib.hid (Agg.Blk.onlyQ HB4.out ho HN2.out)
 have HX5 := Lib.hid (HX4.out.trans (ho.below (B := w.heap.size) HX4.out.size (fun i hi => by subst hi; exact HGC.out)))
 clear hu hc ho HB1 HX0 HO0 HY0 HB2 HR1 hvf HB3 HC4 HB4 HX4 HX3 hsz0 hsz3
 go_wp2_with (first | (with_reducible refine wpList_toStr HU5.out _ rfl rfl rfl ?_) | (with_reducible refine wpList_build1 36 0 _ rfl rfl (.string ⟨nm.toArray⟩) rfl (.agg (rsC nm (.slice none 0 0) (.slice none 0 0))) (rfs_build1 nm) ?_) | (refine wpList_new rfl rfl rfl 36 5 20 rfl rfl rfl (by decide) (rsC [] (.slice none 0 0) (.slice none 0 0)) (rsC nm (.slice none 0 0) (.slice none 0 0)) rfsC_zero (rsC_ss _ _ _ _ _ _) (rfsC_info _ _ _) (by simp [rsC, Value.oneCell']) rfl (by first | (simp; done) | simp [Act.put]) ?_; intro g5 w6 hb6 hx6 hg6; have HR6 := Lib.hid hb6; have HC6 := Lib.hid (HC5.out.below hx6); have HB6 := Lib.hid (HB5.out.below hx6); have HX6 := Lib.hid (belowThen HX5.out (Nat.le_refl _) hx6); have HG5 := Lib.hid (Nat.le_trans HX5.out.size hg6); have HN5 := Lib.hid (show ¬ g5 = gc ∧ ¬ g2 = g5 from ⟨fun e => (by obtain ⟨_, hq⟩ := HC5.out.blk; have := hq.lt; omega), fun e => (by have := HB5.out.lt; omega)⟩); clear hb6 hx6 hg6))
 refine (rcnum_any w1.heap.size gc 8 s1 w6 (by omega) (by omega) HC6.out).mono ?_
 rintro e w7 ⟨rfl, hc, ho⟩
 rw [HQ2.out] at hc ⊢
 have HC7 := Lib.hid hc
 have HB7 := Lib.hid (Agg.Blk.onlyQ HB6.out ho HN2.out)
 have HR7 := Lib.hid (Agg.Blk.onlyQ HR6.out ho HN5.out.1)
 have HX7 := Lib.hid (HX6.out.trans (ho.below (B := w.heap.size) HX6.out.size (fun i hi => by subst hi; exact HGC.out)))
 clear hc ho HU5 HC5 HB5 HX5 HR6 HC6 HB6 HX6
 go_wp2_with fail
 go_loopw [7] (fun i wr => ∃ (k : Nat) (pv : Value), k ≤ n ∧ i = .int .i64 (k : Int) ∧ Agg.Own ERf w.heap.size wr pv (sIns k s2).1 ∧ CrS w1.heap.size gc wr (sIns k s2).2 ∧ Blk wr g2 36 (rsC [] (.slice none 0 0) (.slice none 0 0)) ∧ Blk wr g5 36 (rsC nm pv (.slice none 0 0)) ∧ Below w.heap.size w wr) (fun i _ => n - (intOf i).toNat)
 case atStart => exact ⟨0, _, by omega, rfl, Agg.Own.nil _ _ _, HC7.out, HB7.out, HR7.out, HX7.out⟩
 case round =>
  clear HC7 HB7 HR7 HX7
  obtain ⟨wr1, rfl⟩ : ∃ y : World, y = wr := ⟨_, rfl⟩
  obtain ⟨k, pv, hk, rfl, ho, hc, hb, hr, hx⟩ := hrel
  obtain ⟨ql, s', hq⟩ : ∃ l s, sIns k s2 = (l, s) := ⟨_, _, rfl⟩
  have hlen := sIns_len k s2
  rw [hq] at ho hc hlen
  have hls : stLen s' ≤ 1048576 := Nat.le_trans hlen.1 h2
  have hql : ql.length = k := hlen.2
  have HQS := Lib.hid hq
  have HO := Lib.hid ho
  have HC := Lib.hid hc
  have HB := Lib.hid hb
  have HR := Lib.hid hr
  have HX := Lib.hid hx
  clear ho hc hb hr hx hlen hq
  by_cases hlt : k < n
  ·have hd1 : decide ((k : Int) < (n : Int)) = true := by simp; omega
   obtain ⟨xn, t1, p1⟩ : ∃ n s, sText 24 s' = (n, s) := ⟨_, _, rfl⟩
   obtain ⟨xh, t2, p2⟩ : ∃ h s, sHash t1 = (h, s) := ⟨_, _, rfl⟩
   obtain ⟨xp, t3, p3⟩ : ∃ p s, sText 24 t2 = (p, s) := ⟨_, _, rfl⟩
   have l1 : stLen t1 ≤ 1048576 := by have := sText_len 24 s'; rw [p1] at this; exact Nat.le_trans this hls
   have l2 : stLen t2 ≤ 1048576 := by have := sHash_len t1; rw [p2] at this; exact Nat.le_trans this l1
   have HIN := Lib.hid (show sIn s' = ((xn, ⟨((sHash t1).1, xp), sHash_length _⟩), t3) from sIn_eq p1 (by rw [p2]; exact p3))
   have HSN := Lib.hid (show sIns (k + 1) s2 = (ql ++ [((xn, ⟨((sHash t1).1, xp), sHash_length _⟩) : Rin)], t3) by simp only [sIns, HQS.out, HIN.out])
   have HP1 := Lib.hid p1
   have HP2 := Lib.hid p2
   have HP3 := Lib.hid p3
   clear p1 p2 p3
   go_wp2_with fail
   refine (rctext_any w1.heap.size gc 24 s' wr1 (by omega) HC.out).mono ?_
   rintro e wa ⟨ua, rfl, hu, hc, ho⟩
   rw [HP1.out] at hc hu
   have HUa := Lib.hid hu.slice
   have HCa := Lib.hid hc
   have HOa := Lib.hid (own_onlyF HO.out HC.out ho)
   have HBa := Lib.hid (Agg.Blk.onlyQ HB.out ho HN2.out)
   have HRa := Lib.hid (Agg.Blk.onlyQ HR.out ho HN5.out.1)
   have HXa := Lib.hid (HX.out.trans (ho.below (B := w.heap.size) HX.out.size (fun i hi => by subst hi; exact HGC.out)))
   clear hu hc ho
   go_wp2_with (first | (with_reducible refine wpList_toStr HUa.out _ rfl rfl rfl ?_) | (with_reducible refine wpList_build1 95 0 _ rfl rfl (.string ⟨xn.toArray⟩) rfl (.agg (riC (xn, ⟨(z20, []), rfl⟩))) (rfC_build1 xn) ?_) | (refine wpList_new rfl rfl rfl 95 8 31 rfl rfl rfl (by decide) (riC zR) (riC (xn, ⟨(z20, []), rfl⟩)) rfC_zero (by rw [riC_size, riC_size]) (rfC_info _) (riC_one _) rfl (by first | (simp; done) | simp [Act.put]) ?_; intro g8 wb hb8 hx8 hg8; have HE8 := Lib.hid hb8; have HCb := Lib.hid (HCa.out.below hx8); have HOb := Lib.hid (HOa.out.below hx8); have HBb := Lib.hid (HBa.out.below hx8); have HRb := Lib.hid (HRa.out.below hx8); have HXb := Lib.hid (belowThen HXa.out (Nat.le_refl _) hx8); have HG8 := Lib.hid (Nat.le_trans HXa.out.size hg8); have HN8 := Lib.hid (show ¬ g8 = gc ∧ ¬ g2 = g8 ∧ ¬ g5 = g8 from ⟨fun e => (by obtain ⟨_, hq⟩ := HCa.out.blk; have := hq.lt; omega), fun e => (by have := HBa.out.lt; omega), fun e => (by have := HRa.out.lt; omega)⟩); have HNO := Lib.hid (show ∀ k, pv.ownBlock = some k → ¬ k = g8 from fun k hk => (by obtain ⟨_, cur, hc⟩ := HOa.out.block k hk; have := Agg.heap_lt hc; omega)); clear hb8 hx8 hg8))
   refine (rcraw_any w1.heap.size gc 20 t1 wb (by omega) (by omega) HCb.out).mono ?_
   rintro e wc ⟨uc, rfl, hu, hc, ho⟩
   have HUc := Lib.hid hu.slice
   have HCc := Lib.hid hc
   have HOc := Lib.hid (own_onlyF HOb.out HCb.out ho)
   have HBc := Lib.hid (Agg.Blk.onlyQ HBb.out ho HN2.out)
   have HRc := Lib.hid (Agg.Blk.onlyQ HRb.out ho HN5.out.1)
   have HEc := Lib.hid (Agg.Blk.onlyQ HE8.out ho HN8.out.1)
   have HXc := Lib.hid (HXb.out.trans (ho.below (B := w.heap.size) HXb.out.size (fun i hi => by subst hi; exact HGC.out)))
   clear hu hc ho HUa HCa HOa HBa HRa HXa HE8 HCb HOb HBb HRb HXb
   obtain ⟨wd, hrun, hbd, hod, hsd⟩ := run_copyAt (o := 1) (n := 20) (dc := 20) 3 HUc.out (rfin_list HEc.out) (by simp [Lib.byteCells, z20_length])
   have HED := Lib.hid (show Blk wd g8 95 (riC (xn, ⟨((sHash t1).1, []), sHash_length _⟩)) by have h := hbd; rw [rin_copied xn t1] at h; exact h)
   have HRUN := Lib.hid hrun
   have HCd := Lib.hid (show CrS w1.heap.size gc wd t2 by have h := HCc.out.other hod HEc.out (by decide) (by decide); have e : (sRaw 20 t1).2 = t2 := (congrArg Prod.snd HP2.out : (sHash t1).2 = t2); rwa [e] at h)
   have HOd := Lib.hid (Agg.Own.onlyX HOc.out hod HNO.out)
   have HBd := Lib.hid (Agg.Blk.onlyQ HBc.out hod HN8.out.2.1)
   have HRd := Lib.hid (Agg.Blk.onlyQ HRc.out hod HN8.out.2.2)
   have HXd := Lib.hid (HXc.out.trans (hod.below (B := w.heap.size) HXc.out.size (fun i hi => by subst hi; exact HG8.out)))
   have hsl := slice_hash1 g8
   clear hrun hbd hod hsd
   go_wp2_with (first | (with_reducible refine wpList_copyK rfl _ _ rfl (.slice (some ⟨g8, 1, none⟩) 20 20) uc (.int .i64 ((min (sRaw 20 t1).1.length 20 : Nat) : Int)) rfl rfl HRUN.out ?_))
   refine (rctext_any w1.heap.size gc 24 t2 wd (by omega) HCd.out).mono ?_
   rintro e we ⟨ue, rfl, hu, hc, ho⟩
   rw [HP3.out] at hc hu
   have HUe := Lib.hid hu.slice
   have HCe := Lib.hid hc
   have HOe := Lib.hid (own_onlyF HOd.out HCd.out ho)
   have HBe := Lib.hid (Agg.Blk.onlyQ HBd.out ho HN2.out)
   have HRe := Lib.hid (Agg.Blk.onlyQ HRd.out ho HN5.out.1)
   have HEe := Lib.hid (Agg.Blk.onlyQ HED.out ho HN8.out.1)
   have HXe := Lib.hid (HXd.out.trans (ho.below (B := w.heap.size) HXd.out.size (fun i hi => by subst hi; exact HGC.out)))
   clear hu hc ho hsl HUc HCc HOc HBc HRc HEc HXc HED HRUN HCd HOd HBd HRd HXd
   obtain ⟨wf, hrf, hbf, hof⟩ := Blk.run_one (P := Tryz.prog) (ty := 9) HEe.out 21 (by rw [riC_size]; decide) (.string ⟨xp.toArray⟩) rfl rfl (by kernel_rfl) (riC (xn, ⟨((sHash t1).1, xp), sHash_length _⟩)) (riC_setName _ _ _ _ _)
   obtain ⟨x, hxx⟩ : ∃ x : Rin, x = (xn, ⟨((sHash t1).1, xp), sHash_length _⟩) := ⟨_, rfl⟩
   rw [← hxx] at hbf HSN
   have HRF := Lib.hid hrf
   have HEf := Lib.hid (RfiB.of_blk hbf)
   have HCf := Lib.hid (HCe.out.other hof HEe.out (by decide) (by decide))
   have HOf := Lib.hid (Agg.Own.onlyX HOe.out hof HNO.out)
   have HBf := Lib.hid (Agg.Blk.onlyQ HBe.out hof HN8.out.2.1)
   have HRf := Lib.hid (Agg.Blk.onlyQ HRe.out hof HN8.out.2.2)
   have HIf := Lib.hid (RfB.of_blk HRf.out)
   have HXf := Lib.hid (HXe.out.trans (hof.below (B := w.heap.size) HXe.out.size (fun i hi => by subst hi; exact HG8.out)))
   have h63 : ql.length + [x].length ≤ 1099511627776 / 8 := by rw [hql]; simp; omega
   have hszf := HXf.out.size
   clear hrf hbf hof hxx HP1 HP2 HP3 HIN HQS HCe HOe HBe HRe HEe HXe
   go_wp2_with (first | (with_reducible refine wpList_toStr HUe.out _ rfl rfl rfl ?_) | (refine wpList_store rfl rfl 9 _ _ rfl (.pointer (some ⟨g8, 21, none⟩)) (.string ⟨xp.toArray⟩) rfl rfl HRF.out ?_) | (with_reducible refine wpList_loadL HIf.out.inp rfl _ rfl rfl ?_) | (with_reducible refine wpList_loadL HEf.out.all rfl _ rfl rfl ?_) | (refine wpList_push (E := ERf) (base := w.heap.size) rfl rfl 47 rfl _ rfl _ rfl x rfl (fun _ => rfl) (by first | (simp; done) | simp [Act.put]) HOf.out h63 (by decide) hszf ?_; intro vz vg wg hog hpg; have HOg := Lib.hid hog; have HCg := Lib.hid (HCf.out.pushed hpg (by decide) (by decide)); have HBg := Lib.hid (hpg.blk g2 _ _ _ (by decide) HBf.out); have HRg := Lib.hid (show Blk wg g5 36 (rsC nm pv (.slice none 0 0)) from hpg.blk g5 _ _ _ (by decide) HRf.out); have HXg := Lib.hid (HXf.out.trans (hpg.below w.heap.size (Nat.le_refl _) hszf)); clear hog hpg; obtain ⟨pg, cg, hvg⟩ := HOg.out.slice.form; obtain ⟨wh, hrh, hbh, hoh⟩ := Blk.run_one (P := Tryz.prog) (ty := 34) HRg.out 1 (rsC_lt _ _ _ _ (by decide)) vg (by rw [hvg]; rfl) (by rw [hvg]; rfl) (by kernel_rfl) (rsC nm vg (.slice none 0 0)) rfl; have HRH := Lib.hid hrh; have HRh := Lib.hid hbh; have HCh := Lib.hid (HCg.out.other hoh HRg.out (by decide) (by decide)); have HOh := Lib.hid (HOg.out.onlyB hoh HRg.out (by decide)); have HBh := Lib.hid (Agg.Blk.onlyQ HBg.out hoh HN5.out.2); have HXh := Lib.hid (HXg.out.trans (hoh.below (B := w.heap.size) HXg.out.size (fun i hi => by subst hi; exact HG5.out))); clear hvg hrh hbh hoh) | (refine wpList_store rfl rfl 34 _ _ rfl (.pointer (some ⟨g5, 1, none⟩)) vg rfl rfl HRH.out ?_))
   go_roundw
   case rel => exact ⟨k + 1, vg, by omega, by go_num, by rw [HSN.out]; exact HOh.out, by rw [HSN.out]; exact HCh.out, HBh.out, HRh.out, HXh.out⟩
   case measure => simp [intOf]; omega
  ·obtain rfl : k = n := by omega
   have hd1 : decide ((k : Int) < (k : Int)) = false := by simp
   obtain ⟨rc, s4, q4⟩ : ∃ r s, sText 1000 s' = (r, s) := ⟨_, _, rfl⟩
   have HGP := Lib.hid (getRv_parts HQ1.out HQ2.out HQS.out q4)
   have HQ4 := Lib.hid q4
   have hrcl : rc.length ≤ 1048576 := by have := sText_le 1000 s'; rw [q4] at this; exact Nat.le_trans this (by omega)
   clear q4
   go_wp2_with fail
   refine (rctext_any w1.heap.size gc 1000 s' wr1 (by omega) HC.out).mono ?_
   rintro e wa ⟨ua, rfl, hu, hc, ho⟩
   rw [HQ4.out] at hc hu
   have HUa := Lib.hid (hu.lower HX.out.size)
   have HCa := Lib.hid hc
   have HOa := Lib.hid (own_onlyF HO.out HC.out ho)
   have HBa := Lib.hid (Agg.Blk.onlyQ HB.out ho HN2.out)
   have HRa := Lib.hid (Agg.Blk.onlyQ HR.out ho HN5.out.1)
   have HXa := Lib.hid (HX.out.trans (ho.below (B := w.heap.size) HX.out.size (fun i hi => by subst hi; exact HGC.out)))
   obtain ⟨pu, cu, hvu⟩ := hu.slice.form
   obtain ⟨wb, hrb, hbb, hob⟩ := Blk.run_one (P := Tryz.prog) (ty := 23) HRa.out 2 (rsC_lt _ _ _ _ (by decide)) ua (by rw [hvu]; rfl) (by rw [hvu]; rfl) (by kernel_rfl) (rsC nm pv ua) rfl
   have HRB := Lib.hid hrb
   have HRb := Lib.hid hbb
   have HLb := Lib.hid (RfB.of_blk hbb)
   have HCb := Lib.hid (HCa.out.other hob HRa.out (by decide) (by decide))
   have HOb := Lib.hid (HOa.out.onlyB hob HRa.out (by decide))
   have HUb := Lib.hid (HUa.out.onlyB hob HRa.out (by decide))
   have HBb := Lib.hid (Agg.Blk.onlyQ HBa.out hob HN5.out.2)
   have HXb := Lib.hid (HXa.out.trans (hob.below (B := w.heap.size) HXa.out.size (fun i hi => by subst hi; exact HG5.out)))
   clear hu hc ho hvu hrb hbb hob HUa HCa HOa HBa HRa HXa
   go_wp2_with (first | (refine wpList_store rfl rfl 23 _ _ rfl (.pointer (some ⟨g5, 2, none⟩)) ua rfl rfl HRB.out ?_) | (with_reducible refine wpList_loadL HLb.out.all rfl _ rfl rfl ?_))
   have hnl : nm.length ≤ 24 := by have := sText_le 24 (some b); rw [HQ1.out] at this; exact this
   have HRL := Lib.hid (show RvLen (nm, ql, rc) from ⟨by show nm.length ≤ _; omega, by show ql.length ≤ _; omega, fun x hx => by
    have := sIns_le k s2
    rw [HQS.out] at this
    have := this x hx
    exact ⟨by omega, by omega⟩⟩)
   refine (rfPut_any _ (nm, ql, rc) HRL.out wb ⟨pv, ua, rfl, HOb.out.slice, HUb.out.slice⟩).mono ?_
   rintro e wc ⟨v', rfl, hop, hxp⟩
   have HP := Lib.hid hop
   have HCc := Lib.hid (HCb.out.below hxp)
   have HOc := Lib.hid (HOb.out.below hxp)
   have HUc := Lib.hid (HUb.out.below hxp)
   have HBc := Lib.hid (HBb.out.below hxp)
   have HRc := Lib.hid (HRb.out.below hxp)
   have HXc := Lib.hid (belowThen HXb.out (Nat.le_refl _) hxp)
   have HVc := Lib.hid (SliceOf.below HBY.out HXc.out)
   clear hop hxp HRB HRb HLb HCb HOb HUb HBb HXb HC HO HB HR HX
   cases hcan : canRv (nm, ql, rc) with
   | false =>
    have HG := Lib.hid (getO_none (b := b) (by rw [HGP.out, hcan]; simp))
    have hee : errRv (nm, ql, rc) = 2 := by simp [errRv, hcan]
    rw [hee]
    clear hcan hee
    go_wp2_with (first | (with_reducible refine wpList_build0 36 rfl rfl (.agg (rsC [] (.slice none 0 0) (.slice none 0 0))) rfs_build0 ?_) | ((with_reducible refine wpList_put rfl rfl 36 _ _ rfl g2 (rsC [] (.slice none 0 0) (.slice none 0 0)) (rsC [] (.slice none 0 0) (.slice none 0 0)) rfl rfl HBc.out (rfsC_info _ _ _) rfl rsC_z ?_); intro w8 hb8 hx8 _ _))
    exact post_row_tmp rfl rfl rfl hb8 rf_under rfl (rfsC_info _ _ _) rfl ⟨.slice none 0 0, .slice none 0 0, by rw [HG.out.1, HG.out.2]; rfl, by rw [HG.out.1]; exact Agg.Own.nil _ _ _, by rw [HG.out.1]; exact Agg.Own.nil _ _ _, HXc.out.trans (hx8.mono HG2.out)⟩
   | true =>
    have hee : errRv (nm, ql, rc) = 0 := by simp [errRv, hcan]
    have hpv : putRv (nm, ql, rc) = putRs (nm, ql, rc) := by simp [putRv, hcan]
    rw [hee]
    rw [hpv] at HP
    clear hee hpv
    go_wp2_with fail
    refine (rsend_any w1.heap.size gc s4 wc HCc.out).mono ?_
    rintro e wd ⟨⟨c, rfl, hc⟩, rfl⟩
    by_cases hs4 : s4 = some []
    ·obtain rfl : c = 0 := hc.2 hs4
     have HGS := Lib.hid (show getRv b = some (nm, ql, rc) by rw [HGP.out, if_pos ⟨hs4, hcan⟩])
     have HG := Lib.hid (getO_some HGS.out)
     have HPG := Lib.hid (put_get HGS.out).2
     have hnq : (!decide (putRs (nm, ql, rc) = b)) = false := by rw [HPG.out]; simp
     have HLD := Lib.hid (RfB.of_blk HRc.out)
     clear hc hs4 hcan
     go_wp2_with (first | (with_reducible refine wpList_toStr HP.out.slice _ rfl rfl rfl ?_) | (with_reducible refine wpList_toStr HVc.out _ rfl rfl rfl ?_) | (with_reducible refine wpList_neqS rfl rfl rfl rfl false hnq ?_) | (with_reducible refine wpList_loadL HLD.out.all rfl _ rfl rfl ?_) | ((with_reducible refine wpList_put rfl rfl 36 _ _ rfl g2 (rsC nm pv ua) (rsC [] (.slice none 0 0) (.slice none 0 0)) rfl rfl HBc.out (rfsC_info _ _ _) (rsC_ss _ _ _ _ _ _) (rfsC_one _ HOc.out.slice HUc.out.slice) ?_); intro w8 hb8 hx8 hs8 hk8))
     have ho8 : Only (· = g2) wd w8 := ⟨hx8.os, hx8.tape, hx8.output, by rw [hs8]; exact Nat.le_refl _, fun k _ hk => hk8 k hk⟩
     exact post_row_tmp rfl rfl rfl hb8 rf_under rfl (rfsC_info _ _ _) rfl ⟨pv, ua, by rw [HG.out.1, HG.out.2]; rfl, by rw [HG.out.1]; exact HOc.out.onlyB ho8 HBc.out (by decide), by rw [HG.out.1]; exact HUc.out.onlyB ho8 HBc.out (by decide), HXc.out.trans (hx8.mono HG2.out)⟩
    ·have hcn : ((c : Int) != 0) = true := by rw [bne_iff_ne]; exact fun e => hs4 (hc.1 (by omega))
     have hcn2 : (c != 0) = true := by rw [bne_iff_ne]; exact fun e => hs4 (hc.1 e)
     have HG := Lib.hid (getO_none (b := b) (by rw [HGP.out, if_neg (fun h => hs4 h.1)]))
     clear hc hs4 hcan
     go_wp2_with (first | (with_reducible refine wpList_build0 36 rfl rfl (.agg (rsC [] (.slice none 0 0) (.slice none 0 0))) rfs_build0 ?_) | ((with_reducible refine wpList_put rfl rfl 36 _ _ rfl g2 (rsC [] (.slice none 0 0) (.slice none 0 0)) (rsC [] (.slice none 0 0) (.slice none 0 0)) rfl rfl HBc.out (rfsC_info _ _ _) rfl rsC_z ?_); intro w8 hb8 hx8 _ _))
     exact post_row_tmp rfl rfl rfl hb8 rf_under rfl (rfsC_info _ _ _) rfl ⟨.slice none 0 0, .slice none 0 0, by rw [HG.out.1, HG.out.2]; rfl, by rw [HG.out.1]; exact Agg.Own.nil _ _ _, by rw [HG.out.1]; exact Agg.Own.nil _ _ _, HXc.out.trans (hx8.mono HG2.out)⟩
end Go.Proofs.YtdebbmembkbniaaGreat
