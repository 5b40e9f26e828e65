/- copy of bytes into the middle of a block; of one-cell rows in general. (Several texts in one.) -/
import Derived.Test.YtfiadgdinhmgbaaGreatDoorEBC
import Derived.Test.YtfiadgdinhmgbaaGreatDoorEAP
import Derived.Test.YtfiadgdinhmgbaaGreatDoorEBB
import Derived.Test.YtfiadgdinhmgbaaGreatDoorEAE
import Derived.Test.YtfiadgdinhmgbaaGreatDoorEAN
import Derived.Test.YtfiadgdinhmgbaaGreatDoorEAT
import Derived.Test.YtfiadgdinhmgbaaGreatDoorEAO
import Derived.Test.YtfiadgdinhmgbaaGreatDoorEAJ
import Derived.Test.YtfiadgdinhmgbaaGreatDoorEAI
/-! .. as a state: contracts without cases; Text. -/
namespace Go.Proofs.YtfiadgdinhmgbaaGreatDoor
open Go.RowKit Pl Go.Agg
set_option maxRecDepth 100000 in
set_option maxHeartbeats 1000000 in
theorem acnum_any (base g most : Nat) (s : Option (List UInt8)) (w : World) (hl : stLen s ≤ 16777216) (hmo : most ≤ 1099511627776) (h : CaS base g w s) :
  Calls Tryz.prog 49 #[.pointer (some ⟨g, 0, none⟩), .int .i64 (most : Int)] w fun x w' => x = .returned (.int .i64 ((sNum most s).1 : Int)) ∧ CaS base g w' (sNum most s).2 ∧ Only (· = g) w w' := by
 obtain ⟨v, r, e, hv, hbad, rfl⟩ := h
 by_cases h0 : e = 0
 ·subst h0
  refine (acnum_good base g most v r w (by simpa [stLen] using hl) hmo hv).mono ?_
  rintro x w' ⟨hc, ho⟩
  rcases hc with ⟨n, y, v', hg, rfl, hcu⟩ | ⟨hg, rfl, hcu⟩
  ·simp only [if_true, sNum, hg]
   exact ⟨trivial, CaS.good hcu, ho⟩
  ·simp only [if_true, sNum, hg]
   exact ⟨rfl, CaS.bad hcu, ho⟩
 ·obtain ⟨rfl, rfl⟩ := hbad h0
  simp only [if_neg h0, sNum]
  have hq : ((e : Int) == 0) = false := by simp [h0]
  have H0 := Lib.hid h0
  have HM := Lib.hid hv
  have hlr := fun W => bytes_len hv.rest.slice W
  clear h0 hv hbad hl
  go_enter Tryz.func49, Tryz.ntmps49
  go_wp2_with fail
  go_loopw [5, 6, 7] (fun nn u i wr => i = .int .i64 0 ∧ wr = w) (fun _ _ i _ => 0)
  case atStart => exact ⟨rfl, rfl⟩
  case round =>
   obtain ⟨rfl, rfl⟩ := hrel
   go_wp2_with (first | (with_reducible refine wpList_loadL HM.out.load rfl _ rfl rfl ?_) | (with_reducible refine wpList_loadL HM.out.err rfl _ rfl rfl ?_))
   refine (afail_any base g (.slice none 0 0) [] e 4 _ HM.out).mono ?_
   rintro x w9 ⟨⟨rr, rfl⟩, hcu, hon⟩
   rw [if_neg H0.out] at hcu
   have HCU := Lib.hid hcu
   have HON := Lib.hid hon
   clear hcu hon
   go_wp2_with fail
   go_ret
   exact ⟨rfl, CaS.bad ⟨e, H0.out, HCU.out⟩, HON.out⟩
set_option maxRecDepth 100000 in
set_option maxHeartbeats 1000000 in
theorem acraw_any (base g many : Nat) (s : Option (List UInt8)) (w : World) (hl : stLen s ≤ 16777216) (hmo : many ≤ 1099511627776) (h : CaS base g w s) :
  Calls Tryz.prog 92 #[.pointer (some ⟨g, 0, none⟩), .int .i64 (many : Int)] w fun x w' => ∃ u, x = .returned u ∧ Own EB w.heap.size w' u (sRaw many s).1 ∧ CaS base g w' (sRaw many s).2 ∧ Only (· = g) w w' := by
 obtain ⟨v, r, e, hv, hbad, rfl⟩ := h
 by_cases h0 : e = 0
 ·subst h0
  by_cases hle : many ≤ r.length
  ·refine (acraw_good base g many v r w (by simpa [stLen] using hl) hle hv).mono ?_
   rintro x w' ⟨u, v', rfl, hu, hcu, ho⟩
   simp only [if_true, sRaw, if_pos hle]
   exact ⟨u, rfl, hu, CaS.good hcu, ho⟩
  ·simp only [if_true, sRaw, if_neg hle]
   have hI : (r.length : Int) < (many : Int) := by omega
   have hI0 : ¬ (many : Int) < 0 := by omega
   have HM := Lib.hid hv
   have hlr := fun W => bytes_len hv.rest.slice W
   clear hv hbad hl hle
   go_enter Tryz.func92, Tryz.ntmps92
   go_wp2_with (first | (with_reducible refine wpList_loadL HM.out.load rfl _ rfl rfl ?_) | (with_reducible refine wpList_loadL HM.out.err rfl _ rfl rfl ?_))
   refine (afail_any base g v r 0 4 _ HM.out).mono ?_
   rintro x w9 ⟨⟨rr, rfl⟩, hcu, hon⟩
   have HCU := Lib.hid hcu
   have HON := Lib.hid hon
   clear hcu hon
   go_wp2_with fail
   go_ret
   exact ⟨_, rfl, Own.nil _ _ _, CaS.bad ⟨4, by omega, HCU.out⟩, HON.out⟩
 ·obtain ⟨rfl, rfl⟩ := hbad h0
  simp only [if_neg h0, sRaw]
  have hq : ((e : Int) != 0) = true := by simp [h0]
  have H0 := Lib.hid h0
  have HM := Lib.hid hv
  clear h0 hv hbad hl
  go_enter Tryz.func92, Tryz.ntmps92
  go_wp2_with (first | (with_reducible refine wpList_loadL HM.out.load rfl _ rfl rfl ?_) | (with_reducible refine wpList_loadL HM.out.err rfl _ rfl rfl ?_))
  refine (afail_any base g (.slice none 0 0) [] e 4 _ HM.out).mono ?_
  rintro x w9 ⟨⟨rr, rfl⟩, hcu, hon⟩
  rw [if_neg H0.out] at hcu
  have HCU := Lib.hid hcu
  have HON := Lib.hid hon
  clear hcu hon
  go_wp2_with fail
  go_ret
  exact ⟨_, rfl, Own.nil _ _ _, CaS.bad ⟨e, H0.out, HCU.out⟩, HON.out⟩
theorem acnum_40 (base g : Nat) (s : Option (List UInt8)) (w : World) (hl : stLen s ≤ 16777216) (h : CaS base g w s) :
  Calls Tryz.prog 49 #[.pointer (some ⟨g, 0, none⟩), .int .i64 1099511627776] w fun x w' => x = .returned (.int .i64 ((sNum 1099511627776 s).1 : Int)) ∧ CaS base g w' (sNum 1099511627776 s).2 ∧ Only (· = g) w w' := by
 have h1 := acnum_any base g 1099511627776 s w hl (Nat.le_refl _) h
 rw [show ((1099511627776 : Nat) : Int) = (1099511627776 : Int) from by simp] at h1
 exact h1
set_option maxRecDepth 100000 in
set_option maxHeartbeats 2000000 in
theorem actext_any (base g most : Nat) (s : Option (List UInt8)) (w : World) (hl : stLen s ≤ 16777216) (h : CaS base g w s) :
  Calls Tryz.prog 50 #[.pointer (some ⟨g, 0, none⟩), .int .i64 (most : Int)] w fun x w' => ∃ u, x = .returned u ∧ Own EB w.heap.size w' u (sText most s).1 ∧ CaS base g w' (sText most s).2 ∧ Only (· = g) w w' := by
 rw [sText_num]
 have hle := sNum_len 1099511627776 s
 have hn40 : (sNum 1099511627776 s).1 ≤ 1099511627776 := by
  cases s with
  | none => simp [sNum]
  | some r =>
   simp only [sNum]
   cases hg : getN 1099511627776 r with
   | none => simp
   | some p => obtain ⟨n, y⟩ := p; exact (getN_some hg).2.1
 have HC := Lib.hid (acnum_40 base g s w hl h)
 obtain ⟨n, s', hns⟩ : ∃ n s', sNum 1099511627776 s = (n, s') := ⟨_, _, rfl⟩
 rw [hns] at hle hn40
 simp only [hns]
 have HNS := Lib.hid hns
 clear h hns
 go_enter Tryz.func50, Tryz.ntmps50
 go_wp2_with fail
 refine HC.out.mono ?_
 rintro x w1 ⟨rfl, hc, ho⟩
 rw [HNS.out] at hc ⊢
 obtain ⟨v1, r1, e1, hv1, hbad, hs'⟩ := hc
 have HO := Lib.hid ho
 have HM := Lib.hid hv1
 have hlr := fun W => bytes_len hv1.rest.slice W
 have hsz := ho.size
 clear ho hv1 HC
 by_cases h0 : e1 = 0
 ·subst h0
  rw [if_pos rfl] at hs'
  have hs' : s' = some r1 := hs'
  subst hs'
  by_cases hm : n ≤ most
  ·have hI : ¬ (most : Int) < (n : Int) := by omega
   have HMO := Lib.hid hm
   clear hbad hm
   go_wp2_with (first | (with_reducible refine wpList_loadL HM.out.err rfl _ rfl rfl ?_))
   refine (acraw_any base g n (some r1) _ (Nat.le_trans hle hl) hn40 (CaS.good HM.out)).mono ?_
   rintro x w2 ⟨u, rfl, hu, hcu, ho2⟩
   have HU := Lib.hid (hu.lower hsz)
   have HCU := Lib.hid hcu
   have HON := Lib.hid (HO.out.trans ho2 fun _ _ h => h)
   clear hu hcu ho2
   go_wp2_with fail
   go_ret
   all_goals first
    | exact ⟨_, rfl, HU.out, HCU.out, HON.out⟩
    | (exfalso; have := HMO.out; omega)
  ·have hI : (most : Int) < (n : Int) := by omega
   have HMO := Lib.hid hm
   clear hbad hm
   go_wp2_with (first | (with_reducible refine wpList_loadL HM.out.err rfl _ rfl rfl ?_))
   refine (afail_any base g v1 r1 0 3 _ HM.out).mono ?_
   rintro x w9 ⟨⟨rr, rfl⟩, hcu, hon⟩
   have HCU := Lib.hid hcu
   have HON := Lib.hid (HO.out.trans hon fun _ _ h => h)
   clear hcu hon
   go_wp2_with (first | (with_reducible refine wpList_loadL HCU.out.err rfl _ rfl rfl ?_))
   go_ret
   all_goals first
    | exact ⟨_, rfl, Own.nil _ _ _, CaS.bad ⟨3, by omega, HCU.out⟩, HON.out⟩
    | (exfalso; have := HMO.out; omega)
 ·rw [if_neg h0] at hs'
  have hs' : s' = none := hs'
  subst hs'
  obtain ⟨rfl, rfl⟩ := hbad h0
  have hq : ((e1 : Int) == 0) = false := by simp [h0]
  have hq2 : ((e1 : Int) != 0) = true := by simp [h0]
  have H0 := Lib.hid h0
  clear h0 hbad
  go_wp2_with (first | (with_reducible refine wpList_loadL HM.out.err rfl _ rfl rfl ?_))
  go_ret
  exact ⟨_, rfl, Own.nil _ _ _, CaS.bad ⟨e1, H0.out, HM.out⟩, HO.out⟩
end Go.Proofs.YtfiadgdinhmgbaaGreatDoor
/-! spenceref09.node: the document's reading of a node. -/
namespace Go.Tr
open Go.Proofs.YtfiadgdinhmgbaaGreatDoor
theorem rn_zero {s s1 : S} {k : Nat} (h : sNum 4 s = (k, s1)) : rn 0 s = (.mk (k : Int) [] [], none) := by rw [rn, h]
theorem rn_bad {d : Nat} {s : S} {k : Nat} (h : sNum 4 s = (k, none)) : rn (d + 1) s = (.mk (k : Int) [] [], none) := by rw [rn, h, if_pos rfl]
theorem rn_file {d : Nat} {s s2 : S} {r : List UInt8} {k : Nat} {b : List UInt8} (h : sNum 4 s = (k, some r)) (h4 : ¬ k = 4) (h2 : sText 2048 (some r) = (b, s2)) : rn (d + 1) s = (.mk (k : Int) b [], s2) := by
 rw [rn, h, if_neg (by simp), if_neg h4, h2]
theorem rn_dir {d : Nat} {s s2 : S} {r : List UInt8} {c : Nat} (h : sNum 4 s = (4, some r)) (h2 : sNum 200 (some r) = (c, s2)) : rn (d + 1) s = (.mk 4 [] (rnL (rn d) c s2).1, (rnL (rn d) c s2).2) := by
 rw [rn, h, if_neg (by simp), if_pos rfl, h2]
theorem rnL_none {g : S → T × S} (c : Nat) : rnL g c none = ([], none) := by cases c <;> simp [rnL]
theorem rnL_kid {g : S → T × S} {c : Nat} {r : List UInt8} {nm : List UInt8} {t1 s3 : S} {t2 : T} (h1 : sText 24 (some r) = (nm, t1)) (h2 : g t1 = (t2, s3)) : rnL g (c + 1) (some r) = ((nm, t2) :: (rnL g c s3).1, (rnL g c s3).2) := by
 simp only [rnL, h1, h2]; simp
def behR (m : List K) (x : List K × S) : List K × S := (m ++ x.1, x.2)
theorem rn_len : ∀ (d : Nat) (s : S), stLen (rn d s).2 ≤ stLen s := by
 intro d
 induction d with
 | zero => intro s; simp [rn, stLen]
 | succ d ih =>
  intro s
  have h1 := sNum_len 4 s
  have key : ∀ (c : Nat) (s : S), stLen (rnL (rn d) c s).2 ≤ stLen s := by
   intro c
   induction c with
   | zero => intro s; simp [rnL]
   | succ c ihc =>
    intro s
    simp only [rnL]
    split
    ·simp [stLen]
    ·exact Nat.le_trans (ihc _) (Nat.le_trans (ih _) (sText_len 24 s))
  rw [rn]
  split
  ·simp [stLen]
  ·split
   ·exact Nat.le_trans (key _ _) (Nat.le_trans (sNum_len 200 _) h1)
   ·exact Nat.le_trans (sText_len 2048 _) h1
end Go.Tr
namespace Go.Proofs.YtfiadgdinhmgbaaGreatDoor
open Go.RowKit Pl Go.Agg Go.Tr
def CaE (base gc : Nat) (w : World) (s : Option (List UInt8)) : Prop := ∃ v r e, CaV base gc w v r e ∧ s = (if e = 0 then some r else none)
theorem CaS.weak {base gc : Nat} {w : World} {s : Option (List UInt8)} (h : CaS base gc w s) : CaE base gc w s := by
 obtain ⟨v, r, e, hv, _, hs⟩ := h
 exact ⟨v, r, e, hv, hs⟩
theorem CaV.only {base gc : Nat} {w w' : World} {v : Value} {r : List UInt8} {e : Nat} {S : Nat → Prop} (h : CaV base gc w v r e) (ho : Only S w w') (h1 : ¬ S gc) (h2 : ∀ j, S j → base ≤ j) : CaV base gc w' v r e :=
 ⟨Agg.Blk.keepO h.blk ho h1, h.rest.keep ho.size fun k hk hk2 => ho.block k hk2 fun hS => by have := h2 k hS; omega⟩
theorem CaE.only {base gc : Nat} {w w' : World} {s : Option (List UInt8)} {S : Nat → Prop} (h : CaE base gc w s) (ho : Only S w w') (h1 : ¬ S gc) (h2 : ∀ j, S j → base ≤ j) : CaE base gc w' s := by
 obtain ⟨v, r, e, hv, hs⟩ := h
 exact ⟨v, r, e, hv.only ho h1 h2, hs⟩
theorem CaS.only {base gc : Nat} {w w' : World} {s : Option (List UInt8)} {S : Nat → Prop} (h : CaS base gc w s) (ho : Only S w w') (h1 : ¬ S gc) (h2 : ∀ j, S j → base ≤ j) : CaS base gc w' s := by
 obtain ⟨v, r, e, hv, hb, hs⟩ := h
 exact ⟨v, r, e, hv.only ho h1 h2, hb, hs⟩
theorem CaV.setE {base gc : Nat} {w w' : World} {v : Value} {r : List UInt8} {e c : Nat} (h : CaV base gc w v r e) (ho : Only (· = gc) w w') (hb : Blk w' gc 61 (cuC v c)) : CaV base gc w' v r c :=
 ⟨hb, h.rest.keep ho.size fun k hk hk2 => ho.block k hk2 (by have := h.rest.1; show k ≠ gc; omega)⟩
theorem CaE.below {base gc : Nat} {w w' : World} {s : Option (List UInt8)} (h : CaE base gc w s) (hb : Below w.heap.size w w') : CaE base gc w' s := by
 obtain ⟨v, r, e, hv, hs⟩ := h
 exact ⟨v, r, e, hv.below hb, hs⟩
theorem CaE.lt {base gc : Nat} {w : World} {s : Option (List UInt8)} (h : CaE base gc w s) : base ≤ gc ∧ gc < w.heap.size := by
 obtain ⟨v, r, e, hv, _⟩ := h
 exact ⟨hv.rest.1, hv.blk.lt⟩
theorem nd_build1 (k : Int) (W : World) : (Instr.build 26 #[(0, .int .i64 k)]).run Tryz.prog W = .ok (.agg (ndC (k, svN, svN))) W := by kernel_rfl
theorem ownN_leaf (base : Nat) (w : World) (k : Int) : OwnN base w (k, svN, svN) (.mk k [] []) :=
 (OwnS.mk (Agg.Own.nil _ _ _) (Agg.Own.nil _ _ _) rfl (by simp [svN, ownB, Value.ownBlock]) : OwnS base w svN.1 [] svN.1 [] [] []).node
set_option maxRecDepth 100000 in
set_option maxHeartbeats 16000000 in
theorem node9_any : ∀ (d : Nat) (s : S) (base gc : Nat) (w : World) (_ : d ≤ 1000) (_ : stLen s ≤ 16777216) (_ : base ≤ w.heap.size) (_ : CaS base gc w s),
  Calls Tryz.prog 33 #[.pointer (some ⟨gc, 0, none⟩), .int .i64 (d : Int)] w fun e w' => ∃ x : NdV, e = .returned (.agg (ndC x)) ∧ OwnN w.heap.size w' x (rn d s).1 ∧ CaE base gc w' (rn d s).2 ∧ Only (· = gc) w w' := by
 intro d
 induction d with
 | zero =>
  intro s base gc w hd hs hcb hc
  obtain ⟨k, s1, q1⟩ : ∃ k s1, sNum 4 s = (k, s1) := ⟨_, _, rfl⟩
  have hs1 : stLen s1 ≤ 16777216 := by have := sNum_len 4 s; rw [q1] at this; exact Nat.le_trans this hs
  have HQ1 := Lib.hid q1
  have HC := Lib.hid hc
  have HGC := Lib.hid hc.weak.lt
  clear q1 hc
  go_enter Tryz.func33, Tryz.ntmps33
  go_wp2_with (first | (refine Agg.wpList_zero rfl 26 rfl (ndC ndZ) nd_zero ?_; intro g4 w1 hb hx hg; have HR1 := Lib.hid hb; have HC1 := Lib.hid (HC.out.below hx); have HX1 := Lib.hid (Only.of_below (S := (· = gc)) hx); have HG4 := Lib.hid (show g4 ≠ gc ∧ w.heap.size ≤ g4 from ⟨fun e => (by have := HGC.out.2; omega), hg⟩); clear hb hx hg))
  refine (acnum_any base gc 4 s w1 hs (by omega) HC1.out).mono ?_
  rintro e0 w2 ⟨rfl, hc2, ho2⟩
  rw [HQ1.out] at hc2 ⊢
  obtain ⟨v, r, e, hv, _, hse⟩ := hc2
  have hse : s1 = if e = 0 then some r else none := hse
  have HV2 := Lib.hid hv
  have HR2 := Lib.hid (Agg.Blk.keepO HR1.out ho2 (fun e => HG4.out.1 e))
  have HX2 := Lib.hid (HX1.out.then2 ho2)
  clear hv ho2
  have HRN := Lib.hid (show rn 0 s = (.mk (k : Int) [] [], none) from rn_zero HQ1.out)
  have dd : decide (((0 : Nat) : Int) < 1) = true := by simp
  by_cases he : e = 0
  ·subst he
   go_wp2_with (first | (with_reducible refine wpList_build1 26 0 _ rfl rfl (.int .i64 (k : Int)) rfl (.agg (ndC ((k : Int), svN, svN))) (nd_build1 _) ?_) | (refine wpList_new rfl rfl rfl 26 5 11 rfl rfl rfl (by decide) (ndC ndZ) (ndC ((k : Int), svN, svN)) nd_zero rfl (nd_info _) (ndC_one _) rfl (by first | (simp; done) | simp [Act.put]) ?_; intro g5 w3 hb hx hg; have HN3 := Lib.hid hb; have HV3 := Lib.hid (HV2.out.below hx); have HE3 := Lib.hid (HV2.out.below hx).err; have HR3 := Lib.hid (HR2.out.below hx); have HX3 := Lib.hid (HX2.out.thenB hx); have HG5 := Lib.hid (show g5 ≠ g4 ∧ g5 ≠ gc ∧ w.heap.size ≤ g5 from ⟨fun e => (by have := HR2.out.lt; omega), fun e => (by have h1 := HGC.out.2; have h2 := HX2.out.size; omega), Nat.le_trans HX2.out.size hg⟩); have HG45 := Lib.hid (show g4 < g5 from Nat.lt_of_lt_of_le HR2.out.lt hg); clear hb hx hg) | (with_reducible refine wpList_loadL HE3.out rfl _ rfl rfl ?_) | (refine wpList_put1 rfl rfl 35 _ _ rfl gc 1 (.int .i64 4) rfl rfl HV3.out.blk (by show 1 < 2; omega) rfl rfl (by kernel_rfl) (cuC v 4) rfl ?_; intro w4 hb ho hs4; have HV4 := Lib.hid (HV3.out.setE ho hb); have HN4 := Lib.hid (Agg.Blk.keepO HN3.out ho (fun e => HG5.out.2.1 e)); have HR4 := Lib.hid (Agg.Blk.keepO HR3.out ho (fun e => HG4.out.1 e)); have HX4 := Lib.hid (HX3.out.then2 ho); clear hb ho hs4) | (with_reducible refine wpList_loadL (NdL.of_blk HN4.out).all rfl _ rfl rfl ?_) | (refine Agg.wpList_put rfl rfl 26 _ _ rfl g4 (ndC ((k : Int), svN, svN)) (ndC ndZ) rfl rfl HR4.out (nd_info _) rfl (ndC_one _) ?_; intro wf hb hx hs9 hk; have ho9 := Only.of_eq (S := (· = g4)) hx hs9 hk rfl; have HF := Lib.hid hb; have HXF := Lib.hid (HX4.out.thenNew ho9 HG4.out.2); have HCF := Lib.hid (show CaE base gc wf none from ⟨v, r, 4, HV4.out.only ho9 (fun e => HG4.out.1 e.symm) (fun j hj => by subst hj; exact Nat.le_trans hcb HG4.out.2), rfl⟩); clear hb hx hs9 hk ho9))
   exact Agg.post_row rfl rfl HF.out nd_under rfl (nd_info _) rfl (by rw [HRN.out]; exact ⟨_, rfl, ownN_leaf _ _ _, HCF.out, HXF.out⟩)
  ·have he1 : ((e : Int) != 0) = true := by simp; omega
   have he2 : decide (¬ (e : Int) = 0) = true := decide_eq_true (by omega)
   have he3 : ((e : Int) == 0) = false := by rw [beq_eq_false_iff_ne]; omega
   have HENZ := Lib.hid he
   clear he
   go_wp2_with (first | (with_reducible refine wpList_build1 26 0 _ rfl rfl (.int .i64 (k : Int)) rfl (.agg (ndC ((k : Int), svN, svN))) (nd_build1 _) ?_) | (refine wpList_new rfl rfl rfl 26 5 11 rfl rfl rfl (by decide) (ndC ndZ) (ndC ((k : Int), svN, svN)) nd_zero rfl (nd_info _) (ndC_one _) rfl (by first | (simp; done) | simp [Act.put]) ?_; intro g5 w3 hb hx hg; have HN3 := Lib.hid hb; have HV3 := Lib.hid (HV2.out.below hx); have HE3 := Lib.hid (HV2.out.below hx).err; have HR3 := Lib.hid (HR2.out.below hx); have HX3 := Lib.hid (HX2.out.thenB hx); have HG5 := Lib.hid (show g5 ≠ g4 ∧ g5 ≠ gc ∧ w.heap.size ≤ g5 from ⟨fun e => (by have := HR2.out.lt; omega), fun e => (by have h1 := HGC.out.2; have h2 := HX2.out.size; omega), Nat.le_trans HX2.out.size hg⟩); have HG45 := Lib.hid (show g4 < g5 from Nat.lt_of_lt_of_le HR2.out.lt hg); clear hb hx hg) | (with_reducible refine wpList_loadL HE3.out rfl _ rfl rfl ?_) | (refine wpList_put1 rfl rfl 35 _ _ rfl gc 1 (.int .i64 4) rfl rfl HV3.out.blk (by show 1 < 2; omega) rfl rfl (by kernel_rfl) (cuC v 4) rfl ?_; intro w4 hb ho hs4; have HV4 := Lib.hid (HV3.out.setE ho hb); have HN4 := Lib.hid (Agg.Blk.keepO HN3.out ho (fun e => HG5.out.2.1 e)); have HR4 := Lib.hid (Agg.Blk.keepO HR3.out ho (fun e => HG4.out.1 e)); have HX4 := Lib.hid (HX3.out.then2 ho); clear hb ho hs4) | (with_reducible refine wpList_loadL (NdL.of_blk HN4.out).all rfl _ rfl rfl ?_) | (refine Agg.wpList_put rfl rfl 26 _ _ rfl g4 (ndC ((k : Int), svN, svN)) (ndC ndZ) rfl rfl HR4.out (nd_info _) rfl (ndC_one _) ?_; intro wf hb hx hs9 hk; have ho9 := Only.of_eq (S := (· = g4)) hx hs9 hk rfl; have HF := Lib.hid hb; have HXF := Lib.hid (HX4.out.thenNew ho9 HG4.out.2); have HCF := Lib.hid (show CaE base gc wf none from ⟨v, r, 4, HV4.out.only ho9 (fun e => HG4.out.1 e.symm) (fun j hj => by subst hj; exact Nat.le_trans hcb HG4.out.2), rfl⟩); clear hb hx hs9 hk ho9))
   exact Agg.post_row rfl rfl HF.out nd_under rfl (nd_info _) rfl (by rw [HRN.out]; exact ⟨_, rfl, ownN_leaf _ _ _, HCF.out, HXF.out⟩)
 | succ d ih =>
  intro s base gc w hd hs hcb hc
  have HIH := Lib.hid ih
  clear ih
  obtain ⟨k, s1, q1⟩ : ∃ k s1, sNum 4 s = (k, s1) := ⟨_, _, rfl⟩
  have hs1 : stLen s1 ≤ 16777216 := by have := sNum_len 4 s; rw [q1] at this; exact Nat.le_trans this hs
  have HQ1 := Lib.hid q1
  have HC := Lib.hid hc
  have HGC := Lib.hid hc.weak.lt
  clear q1 hc
  go_enter Tryz.func33, Tryz.ntmps33
  go_wp2_with (first | (refine Agg.wpList_zero rfl 26 rfl (ndC ndZ) nd_zero ?_; intro g4 w1 hb hx hg; have HR1 := Lib.hid hb; have HC1 := Lib.hid (HC.out.below hx); have HX1 := Lib.hid (Only.of_below (S := (· = gc)) hx); have HG4 := Lib.hid (show g4 ≠ gc ∧ w.heap.size ≤ g4 from ⟨fun e => (by have := HGC.out.2; omega), hg⟩); clear hb hx hg))
  refine (acnum_any base gc 4 s w1 hs (by omega) HC1.out).mono ?_
  rintro e0 w2 ⟨rfl, hc2, ho2⟩
  rw [HQ1.out] at hc2 ⊢
  obtain ⟨v, r, e, hv, _, hse⟩ := hc2
  have hse : s1 = if e = 0 then some r else none := hse
  have HV2 := Lib.hid hv
  have HR2 := Lib.hid (Agg.Blk.keepO HR1.out ho2 (fun e => HG4.out.1 e))
  have HX2 := Lib.hid (HX1.out.then2 ho2)
  clear hv ho2
  by_cases he : e = 0
  case neg =>
   have HRN := Lib.hid (show rn (d + 1) s = (.mk (k : Int) [] [], none) from rn_bad (by rw [HQ1.out, hse, if_neg he]))
   have he1 : ((e : Int) != 0) = true := by simp; omega
   have he2 : decide (¬ (e : Int) = 0) = true := decide_eq_true (by omega)
   have he3 : ((e : Int) == 0) = false := by rw [beq_eq_false_iff_ne]; omega
   have HENZ := Lib.hid he
   clear he
   go_wp2_with (first | (with_reducible refine wpList_build1 26 0 _ rfl rfl (.int .i64 (k : Int)) rfl (.agg (ndC ((k : Int), svN, svN))) (nd_build1 _) ?_) | (refine wpList_new rfl rfl rfl 26 5 11 rfl rfl rfl (by decide) (ndC ndZ) (ndC ((k : Int), svN, svN)) nd_zero rfl (nd_info _) (ndC_one _) rfl (by first | (simp; done) | simp [Act.put]) ?_; intro g5 w3 hb hx hg; have HN3 := Lib.hid hb; have HV3 := Lib.hid (HV2.out.below hx); have HE3 := Lib.hid (HV2.out.below hx).err; have HR3 := Lib.hid (HR2.out.below hx); have HX3 := Lib.hid (HX2.out.thenB hx); have HG5 := Lib.hid (show g5 ≠ g4 ∧ g5 ≠ gc ∧ w.heap.size ≤ g5 from ⟨fun e => (by have := HR2.out.lt; omega), fun e => (by have h1 := HGC.out.2; have h2 := HX2.out.size; omega), Nat.le_trans HX2.out.size hg⟩); have HG45 := Lib.hid (show g4 < g5 from Nat.lt_of_lt_of_le HR2.out.lt hg); clear hb hx hg) | (with_reducible refine wpList_loadL HE3.out rfl _ rfl rfl ?_) | (refine wpList_put1 rfl rfl 35 _ _ rfl gc 1 (.int .i64 4) rfl rfl HV3.out.blk (by show 1 < 2; omega) rfl rfl (by kernel_rfl) (cuC v 4) rfl ?_; intro w4 hb ho hs4; have HV4 := Lib.hid (HV3.out.setE ho hb); have HN4 := Lib.hid (Agg.Blk.keepO HN3.out ho (fun e => HG5.out.2.1 e)); have HR4 := Lib.hid (Agg.Blk.keepO HR3.out ho (fun e => HG4.out.1 e)); have HX4 := Lib.hid (HX3.out.then2 ho); clear hb ho hs4) | (with_reducible refine wpList_loadL (NdL.of_blk HN4.out).all rfl _ rfl rfl ?_) | (refine Agg.wpList_put rfl rfl 26 _ _ rfl g4 (ndC ((k : Int), svN, svN)) (ndC ndZ) rfl rfl HR4.out (nd_info _) rfl (ndC_one _) ?_; intro wf hb hx hs9 hk; have ho9 := Only.of_eq (S := (· = g4)) hx hs9 hk rfl; have HF := Lib.hid hb; have HXF := Lib.hid (HX4.out.thenNew ho9 HG4.out.2); have HCF := Lib.hid (show CaE base gc wf none from ⟨v, r, 4, HV4.out.only ho9 (fun e => HG4.out.1 e.symm) (fun j hj => by subst hj; exact Nat.le_trans hcb HG4.out.2), rfl⟩); clear hb hx hs9 hk ho9))
   exact Agg.post_row rfl rfl HF.out nd_under rfl (nd_info _) rfl (by rw [HRN.out]; exact ⟨_, rfl, ownN_leaf _ _ _, HCF.out, HXF.out⟩)
  case pos =>
   subst he
   rw [if_pos rfl] at hse
   have HQ1 := Lib.hid (show sNum 4 s = (k, some r) by rw [HQ1.out, hse])
   have hs1 : stLen (some r) ≤ 16777216 := by rw [← hse]; exact hs1
   have dd : decide ((d : Int) + 1 < 1) = false := by simp; omega
   have dd2 : decide (((d + 1 : Nat) : Int) < 1) = false := by simp; omega
   clear hse
   by_cases h4 : k = 4
   ·have hk1 : ((k : Int) != 4) = false := by rw [h4]; rfl
    have hk2 : decide (¬ (k : Int) = 4) = false := decide_eq_false (by omega)
    have hk3 : ((k : Int) == 4) = true := by rw [h4]; rfl
    obtain ⟨c, s2, q2⟩ : ∃ c s2, sNum 200 (some r) = (c, s2) := ⟨_, _, rfl⟩
    have hc200 : c ≤ 200 := by have := sNum_le 200 (some r); rw [q2] at this; exact this
    have hs2 : stLen s2 ≤ 16777216 := by have := sNum_len 200 (some r); rw [q2] at this; exact Nat.le_trans this hs1
    have hres := rn_dir (d := d) (by rw [HQ1.out, h4]) q2
    have HK4 := Lib.hid h4
    have HQ2 := Lib.hid q2
    clear q2 h4
    go_wp2_with (first | (with_reducible refine wpList_build1 26 0 _ rfl rfl (.int .i64 (k : Int)) rfl (.agg (ndC ((k : Int), svN, svN))) (nd_build1 _) ?_) | (refine wpList_new rfl rfl rfl 26 5 11 rfl rfl rfl (by decide) (ndC ndZ) (ndC ((k : Int), svN, svN)) nd_zero rfl (nd_info _) (ndC_one _) rfl (by first | (simp; done) | simp [Act.put]) ?_; intro g5 w3 hb hx hg; have HN3 := Lib.hid hb; have HV3 := Lib.hid (HV2.out.below hx); have HE3 := Lib.hid (HV2.out.below hx).err; have HR3 := Lib.hid (HR2.out.below hx); have HX3 := Lib.hid (HX2.out.thenB hx); have HG5 := Lib.hid (show g5 ≠ g4 ∧ g5 ≠ gc ∧ w.heap.size ≤ g5 from ⟨fun e => (by have := HR2.out.lt; omega), fun e => (by have h1 := HGC.out.2; have h2 := HX2.out.size; omega), Nat.le_trans HX2.out.size hg⟩); have HG45 := Lib.hid (show g4 < g5 from Nat.lt_of_lt_of_le HR2.out.lt hg); clear hb hx hg) | (with_reducible refine wpList_loadL HE3.out rfl _ rfl rfl ?_) | (with_reducible refine wpList_loadL (NdL.of_blk HN3.out).kind rfl _ rfl rfl ?_))
    have HS3 := Lib.hid (show CaS base gc w3 (some r) from CaS.good HV3.out)
    refine (acnum_any base gc 200 (some r) w3 hs1 (by omega) HS3.out).mono ?_
    rintro e w4 ⟨rfl, hc4, ho4⟩
    rw [HQ2.out] at hc4 ⊢
    have HC4 := Lib.hid hc4.weak
    have HN4 := Lib.hid (Agg.Blk.keepO HN3.out ho4 (fun e => HG5.out.2.1 e))
    have HR4 := Lib.hid (Agg.Blk.keepO HR3.out ho4 (fun e => HG4.out.1 e))
    have HX4 := Lib.hid (HX3.out.then2 ho4)
    have HB4 := Lib.hid (show base ≤ gc ∧ gc < w.heap.size from HGC.out)
    clear hc4 ho4
    obtain ⟨R, hR⟩ : ∃ R, rnL (rn d) c s2 = R := ⟨_, rfl⟩
    have HR := Lib.hid hR
    rw [hR] at hres
    have HRES := Lib.hid hres
    clear hR hres
    go_wp2_with fail
    go_loopw [7] (fun i wr => ∃ (q : Nat) (s' : S) (vk : SV) (kk : List KdV) (m : List K) (cs : List Nat), q ≤ c ∧ i = .int .i64 (q : Int) ∧ R = behR m (rnL (rn d) (c - q) s') ∧ stLen s' ≤ 16777216 ∧ kk.length = q ∧ OwnS w.heap.size wr svN.1 [] vk.1 kk m cs ∧ (∀ j ∈ cs, g5 < j) ∧ Blk wr g5 26 (ndC ((k : Int), svN, vk)) ∧ Blk wr g4 26 (ndC ndZ) ∧ CaE base gc wr s' ∧ Only (· = gc) w wr) (fun i _ => c - (intOf i).toNat)
    case atStart => exact ⟨0, s2, svN, [], [], [], by omega, rfl, by rw [← HR.out]; simp [behR], hs2, rfl, ⟨Agg.Own.nil _ _ _, Agg.Own.nil _ _ _, rfl, by simp [svN, ownB, Value.ownBlock]⟩, by simp, HN4.out, HR4.out, HC4.out, HX4.out⟩
    case round =>
     obtain ⟨wr1, rfl⟩ : ∃ y : World, y = wr := ⟨_, rfl⟩
     obtain ⟨q, s', vk, kk, m, cs, hq, rfl, heq, hst, hkk, hos, hcs, hn, hr, hcu, hox⟩ := hrel
     have HEQ := Lib.hid heq
     have HKK := Lib.hid hkk
     have HSS := Lib.hid hos
     have HCS := Lib.hid hcs
     have HN := Lib.hid hn
     have HRR := Lib.hid hr
     have HX := Lib.hid hox
     obtain ⟨v', r', e', hv', hse'⟩ := hcu
     have HV' := Lib.hid hv'
     have HE' := Lib.hid hv'.err
     clear heq hos hcs hn hr hox hkk hv'
     by_cases hlt : q < c
     ·have hlq : decide ((q : Int) < (c : Int)) = true := by simp; omega
      by_cases he' : e' = 0
      ·subst he'
       rw [if_pos rfl] at hse'
       subst hse'
       have HCU := Lib.hid (show CaS base gc wr1 (some r') from CaS.good HV'.out)
       obtain ⟨nm, t1, q3⟩ : ∃ nm t1, sText 24 (some r') = (nm, t1) := ⟨_, _, rfl⟩
       have ht1 : stLen t1 ≤ 16777216 := by have := sText_len 24 (some r'); rw [q3] at this; exact Nat.le_trans this hst
       obtain ⟨t2, s3, q4⟩ : ∃ t2 s3, rn d t1 = (t2, s3) := ⟨_, _, rfl⟩
       have hs3 : stLen s3 ≤ 16777216 := by have := rn_len d t1; rw [q4] at this; exact Nat.le_trans this ht1
       have HQ3 := Lib.hid q3
       have HQ4 := Lib.hid q4
       have HNEXT := Lib.hid (show R = behR (m ++ [(nm, t2)]) (rnL (rn d) (c - (q + 1)) s3) by
        rw [HEQ.out, show c - q = (c - (q + 1)) + 1 by omega, rnL_kid q3 q4]; simp [behR])
       clear q3 q4
       go_wp2_with (first | (with_reducible refine wpList_loadL HE'.out rfl _ rfl rfl ?_))
       refine (actext_any base gc 24 (some r') wr1 hst HCU.out).mono ?_
       rintro e wa ⟨ua, rfl, hu, hca, hoa⟩
       rw [HQ3.out] at hca hu
       have HUa := Lib.hid hu.slice
       have HCa := Lib.hid hca
       have HNa := Lib.hid (Agg.Blk.keepO HN.out hoa (fun e => HG5.out.2.1 e))
       have HRa := Lib.hid (Agg.Blk.keepO HRR.out hoa (fun e => HG4.out.1 e))
       have HSa := Lib.hid (HSS.out.onlyS hoa (fun j hj e => by have := HGC.out.2; omega))
       have HXa := Lib.hid (HX.out.then2 hoa)
       have HWa := Lib.hid hoa.size
       clear hu hca hoa
       go_wp2_with (first | (with_reducible refine wpList_toStr HUa.out _ rfl rfl rfl ?_) | (with_reducible refine wpList_build1 28 0 _ rfl rfl (.string ⟨nm.toArray⟩) rfl (.agg (kdC (nm, ndZ))) (kd_build1 nm) ?_) | (refine wpList_new rfl rfl rfl 28 8 49 rfl rfl rfl (by decide) (kdC kdZ) (kdC (nm, ndZ)) kd_zero rfl (kd_info _) (kdC_one _) rfl (by first | (simp; done) | simp [Act.put]) ?_; intro g7 wb hb hx hg; have HYb := Lib.hid hb; have HNb := Lib.hid (HNa.out.below hx); have HRb := Lib.hid (HRa.out.below hx); have HCb := Lib.hid (HCa.out.below hx); have HSb := Lib.hid (HSa.out.below hx); have HXb := Lib.hid (HXa.out.thenB hx); have HG7 := Lib.hid (show wr1.heap.size ≤ g7 ∧ g7 ≠ gc ∧ w.heap.size ≤ g7 ∧ g7 ≠ g5 ∧ g7 ≠ g4 from ⟨Nat.le_trans HWa.out hg, fun e => (by have := HGC.out.2; have := HXa.out.size; omega), Nat.le_trans HXa.out.size hg, fun e => (by have := HNa.out.lt; omega), fun e => (by have := HRa.out.lt; omega)⟩); clear hb hx hg) | (refine Agg.wpList_valw rfl (exec_subI (m := d + 1) (n := 1) (by omega) (by omega) rfl rfl rfl) ?_))
       have hcall := HIH.out t1 base gc wb (by omega) ht1 (Nat.le_trans hcb HXb.out.size) HCb.out
       rw [HQ4.out] at hcall
       refine hcall.mono ?_
       clear hcall
       rintro e wc ⟨x2, rfl, ⟨b2, ho2, hn2⟩, hcu, hoc⟩
       have HO2 := Lib.hid ho2
       have HN2' := Lib.hid hn2
       have HRG := Lib.hid (show ∀ j ∈ b2, wb.heap.size ≤ j from fun j hj => (OwnT.range t2 x2 b2 ho2 j hj).1)
       have HYc := Lib.hid (Agg.Blk.keepO HYb.out hoc (fun h => HG7.out.2.1 h))
       have HNc := Lib.hid (Agg.Blk.keepO HNb.out hoc (fun h => HG5.out.2.1 h))
       have HRc := Lib.hid (Agg.Blk.keepO HRb.out hoc (fun h => HG4.out.1 h))
       have HSc := Lib.hid (HSb.out.onlyS hoc (fun j hj e => by have := HGC.out; omega))
       have HCc := Lib.hid hcu
       have HXc := Lib.hid (HXb.out.then2 hoc)
       clear ho2 hn2 hcu hoc
       go_wp2_with (first | (refine Agg.wpList_putRow rfl rfl 26 _ _ rfl g7 1 #[.string ⟨nm.toArray⟩] (ndC ndZ) #[] (ndC x2) rfl rfl HYc.out rfl rfl (nd_info _) (ndC_one _) ?_; intro wd hb ho; have HYd := Lib.hid (show Blk wd g7 28 (kdC (nm, x2)) from hb); have HNd := Lib.hid (Agg.Blk.keepO HNc.out ho (fun e => HG7.out.2.2.2.1 e.symm)); have HRd := Lib.hid (Agg.Blk.keepO HRc.out ho (fun e => HG7.out.2.2.2.2 e.symm)); have HXd := Lib.hid (HXc.out.thenNew ho HG7.out.2.2.1); have HCd := Lib.hid (HCc.out.only ho (fun e => HG7.out.2.1 e.symm) (fun j hj => by subst hj; exact Nat.le_trans hcb HG7.out.2.2.1)); have HSd := Lib.hid (HSc.out.onlyR ho (fun j hj e => by have h1 := (HSS.out.range j hj).2; have h2 := HG7.out.1; omega)); have HO2d := Lib.hid (OwnT.only ho t2 x2 b2 HO2.out (fun j hj e => by have h1 := HRG.out j hj; have h2 := HYb.out.lt; omega)); clear hb ho) | (with_reducible refine wpList_loadL (NdL.of_blk HNd.out).kids rfl _ rfl rfl ?_) | (with_reducible refine wpList_loadL (KdL.ofB HYd.out).all rfl _ rfl rfl ?_) | (refine Agg.wpList_pushO (E := EK) (base := w.heap.size) rfl rfl 58 rfl _ rfl _ rfl (nm, x2) rfl (fun _ => rfl) (by first | (simp; done) | simp [Act.put]) HSd.out.row (by have := HKK.out; omega) (by decide) HXd.out.size ?_; intro u76 v77 we hok hp hgr; obtain ⟨vk2, hv2⟩ := own_sv hok; rw [hv2] at hok hgr ⊢; have HSe := Lib.hid (HSd.out.push (y := (nm, x2)) (OwnT.lowerB HXb.out.size t2 x2 b2 HO2d.out) HN2'.out (fun i hi j hj => by have h1 := (HSS.out.range i hi).2; have h2 := HRG.out j hj; have h3 := HWa.out; have h4 := HYb.out.lt; have h5 := HG7.out.1; omega) hok hp hgr); have HNe := Lib.hid (hp.blk g5 _ _ _ (by decide) HNd.out); have HRe := Lib.hid (hp.blk g4 _ _ _ (by decide) HRd.out); have HCe := Lib.hid (HCd.out.only hp.only (fun e => by have h1 := (own_range HSd.out.row _ (mem_ownB.2 e)).1; have h2 := HGC.out.2; omega) (fun j hj => Nat.le_trans hcb (own_range HSd.out.row j (mem_ownB.2 hj)).1)); have HXe := Lib.hid (only_pushed HXd.out HSd.out.row hp (Nat.le_refl _)); have HLe := Lib.hid (show ∀ j ∈ cs ++ b2, g5 < j from fun j hj => (List.mem_append.1 hj).elim (fun h => HCS.out j h) (fun h => by have h1 := HRG.out j h; have h2 := HNb.out.lt; omega)); clear hok hp hgr hv2) | (refine wpList_put1 rfl rfl 24 _ _ rfl g5 2 vk2.1 rfl rfl HNe.out (by show 2 < 3; omega) (sv_cells vk2) (sv_oneT vk2) (by kernel_rfl) (ndC ((k : Int), svN, vk2)) rfl ?_; intro wg hb ho hs9; have HNf := Lib.hid hb; have HSf := Lib.hid (HSe.out.other ho HNe.out (by decide) (by decide) (fun h => by have := HLe.out g5 h; omega)); have HLf := HLe; have HRf := Lib.hid (Agg.Blk.keepO HRe.out ho (fun e => HG5.out.1 e.symm)); have HCf := Lib.hid (HCe.out.only ho (fun e => HG5.out.2.1 e.symm) (fun j hj => by subst hj; exact Nat.le_trans hcb HG5.out.2.2)); have HXf := Lib.hid (HXe.out.thenNew ho HG5.out.2.2); clear hb ho hs9))
       go_roundw
       case rel => exact ⟨q + 1, s3, vk2, kk ++ [(nm, x2)], m ++ [(nm, t2)], cs ++ b2, by omega, by go_num, HNEXT.out, hs3, by rw [List.length_append, HKK.out]; rfl, HSf.out, HLf.out, HNf.out, HRf.out, HCf.out, HXf.out⟩
       case measure => simp [intOf]; omega
      ·rw [if_neg he'] at hse'
       subst hse'
       have he1 : ((e' : Int) == 0) = false := by rw [beq_eq_false_iff_ne]; omega
       have he2 : decide ((e' : Int) = 0) = false := decide_eq_false (by omega)
       have HRS := Lib.hid (show R = (m, none) by rw [HEQ.out, rnL_none]; simp [behR])
       have HCF := Lib.hid (show CaE base gc wr1 none from ⟨v', r', e', HV'.out, by rw [if_neg he']⟩)
       clear he'
       go_wp2_with (first | (with_reducible refine wpList_loadL HE'.out rfl _ rfl rfl ?_) | (with_reducible refine wpList_loadL (NdL.of_blk HN.out).all rfl _ rfl rfl ?_) | (refine Agg.wpList_put rfl rfl 26 _ _ rfl g4 (ndC ((k : Int), svN, vk)) (ndC ndZ) rfl rfl HRR.out (nd_info _) rfl (ndC_one _) ?_; intro wf hb hx hs9 hk; have ho9 := Only.of_eq (S := (· = g4)) hx hs9 hk rfl; have HF := Lib.hid hb; have HXF := Lib.hid (HX.out.thenNew ho9 HG4.out.2); have HSF := Lib.hid (HSS.out.other ho9 HRR.out (by decide) (by decide) (fun h => by have h1 := HCS.out g4 h; have h2 := HG45.out; omega)); have HCG := Lib.hid (HCF.out.only ho9 (fun e => HG4.out.1 e.symm) (fun j hj => by subst hj; exact Nat.le_trans hcb HG4.out.2)); clear hb hx hs9 hk ho9))
       exact Agg.post_row rfl rfl HF.out nd_under rfl (nd_info _) rfl (by rw [HRES.out, HRS.out]; exact ⟨_, rfl, by rw [← show ((k : Nat) : Int) = 4 by rw [HK4.out]; rfl]; exact HSF.out.node, HCG.out, HXF.out⟩)
     ·obtain rfl : q = c := by omega
      have hlq : decide (((q : Nat) : Int) < ((q : Nat) : Int)) = false := by simp
      have HRS := Lib.hid (show R = (m, s') by rw [HEQ.out, Nat.sub_self]; simp [rnL, behR])
      have HCF := Lib.hid (show CaE base gc wr1 s' from ⟨v', r', e', HV'.out, hse'⟩)
      clear hse'
      go_wp2_with (first | (with_reducible refine wpList_loadL (NdL.of_blk HN.out).all rfl _ rfl rfl ?_) | (refine Agg.wpList_put rfl rfl 26 _ _ rfl g4 (ndC ((k : Int), svN, vk)) (ndC ndZ) rfl rfl HRR.out (nd_info _) rfl (ndC_one _) ?_; intro wf hb hx hs9 hk; have ho9 := Only.of_eq (S := (· = g4)) hx hs9 hk rfl; have HF := Lib.hid hb; have HXF := Lib.hid (HX.out.thenNew ho9 HG4.out.2); have HSF := Lib.hid (HSS.out.other ho9 HRR.out (by decide) (by decide) (fun h => by have h1 := HCS.out g4 h; have h2 := HG45.out; omega)); have HCG := Lib.hid (HCF.out.only ho9 (fun e => HG4.out.1 e.symm) (fun j hj => by subst hj; exact Nat.le_trans hcb HG4.out.2)); clear hb hx hs9 hk ho9))
      exact Agg.post_row rfl rfl HF.out nd_under rfl (nd_info _) rfl (by rw [HRES.out, HRS.out]; exact ⟨_, rfl, by rw [← show ((k : Nat) : Int) = 4 by rw [HK4.out]; rfl]; exact HSF.out.node, HCG.out, HXF.out⟩)
   ·have hk1 : ((k : Int) != 4) = true := by simp; omega
    have hk2 : decide (¬ (k : Int) = 4) = true := decide_eq_true (by omega)
    have hk3 : ((k : Int) == 4) = false := by rw [beq_eq_false_iff_ne]; omega
    obtain ⟨b, s2, q2⟩ : ∃ b s2, sText 2048 (some r) = (b, s2) := ⟨_, _, rfl⟩
    have HRES := Lib.hid (rn_file (d := d) HQ1.out h4 q2)
    have HQ2 := Lib.hid q2
    clear h4 q2
    go_wp2_with (first | (with_reducible refine wpList_build1 26 0 _ rfl rfl (.int .i64 (k : Int)) rfl (.agg (ndC ((k : Int), svN, svN))) (nd_build1 _) ?_) | (refine wpList_new rfl rfl rfl 26 5 11 rfl rfl rfl (by decide) (ndC ndZ) (ndC ((k : Int), svN, svN)) nd_zero rfl (nd_info _) (ndC_one _) rfl (by first | (simp; done) | simp [Act.put]) ?_; intro g5 w3 hb hx hg; have HN3 := Lib.hid hb; have HV3 := Lib.hid (HV2.out.below hx); have HE3 := Lib.hid (HV2.out.below hx).err; have HR3 := Lib.hid (HR2.out.below hx); have HX3 := Lib.hid (HX2.out.thenB hx); have HG5 := Lib.hid (show g5 ≠ g4 ∧ g5 ≠ gc ∧ w.heap.size ≤ g5 from ⟨fun e => (by have := HR2.out.lt; omega), fun e => (by have h1 := HGC.out.2; have h2 := HX2.out.size; omega), Nat.le_trans HX2.out.size hg⟩); have HG45 := Lib.hid (show g4 < g5 from Nat.lt_of_lt_of_le HR2.out.lt hg); clear hb hx hg) | (with_reducible refine wpList_loadL HE3.out rfl _ rfl rfl ?_) | (with_reducible refine wpList_loadL (NdL.of_blk HN3.out).kind rfl _ rfl rfl ?_))
    have HS3 := Lib.hid (show CaS base gc w3 (some r) from CaS.good HV3.out)
    refine (actext_any base gc 2048 (some r) w3 hs1 HS3.out).mono ?_
    rintro e w5 ⟨u5, rfl, hu, hc5, ho5⟩
    rw [HQ2.out] at hu hc5
    obtain ⟨ub, rfl⟩ := own_sv hu
    have HU5 := Lib.hid (hu.lower HX3.out.size)
    have HC5 := Lib.hid hc5.weak
    have HN5 := Lib.hid (Agg.Blk.keepO HN3.out ho5 (fun e => HG5.out.2.1 e))
    have HR5 := Lib.hid (Agg.Blk.keepO HR3.out ho5 (fun e => HG4.out.1 e))
    have HX5 := Lib.hid (HX3.out.then2 ho5)
    clear hu hc5 ho5
    go_wp2_with (first | (refine wpList_put1 rfl rfl 23 _ _ rfl g5 1 ub.1 rfl rfl HN5.out (by show 1 < 3; omega) (sv_cells ub) (sv_oneT ub) (by kernel_rfl) (ndC ((k : Int), ub, svN)) rfl ?_; intro w6 hb ho hs9; have HN6 := Lib.hid hb; have HU6 := Lib.hid (Own.onlyB HU5.out ho HN5.out (by decide)); have HR6 := Lib.hid (Agg.Blk.keepO HR5.out ho (fun e => HG5.out.1 e.symm)); have HC6 := Lib.hid (HC5.out.only ho (fun e => HG5.out.2.1 e.symm) (fun j hj => by subst hj; exact Nat.le_trans hcb HG5.out.2.2)); have HX6 := Lib.hid (HX5.out.thenNew ho HG5.out.2.2); clear hb ho hs9) | (with_reducible refine wpList_loadL (NdL.of_blk HN6.out).all rfl _ rfl rfl ?_) | (refine Agg.wpList_put rfl rfl 26 _ _ rfl g4 (ndC ((k : Int), ub, svN)) (ndC ndZ) rfl rfl HR6.out (nd_info _) rfl (ndC_one _) ?_; intro wf hb hx hs9 hk; have ho9 := Only.of_eq (S := (· = g4)) hx hs9 hk rfl; have HF := Lib.hid hb; have HXF := Lib.hid (HX6.out.thenNew ho9 HG4.out.2); have HUF := Lib.hid (Own.onlyB HU6.out ho9 HR6.out (by decide)); have HCF := Lib.hid (HC6.out.only ho9 (fun e => HG4.out.1 e.symm) (fun j hj => by subst hj; exact Nat.le_trans hcb HG4.out.2)); clear hb hx hs9 hk ho9))
    exact Agg.post_row rfl rfl HF.out nd_under rfl (nd_info _) rfl (by rw [HRES.out]; exact ⟨_, rfl, (OwnS.mk HUF.out (Agg.Own.nil _ _ _) rfl (by simpa [svN, ownB, Value.ownBlock] using ownB_nodup ub.1) : OwnS w.heap.size wf ub.1 b svN.1 [] [] []).node, HCF.out, HXF.out⟩)
end Go.Proofs.YtfiadgdinhmgbaaGreatDoor
/-! What the document reads is what is put. No program in sight. -/
namespace Go.Tr
open Go.Proofs.YtfiadgdinhmgbaaGreatDoor Go.Agg
theorem encN_one (n : Nat) : 1 ≤ (encN n).length := List.length_pos_iff.2 (encN_ne n)
theorem rnL_puts {g : S → T × S} (hg : ∀ s t r, g s = (t, some r) → s = some (packB t ++ r) ∧ msz t ≤ 2 * (packB t).length) :
  ∀ (c : Nat) (s : S) (l : List K) (r : List UInt8), rnL g c s = (l, some r) → l.length = c ∧ s = some (packL l ++ r) ∧ mszL l ≤ 2 * (packL l).length
 | 0, s, l, r, h => by
  simp only [rnL, Prod.mk.injEq] at h
  obtain ⟨rfl, rfl⟩ := h
  exact ⟨rfl, rfl, by simp [mszL, packL]⟩
 | c + 1, s, l, r, h => by
  unfold rnL at h
  split at h
  ·cases h
  ·obtain ⟨nm, s1, q1⟩ : ∃ a b, sText 24 s = (a, b) := ⟨_, _, rfl⟩
   obtain ⟨t, s2, q2⟩ : ∃ a b, g s1 = (a, b) := ⟨_, _, rfl⟩
   obtain ⟨m, s3, q3⟩ : ∃ a b, rnL g c s2 = (a, b) := ⟨_, _, rfl⟩
   simp only [q1, q2, q3, Prod.mk.injEq] at h
   obtain ⟨rfl, rfl⟩ := h
   obtain ⟨h1, h2, h3⟩ := rnL_puts hg c s2 m r q3
   subst h2
   obtain ⟨h4, h5⟩ := hg _ _ _ q2
   subst h4
   have h6 := (sText_some q1).1
   refine ⟨by rw [List.length_cons, h1], by rw [h6]; simp [packL], ?_⟩
   have e1 := encN_one nm.length
   simp only [mszL, packL, encT, List.length_append]
   omega
theorem rn_puts : ∀ (d : Nat) (s : S) (t : T) (r : List UInt8), rn d s = (t, some r) → s = some (packB t ++ r) ∧ msz t ≤ 2 * (packB t).length
 | 0, s, t, r, h => by simp [rn] at h
 | d + 1, s, t, r, h => by
  obtain ⟨k, s1, q1⟩ : ∃ a b, sNum 4 s = (a, b) := ⟨_, _, rfl⟩
  rw [rn, q1] at h
  dsimp only at h
  split at h
  ·cases h
  ·next hn =>
   obtain ⟨y, rfl⟩ : ∃ y, s1 = some y := by cases s1 with | none => exact absurd rfl hn | some y => exact ⟨y, rfl⟩
   have hs := (sNum_some q1).1
   have e1 := encN_one k
   split at h
   ·next h4 =>
    subst h4
    obtain ⟨c, s2, q2⟩ : ∃ a b, sNum 200 (some y) = (a, b) := ⟨_, _, rfl⟩
    rw [q2] at h
    dsimp only at h
    obtain ⟨l, s3, q3⟩ : ∃ a b, rnL (rn d) c s2 = (a, b) := ⟨_, _, rfl⟩
    rw [q3] at h
    simp only [Prod.mk.injEq] at h
    obtain ⟨rfl, rfl⟩ := h
    obtain ⟨h1, h2, h3⟩ := rnL_puts (rn_puts d) c s2 l r q3
    subst h2
    have hy := (sNum_some q2).1
    injection hy with hy
    subst h1
    refine ⟨by rw [hs, hy]; simp [packB], ?_⟩
    have e2 := encN_one l.length
    simp only [msz, packB, if_true, List.length_append, List.length_nil]
    omega
   ·next h4 =>
    obtain ⟨b, s2, q2⟩ : ∃ a b, sText 2048 (some y) = (a, b) := ⟨_, _, rfl⟩
    rw [q2] at h
    simp only [Prod.mk.injEq] at h
    obtain ⟨rfl, rfl⟩ := h
    have hy := (sText_some q2).1
    injection hy with hy
    have hk : ¬ ((k : Nat) : Int) = 4 := by omega
    refine ⟨by rw [hs, hy]; simp [packB, hk], ?_⟩
    have e2 := encN_one b.length
    simp only [msz, mszL, packB, if_neg hk, encT, List.length_append]
    omega
theorem open9_bad {b : List UInt8} (hl : b.length ≤ 4096) (h : (rn 8 (some b)).2 = none ∨ right (rn 8 (some b)).1 = false ∨ packB (rn 8 (some b)).1 ≠ b) : opE b = 4 ∧ opT b = zT := by
 have ho : openT b = none := by
  rw [rn_open, if_neg]
  rintro ⟨h1, h2, h3⟩
  rcases h with h | h | h
  ·exact h1 h
  ·rw [h2] at h; cases h
  ·exact h h3
 have e : opE b = 4 := by rw [opE, if_pos hl, ho]; rfl
 exact ⟨e, opT_not (by omega)⟩
theorem open9_good {b : List UInt8} (hl : b.length ≤ 4096) {t : T} {r : List UInt8} (h : rn 8 (some b) = (t, some r)) (hr : right t = true) (hp : packB t = b) : opE b = 0 ∧ opT b = t :=
 opE_of hl (by rw [rn_open, h, if_pos ⟨by simp, hr, hp⟩])
theorem open9_long {b : List UInt8} (hl : ¬ b.length ≤ 4096) : opE b = 3 ∧ opT b = zT := by
 have e : opE b = 3 := by rw [opE, if_neg hl]
 exact ⟨e, opT_not (by omega)⟩
end Go.Tr
/-! spenceref09.text, Bytes. -/
namespace Go.Tr
open Go.Proofs.YtfiadgdinhmgbaaGreatDoor Go.Agg
mutual
def okW : T → Bool
 | .mk k b l => decide (0 ≤ k ∧ k ≤ 4) && (decide (k ≠ 4) || (decide (b = []) && decide (l.length ≤ 200) && okWL l))
def okWL : List K → Bool
 | [] => true
 | (_, t) :: l => okW t && okWL l
end
theorem kind_ok {k : Int} {b : List UInt8} {l : List K} (h : okW (.mk k b l) = true) : ∃ n : Nat, k = (n : Int) ∧ n ≤ 4 := by
 simp only [okW, Bool.and_eq_true, decide_eq_true_eq] at h
 exact ⟨k.toNat, by omega, by omega⟩
theorem okW_dir {b : List UInt8} {l : List K} (h : okW (.mk 4 b l) = true) : b = [] ∧ l.length ≤ 200 ∧ okWL l = true := by
 simp [okW] at h
 exact ⟨h.1.1, h.1.2, h.2⟩
theorem okWL_mem {x : K} : ∀ {l : List K}, okWL l = true → x ∈ l → okW x.2 = true
 | (n, t) :: l, h, hx => by
  simp only [okWL, Bool.and_eq_true] at h
  rcases List.mem_cons.1 hx with rfl | hx
  ·exact h.1
  ·exact okWL_mem h.2 hx
mutual
theorem okW_of_ok : ∀ {t : T}, ok t = true → okW t = true
 | .mk k b l, h => by
  have hkl := okWL_of_ok (l := l) (kids_ok h)
  have ha : alone (.mk k b l) = true := by simp only [ok, Bool.and_eq_true] at h; exact h.1
  rcases alone_cases ha with ⟨rfl, hb, h2, _⟩ | ⟨h0, h1, h3, _⟩
  ·simp [okW, hb, h2, hkl]
  ·simp only [okW, Bool.and_eq_true, decide_eq_true_eq, Bool.or_eq_true]
   exact ⟨by omega, .inl (by omega)⟩
theorem okWL_of_ok : ∀ {l : List K}, okL l = true → okWL l = true
 | [], _ => rfl
 | (n, t) :: l, h => by
  simp only [okL, Bool.and_eq_true] at h
  simp only [okWL, Bool.and_eq_true]
  exact ⟨okW_of_ok h.1, okWL_of_ok h.2⟩
end
theorem packL_drop {l : List K} {q : Nat} {z : K} (h : l[q]? = some z) : packL (l.drop q) = encT z.1 ++ (packB z.2 ++ packL (l.drop (q + 1))) := by
 obtain ⟨hlt, he⟩ := List.getElem?_eq_some_iff.1 h
 rw [List.drop_eq_getElem_cons hlt, he]
 obtain ⟨n, t⟩ := z
 rfl
end Go.Tr
namespace Go.Proofs.YtfiadgdinhmgbaaGreatDoor
open Go.RowKit Pl Go.Agg Go.Tr
set_option maxRecDepth 100000 in
set_option maxHeartbeats 8000000 in
theorem rtext_any (v : Value) (b : List UInt8) (hb : b.length ≤ 16777216) (w : World) (hv : BytesAt w v b) :
  Calls Tryz.prog 9 #[v] w fun e w' => ∃ v', e = .returned v' ∧ Agg.Own EB w.heap.size w' v' (encT b) ∧ Below w.heap.size w w' := by
 have hlv := fun W => bytes_len hv W
 have HV := Lib.hid hv
 clear hv
 go_enter Tryz.func9, Tryz.ntmps9
 go_wp2_with fail
 refine (refNumber_any b.length w (by omega)).mono ?_
 rintro e w1 ⟨v1, rfl, ho, hx⟩
 have h7 : (encN b.length).length ≤ 7 := encN_len' 7 _ (by omega) (by omega)
 have HO := Lib.hid ho
 have HX := Lib.hid hx
 have HV1 := Lib.hid (HV.out.below hx)
 clear ho hx
 go_wp2_with (first | (refine Agg.wpList_appendS rfl _ _ rfl v rfl rfl b HO.out HV1.out (by omega) (by decide) HX.out.size ?_; intro v2 w2 ho hpu _; have HO2 := Lib.hid ho; have HX2 := Lib.hid (HX.out.trans (hpu.below _ (Nat.le_refl _) HX.out.size)); clear ho hpu))
 go_ret
 exact ⟨_, rfl, HO2.out, HX2.out⟩
set_option maxRecDepth 100000 in
set_option maxHeartbeats 8000000 in
theorem rbytes_w : ∀ (N : Nat) (t : T) (_ : count t ≤ N) (_ : okW t = true) (_ : (packB t).length ≤ 1048576) (v : Value) (w : World) (_ : NodeAt w v t),
  Calls Tryz.prog 4 #[v] w fun e w' => ∃ v', e = .returned v' ∧ Agg.Own EB w.heap.size w' v' (packB t) ∧ Below w.heap.size w w' := by
 intro N
 induction N with
 | zero => intro t h; have := count_pos t; omega
 | succ N ih =>
 intro t hc hok hp v w hv
 obtain ⟨x, rfl, hx⟩ := hv
 obtain ⟨k, b, l⟩ := t
 obtain ⟨kx, vb, vk⟩ := x
 obtain ⟨hk, hby, ks, hsl, hkv⟩ := hx
 have hk : kx = k := hk
 subst hk
 obtain ⟨kn, rfl, hkn⟩ := kind_ok hok
 have hkl := hkv.len
 have hlk := fun W => kds_len hsl W
 rw [hkl] at hlk
 have HC := Lib.hid (fun x (hx : x ∈ l) => show count x.2 ≤ N by have h1 := countL_mem hx; simp only [count] at hc; omega)
 have HAL := Lib.hid hok
 have HIH := Lib.hid ih
 have HKV := Lib.hid hkv
 have HSL := Lib.hid hsl
 have HBY := Lib.hid hby
 have HP := Lib.hid hp
 have h2 : (encN kn).length ≤ 7 := encN_len' 7 _ (by omega) (by omega)
 clear ih hc hby hsl hkv hkl hok hp
 go_enter Tryz.func4, Tryz.ntmps4
 go_wp2_with (first | (refine wpList_box rfl 26 _ rfl (ndC (_, vb, vk)) rfl ?_; intro g1 w1 hb hx hg; have HB1 := Lib.hid hb; have HX1 := Lib.hid hx; have HG1 := Lib.hid (show w.heap.size ≤ g1 from hg); clear hb hx hg) | (with_reducible refine wpList_loadL (NdL.of_blk HB1.out).kind rfl _ rfl rfl ?_))
 refine (refNumber_any kn w1 (by omega)).mono ?_
 rintro e w2 ⟨v2, rfl, ho, hx⟩
 have HO2 := Lib.hid (ho.lower HX1.out.size)
 have HB2 := Lib.hid (HB1.out.below hx)
 have HX2 := Lib.hid (belowThen HX1.out (Nat.le_refl _) hx)
 clear ho hx
 by_cases h4 : kn = 4
 ·subst h4
  obtain ⟨rfl, hl200, hkids⟩ := okW_dir HAL.out
  have HOK := Lib.hid (fun x (hx : x ∈ l) => show okW x.2 = true from okWL_mem hkids hx)
  clear hkids
  have h3 : (encN l.length).length ≤ 7 := encN_len' 7 _ (by omega) (by omega)
  go_wp2_with (first | (with_reducible refine wpList_loadL (NdL.of_blk HB2.out).kind rfl _ rfl rfl ?_) | (with_reducible refine wpList_loadL (NdL.of_blk HB2.out).kids rfl _ rfl rfl ?_))
  refine (refNumber_any l.length w2 (by omega)).mono ?_
  rintro e w3 ⟨v3, rfl, ho, hx⟩
  have HN3 := Lib.hid ho.slice
  have HO3 := Lib.hid (HO2.out.below hx)
  have HB3 := Lib.hid (HB2.out.below hx)
  have HX3 := Lib.hid (belowThen HX2.out (Nat.le_refl _) hx)
  clear ho hx
  go_wp2_with (first | (refine Agg.wpList_appendS rfl _ _ rfl v3 rfl rfl (encN l.length) HO3.out HN3.out (by omega) (by decide) HX3.out.size ?_; intro v4 w4 ho hpu _; have HO4 := Lib.hid ho; have HB4 := Lib.hid (show Blk w4 g1 26 (ndC (_, vb, vk)) from hpu.blk g1 _ _ _ (show 26 ≠ 5 by decide) HB3.out); have HX4 := Lib.hid (HX3.out.trans (hpu.below _ (Nat.le_refl _) HX3.out.size)); clear ho hpu))
  go_loopw [3, 4] (fun a i wr => ∃ (q : Nat) (bs : List UInt8), q ≤ l.length ∧ i = .int .i64 (q : Int) ∧ Agg.Own EB w.heap.size wr a bs ∧ bs ++ packL (l.drop q) = packB (.mk 4 [] l) ∧ Blk wr g1 26 (ndC ((4 : Int), vb, vk)) ∧ Below w.heap.size w wr) (fun _ i _ => l.length - (intOf i).toNat)
  case atStart => exact ⟨0, _, by omega, rfl, HO4.out, by simp [packB], HB4.out, HX4.out⟩
  case round =>
   obtain ⟨w5, rfl⟩ : ∃ y : World, y = wr := ⟨_, rfl⟩
   obtain ⟨q, bs, hq, rfl, ho, heq, hb, hx⟩ := hrel
   have HO5 := Lib.hid ho
   have HEQ := Lib.hid heq
   have HB5 := Lib.hid hb
   have HX5 := Lib.hid hx
   clear ho heq hb hx
   by_cases hlt : q < l.length
   ·have hlq : decide ((q : Int) < (l.length : Int)) = true := by simp; omega
    obtain ⟨z, hzk⟩ : ∃ z, l[q]? = some z := ⟨_, List.getElem?_eq_getElem hlt⟩
    obtain ⟨y, hyk, hyz, hyn⟩ := HKV.out.at_ q z hzk
    obtain ⟨p, hadr, hle9⟩ := kid_at (HSL.out.below HX5.out) q y hyk
    have HNM := Lib.hid hle9.name
    have hin := List.mem_of_getElem? hzk
    have hst := HEQ.out
    rw [packL_drop hzk] at hst
    have hlen := congrArg List.length hst
    have hpl : (packB (.mk 4 [] l)).length ≤ 1048576 := HP.out
    simp only [List.length_append] at hlen
    have hyl : y.1.length ≤ (encT z.1).length := by rw [hyz, encT, List.length_append]; omega
    have HST := Lib.hid hst
    have hsum : bs.length + (encT z.1).length + (packB z.2).length ≤ 1048576 := by omega
    have HYN := Lib.hid hyn
    have HYK := Lib.hid hyk
    have HYZ := Lib.hid hyz
    have HCZ := Lib.hid (HC.out z hin)
    have HOZ := Lib.hid (HOK.out z hin)
    clear hzk hyk hyz hyn hle9 hin hst hlen hpl
    go_wp2_with (first | (with_reducible refine wpList_loadL (NdL.of_blk HB5.out).kids rfl _ rfl rfl ?_) | (with_reducible refine wpList_loadL HNM.out rfl _ rfl rfl ?_) | (refine wpList_toBytes y.1 _ rfl rfl rfl ?_; intro vn w6 hnb hx; have HN6 := Lib.hid hnb.slice; have HO6 := Lib.hid (HO5.out.below hx); have HB6 := Lib.hid (HB5.out.below hx); have HX6 := Lib.hid (belowThen HX5.out (Nat.le_refl _) hx); clear hnb hx))
    refine (rtext_any vn y.1 (by omega) w6 HN6.out).mono ?_
    rintro e w7 ⟨v7, rfl, ho, hx⟩
    rw [HYZ.out] at ho
    have HT7 := Lib.hid ho.slice
    have HO7 := Lib.hid (HO6.out.below hx)
    have HB7 := Lib.hid (HB6.out.below hx)
    have HX7 := Lib.hid (belowThen HX6.out (Nat.le_refl _) hx)
    clear ho hx hadr
    go_wp2_with (first | (refine Agg.wpList_appendS rfl _ _ rfl v7 rfl rfl (encT z.1) HO7.out HT7.out (by omega) (by decide) HX7.out.size ?_; intro v8 w8 ho hpu _; have HO8 := Lib.hid ho; have HB8 := Lib.hid (show Blk w8 g1 26 (ndC (_, vb, vk)) from hpu.blk g1 _ _ _ (show 26 ≠ 5 by decide) HB7.out); have HX8 := Lib.hid (HX7.out.trans (hpu.below _ (Nat.le_refl _) HX7.out.size)); clear ho hpu) | (with_reducible refine wpList_loadL (NdL.of_blk HB8.out).kids rfl _ rfl rfl ?_) | (obtain ⟨p2, hadr2, hle2⟩ := kid_at (HSL.out.below HX8.out) q y HYK.out; have HND := Lib.hid hle2.node.all; clear hle2; refine Agg.wpList_valw rfl (exec_idx rfl rfl rfl (hadr2 _)) ?_) | (with_reducible refine wpList_loadL HND.out rfl _ rfl rfl ?_))
    refine (HIH.out z.2 HCZ.out HOZ.out (by omega) (.agg (ndC y.2)) w8 ⟨y.2, rfl, NodeV.below HX8.out _ _ HYN.out⟩).mono ?_
    rintro e w9 ⟨v9, rfl, ho, hx⟩
    have HT9 := Lib.hid ho.slice
    have HO9 := Lib.hid (HO8.out.below hx)
    have HB9 := Lib.hid (HB8.out.below hx)
    have HX9 := Lib.hid (belowThen HX8.out (Nat.le_refl _) hx)
    clear ho hx
    go_wp2_with (first | (refine Agg.wpList_appendS rfl _ _ rfl v9 rfl rfl (packB z.2) HO9.out HT9.out (by simp only [List.length_append]; omega) (by decide) HX9.out.size ?_; intro v10 w10 ho hpu _; have HO10 := Lib.hid ho; have HB10 := Lib.hid (show Blk w10 g1 26 (ndC (_, vb, vk)) from hpu.blk g1 _ _ _ (show 26 ≠ 5 by decide) HB9.out); have HX10 := Lib.hid (HX9.out.trans (hpu.below _ (Nat.le_refl _) HX9.out.size)); clear ho hpu))
    go_roundw
    case rel => exact ⟨q + 1, _, by omega, by go_num, HO10.out, by rw [← HST.out]; simp, HB10.out, HX10.out⟩
    case measure => simp [intOf]; omega
   ·obtain rfl : q = l.length := by omega
    have hd9 : decide (((l.length : Nat) : Int) < ((l.length : Nat) : Int)) = false := by simp
    have HR := Lib.hid (show bs = packB (.mk 4 [] l) by have := HEQ.out; rwa [List.drop_length, packL, List.append_nil] at this)
    go_wp2_with (first | (with_reducible refine wpList_loadL (NdL.of_blk HB5.out).kids rfl _ rfl rfl ?_))
    go_ret
    exact ⟨_, rfl, HR.out ▸ HO5.out, HX5.out⟩
 ·have hk1 : decide ((kn : Int) = 4) = false := decide_eq_false (by omega)
  have hk2 : ((kn : Int) == 4) = false := by rw [beq_eq_false_iff_ne]; omega
  have hk3 : decide (¬ (kn : Int) = 4) = true := decide_eq_true (by omega)
  have HPB := Lib.hid (show packB (.mk (kn : Int) b l) = encN kn ++ encT b by rw [packB, if_neg (by omega)]; rfl)
  have hbl : b.length ≤ 1048576 := by have h1 := HP.out; rw [HPB.out] at h1; simp only [encT, List.length_append] at h1; omega
  go_wp2_with (first | (with_reducible refine wpList_loadL (NdL.of_blk HB2.out).kind rfl _ rfl rfl ?_) | (with_reducible refine wpList_loadL (NdL.of_blk HB2.out).bytes rfl _ rfl rfl ?_))
  refine (rtext_any _ b (by omega) w2 (HBY.out.below HX2.out)).mono ?_
  rintro e w3 ⟨v3, rfl, ho, hx⟩
  have HN3 := Lib.hid ho.slice
  have HO3 := Lib.hid (HO2.out.below hx)
  have HB3 := Lib.hid (HB2.out.below hx)
  have HX3 := Lib.hid (belowThen HX2.out (Nat.le_refl _) hx)
  have h3 : (encT b).length ≤ 1048600 := by have := encN_len' 7 b.length (by omega) (by omega); rw [encT, List.length_append]; omega
  clear ho hx
  go_wp2_with (first | (refine Agg.wpList_appendS rfl _ _ rfl v3 rfl rfl (encT b) HO3.out HN3.out (by omega) (by decide) HX3.out.size ?_; intro v4 w4 ho hpu _; have HO4 := Lib.hid ho; have HB4 := Lib.hid (show Blk w4 g1 26 (ndC (_, vb, vk)) from hpu.blk g1 _ _ _ (show 26 ≠ 5 by decide) HB3.out); have HX4 := Lib.hid (HX3.out.trans (hpu.below _ (Nat.le_refl _) HX3.out.size)); clear ho hpu))
  go_ret
  exact ⟨_, rfl, HPB.out ▸ HO4.out, HX4.out⟩
theorem rbytes_any (N : Nat) (t : T) (hc : count t ≤ N) (ho : ok t = true) (hp : (packB t).length ≤ 1048576) (v : Value) (w : World) (hv : NodeAt w v t) :
  Calls Tryz.prog 4 #[v] w fun e w' => ∃ v', e = .returned v' ∧ Agg.Own EB w.heap.size w' v' (packB t) ∧ Below w.heap.size w w' := rbytes_w N t hc (okW_of_ok ho) hp v w hv
end Go.Proofs.YtfiadgdinhmgbaaGreatDoor
/-! copy of bytes into the middle of a block; of one-cell rows in general. -/
namespace Go.Agg
open Go.RowKit
theorem toArray_size' (l : List Value) : l.toArray.size = l.length := by simp
theorem run_copyMid {P : Program} {w : World} (dT sT ty elem : TypeId) (g o n dc : Nat) (a : Addr) (m sc : Nat) (cur : List Value) (t : TypeId) (cs : List Value)
  (hu : P.underlying dT = some (.slice elem)) (hs : (P.info? elem).map (·.size) = some 1) (hb : Blk w g t cur.toArray) (hn : cs.length = Nat.min m n) (hsrc : ∀ j v, cs[j]? = some v → w.cell? (a.add j) = some v)
  (hfit : o + cs.length ≤ cur.length) (h1 : ∀ v ∈ cs, v.oneCell' = true) :
  ∃ w', (Builtin.copy_ #[dT, sT] ty #[.slice (some ⟨g, o, none⟩) n dc, .slice (some a) m sc]).run P w = .ok (goInt cs.length) w' ∧ Blk w' g t (cur.take o ++ cs ++ cur.drop (o + cs.length)).toArray ∧ Only (· = g) w w' ∧ w'.heap.size = w.heap.size := by
 have hrun := run_copy_row (P := P) w dT sT ty elem g o n dc a m sc cur.toArray t cs hu hs hb hn hsrc (by simpa using hfit) h1
 refine ⟨_, hrun, ?_, ⟨rfl, rfl, rfl, by simp [World.setRow], fun k _ hk => setRow_other w g k _ hk⟩, by simp [World.setRow]⟩
 exact setRow_heap w g cur.toArray _ t (0, 0) hb
end Go.Agg
namespace Go.Proofs.YtfiadgdinhmgbaaGreatDoor
open Go.RowKit Pl Go.Agg
theorem run_copyAt {w : World} {g o n dc : Nat} {t : TypeId} {cur : List Value} {u : Value} {l : List UInt8} (ty : TypeId) (hu : SliceOf EB w u l) (hb : Blk w g t cur.toArray) (ho : o + n ≤ cur.length) :
  ∃ w', (Builtin.copy_ #[23, 23] ty #[.slice (some ⟨g, o, none⟩) n dc, u]).run Tryz.prog w = .ok (.int .i64 ((min l.length n : Nat) : Int)) w' ∧ Blk w' g t (cur.take o ++ Lib.byteCells (l.take n) ++ cur.drop (o + min l.length n)).toArray ∧ Only (· = g) w w' ∧ w'.heap.size = w.heap.size := by
 have hund : Tryz.prog.underlying 23 = some (.slice 5) := by kernel_rfl
 have hsz : (Tryz.prog.info? 5).map (·.size) = some 1 := by kernel_rfl
 have hc : (Lib.byteCells (l.take n)).length = min l.length n := by simp [Lib.byteCells, Nat.min_comm]
 by_cases h0 : l.length = 0
 ·obtain rfl : l = [] := List.length_eq_zero_iff.1 h0
  obtain ⟨p, c, hf⟩ := hu.form
  subst hf
  refine ⟨w, ?_, ?_, Only.refl _ _, rfl⟩
  ·have := run_copy_none (P := Tryz.prog) w 23 23 ty 5 (some ⟨g, o, none⟩) p n dc 0 c hund hsz (by simp)
   simpa [goInt] using this
  ·simpa [Lib.byteCells] using hb
 ·rcases hu with ⟨_, _, _, h1⟩ | ⟨q, c, rfl, hq, hcell⟩
  ·exact absurd (by simp [h1]) h0
  ·rw [flat_bytes] at hcell
   obtain ⟨w', h1, h2, h3, h4⟩ := run_copyMid (P := Tryz.prog) 23 23 ty 5 g o n dc q l.length c cur t (Lib.byteCells (l.take n)) hund hsz hb (by rw [hc])
    (fun j v hj => hcell j v (by
     simp only [Lib.byteCells, List.getElem?_map, List.getElem?_take] at hj ⊢
     split at hj
     ·exact hj
     ·simp at hj)) (by rw [hc]; omega)
    (fun v hv => by
     simp only [Lib.byteCells, List.mem_map] at hv
     obtain ⟨b, _, rfl⟩ := hv
     rfl)
   rw [hc] at h1 h2
   exact ⟨w', h1, h2, h3, h4⟩
end Go.Proofs.YtfiadgdinhmgbaaGreatDoor
