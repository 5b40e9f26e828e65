/- spencelaw09.PackOpens. -/
import Derived.Test.YtfiadgdinhmgbaaGreatDoorEAU
import Derived.Test.YtfiadgdinhmgbaaGreatDoorEBF
import Derived.Test.YtfiadgdinhmgbaaGreatDoorEBG
import Derived.Test.YtfiadgdinhmgbaaGreatDoorEBH
import Derived.Test.YtfiadgdinhmgbaaGreatDoorEAE
namespace Go.Proofs.YtfiadgdinhmgbaaGreatDoor
open Go.RowKit Pl Go.Agg Go.Tr
theorem lentB_slice {M : List UInt8} {base : Nat} {w : World} {u : Value} {l : List UInt8} (h : Lent EB M base w u l) : BytesAt w u l := by
 obtain ⟨g, cap, rfl, _, _, hs⟩ := h
 have h2 := sliceOf_taken (l := l ++ M) (p := some ⟨g, 0, none⟩) (c := cap) (by rw [List.length_append]; exact hs) l.length (by simp)
 rwa [List.take_left] at h2
theorem lentB_below {M : List UInt8} {base : Nat} {w w' : World} {u : Value} {l : List UInt8} (h : Lent EB M base w u l) (hb : Below w.heap.size w w') : Lent EB M base w' u l := by
 obtain ⟨g, cap, rfl, h1, h2, hs⟩ := h
 exact ⟨g, cap, rfl, h1, h2, SliceOf.below hs hb⟩
theorem atB_len {b s : List UInt8} (h : atE b s = 0) : (atB b s).length ≤ 1048576 := by
 have hb : opE b = 0 := by
  rw [atE] at h
  split at h
  ·assumption
  ·next hn => exact absurd h hn
 have hf : fdE (opT b) s = 0 := by rwa [atE, if_pos hb] at h
 obtain ⟨hrt, ws, hws, hfw⟩ := fdE_zero hf
 rw [atB, if_pos h]
 exact Nat.le_trans (right_pack (find_right hrt hfw)) (by omega)
set_option maxRecDepth 100000 in
set_option maxHeartbeats 16000000 in
theorem packOpens_any (v : Value) (b s : List UInt8) (hb : b.length ≤ 1048576) (hs : s.length ≤ 1048576) (w : World) (hv : BytesAt w v b) (hcap : ∀ p n c, v = .slice p n c → n ≤ c) :
  Calls Tryz.prog 5 #[v, .string ⟨s.toArray⟩] w fun e w' => e = .returned (.bool true) ∧ Below w.heap.size w w' := by
 have hlv := fun W => bytes_len hv W
 have hsz := Agg.bytes_size s
 have hls : ∀ w, (Builtin.len_ #[9] 3 #[.string ⟨s.toArray⟩]).run Tryz.prog w = .ok (.int .i64 (s.length : Int)) w := fun w => by rw [run_len_string w _ 3 _ Tryz.underlying9, hsz]; rfl
 have HV := Lib.hid hv
 clear hv hsz
 go_enter Tryz.func5, Tryz.ntmps5
 by_cases h6 : 6000 < b.length + s.length
 ·have hd : decide (6000 < (b.length : Int) + (s.length : Int)) = true := by simp; omega
  go_wp2_with (first | (refine Agg.wpList_valw rfl (exec_addI (m := b.length) (n := s.length) (by omega) rfl rfl rfl) ?_))
  refine (awake09_any _).mono ?_
  rintro e w1 ⟨rfl, hx⟩
  have HX1 := Lib.hid hx
  clear hx
  go_wp2_with fail
  go_ret
  exact ⟨rfl, HX1.out⟩
 have hd : decide (6000 < (b.length : Int) + (s.length : Int)) = false := by simp; omega
 go_wp2_with (first | (refine Agg.wpList_valw rfl (exec_addI (m := b.length) (n := s.length) (by omega) rfl rfl rfl) ?_))
 refine (lentBytes_any v b (by omega) w HV.out).mono ?_
 rintro e w2 ⟨va, rfl, hx, hla⟩
 have HA2 := Lib.hid hla
 have HB2 := Lib.hid (SliceOf.below HV.out hx)
 have HX2 := Lib.hid hx
 have Y_2 := Lib.hid (Below.refl w2.heap.size w2)
 clear hx hla
 go_wp2_with fail
 refine (open_any va b w2 (by omega) (lentB_slice HA2.out)).mono ?_
 rintro e w3 ⟨x6, rfl, hon, hx⟩
 have Y_3 := Lib.hid (belowThen Y_2.out (Nat.le_refl _) hx)
 have ON_3 := Lib.hid (hon)
 have XM_3 := Lib.hid (show NodeAt _ (.agg (ndC x6)) (opT b) from ⟨x6, rfl, hon.reads⟩)
 clear hx hon Y_2
 go_wp2_with (first | (refine wpList_new rfl rfl rfl 26 6 27 rfl rfl rfl (by decide) (ndC ndZ) (ndC x6) nd_zero (rfl) (nd_info _) (ndC_one _) rfl (by first | (simp; done) | simp [Act.put]) ?_; intro g6 w4 hb hx hg; have Y_4 := Lib.hid (belowThen Y_3.out (Nat.le_refl _) hx); have ON_4 := Lib.hid (ON_3.out.below hx); have XM_4 := Lib.hid (XM_3.out.below hx); have G6_4 := Lib.hid (hb); clear hb hx hg Y_3 ON_3 XM_3))
 refine (open9_any v b _ (by omega) (SliceOf.below HB2.out Y_4.out) hcap).mono ?_
 rintro e w5 ⟨x8, rfl, hon, hx⟩
 have Y_5 := Lib.hid (belowThen Y_4.out (Nat.le_refl _) hx)
 have ON_5 := Lib.hid (ON_4.out.below hx)
 have XM_5 := Lib.hid (XM_4.out.below hx)
 have G6_5 := Lib.hid (G6_4.out.below hx)
 have X9_5 := Lib.hid (show NodeAt _ (.agg (ndC x8)) (opT b) from ⟨x8, rfl, hon.reads⟩)
 clear hx hon Y_4 ON_4 XM_4 G6_4
 go_wp2_with (first | (refine wpList_new rfl rfl rfl 26 8 32 rfl rfl rfl (by decide) (ndC ndZ) (ndC x8) nd_zero (rfl) (nd_info _) (ndC_one _) rfl (by first | (simp; done) | simp [Act.put]) ?_; intro g8 w6 hb hx hg; have Y_6 := Lib.hid (belowThen Y_5.out (Nat.le_refl _) hx); have ON_6 := Lib.hid (ON_5.out.below hx); have XM_6 := Lib.hid (XM_5.out.below hx); have G6_6 := Lib.hid (G6_5.out.below hx); have X9_6 := Lib.hid (X9_5.out.below hx); have G8_6 := Lib.hid (hb); clear hb hx hg Y_5 ON_5 XM_5 G6_5 X9_5))
 have HS5 := Lib.hid (show w2.heap.size ≤ w6.heap.size from Y_6.out.size)
 have ON5 := Lib.hid ON_6.out
 have Z_6 := Lib.hid (Below.refl w6.heap.size w6)
 refine (at_any va b s (by omega) (by omega) w6 (SliceOf.below (lentB_slice HA2.out) Y_6.out)).mono ?_
 rintro e w7 ⟨vr, rfl, ho, hx⟩
 have Y_7 := Lib.hid (belowThen Y_6.out (Nat.le_refl _) hx)
 have ON_7 := Lib.hid (ON_6.out.below hx)
 have XM_7 := Lib.hid (XM_6.out.below hx)
 have G6_7 := Lib.hid (G6_6.out.below hx)
 have X9_7 := Lib.hid (X9_6.out.below hx)
 have G8_7 := Lib.hid (G8_6.out.below hx)
 have Z_7 := Lib.hid (belowThen Z_6.out (Nat.le_refl _) hx)
 have RA_7 := Lib.hid (ho)
 clear hx ho Y_6 ON_6 XM_6 G6_6 X9_6 G8_6 Z_6
 go_wp2_with fail
 refine (rat_any v b s (by omega) (by omega) _ (SliceOf.below HB2.out Y_7.out) hcap).mono ?_
 rintro e w8 ⟨vq, rfl, ho, hx⟩
 have Y_8 := Lib.hid (belowThen Y_7.out (Nat.le_refl _) hx)
 have ON_8 := Lib.hid (ON_7.out.below hx)
 have XM_8 := Lib.hid (XM_7.out.below hx)
 have G6_8 := Lib.hid (G6_7.out.below hx)
 have X9_8 := Lib.hid (X9_7.out.below hx)
 have G8_8 := Lib.hid (G8_7.out.below hx)
 have Z_8 := Lib.hid (belowThen Z_7.out (Nat.le_refl _) hx)
 have RA_8 := Lib.hid (RA_7.out.below hx)
 have RQ_8 := Lib.hid (ho.slice)
 clear hx ho Y_7 ON_7 XM_7 G6_7 X9_7 G8_7 Z_7 RA_7
 have hmz : msz (opT b) ≤ 1048576 := by
  by_cases h0 : opE b = 0
  ·have := right_msz (back_open h0).2.1; omega
  ·rw [opT_not h0]; decide +kernel
 have hee : ∀ n : Nat, decide ((n : Int) = (n : Int)) = true := fun n => by simp
 go_wp2_with (first | (with_reducible refine wpList_loadL (NdL.of_blk G6_8.out).all rfl _ rfl rfl ?_) | (with_reducible refine wpList_loadL (NdL.of_blk G8_8.out).all rfl _ rfl rfl ?_))
 refine (sameNode_any (opT b) (opT b) hmz hmz _ _ _ XM_8.out X9_8.out).mono ?_
 rintro e w9 ⟨rfl, hx⟩
 have Y_9 := Lib.hid (belowThen Y_8.out (Nat.le_refl _) hx)
 have ON_9 := Lib.hid (ON_8.out.below hx)
 have XM_9 := Lib.hid (XM_8.out.below hx)
 have G6_9 := Lib.hid (G6_8.out.below hx)
 have X9_9 := Lib.hid (X9_8.out.below hx)
 have G8_9 := Lib.hid (G8_8.out.below hx)
 have Z_9 := Lib.hid (belowThen Z_8.out (Nat.le_refl _) hx)
 have RA_9 := Lib.hid (RA_8.out.below hx)
 have RQ_9 := Lib.hid (SliceOf.below RQ_8.out hx)
 clear hx  Y_8 ON_8 XM_8 G6_8 X9_8 G8_8 Z_8 RA_8 RQ_8
 rw [show same (opT b) (opT b) = true from (same_iff _ _).2 rfl]
 have hab : (atB b s).length ≤ 1048576 := by
  by_cases h0 : atE b s = 0
  ·exact atB_len h0
  ·rw [atB, if_neg h0]; simp
 go_wp2_with fail
 refine (sameBytes_any vr vq _ _ hab hab _ RA_9.out.slice RQ_9.out).mono ?_
 rintro e w10 ⟨rfl, hx⟩
 have Y_10 := Lib.hid (belowThen Y_9.out (Nat.le_refl _) hx)
 have ON_10 := Lib.hid (ON_9.out.below hx)
 have XM_10 := Lib.hid (XM_9.out.below hx)
 have G6_10 := Lib.hid (G6_9.out.below hx)
 have X9_10 := Lib.hid (X9_9.out.below hx)
 have G8_10 := Lib.hid (G8_9.out.below hx)
 have Z_10 := Lib.hid (belowThen Z_9.out (Nat.le_refl _) hx)
 have RA_10 := Lib.hid (RA_9.out.below hx)
 have RQ_10 := Lib.hid (SliceOf.below RQ_9.out hx)
 clear hx  Y_9 ON_9 XM_9 G6_9 X9_9 G8_9 Z_9 RA_9 RQ_9
 rw [decide_eq_true (rfl : atB b s = atB b s)]
 go_wp2_with (first | (with_reducible refine wpList_loadL (NdL.of_blk G6_10.out).all rfl _ rfl rfl ?_))
 obtain ⟨bs, hbs5, hbn⟩ := id ON5.out
 have HRG := Lib.hid (OwnT.range _ _ _ hbs5)
 refine (overNode_all (count (opT b)) (opT b) (Nat.le_refl _) hmz x6 bs w2.heap.size w10 (OwnT.below Z_10.out hbs5) hbn).mono ?_
 rintro e wo ⟨⟨r1, rfl⟩, ho⟩
 have HRO := Lib.hid (own_stays RA_10.out ho (fun k hk e => by have h1 := (own_range RA_10.out k hk).1; have h2 := (HRG.out k e).2; omega))
 have HYO := Lib.hid (Below.trans Y_10.out (ho.below (B := w2.heap.size) Y_10.out.size (fun i hi => (HRG.out i hi).1)))
 clear ho hbs5 hbn
 go_wp2_with fail
 refine (overBytes_any vr (atB b s) w6.heap.size hab wo HRO.out).mono ?_
 rintro e wp ⟨⟨r2, rfl⟩, ho⟩
 have HYP := Lib.hid (HYO.out.trans (ho.below (B := w2.heap.size) HYO.out.size (fun i hi => Nat.le_trans HS5.out (own_range HRO.out i (mem_ownB.2 hi)).1)))
 clear ho
 go_wp2_with fail
 refine (keptBytes_any va v b (by omega) w.heap.size wp (lentB_below HA2.out HYP.out) (SliceOf.below HB2.out HYP.out)).mono ?_
 rintro e wq ⟨rfl, hx⟩
 have HYQ := Lib.hid (belowThen HYP.out (Nat.le_refl _) hx)
 clear hx
 go_wp2_with fail
 refine (awake09_any wq).mono ?_
 rintro e wz ⟨rfl, hx⟩
 have HYZ := Lib.hid (belowThen HYQ.out (Nat.le_refl _) hx)
 clear hx
 go_wp2_with fail
 go_ret
 exact ⟨rfl, belowThen HX2.out (Nat.le_refl _) HYZ.out⟩
end Go.Proofs.YtfiadgdinhmgbaaGreatDoor
