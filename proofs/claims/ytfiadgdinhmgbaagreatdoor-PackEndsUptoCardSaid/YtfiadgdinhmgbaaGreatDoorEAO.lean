/- A cursor, where other blocks are written. (Several texts in one.) -/
import Derived.Test.YtfiadgdinhmgbaaGreatDoorEAN
import Derived.Test.YtfiadgdinhmgbaaGreatDoorEAJ
import Derived.Test.YtfiadgdinhmgbaaGreatDoorEAK
import Derived.Test.YtfiadgdinhmgbaaGreatDoorEAM
/-! How long an archive is at most (chapter 9). No program in sight. -/
namespace Go.Tr
open Go.Proofs.YtfiadgdinhmgbaaGreatDoor Go.Agg
theorem isName_len {n : List UInt8} (h : Pl.isName n = true) : n.length ≤ 24 := name_le h
mutual
theorem packB_len : ∀ (t : T), ok t = true → (packB t).length + 40 ≤ 2150 * count t
 | .mk k b l, h => by
  have ha : alone (.mk k b l) = true := by simp only [ok, Bool.and_eq_true] at h; exact h.1
  have hk := kids_ok h
  rw [show (T.mk k b l).kids = l from rfl] at hk
  rcases alone_cases ha with ⟨rfl, rfl, h200, hnm⟩ | ⟨h4, h1, h3, h2048, rfl⟩
  ·have ih := packL_len l none hk hnm
   have e1 := encN_len (n := 4) (by omega)
   have e2 := encN_len (n := l.length) (by omega)
   simp only [packB, if_true, List.length_append, count]
   omega
  ·have e1 := encN_len (n := k.toNat) (by omega)
   have e2 := encN_len (n := b.length) (by omega)
   simp only [packB, if_neg h4, encT, List.length_append, count, countL]
   omega
theorem packL_len : ∀ (l : List K) (b : Option (List UInt8)), okL l = true → named b l = true → (packL l).length ≤ 2150 * countL l
 | [], _, _, _ => by simp [packL]
 | (n, t) :: l, b, h, hn => by
  simp only [okL, Bool.and_eq_true] at h
  simp only [named, Bool.and_eq_true] at hn
  have h1 := packB_len t h.1
  have h2 := packL_len l (some n) h.2 hn.2
  have h3 := name_le hn.1.1
  have e1 := encN_len (n := n.length) (by omega)
  simp only [packL, encT, List.length_append, countL]
  omega
end
theorem right_pack {t : T} (h : right t = true) : (packB t).length ≤ 430000 := by
 simp only [right, lookB, Bool.and_eq_true, decide_eq_true_eq] at h
 have := packB_len t h.1.1
 omega
theorem packL_take {l : List K} {k : Nat} {x : K} (h : l[k]? = some x) : packL (l.take (k + 1)) = packL (l.take k) ++ (encT x.1 ++ packB x.2) := by
 rw [take_succ' h]
 generalize l.take k = m
 induction m with
 | nil => obtain ⟨n, t⟩ := x; simp [packL]
 | cons y m ih => obtain ⟨n, t⟩ := y; simp only [List.cons_append, packL, ih, List.append_assoc]
end Go.Tr
/-! tree.own: a right tree in memory of its own. -/
namespace Go.Proofs.YtfiadgdinhmgbaaGreatDoor
open Go.RowKit Pl Go.Agg Go.Tr
set_option maxRecDepth 100000 in
set_option maxHeartbeats 16000000 in
theorem own_any : ∀ (N : Nat) (t : T) (_ : count t ≤ N) (_ : ok t = true) (vn : Value) (w : World) (_ : NodeAt w vn t),
  Calls Tryz.prog 54 #[vn] w fun e w' => ∃ x', e = .returned (.agg (ndC x')) ∧ OwnN w.heap.size w' x' t ∧ Below w.heap.size w w' := by
 intro N
 induction N with
 | zero => intro t h; have := count_pos t; omega
 | succ N ih =>
 intro t hc hok vn w hv
 obtain ⟨x, rfl, hx⟩ := hv
 obtain ⟨k, bs, l⟩ := t
 obtain ⟨hk, hby, ks, hsl, hkv⟩ := hx
 obtain ⟨xk, xb, xs⟩ := x
 obtain rfl : xk = k := hk
 have hkl := hkv.len
 have hlk := fun W => kds_len hsl W
 rw [hkl] at hlk
 have ha : alone (.mk xk bs l) = true := by simp only [ok, Bool.and_eq_true] at hok; exact hok.1
 have hkok := kids_ok hok
 rw [show (T.mk xk bs l).kids = l from rfl] at hkok
 have hll : l.length ≤ 200 ∧ bs.length ≤ 2048 := by
  rcases alone_cases ha with ⟨_, rfl, h200, _⟩ | ⟨_, _, _, h, rfl⟩
  ·exact ⟨h200, by simp⟩
  ·exact ⟨by simp, h⟩
 have hll1 := hll.1
 have HKV := Lib.hid hkv
 have HSL := Lib.hid hsl
 have HBY := Lib.hid hby
 have HIH := Lib.hid ih
 have HC := Lib.hid hc
 have HKO := Lib.hid hkok
 have HEC := Lib.hid (enters_of Tryz.func45 (by kernel_rfl) rfl : ∀ args w, (callFunc 45 args).run Tryz.prog w = .ok (.enter 45 args) w)
 have HEO := Lib.hid (enters_of Tryz.func54 (by kernel_rfl) rfl : ∀ args w, (callFunc 54 args).run Tryz.prog w = .ok (.enter 54 args) w)
 clear hkv hby hsl ih hc hkok hok ha
 go_enter Tryz.func54, Tryz.ntmps54
 go_wp2_with (first | (refine wpList_box rfl 26 _ rfl (ndC (xk, xb, xs)) rfl ?_; intro g1 w1 hb hx hg; have HB1 := Lib.hid hb; have HX1 := Lib.hid hx; clear hb hx hg) | (refine Agg.wpList_zero rfl 26 rfl (ndC ndZ) nd_zero ?_; intro g2 w2 hb hx hg; have HR2 := Lib.hid hb; have HB2 := Lib.hid (HB1.out.below hx); have HX2 := Lib.hid (belowThen HX1.out (Nat.le_refl _) hx); have HG2 := Lib.hid (Nat.le_trans HX1.out.size hg); clear hb hx hg))
 refine Agg.wp_cutR (fun a a' w' => ∃ (g3 : Nat) (vb : SV), Blk w' g3 26 (ndC (xk, vb, svN)) ∧ Agg.Own EB w.heap.size w' vb.1 bs ∧ Below w2.heap.size w2 w' ∧ w2.heap.size ≤ g3 ∧ ExPut [6, 7, 8, 9, 10, 11] (a.put (some 3) (.pointer (some ⟨g3, 0, none⟩))) a') ?_ ?_
 ·try simp only [Act.put, List.setIfInBounds_toArray, List.set_cons_succ, List.set_cons_zero]
  obtain ⟨w3, hw3⟩ : ∃ W, W = w2.drew := ⟨_, rfl⟩
  have hd3 : Below w2.heap.size w2 w3 := by rw [hw3]; exact (Below.refl _ _).drew
  have HS_ := Lib.hid (HB2.out.below hd3)
  have HXX_ := Lib.hid hd3
  refine wp_region_held_drew (S := fun W => Blk W g1 26 (ndC (xk, xb, xs))) (by kernel_rfl) (by rw [← hw3]; exact HS_.out) (fun hHeld => ?_)
  rw [← hw3] at hHeld ⊢
  clear hw3 hd3
  refine held_take 0 (.pointer (some ⟨g1, 0, none⟩)) rfl (by kernel_rfl) (fun _ _ _ h => h) rfl (fun W _ => by kernel_rfl) (by assumption) ?_
  try simp only [Act.put, List.setIfInBounds_toArray, List.set_cons_succ, List.set_cons_zero]
  refine held_take 1 (.int .i64 xk) rfl (by kernel_rfl) (fun _ _ _ h => h) rfl (fun W hS => exec_loadB rfl rfl (NdL.of_blk hS).kind.now) (by assumption) ?_
  try simp only [Act.put, List.setIfInBounds_toArray, List.set_cons_succ, List.set_cons_zero]
  refine held_take 2 (.pointer (some ⟨g1, 1, none⟩)) rfl (by kernel_rfl) (fun _ _ _ h => h) rfl (fun W _ => by kernel_rfl) (by assumption) ?_
  try simp only [Act.put, List.setIfInBounds_toArray, List.set_cons_succ, List.set_cons_zero]
  refine held_take 3 (xb.1) rfl (by kernel_rfl) (fun _ _ _ h => h) rfl (fun W hS => exec_loadB rfl rfl (NdL.of_blk hS).bytes.now) (by assumption) ?_
  try simp only [Act.put, List.setIfInBounds_toArray, List.set_cons_succ, List.set_cons_zero]
  refine held_ready [4, 6] (by kernel_rfl) (by simp) ?_
  refine held_cons rfl ?_ ?_
  ·refine step_call rfl 45 _ _ rfl #[xb.1] (by simp only [List.map_toArray, List.map_cons, List.map_nil]; rfl) (fun W => HEC.out _ W) ?_
   refine (bclone_any xb.1 bs _ (by omega) (SliceOf.below HBY.out (HX2.out.trans (HXX_.out.mono HX2.out.size)))).mono ?_
   rintro e w3_4 ⟨vb0, rfl, hob, hx⟩
   obtain ⟨vb, rfl⟩ := own_sv hob
   have HO_4 := Lib.hid (hob.lower (Nat.le_trans HX2.out.size HXX_.out.size))
   have HS_4 := Lib.hid (HS_.out.below hx)
   have HXX_4 := Lib.hid (belowThen HXX_.out (Nat.le_refl _) hx)
   clear hob hx
   refine ⟨_, rfl, ?_⟩
   refine ⟨HS_4.out, ?_⟩
   try simp only [Act.put, List.setIfInBounds_toArray, List.set_cons_succ, List.set_cons_zero]
   refine held_take 5 (.agg (ndC (xk, vb, svN))) rfl (by kernel_rfl) (fun _ _ _ h => h) rfl (fun W _ => exec_b2 rfl rfl rfl (nd_build2 xk vb W)) (by assumption) ?_
   try simp only [Act.put, List.setIfInBounds_toArray, List.set_cons_succ, List.set_cons_zero]
   refine held_one 6 rfl (by kernel_rfl) ?_
   refine step_zero rfl 26 rfl (ndC ndZ) nd_zero ?_
   intro g3 Zbk hb hx hg
   have Zz := Lib.hid hb
   have HG3 := Lib.hid (show w2.heap.size ≤ g3 from Nat.le_trans HXX_4.out.size hg)
   have Z1 := Lib.hid (HS_4.out.below hx)
   have Z9 := Lib.hid (belowThen HXX_4.out (Nat.le_refl _) hx)
   have Zbe := Lib.hid (HO_4.out.below hx)
   clear hb hx hg
   refine ⟨Z1.out, ?_⟩
   try simp only [Act.put, List.setIfInBounds_toArray, List.set_cons_succ, List.set_cons_zero]
   refine held_one 7 rfl (by kernel_rfl) ?_
   refine step_put rfl rfl 26 _ _ rfl g3 (ndC (xk, vb, svN)) (ndC ndZ) rfl rfl Zz.out (nd_info _) rfl (ndC_one _) ?_
   intro Zbi hb hx hs hk
   have ho := Only.of_eq (S := (· = g3)) hx hs hk rfl
   have Z5 := Lib.hid hb
   have Z2 := Lib.hid (Own.onlyB Zbe.out ho Zz.out (by decide))
   have Z4 := Lib.hid (Z1.out.keepO ho (fun e => by have := HB2.out.lt; have := HG3.out; omega))
   have Z0 := Lib.hid (Z9.out.trans (hx.mono HG3.out))
   clear hb hx hs hk ho
   refine ⟨Z4.out, ?_⟩
   try simp only [Act.put, List.setIfInBounds_toArray, List.set_cons_succ, List.set_cons_zero]
   refine held_end (by kernel_rfl) ?_
   simp only [ExPut, Act.put, List.setIfInBounds_toArray, List.set_cons_succ, List.set_cons_zero]
   exact ⟨g3, vb, Z5.out, Z2.out, Z0.out, HG3.out, _, _, _, _, _, _, rfl⟩
  refine held_cons rfl ?_ ?_
  ·refine step_zero rfl 26 rfl (ndC ndZ) nd_zero ?_
   intro g3 w3_6 hb hx hg
   have HN_6 := Lib.hid hb
   have HG3 := Lib.hid (show w2.heap.size ≤ g3 from Nat.le_trans HXX_.out.size hg)
   have HS_6 := Lib.hid (HS_.out.below hx)
   have HXX_6 := Lib.hid (belowThen HXX_.out (Nat.le_refl _) hx)
   clear hb hx hg
   refine ⟨HS_6.out, ?_⟩
   try simp only [Act.put, List.setIfInBounds_toArray, List.set_cons_succ, List.set_cons_zero]
   refine held_one 4 rfl (by kernel_rfl) ?_
   refine step_call rfl 45 _ _ rfl #[xb.1] (by simp only [List.map_toArray, List.map_cons, List.map_nil]; rfl) (fun W => HEC.out _ W) ?_
   refine (bclone_any xb.1 bs _ (by omega) (SliceOf.below HBY.out (HX2.out.trans (HXX_6.out.mono HX2.out.size)))).mono ?_
   rintro e Zbk ⟨vb0, rfl, hob, hx⟩
   obtain ⟨vb, rfl⟩ := own_sv hob
   have Zbe := Lib.hid (hob.lower (Nat.le_trans HX2.out.size HXX_6.out.size))
   have Z1 := Lib.hid (HS_6.out.below hx)
   have Z9 := Lib.hid (belowThen HXX_6.out (Nat.le_refl _) hx)
   have Zz := Lib.hid (HN_6.out.below hx)
   clear hob hx
   refine ⟨_, rfl, ?_⟩
   refine ⟨Z1.out, ?_⟩
   try simp only [Act.put, List.setIfInBounds_toArray, List.set_cons_succ, List.set_cons_zero]
   refine held_take 5 (.agg (ndC (xk, vb, svN))) rfl (by kernel_rfl) (fun _ _ _ h => h) rfl (fun W _ => exec_b2 rfl rfl rfl (nd_build2 xk vb W)) (by assumption) ?_
   try simp only [Act.put, List.setIfInBounds_toArray, List.set_cons_succ, List.set_cons_zero]
   refine held_one 7 rfl (by kernel_rfl) ?_
   refine step_put rfl rfl 26 _ _ rfl g3 (ndC (xk, vb, svN)) (ndC ndZ) rfl rfl Zz.out (nd_info _) rfl (ndC_one _) ?_
   intro Zbi hb hx hs hk
   have ho := Only.of_eq (S := (· = g3)) hx hs hk rfl
   have Z5 := Lib.hid hb
   have Z2 := Lib.hid (Own.onlyB Zbe.out ho Zz.out (by decide))
   have Z4 := Lib.hid (Z1.out.keepO ho (fun e => by have := HB2.out.lt; have := HG3.out; omega))
   have Z0 := Lib.hid (Z9.out.trans (hx.mono HG3.out))
   clear hb hx hs hk ho
   refine ⟨Z4.out, ?_⟩
   try simp only [Act.put, List.setIfInBounds_toArray, List.set_cons_succ, List.set_cons_zero]
   refine held_end (by kernel_rfl) ?_
   simp only [ExPut, Act.put, List.setIfInBounds_toArray, List.set_cons_succ, List.set_cons_zero]
   exact ⟨g3, vb, Z5.out, Z2.out, Z0.out, HG3.out, _, _, _, _, _, _, rfl⟩
  exact AllReadyH.nil
 ·rintro a' w3 ⟨g3, vb, hn, hob, hx, hg, hex⟩
  have HN3 := Lib.hid hn
  have HO3 := Lib.hid hob
  have HX3 := Lib.hid (belowThen HX2.out (Nat.le_refl _) hx)
  have HB3 := Lib.hid (HB2.out.below hx)
  have HR3 := Lib.hid (HR2.out.below hx)
  have HG3 := Lib.hid (show w.heap.size ≤ g3 from Nat.le_trans HX2.out.size hg)
  have HG23 := Lib.hid (show g2 < g3 from Nat.lt_of_lt_of_le HR2.out.lt hg)
  clear hn hob hx hg
  simp only [ExPut, Act.put, List.setIfInBounds_toArray, List.set_cons_succ, List.set_cons_zero] at hex
  obtain ⟨y6, y7, y8, y9, y10, y11, rfl⟩ := hex
  go_wp2_with (first | (with_reducible refine wpList_loadL (NdL.of_blk HB3.out).kids rfl _ rfl rfl ?_))
  go_loopw [15] (fun i wr => ∃ (q : Nat) (vk : SV) (kk : List KdV) (cs : List Nat), q ≤ l.length ∧ i = .int .i64 (q : Int) ∧ OwnS w.heap.size wr vb.1 bs vk.1 kk (l.take q) cs ∧ (∀ j ∈ cs, g3 < j) ∧ Blk wr g3 26 (ndC (xk, vb, vk)) ∧ Blk wr g2 26 (ndC ndZ) ∧ Below w.heap.size w wr) (fun i _ => l.length - (intOf i).toNat)
  case atStart => exact ⟨0, svN, [], [], by omega, rfl, ⟨HO3.out, Agg.Own.nil _ _ _, rfl, by simpa [svN, ownB, Value.ownBlock] using ownB_nodup vb.1⟩, by simp, HN3.out, HR3.out, HX3.out⟩
  case round =>
   obtain ⟨wr1, rfl⟩ : ∃ y : World, y = wr := ⟨_, rfl⟩
   obtain ⟨q, vk, kk, cs, hq, rfl, hos, hcs, hn, hr, hx⟩ := hrel
   have HSS := Lib.hid hos
   have HCS := Lib.hid hcs
   have HN := Lib.hid hn
   have HR := Lib.hid hr
   have HX := Lib.hid hx
   clear hos hcs hn hr hx
   by_cases hlt : q < l.length
   ·have hlq : decide ((q : Int) < (l.length : Int)) = true := by simp; omega
    obtain ⟨z, hzk⟩ : ∃ z, l[q]? = some z := ⟨_, List.getElem?_eq_getElem hlt⟩
    obtain ⟨y, hyk, hyz, hyn⟩ := HKV.out.at_ q z hzk
    obtain ⟨p, hadr, hle⟩ := kid_at (HSL.out.below HX.out) q y hyk
    have HE := Lib.hid hle.all
    have HYZ := Lib.hid hyz
    have HYN := Lib.hid hyn
    have HT := Lib.hid (take_succ' hzk)
    have hcz : count z.2 ≤ N := by
     have h1 := countL_mem (List.mem_of_getElem? hzk)
     have h2 := HC.out
     simp only [count] at h2
     omega
    have hoz := okL_mem HKO.out (List.mem_of_getElem? hzk)
    have hkq : kk.length ≤ 200 := by
     have h1 := HSS.out.kids
     have h2 := (OwnL.reads _ _ _ h1).len
     rw [List.length_take] at h2
     omega
    clear hle hyk hyz hyn hzk
    go_wp2_with (first | (with_reducible refine wpList_loadL HE.out rfl _ rfl rfl ?_) | (refine wpList_new rfl rfl rfl 28 5 18 rfl rfl rfl (by decide) (kdC kdZ) (kdC y) kd_zero rfl (kd_info y) (kdC_one y) rfl (by first | (simp; done) | simp [Act.put]) ?_; intro g5 wa hb hx hg; have HYa := Lib.hid hb; have HSa := Lib.hid (HSS.out.below hx); have HNa := Lib.hid (HN.out.below hx); have HRa := Lib.hid (HR.out.below hx); have HXa := Lib.hid (belowThen HX.out (Nat.le_refl _) hx); have HG5 := Lib.hid (show g3 < g5 ∧ wr1.heap.size ≤ g5 from ⟨Nat.lt_of_lt_of_le HN.out.lt hg, hg⟩); have HRG := Lib.hid (show wr1.heap.size ≤ wa.heap.size from hx.size); clear hb hx hg))
    clear hadr
    refine Agg.wp_cutR (fun a a' w' => ∃ (vk2 : SV) (x2 : NdV) (b2 : List Nat), OwnS w.heap.size w' vb.1 bs vk2.1 (kk ++ [(y.1, x2)]) (l.take (q + 1)) (cs ++ b2) ∧ (∀ j ∈ cs ++ b2, g3 < j) ∧ Blk w' g3 26 (ndC (xk, vb, vk2)) ∧ Blk w' g2 26 (ndC ndZ) ∧ Below w.heap.size w w' ∧ ExPut [19, 20, 21, 22, 23, 24, 25, 26, 27, 28, 29] a a') ?_ ?_
    ·try simp only [Act.put, List.setIfInBounds_toArray, List.set_cons_succ, List.set_cons_zero]
     obtain ⟨wb, hwb⟩ : ∃ W, W = wa.drew := ⟨_, rfl⟩
     have hdb : Below wa.heap.size wa wb := by rw [hwb]; exact (Below.refl _ _).drew
     have HS_ := Lib.hid (HSa.out.below hdb)
     have HSb := HS_
     have HN_ := Lib.hid (HNa.out.below hdb)
     have HNb := HN_
     have HR_ := Lib.hid (HRa.out.below hdb)
     have HY_ := Lib.hid (HYa.out.below hdb)
     have HX_ := Lib.hid (belowThen HXa.out (Nat.le_refl _) hdb)
     refine wp_region_held_drew (S := fun W => (∃ vq : SV, Blk W g3 26 (ndC (xk, vb, vq))) ∧ Blk W g5 28 (kdC y)) (by kernel_rfl) (by rw [← hwb]; exact ⟨⟨_, HN_.out⟩, HY_.out⟩) (fun hHeld => ?_)
     rw [← hwb] at hHeld ⊢
     clear hwb hdb
     refine held_take 0 (.pointer (some ⟨g3, 2, none⟩)) rfl (by kernel_rfl) (fun _ _ _ h => h) rfl (fun W _ => by kernel_rfl) (by assumption) ?_
     try simp only [Act.put, List.setIfInBounds_toArray, List.set_cons_succ, List.set_cons_zero]
     refine held_take 2 (.pointer (some ⟨g5, 0, none⟩)) rfl (by kernel_rfl) (fun _ _ _ h => h) rfl (fun W _ => by kernel_rfl) (by assumption) ?_
     try simp only [Act.put, List.setIfInBounds_toArray, List.set_cons_succ, List.set_cons_zero]
     refine held_take 3 (.string ⟨y.1.toArray⟩) rfl (by kernel_rfl) (fun _ _ _ h => h) rfl (fun W hS => exec_loadB rfl rfl (KdL.ofB hS.2).name.now) (by assumption) ?_
     try simp only [Act.put, List.setIfInBounds_toArray, List.set_cons_succ, List.set_cons_zero]
     refine held_take 4 (.pointer (some ⟨g5, 1, none⟩)) rfl (by kernel_rfl) (fun _ _ _ h => h) rfl (fun W _ => by kernel_rfl) (by assumption) ?_
     try simp only [Act.put, List.setIfInBounds_toArray, List.set_cons_succ, List.set_cons_zero]
     refine held_take 5 (.agg (ndC y.2)) rfl (by kernel_rfl) (fun _ _ _ h => h) rfl (fun W hS => exec_loadB rfl rfl (kid_node hS.2).now) (by assumption) ?_
     try simp only [Act.put, List.setIfInBounds_toArray, List.set_cons_succ, List.set_cons_zero]
     refine held_ready [1, 6] (by kernel_rfl) (by simp) ?_
     refine held_cons rfl ?_ ?_
     ·refine step_load rfl 24 _ rfl _ vk.1 rfl (NdL.of_blk HN_.out).kids.now ?_
      refine ⟨⟨⟨_, HN_.out⟩, HY_.out⟩, ?_⟩
      have HS_1 := HS_
      have HN_1 := HN_
      have HR_1 := HR_
      have HY_1 := HY_
      have HX_1 := HX_
      try simp only [Act.put, List.setIfInBounds_toArray, List.set_cons_succ, List.set_cons_zero]
      refine held_one 6 rfl (by kernel_rfl) ?_
      refine step_call rfl 54 _ _ rfl #[.agg (ndC y.2)] (by simp only [List.map_toArray, List.map_cons, List.map_nil]; rfl) (fun W => HEO.out _ W) ?_
      refine (HIH.out z.2 hcz hoz (.agg (ndC y.2)) _ ⟨y.2, rfl, HYN.out.below HX_1.out⟩).mono ?_
      rintro e Zbh ⟨x2, rfl, ⟨b2, ho2, hn2⟩, hx⟩
      have Zbb := Lib.hid ho2
      have HN2 := Lib.hid hn2
      have HR2b := Lib.hid (show ∀ k ∈ b2, wb.heap.size ≤ k from fun k hk => (OwnT.range z.2 x2 b2 ho2 k hk).1)
      have HLW := Lib.hid (show w.heap.size ≤ wb.heap.size from HX_1.out.size)
      have Zbf := Lib.hid (HS_1.out.below hx)
      have Z8 := Lib.hid (HN_1.out.below hx)
      have Zbc := Lib.hid (HR_1.out.below hx)
      have Z6 := Lib.hid (HY_1.out.below hx)
      have Zbd := Lib.hid (belowThen HX_1.out (Nat.le_refl _) hx)
      clear ho2 hn2 hx
      have Zbr : (∃ vq : SV, Blk Zbh g3 26 (ndC (xk, vb, vq))) ∧ Blk Zbh g5 28 (kdC y) := ⟨⟨_, Z8.out⟩, Z6.out⟩
      refine ⟨_, rfl, ?_⟩
      refine ⟨Zbr, ?_⟩
      try simp only [Act.put, List.setIfInBounds_toArray, List.set_cons_succ, List.set_cons_zero]
      refine held_take 7 (.agg (kdC (y.1, x2))) rfl (by kernel_rfl) (fun _ _ _ h => h) rfl (fun W _ => exec_b2 rfl rfl rfl (kd_build y.1 x2 W)) (by assumption) ?_
      try simp only [Act.put, List.setIfInBounds_toArray, List.set_cons_succ, List.set_cons_zero]
      refine held_one 8 rfl (by kernel_rfl) ?_
      refine step_slice1 (E := EK) rfl _ rfl (y.1, x2) rfl ?_
      intro ys Zv hys hx
      have Zx := Lib.hid hys.slice
      have Zo := Lib.hid (Zbf.out.below hx)
      have Zp := Lib.hid (Z8.out.below hx)
      have Zu := Lib.hid (Zbc.out.below hx)
      have Zh := Lib.hid (Z6.out.below hx)
      have Zd := Lib.hid (belowThen Zbd.out (Nat.le_refl _) hx)
      have Zt := Lib.hid (OwnT.below hx Zbb.out)
      clear hys hx
      have Z3 : (∃ vq : SV, Blk Zv g3 26 (ndC (xk, vb, vq))) ∧ Blk Zv g5 28 (kdC y) := ⟨⟨_, Zp.out⟩, Zh.out⟩
      refine ⟨Z3, ?_⟩
      try simp only [Act.put, List.setIfInBounds_toArray, List.set_cons_succ, List.set_cons_zero]
      refine held_one 9 rfl (by kernel_rfl) ?_
      refine Agg.step_appendG (E := EK) (base := w.heap.size) rfl _ _ rfl ys rfl rfl [(y.1, x2)] Zo.out.row Zx.out (by simp; omega) (by decide) Zd.out.size ?_
      intro vk0 Za hok hp hgr
      obtain ⟨vk2, rfl⟩ := own_sv hok
      have Zq := Lib.hid (show OwnS w.heap.size Za vb.1 bs vk2.1 (kk ++ [(y.1, x2)]) (l.take (q + 1)) (cs ++ b2) by
       rw [HT.out, show z = ((y.1, x2).1, z.2) from Prod.ext HYZ.out.symm rfl]
       exact Zo.out.push (y := (y.1, x2)) (OwnT.lowerB HLW.out z.2 x2 b2 Zt.out) HN2.out (fun i hi j hj => by have h1 := (HSb.out.range i hi).2; have h2 := HR2b.out j hj; omega) hok hp hgr)
      have Zb := Lib.hid (hp.blk g3 _ _ _ (by decide) Zp.out)
      have Zr := Lib.hid (hp.blk g2 _ _ _ (by decide) Zu.out)
      have Zf := Lib.hid (Zd.out.trans (hp.below w.heap.size (Nat.le_refl _) Zd.out.size))
      have Ze := Lib.hid (show ∀ j ∈ cs ++ b2, g3 < j from fun j hj => (List.mem_append.1 hj).elim (fun h => HCS.out j h) (fun h => by have := HR2b.out j h; have := HNb.out.lt; omega))
      have hnv : some g5 ≠ vk.1.ownBlock := fun e => by have h1 := (HSS.out.range g5 (List.mem_append.2 (.inr (List.mem_append.2 (.inl (mem_ownB.2 e.symm)))))).2; have := HG5.out.2; omega
      have Zg := Lib.hid (show Blk Za g5 28 (kdC y) from (hp.other g5 Zh.out.lt hnv).trans Zh.out)
      have Zs : (∃ vq : SV, Blk Za g3 26 (ndC (xk, vb, vq))) ∧ Blk Za g5 28 (kdC y) := ⟨⟨_, Zb.out⟩, Zg.out⟩
      clear hok hp hgr hnv
      refine ⟨Zs, ?_⟩
      try simp only [Act.put, List.setIfInBounds_toArray, List.set_cons_succ, List.set_cons_zero]
      refine held_take 10 (.pointer (some ⟨g3, 2, none⟩)) rfl (by kernel_rfl) (fun _ _ _ h => h) rfl (fun W _ => by kernel_rfl) (by assumption) ?_
      try simp only [Act.put, List.setIfInBounds_toArray, List.set_cons_succ, List.set_cons_zero]
      refine held_one 11 rfl (by kernel_rfl) ?_
      obtain ⟨Zy, hrun, hbf, hof⟩ := Agg.Blk.run_one (P := Tryz.prog) (ty := 24) Zb.out 2 (by show 2 < 3; omega) vk2.1 (sv_cells vk2) (sv_oneT vk2) (by kernel_rfl) (ndC (xk, vb, vk2)) rfl
      refine step_store rfl rfl 24 _ _ rfl (.pointer (some ⟨g3, 2, none⟩)) vk2.1 rfl rfl hrun ?_
      have Zi := Lib.hid (Zq.out.other hof Zb.out (by decide) (by decide) (fun h => by have := Ze.out g3 h; omega))
      have Zj := Lib.hid (Agg.Blk.keepO Zr.out hof (fun e => by have := HG23.out; omega))
      have Zc := Lib.hid hbf
      have Zk := Lib.hid (Agg.Blk.keepO Zg.out hof (fun e => by have := HG5.out.1; omega))
      have Zm := Lib.hid (Zf.out.trans (hof.below Zf.out.size (fun i hi => by subst hi; exact HG3.out)))
      have Zn := Ze
      clear hrun hbf hof
      refine ⟨⟨⟨_, Zc.out⟩, Zk.out⟩, ?_⟩
      try simp only [Act.put, List.setIfInBounds_toArray, List.set_cons_succ, List.set_cons_zero]
      refine held_end (by kernel_rfl) ?_
      simp only [ExPut, Act.put, List.setIfInBounds_toArray, List.set_cons_succ, List.set_cons_zero]
      exact ⟨vk2, x2, b2, Zi.out, Zn.out, Zc.out, Zj.out, Zm.out, _, _, _, _, _, _, _, _, _, _, _, rfl⟩
     refine held_cons rfl ?_ ?_
     ·refine step_call rfl 54 _ _ rfl #[.agg (ndC y.2)] (by simp only [List.map_toArray, List.map_cons, List.map_nil]; rfl) (fun W => HEO.out _ W) ?_
      refine (HIH.out z.2 hcz hoz (.agg (ndC y.2)) _ ⟨y.2, rfl, HYN.out.below HX_.out⟩).mono ?_
      rintro e wb_6 ⟨x2, rfl, ⟨b2, ho2, hn2⟩, hx⟩
      have HO_6 := Lib.hid ho2
      have HN2 := Lib.hid hn2
      have HR2b := Lib.hid (show ∀ k ∈ b2, wb.heap.size ≤ k from fun k hk => (OwnT.range z.2 x2 b2 ho2 k hk).1)
      have HLW := Lib.hid (show w.heap.size ≤ wb.heap.size from HX_.out.size)
      have HS_6 := Lib.hid (HS_.out.below hx)
      have HN_6 := Lib.hid (HN_.out.below hx)
      have HR_6 := Lib.hid (HR_.out.below hx)
      have HY_6 := Lib.hid (HY_.out.below hx)
      have HX_6 := Lib.hid (belowThen HX_.out (Nat.le_refl _) hx)
      clear ho2 hn2 hx
      have hS_6 : (∃ vq : SV, Blk wb_6 g3 26 (ndC (xk, vb, vq))) ∧ Blk wb_6 g5 28 (kdC y) := ⟨⟨_, HN_6.out⟩, HY_6.out⟩
      refine ⟨_, rfl, ?_⟩
      refine ⟨hS_6, ?_⟩
      try simp only [Act.put, List.setIfInBounds_toArray, List.set_cons_succ, List.set_cons_zero]
      refine held_take 7 (.agg (kdC (y.1, x2))) rfl (by kernel_rfl) (fun _ _ _ h => h) rfl (fun W _ => exec_b2 rfl rfl rfl (kd_build y.1 x2 W)) (by assumption) ?_
      try simp only [Act.put, List.setIfInBounds_toArray, List.set_cons_succ, List.set_cons_zero]
      refine held_ready [1, 8] (by kernel_rfl) (by simp) ?_
      refine held_cons rfl ?_ ?_
      ·refine step_load rfl 24 _ rfl _ vk.1 rfl (NdL.of_blk HN_6.out).kids.now ?_
       refine ⟨⟨⟨_, HN_6.out⟩, HY_6.out⟩, ?_⟩
       have Zbf := HS_6
       have Z8 := HN_6
       have Zbc := HR_6
       have Z6 := HY_6
       have Zbd := HX_6
       have Zbb := HO_6
       try simp only [Act.put, List.setIfInBounds_toArray, List.set_cons_succ, List.set_cons_zero]
       refine held_one 8 rfl (by kernel_rfl) ?_
       refine step_slice1 (E := EK) rfl _ rfl (y.1, x2) rfl ?_
       intro ys Zv hys hx
       have Zx := Lib.hid hys.slice
       have Zo := Lib.hid (Zbf.out.below hx)
       have Zp := Lib.hid (Z8.out.below hx)
       have Zu := Lib.hid (Zbc.out.below hx)
       have Zh := Lib.hid (Z6.out.below hx)
       have Zd := Lib.hid (belowThen Zbd.out (Nat.le_refl _) hx)
       have Zt := Lib.hid (OwnT.below hx Zbb.out)
       clear hys hx
       have Z3 : (∃ vq : SV, Blk Zv g3 26 (ndC (xk, vb, vq))) ∧ Blk Zv g5 28 (kdC y) := ⟨⟨_, Zp.out⟩, Zh.out⟩
       refine ⟨Z3, ?_⟩
       try simp only [Act.put, List.setIfInBounds_toArray, List.set_cons_succ, List.set_cons_zero]
       refine held_one 9 rfl (by kernel_rfl) ?_
       refine Agg.step_appendG (E := EK) (base := w.heap.size) rfl _ _ rfl ys rfl rfl [(y.1, x2)] Zo.out.row Zx.out (by simp; omega) (by decide) Zd.out.size ?_
       intro vk0 Za hok hp hgr
       obtain ⟨vk2, rfl⟩ := own_sv hok
       have Zq := Lib.hid (show OwnS w.heap.size Za vb.1 bs vk2.1 (kk ++ [(y.1, x2)]) (l.take (q + 1)) (cs ++ b2) by
        rw [HT.out, show z = ((y.1, x2).1, z.2) from Prod.ext HYZ.out.symm rfl]
        exact Zo.out.push (y := (y.1, x2)) (OwnT.lowerB HLW.out z.2 x2 b2 Zt.out) HN2.out (fun i hi j hj => by have h1 := (HSb.out.range i hi).2; have h2 := HR2b.out j hj; omega) hok hp hgr)
       have Zb := Lib.hid (hp.blk g3 _ _ _ (by decide) Zp.out)
       have Zr := Lib.hid (hp.blk g2 _ _ _ (by decide) Zu.out)
       have Zf := Lib.hid (Zd.out.trans (hp.below w.heap.size (Nat.le_refl _) Zd.out.size))
       have Ze := Lib.hid (show ∀ j ∈ cs ++ b2, g3 < j from fun j hj => (List.mem_append.1 hj).elim (fun h => HCS.out j h) (fun h => by have := HR2b.out j h; have := HNb.out.lt; omega))
       have hnv : some g5 ≠ vk.1.ownBlock := fun e => by have h1 := (HSS.out.range g5 (List.mem_append.2 (.inr (List.mem_append.2 (.inl (mem_ownB.2 e.symm)))))).2; have := HG5.out.2; omega
       have Zg := Lib.hid (show Blk Za g5 28 (kdC y) from (hp.other g5 Zh.out.lt hnv).trans Zh.out)
       have Zs : (∃ vq : SV, Blk Za g3 26 (ndC (xk, vb, vq))) ∧ Blk Za g5 28 (kdC y) := ⟨⟨_, Zb.out⟩, Zg.out⟩
       clear hok hp hgr hnv
       refine ⟨Zs, ?_⟩
       try simp only [Act.put, List.setIfInBounds_toArray, List.set_cons_succ, List.set_cons_zero]
       refine held_take 10 (.pointer (some ⟨g3, 2, none⟩)) rfl (by kernel_rfl) (fun _ _ _ h => h) rfl (fun W _ => by kernel_rfl) (by assumption) ?_
       try simp only [Act.put, List.setIfInBounds_toArray, List.set_cons_succ, List.set_cons_zero]
       refine held_one 11 rfl (by kernel_rfl) ?_
       obtain ⟨Zy, hrun, hbf, hof⟩ := Agg.Blk.run_one (P := Tryz.prog) (ty := 24) Zb.out 2 (by show 2 < 3; omega) vk2.1 (sv_cells vk2) (sv_oneT vk2) (by kernel_rfl) (ndC (xk, vb, vk2)) rfl
       refine step_store rfl rfl 24 _ _ rfl (.pointer (some ⟨g3, 2, none⟩)) vk2.1 rfl rfl hrun ?_
       have Zi := Lib.hid (Zq.out.other hof Zb.out (by decide) (by decide) (fun h => by have := Ze.out g3 h; omega))
       have Zj := Lib.hid (Agg.Blk.keepO Zr.out hof (fun e => by have := HG23.out; omega))
       have Zc := Lib.hid hbf
       have Zk := Lib.hid (Agg.Blk.keepO Zg.out hof (fun e => by have := HG5.out.1; omega))
       have Zm := Lib.hid (Zf.out.trans (hof.below Zf.out.size (fun i hi => by subst hi; exact HG3.out)))
       have Zn := Ze
       clear hrun hbf hof
       refine ⟨⟨⟨_, Zc.out⟩, Zk.out⟩, ?_⟩
       try simp only [Act.put, List.setIfInBounds_toArray, List.set_cons_succ, List.set_cons_zero]
       refine held_end (by kernel_rfl) ?_
       simp only [ExPut, Act.put, List.setIfInBounds_toArray, List.set_cons_succ, List.set_cons_zero]
       exact ⟨vk2, x2, b2, Zi.out, Zn.out, Zc.out, Zj.out, Zm.out, _, _, _, _, _, _, _, _, _, _, _, rfl⟩
      refine held_cons rfl ?_ ?_
      ·refine step_slice1 (E := EK) rfl _ rfl (y.1, x2) rfl ?_
       intro ys Zbg hys hx
       have Zbq := Lib.hid hys.slice
       have Zbn := Lib.hid (HS_6.out.below hx)
       have Z7 := Lib.hid (HN_6.out.below hx)
       have Zbp := Lib.hid (HR_6.out.below hx)
       have Zba := Lib.hid (HY_6.out.below hx)
       have Zbo := Lib.hid (belowThen HX_6.out (Nat.le_refl _) hx)
       have Zbj := Lib.hid (OwnT.below hx HO_6.out)
       clear hys hx
       have Zbm : (∃ vq : SV, Blk Zbg g3 26 (ndC (xk, vb, vq))) ∧ Blk Zbg g5 28 (kdC y) := ⟨⟨_, Z7.out⟩, Zba.out⟩
       refine ⟨Zbm, ?_⟩
       try simp only [Act.put, List.setIfInBounds_toArray, List.set_cons_succ, List.set_cons_zero]
       refine held_one 1 rfl (by kernel_rfl) ?_
       refine step_load rfl 24 _ rfl _ vk.1 rfl (NdL.of_blk Z7.out).kids.now ?_
       refine ⟨⟨⟨_, Z7.out⟩, Zba.out⟩, ?_⟩
       have Zo := Zbn
       have Zp := Z7
       have Zu := Zbp
       have Zh := Zba
       have Zd := Zbo
       have Zt := Zbj
       have Zx := Zbq
       try simp only [Act.put, List.setIfInBounds_toArray, List.set_cons_succ, List.set_cons_zero]
       refine held_one 9 rfl (by kernel_rfl) ?_
       refine Agg.step_appendG (E := EK) (base := w.heap.size) rfl _ _ rfl ys rfl rfl [(y.1, x2)] Zo.out.row Zx.out (by simp; omega) (by decide) Zd.out.size ?_
       intro vk0 Za hok hp hgr
       obtain ⟨vk2, rfl⟩ := own_sv hok
       have Zq := Lib.hid (show OwnS w.heap.size Za vb.1 bs vk2.1 (kk ++ [(y.1, x2)]) (l.take (q + 1)) (cs ++ b2) by
        rw [HT.out, show z = ((y.1, x2).1, z.2) from Prod.ext HYZ.out.symm rfl]
        exact Zo.out.push (y := (y.1, x2)) (OwnT.lowerB HLW.out z.2 x2 b2 Zt.out) HN2.out (fun i hi j hj => by have h1 := (HSb.out.range i hi).2; have h2 := HR2b.out j hj; omega) hok hp hgr)
       have Zb := Lib.hid (hp.blk g3 _ _ _ (by decide) Zp.out)
       have Zr := Lib.hid (hp.blk g2 _ _ _ (by decide) Zu.out)
       have Zf := Lib.hid (Zd.out.trans (hp.below w.heap.size (Nat.le_refl _) Zd.out.size))
       have Ze := Lib.hid (show ∀ j ∈ cs ++ b2, g3 < j from fun j hj => (List.mem_append.1 hj).elim (fun h => HCS.out j h) (fun h => by have := HR2b.out j h; have := HNb.out.lt; omega))
       have hnv : some g5 ≠ vk.1.ownBlock := fun e => by have h1 := (HSS.out.range g5 (List.mem_append.2 (.inr (List.mem_append.2 (.inl (mem_ownB.2 e.symm)))))).2; have := HG5.out.2; omega
       have Zg := Lib.hid (show Blk Za g5 28 (kdC y) from (hp.other g5 Zh.out.lt hnv).trans Zh.out)
       have Zs : (∃ vq : SV, Blk Za g3 26 (ndC (xk, vb, vq))) ∧ Blk Za g5 28 (kdC y) := ⟨⟨_, Zb.out⟩, Zg.out⟩
       clear hok hp hgr hnv
       refine ⟨Zs, ?_⟩
       try simp only [Act.put, List.setIfInBounds_toArray, List.set_cons_succ, List.set_cons_zero]
       refine held_take 10 (.pointer (some ⟨g3, 2, none⟩)) rfl (by kernel_rfl) (fun _ _ _ h => h) rfl (fun W _ => by kernel_rfl) (by assumption) ?_
       try simp only [Act.put, List.setIfInBounds_toArray, List.set_cons_succ, List.set_cons_zero]
       refine held_one 11 rfl (by kernel_rfl) ?_
       obtain ⟨Zy, hrun, hbf, hof⟩ := Agg.Blk.run_one (P := Tryz.prog) (ty := 24) Zb.out 2 (by show 2 < 3; omega) vk2.1 (sv_cells vk2) (sv_oneT vk2) (by kernel_rfl) (ndC (xk, vb, vk2)) rfl
       refine step_store rfl rfl 24 _ _ rfl (.pointer (some ⟨g3, 2, none⟩)) vk2.1 rfl rfl hrun ?_
       have Zi := Lib.hid (Zq.out.other hof Zb.out (by decide) (by decide) (fun h => by have := Ze.out g3 h; omega))
       have Zj := Lib.hid (Agg.Blk.keepO Zr.out hof (fun e => by have := HG23.out; omega))
       have Zc := Lib.hid hbf
       have Zk := Lib.hid (Agg.Blk.keepO Zg.out hof (fun e => by have := HG5.out.1; omega))
       have Zm := Lib.hid (Zf.out.trans (hof.below Zf.out.size (fun i hi => by subst hi; exact HG3.out)))
       have Zn := Ze
       clear hrun hbf hof
       refine ⟨⟨⟨_, Zc.out⟩, Zk.out⟩, ?_⟩
       try simp only [Act.put, List.setIfInBounds_toArray, List.set_cons_succ, List.set_cons_zero]
       refine held_end (by kernel_rfl) ?_
       simp only [ExPut, Act.put, List.setIfInBounds_toArray, List.set_cons_succ, List.set_cons_zero]
       exact ⟨vk2, x2, b2, Zi.out, Zn.out, Zc.out, Zj.out, Zm.out, _, _, _, _, _, _, _, _, _, _, _, rfl⟩
      exact AllReadyH.nil
     exact AllReadyH.nil
    rintro a' w4 ⟨vk2, x2, b2, h1, h2, h3, h4, h5, hex⟩
    have HSf := Lib.hid h1
    have HLe := Lib.hid h2
    have HNf := Lib.hid h3
    have HRf := Lib.hid h4
    have HXf := Lib.hid h5
    clear h1 h2 h3 h4 h5
    simp only [ExPut, Act.put, List.setIfInBounds_toArray, List.set_cons_succ, List.set_cons_zero] at hex
    obtain ⟨y19, y20, y21, y22, y23, y24, y25, y26, y27, y28, y29, rfl⟩ := hex
    go_wp2_with fail
    go_roundw
    case rel => exact ⟨q + 1, vk2, _, _, by omega, by go_num, HSf.out, HLe.out, HNf.out, HRf.out, HXf.out⟩
    case measure => simp [intOf]; omega
   ·obtain rfl : q = l.length := by omega
    have hlq : decide (((l.length : Nat) : Int) < ((l.length : Nat) : Int)) = false := by simp
    go_wp2_with (first | (with_reducible refine wpList_loadL (NdL.of_blk HN.out).all rfl _ rfl rfl ?_) | (refine Agg.wpList_put rfl rfl 26 _ _ rfl g2 (ndC (xk, vb, vk)) (ndC ndZ) rfl rfl HR.out (nd_info _) rfl (ndC_one _) ?_; intro we hb hx hs hk; have ho := Only.of_eq (S := (· = g2)) hx hs hk rfl; have HRe := Lib.hid hb; have HOe := Lib.hid ho; clear hb hx hs hk ho))
    refine Agg.post_row rfl rfl HRe.out nd_under rfl (nd_info _) rfl ⟨_, rfl, ?_, HX.out.trans (HOe.out.below HX.out.size (fun i hi => by subst hi; exact HG2.out))⟩
    have h := HSS.out.other HOe.out HR.out (by decide) (by decide) (fun h => by have := HCS.out g2 h; have := HG23.out; omega)
    rw [List.take_length] at h
    exact h.node
end Go.Proofs.YtfiadgdinhmgbaaGreatDoor
/-! code.Cursor as a state: contracts without cases. -/
namespace Go.Proofs.YtfiadgdinhmgbaaGreatDoor
open Go.RowKit Pl Go.Agg
def CuS (base g : Nat) (w : World) (s : Option (List UInt8)) : Prop := ∃ v r e, CuV base g w v r e ∧ (e ≠ 0 → v = .slice none 0 0 ∧ r = []) ∧ s = (if e = 0 then some r else none)
theorem CuS.good {base g : Nat} {w : World} {v : Value} {r : List UInt8} (h : CuV base g w v r 0) : CuS base g w (some r) := ⟨v, r, 0, h, fun h => absurd rfl h, rfl⟩
theorem CuS.bad {base g : Nat} {w : World} (h : CBad base g w) : CuS base g w none := by
 obtain ⟨e, he, h⟩ := h
 exact ⟨_, _, e, h, fun _ => ⟨rfl, rfl⟩, by rw [if_neg he]⟩
theorem CuS.below {base g : Nat} {w w' : World} {s : Option (List UInt8)} (h : CuS base g w s) (hb : Below w.heap.size w w') : CuS base g w' s := by
 obtain ⟨v, r, e, h, h1, h2⟩ := h
 exact ⟨v, r, e, h.below hb, h1, h2⟩
theorem CuS.lt {base g : Nat} {w : World} {s : Option (List UInt8)} (h : CuS base g w s) : g < w.heap.size := by
 obtain ⟨v, r, e, h, _⟩ := h
 exact h.blk.lt
theorem getN_nil (most : Nat) : getN most [] = none := by
 unfold getN
 rw [if_pos (.inl rfl)]
theorem getT_nil (most : Nat) : getT most [] = none := by
 unfold getT
 rw [getN_nil]
theorem snum_any (base g most : Nat) (s : Option (List UInt8)) (w : World) (hl : stLen s ≤ 16777216) (hmo : most ≤ 1099511627776) (h : CuS base g w s) :
  Calls Tryz.prog 46 #[.pointer (some ⟨g, 0, none⟩), .int .i64 (most : Int)] w fun x w' => x = .returned (.int .i64 ((sNum most s).1 : Int)) ∧ CuS base g w' (sNum most s).2 ∧ Only (· = g) w w' := by
 obtain ⟨v, r, e, hv, hbad, rfl⟩ := h
 by_cases h0 : e = 0
 ·subst h0
  refine (cnum_any base g most v r 0 w (by simpa [stLen] using hl) hmo hv).mono ?_
  rintro x w' ⟨hc, ho⟩
  rcases hc with ⟨n, y, v', hg, rfl, hcu⟩ | ⟨hg, rfl, hcu⟩
  ·simp only [if_true, sNum, hg]
   exact ⟨trivial, CuS.good hcu, ho⟩
  ·simp only [if_true, sNum, hg] at hcu ⊢
   exact ⟨rfl, CuS.bad ⟨4, by omega, hcu⟩, ho⟩
 ·obtain ⟨rfl, rfl⟩ := hbad h0
  refine (cnum_any base g most _ [] e w (by simp) hmo hv).mono ?_
  rintro x w' ⟨hc, ho⟩
  rcases hc with ⟨n, y, v', hg, rfl, hcu⟩ | ⟨hg, rfl, hcu⟩
  ·rw [getN_nil] at hg; cases hg
  ·simp only [if_neg h0, sNum] at hcu ⊢
   exact ⟨rfl, CuS.bad ⟨e, h0, hcu⟩, ho⟩
theorem sraw_any (base g many : Nat) (s : Option (List UInt8)) (w : World) (hl : stLen s ≤ 16777216) (hmo : many ≤ 1099511627776) (h : CuS base g w s) :
  Calls Tryz.prog 88 #[.pointer (some ⟨g, 0, none⟩), .int .i64 (many : Int)] w fun x w' => ∃ u, x = .returned u ∧ Own EB w.heap.size w' u (sRaw many s).1 ∧ CuS base g w' (sRaw many s).2 ∧ Only (· = g) w w' := by
 obtain ⟨v, r, e, hv, hbad, rfl⟩ := h
 by_cases h0 : e = 0
 ·subst h0
  refine (craw_any base g many v r 0 w (by simpa [stLen] using hl) hmo hv).mono ?_
  rintro x w' ⟨hc, ho⟩
  rcases hc with ⟨_, hle, u, v', rfl, hu, hcu⟩ | ⟨hor, rfl, hcu⟩
  ·simp only [if_true, sRaw, if_pos hle]
   exact ⟨u, rfl, hu, CuS.good hcu, ho⟩
  ·have hle : ¬ many ≤ r.length := by rcases hor with h | h <;> omega
   simp only [if_true, sRaw, if_neg hle]
   exact ⟨_, rfl, Own.nil _ _ _, CuS.bad hcu, ho⟩
 ·obtain ⟨rfl, rfl⟩ := hbad h0
  refine (craw_any base g many _ [] e w (by simp) hmo hv).mono ?_
  rintro x w' ⟨hc, ho⟩
  rcases hc with ⟨h, _⟩ | ⟨hor, rfl, hcu⟩
  ·exact absurd h h0
  ·simp only [if_neg h0, sRaw]
   exact ⟨_, rfl, Own.nil _ _ _, CuS.bad hcu, ho⟩
theorem stext_any (base g most : Nat) (s : Option (List UInt8)) (w : World) (hl : stLen s ≤ 16777216) (h : CuS base g w s) :
  Calls Tryz.prog 47 #[.pointer (some ⟨g, 0, none⟩), .int .i64 (most : Int)] w fun x w' => ∃ u, x = .returned u ∧ Own EB w.heap.size w' u (sText most s).1 ∧ CuS base g w' (sText most s).2 ∧ Only (· = g) w w' := by
 obtain ⟨v, r, e, hv, hbad, rfl⟩ := h
 by_cases h0 : e = 0
 ·subst h0
  refine (ctext_any base g most v r 0 w (by simpa [stLen] using hl) (fun h => absurd rfl h) hv).mono ?_
  rintro x w' ⟨hc, ho⟩
  rcases hc with ⟨_, l, y, u, v', hg, rfl, hu, hcu⟩ | ⟨hor, rfl, hcu⟩
  ·simp only [if_true, sText, hg]
   exact ⟨u, rfl, hu, CuS.good hcu, ho⟩
  ·have hg : getT most r = none := hor.elim (fun h => absurd rfl h) id
   simp only [if_true, sText, hg]
   exact ⟨_, rfl, Own.nil _ _ _, CuS.bad hcu, ho⟩
 ·obtain ⟨rfl, rfl⟩ := hbad h0
  refine (ctext_any base g most _ [] e w (by simp) (fun _ => rfl) hv).mono ?_
  rintro x w' ⟨hc, ho⟩
  rcases hc with ⟨h, _⟩ | ⟨hor, rfl, hcu⟩
  ·exact absurd h h0
  ·simp only [if_neg h0, sText]
   exact ⟨_, rfl, Own.nil _ _ _, CuS.bad hcu, ho⟩
theorem send_any (base g : Nat) (s : Option (List UInt8)) (w : World) (h : CuS base g w s) :
  Calls Tryz.prog 31 #[.pointer (some ⟨g, 0, none⟩)] w fun x w' => (∃ c : Nat, x = .returned (.int .i64 (c : Int)) ∧ (c = 0 ↔ s = some [])) ∧ w' = w := by
 obtain ⟨v, r, e, hv, hbad, rfl⟩ := h
 refine (cend_any base g v r e w hv).mono ?_
 rintro x w' ⟨⟨c, rfl, hc⟩, rfl⟩
 refine ⟨⟨c, rfl, ?_⟩, rfl⟩
 rw [hc]
 by_cases h0 : e = 0
 ·simp [h0]
 ·simp [h0]
end Go.Proofs.YtfiadgdinhmgbaaGreatDoor
/-! A cursor, where other blocks are written. -/
namespace Go.Proofs.YtfiadgdinhmgbaaGreatDoor
open Go.RowKit Pl Go.Agg
theorem CuS.keep {base gc : Nat} {w w' : World} {s : Option (List UInt8)} {S : Nat → Prop} (h : CuS base gc w s) (ho : Only S w w') (hS : ¬ S gc) (hr : ∀ k, S k → k < w.heap.size → ∀ cur fr, w.heap[k]? ≠ some (Obj.cells cur 5 fr)) : CuS base gc w' s := by
 obtain ⟨v, r, e, hv, h1, h2⟩ := h
 refine ⟨v, r, e, ⟨hv.blk.only ho hS, restKeepT hv.rest fun k cur fr hk => (ho.block k (Agg.heap_lt hk) fun hs => hr k hs (Agg.heap_lt hk) cur fr hk).trans hk⟩, h1, h2⟩
section
variable {base gc : Nat} {w w' : World} {s : Option (List UInt8)}
theorem CuS.blk (h : CuS base gc w s) : ∃ cs, Blk w gc 94 cs := by
 obtain ⟨v, r, e, hv, _⟩ := h
 exact ⟨_, hv.blk⟩
theorem CuS.other {g : Nat} {t : TypeId} {cs : Array Value} (h : CuS base gc w s) (ho : Only (· = g) w w') (hb : Blk w g t cs) (h2 : t ≠ 94) (h3 : t ≠ 5) : CuS base gc w' s := by
 refine h.keep ho (fun e => ?_) fun k hk _ cur fr hc => ?_
 ·subst e
  obtain ⟨cs', hb'⟩ := h.blk
  exact h2 (hb.type hb')
 ·subst hk
  unfold Blk at hb
  rw [hb] at hc
  injection hc with hc
  injection hc with _ hc
  exact h3 hc
theorem CuS.pushed {α : Type} {E : Elem Tryz.prog α} {B : Nat} {v : Value} (h : CuS base gc w s) (hp : Pushed E B w w' v) (h2 : 94 ≠ E.ty) (h3 : 5 ≠ E.ty) : CuS base gc w' s := by
 obtain ⟨v, r, e, hv, h4, h5⟩ := h
 exact ⟨v, r, e, ⟨hp.blk gc _ _ _ h2 hv.blk, restKeepT hv.rest fun k cur fr hk => hp.blk k _ _ _ h3 hk⟩, h4, h5⟩
end
end Go.Proofs.YtfiadgdinhmgbaaGreatDoor
