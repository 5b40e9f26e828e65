/- spenceref09.At. -/
import Derived.Test.YtfiadgdinhmgbaaGreatDoorEBA
import Derived.Test.YtfiadgdinhmgbaaGreatDoorEBE
namespace Go.Proofs.YtfiadgdinhmgbaaGreatDoor
open Go.RowKit Pl Go.Agg Go.Tr
set_option maxRecDepth 100000 in
set_option maxHeartbeats 8000000 in
theorem rat_any (v : Value) (b s : List UInt8) (hb : b.length ≤ 1048576) (hs : s.length ≤ 1048576) (w : World) (hv : BytesAt w v b) (hcap : ∀ p n c, v = .slice p n c → n ≤ c) :
  Calls Tryz.prog 14 #[v, .string ⟨s.toArray⟩] w fun e w' => ∃ v', e = .returned (.tuple #[v', .int .i64 (atE b s : Int)]) ∧ Agg.Own EB w.heap.size w' v' (atB b s) ∧ Below w.heap.size w w' := by
 have HV := Lib.hid hv
 clear hv
 go_enter Tryz.func14, Tryz.ntmps14
 go_wp2_with fail
 refine (open9_any v b w hb HV.out hcap).mono ?_
 rintro e w1 ⟨x, rfl, hon, hx⟩
 have HON := Lib.hid hon.reads
 have HX1 := Lib.hid hx
 clear hon hx
 by_cases he : opE b = 0
 ·have HE0 := Lib.hid he
  have hn0 : ((opE b : Int) != 0) = false := by rw [he]; rfl
  obtain ⟨eo, heo⟩ : ∃ eo, opE b = eo := ⟨_, rfl⟩
  rw [heo] at hn0 ⊢
  have HEO := Lib.hid heo
  clear he heo
  go_wp2_with (first | (refine wpList_new rfl rfl rfl 26 6 13 rfl rfl rfl (by decide) (ndC ndZ) (ndC x) nd_zero rfl (nd_info _) (ndC_one _) rfl (by first | (simp; done) | simp [Act.put]) ?_; intro g6 w2 hb hx hg; have HB2 := Lib.hid hb; have HX2 := Lib.hid (belowThen HX1.out (Nat.le_refl _) hx); have HN2 := Lib.hid (NodeV.below hx _ _ HON.out); clear hb hx hg) | (with_reducible refine wpList_loadL (NdL.of_blk HB2.out).all rfl _ rfl rfl ?_))
  refine (rfind_any (opT b) (by have := right_msz (back_open HE0.out).2.1; omega) s hs (.agg (ndC x)) w2 ⟨x, rfl, HN2.out⟩).mono ?_
  rintro e w3 ⟨y, rfl, hon, hx⟩
  have HOY := Lib.hid hon.reads
  have HX3 := Lib.hid (belowThen HX2.out (Nat.le_refl _) hx)
  have HAE := Lib.hid (show atE b s = fdE (opT b) s by rw [atE, if_pos HE0.out])
  clear hon hx
  by_cases hf : fdE (opT b) s = 0
  ·have hn1 : ((fdE (opT b) s : Int) != 0) = false := by rw [hf]; rfl
   obtain ⟨hrt, ws, hws, hfw⟩ := fdE_zero hf
   have hxr := find_right hrt hfw
   have hpl := right_pack hxr
   have HOK := Lib.hid (right_okT hxr)
   have HAB := Lib.hid (show atB b s = packB (fdT (opT b) s) by rw [atB, HAE.out, hf]; rfl)
   have HF0 := Lib.hid hf
   obtain ⟨fo, hfo⟩ : ∃ fo, fdE (opT b) s = fo := ⟨_, rfl⟩
   rw [hfo] at hn1 ⊢
   clear hfo hf hrt hws hfw hxr
   go_wp2_with (first | (refine wpList_new rfl rfl rfl 26 8 22 rfl rfl rfl (by decide) (ndC ndZ) (ndC y) nd_zero rfl (nd_info _) (ndC_one _) rfl (by first | (simp; done) | simp [Act.put]) ?_; intro g8 w4 hb hx hg; have HB4 := Lib.hid hb; have HX4 := Lib.hid (belowThen HX3.out (Nat.le_refl _) hx); have HN4 := Lib.hid (NodeV.below hx _ _ HOY.out); clear hb hx hg) | (with_reducible refine wpList_loadL (NdL.of_blk HB4.out).all rfl _ rfl rfl ?_))
   refine (rbytes_any (count (fdT (opT b) s)) (fdT (opT b) s) (Nat.le_refl _) HOK.out (by omega) (.agg (ndC y)) w4 ⟨y, rfl, HN4.out⟩).mono ?_
   rintro e w5 ⟨v5, rfl, ho, hx⟩
   have HO5 := Lib.hid (ho.lower HX4.out.size)
   have HX5 := Lib.hid (belowThen HX4.out (Nat.le_refl _) hx)
   clear ho hx
   go_wp2_with fail
   go_ret2
   exact ⟨v5, by rw [HAE.out, HF0.out]; rfl, by rw [HAB.out]; exact HO5.out, HX5.out⟩
  ·have hn1 : ((fdE (opT b) s : Int) != 0) = true := by simp; omega
   have HAB := Lib.hid (show atB b s = [] by rw [atB, HAE.out, if_neg hf])
   obtain ⟨fo, hfo⟩ : ∃ fo, fdE (opT b) s = fo := ⟨_, rfl⟩
   have HFO := Lib.hid hfo
   rw [hfo] at hn1 ⊢
   clear hfo hf
   go_wp2_with (first | (refine wpList_new rfl rfl rfl 26 8 22 rfl rfl rfl (by decide) (ndC ndZ) (ndC y) nd_zero rfl (nd_info _) (ndC_one _) rfl (by first | (simp; done) | simp [Act.put]) ?_; intro g8 w4 hb hx hg; have HX4 := Lib.hid (belowThen HX3.out (Nat.le_refl _) hx); clear hb hx hg))
   go_ret2
   exact ⟨_, by rw [HAE.out, HFO.out]; rfl, by rw [HAB.out]; exact Agg.Own.nil _ _ _, HX4.out⟩
 ·have hn0 : ((opE b : Int) != 0) = true := by simp; omega
  have HAE := Lib.hid (show atE b s = opE b ∧ atB b s = [] by
   have e : atE b s = opE b := by rw [atE, if_neg he]
   exact ⟨e, by rw [atB, e, if_neg he]⟩)
  obtain ⟨eo, heo⟩ : ∃ eo, opE b = eo := ⟨_, rfl⟩
  have HEO := Lib.hid heo
  rw [heo] at hn0 ⊢
  clear he heo
  go_wp2_with (first | (refine wpList_new rfl rfl rfl 26 6 13 rfl rfl rfl (by decide) (ndC ndZ) (ndC x) nd_zero rfl (nd_info _) (ndC_one _) rfl (by first | (simp; done) | simp [Act.put]) ?_; intro g6 w2 hb hx hg; have HX2 := Lib.hid (belowThen HX1.out (Nat.le_refl _) hx); clear hb hx hg))
  go_ret2
  exact ⟨_, by rw [HAE.out.1, HEO.out]; rfl, by rw [HAE.out.2]; exact Agg.Own.nil _ _ _, HX2.out⟩
end Go.Proofs.YtfiadgdinhmgbaaGreatDoor
