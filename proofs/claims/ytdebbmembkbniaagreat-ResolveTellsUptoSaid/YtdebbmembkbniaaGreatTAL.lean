/- spencelaw20: same, ref, alike, great. -/
import Derived.Test.YtdebbmembkbniaaGreatTAD
import Derived.Test.YtdebbmembkbniaaGreatTAK
namespace Go.Agg
open Go.RowKit
theorem exec_indexC {P : Program} {o : Oper} {a : Act} {w : World} {t : TypeId} {x y : Operand} {vx vy r : Value} (ho : o.op = .indexAddr t x y) (hx : a.eval x = vx) (hy : a.eval y = vy) (hrun : (Instr.indexAt t vx vy).run P w = .ok r w) : (execOp a.eval o).run P w = .ok (.value r) w := by
 simp [execOp, ho, hx, hy, hrun]
theorem exec_build2C {P : Program} {o : Oper} {a : Act} {w : World} {ty : TypeId} {i j : Nat} {x y : Operand} {vx vy v : Value} (ho : o.op = .build ty #[(i, x), (j, y)]) (hx : a.eval x = vx) (hy : a.eval y = vy) (hrun : (Instr.build ty #[(i, vx), (j, vy)]).run P w = .ok v w) : (execOp a.eval o).run P w = .ok (.value v) w := by
 subst hx hy
 simp [execOp, ho, hrun]
end Go.Agg
namespace Go.Proofs.YtdebbmembkbniaaGreat
open Go.RowKit Pl Go.Agg
theorem rfinBuilt : ∀ parts, Tryz.prog.built 95 parts = Instr.fill (#[(0, 1), (1, 21)][·]?) (riC zR) parts := fun _ => by kernel_rfl
theorem build_rfin (n : List UInt8) (p : P20) (w : World) : (Instr.build 95 #[(0, .string ⟨n.toArray⟩), (1, .agg (pC p.1.1 p.1.2))]).run Tryz.prog w = .ok (.agg (riC (n, p))) w := by
 have h1 : (pC p.1.1 p.1.2).size = 21 := by rw [pC_size, p.2]
 have hz : (riC zR).size = 22 := riC_size _
 have hs1 : (Go.Agg.splice (riC zR) 0 #[.string ⟨n.toArray⟩]).size = 22 := by rw [Go.Agg.splice_size _ _ _ (by simp; omega), hz]
 refine run_build w _ _ _ ?_
 rw [rfinBuilt]
 rw [fill_cons (off := 0) (size := 1) rfl rfl (by omega)]
 rw [fill_cons (off := 1) (size := 21) rfl (by simp only [Value.cells]; exact h1) (by simp only [Value.cells]; omega)]
 rw [fill_nil]
 refine congrArg some ?_
 clear hs1
 simp only [Value.cells]
 generalize riC zR = Z at *
 apply Array.ext'
 have l3 : Z.toList.length = 22 := by rw [Array.length_toList]; exact hz
 simp [Go.Agg.splice, riC, h1, l3, List.drop_eq_nil_of_le]
theorem build_rf (n : List UInt8) (p : Option Addr) (m c : Nat) (w : World) : (Instr.build 36 #[(0, .string ⟨n.toArray⟩), (2, .slice p m c)]).run Tryz.prog w = .ok (.agg (rsC n (.slice none 0 0) (.slice p m c))) w := by kernel_rfl
theorem rfC_zero0 : (Tryz.prog.info? 36).map (·.zero) = some (some (.agg (rsC [] (.slice none 0 0) (.slice none 0 0)))) := by kernel_rfl
theorem rf_info (n : List UInt8) (a b : Value) : (Tryz.prog.info? 36).map (·.size) = some (rsC n a b).size := by kernel_rfl
set_option maxRecDepth 100000 in
set_option maxHeartbeats 8000000 in
theorem same20_any (v u : Value) (a b : Rv) (ha : a.2.1.length ≤ 1048576) (hb : b.2.2.length ≤ 1048576) (ha2 : a.2.2.length ≤ 1048576) (w : World) (h1 : RvAt w v a) (h2 : RfAt w u b) :
  Calls Tryz.prog 21 #[v, u] w fun e w' => e = .returned (.bool (decide (a = b))) ∧ Below w.heap.size w w' := by
 obtain ⟨vi, vr, rfl, hvi, hvr⟩ := h1
 obtain ⟨ui, ur, rfl, hui, hur⟩ := h2
 have hlv := ris_len hvi
 have hlu := rfs_len hui
 have HV := Lib.hid (And.intro hvi hvr)
 have HU := Lib.hid (And.intro hui hur)
 clear hvi hvr hui hur
 by_cases hnm : a.1 = b.1
 ·by_cases hln : a.2.1.length = b.2.1.length
  ·have HQ0 := Lib.hid (show (!decide (a.1 = b.1)) = false by simp [hnm])
   have hnl : ((a.2.1.length : Int) != (b.2.1.length : Int)) = false := by simp [hln]
   have HLEN := Lib.hid hln
   have hlb : b.2.1.length ≤ 1048576 := by rw [← hln]; exact ha
   have HNM := Lib.hid hnm
   rw [hln] at hlv hnl
   clear hln hnm
   go_enter Tryz.func21, Tryz.ntmps21
   go_wp2_with (first | (with_reducible refine wpList_box rfl 25 _ rfl (#[.string ⟨a.1.toArray⟩, vi, vr]) rfl ?_; intro g1 w1 hb1 hx1 hg1; have HA1 := Lib.hid (RvB.of_blk hb1); have HX1 := Lib.hid hx1; clear hb1 hx1 hg1) | (with_reducible refine wpList_box rfl 36 _ rfl (#[.string ⟨b.1.toArray⟩, ui, ur]) rfl ?_; intro g2 w2 hb2 hx2 hg2; have HB2 := Lib.hid (RfB.of_blk hb2); have HA2 := Lib.hid (HA1.out.below hx2); have HX2 := Lib.hid (belowThen HX1.out (Nat.le_refl _) hx2); clear hb2 hx2 hg2) | (with_reducible refine wpList_loadL HA2.out.name rfl _ rfl rfl ?_) | (with_reducible refine wpList_loadL HB2.out.name rfl _ rfl rfl ?_) | (refine Agg.wpList_neqS (s := a.1) (r := b.1) rfl rfl rfl rfl false HQ0.out ?_) | (with_reducible refine wpList_loadL HA2.out.inp rfl _ rfl rfl ?_) | (with_reducible refine wpList_loadL HB2.out.inp rfl _ rfl rfl ?_))
   go_loopw [5] (fun i wr => ∃ k : Nat, k ≤ b.2.1.length ∧ i = .int .i64 k ∧ a.2.1.take k = b.2.1.take k ∧ Below w.heap.size w wr ∧ Below w2.heap.size w2 wr) (fun i _ => b.2.1.length - (intOf i).toNat)
   case atStart => exact ⟨0, by omega, rfl, rfl, HX2.out, Below.refl _ _⟩
   case round =>
    obtain ⟨w3, rfl⟩ : ∃ y : World, y = wr := ⟨_, rfl⟩
    obtain ⟨k, hk, rfl, htk, hw, hw2⟩ := hrel
    have HTK := Lib.hid htk
    have HW := Lib.hid hw
    have HW2 := Lib.hid hw2
    have HA := Lib.hid (HA2.out.below hw2)
    have HB := Lib.hid (HB2.out.below hw2)
    clear htk hw hw2
    by_cases hlt : k < b.2.1.length
    ·have hd1 : decide ((k : Int) < (b.2.1.length : Int)) = true := by simp; omega
     obtain ⟨y, hyk⟩ : ∃ y, b.2.1[k]? = some y := ⟨_, List.getElem?_eq_getElem hlt⟩
     obtain ⟨x, hxk⟩ : ∃ x, a.2.1[k]? = some x := ⟨_, List.getElem?_eq_getElem (by rw [HLEN.out]; exact hlt)⟩
     obtain ⟨p, hadr, _, hld⟩ := ri_at (HV.out.1.below HW.out) k x hxk
     obtain ⟨q, hadq, _, hlq⟩ := rf_at (HU.out.1.below HW.out) k y hyk
     have HLX := Lib.hid hld
     have HLY := Lib.hid hlq
     have HX := Lib.hid hxk
     have HY := Lib.hid hyk
     clear hld hlq hxk hyk
     go_wp2_with (first | (with_reducible refine wpList_loadL HA.out.inp rfl _ rfl rfl ?_))
     by_cases hn : x.1 = y.1
     ·have HQ := Lib.hid (show (!decide (x.1 = y.1)) = false by simp [hn])
      by_cases hp : x.2 = y.2
      ·have HXY := Lib.hid (show x = y from Prod.ext hn hp)
       have hq : ∀ w, (binOp .neq 48 (.agg (pC x.2.1.1 x.2.1.2)) (.agg (pC y.2.1.1 y.2.1.2))).run Tryz.prog w = .ok (.bool false) w := fun w => by rw [neqPB]; simp [hp]
       clear hn hp
       go_wp2_with fail
       try simp only [Act.put, List.setIfInBounds_toArray, List.set_cons_succ, List.set_cons_zero]
       refine wp_region_later_lit (by kernel_rfl) (by kernel_rfl) ?_
       repeat (first | go_big_quiet_skip | ((first | (with_reducible refine wpQuiet_loadL HA.out.inp rfl _ rfl rfl ?_) | (with_reducible refine wpQuiet_loadL HB.out.inp rfl _ rfl rfl ?_) | (with_reducible refine wpQuiet_loadL HLX.out.name rfl _ rfl rfl ?_) | (with_reducible refine wpQuiet_loadL HLY.out.name rfl _ rfl rfl ?_) | (with_reducible refine wpQuiet_loadL HLX.out.path rfl _ rfl rfl ?_) | (with_reducible refine wpQuiet_loadL HLY.out.path rfl _ rfl rfl ?_) | (refine Agg.wpQuiet_neqS (s := x.1) (r := y.1) rfl rfl rfl rfl false HQ.out ?_) | (with_reducible refine Agg.wpQuiet_neq 48 48 _ _ rfl rfl (pC x.2.1.1 x.2.1.2) (pC y.2.1.1 y.2.1.2) rfl rfl (false) (by kernel_rfl) hq ?_)); simp only [Act.put, List.setIfInBounds_toArray, List.set_cons_succ, List.set_cons_zero]) | go_big_quiet_step (fail))
       refine wpQuiet_nil ?_
       intro _ hw'
       obtain ⟨x1, rfl⟩ := hw'
       go_wp2_with fail
       go_roundw
       case rel => exact ⟨k + 1, by omega, by go_num, take_eq_succ HX.out HY.out HTK.out HXY.out, belowThen HW.out (Nat.le_refl _) x1.h, belowThen HW2.out (Nat.le_refl _) x1.h⟩
       case measure => simp [intOf]; omega
      ·have HR := Lib.hid (show decide (a = b) = false by simp only [decide_eq_false_iff_not]; exact fun e => ne_at HX.out HY.out (fun e => hp (congrArg Prod.snd e)) (congrArg (fun z : Rv => z.2.1) e))
       have hq : ∀ w, (binOp .neq 48 (.agg (pC x.2.1.1 x.2.1.2)) (.agg (pC y.2.1.1 y.2.1.2))).run Tryz.prog w = .ok (.bool true) w := fun w => by rw [neqPB]; simp [hp]
       clear hn hp
       go_wp2_with fail
       try simp only [Act.put, List.setIfInBounds_toArray, List.set_cons_succ, List.set_cons_zero]
       refine wp_region_later_lit (by kernel_rfl) (by kernel_rfl) ?_
       repeat (first | go_big_quiet_skip | ((first | (with_reducible refine wpQuiet_loadL HA.out.inp rfl _ rfl rfl ?_) | (with_reducible refine wpQuiet_loadL HB.out.inp rfl _ rfl rfl ?_) | (with_reducible refine wpQuiet_loadL HLX.out.name rfl _ rfl rfl ?_) | (with_reducible refine wpQuiet_loadL HLY.out.name rfl _ rfl rfl ?_) | (with_reducible refine wpQuiet_loadL HLX.out.path rfl _ rfl rfl ?_) | (with_reducible refine wpQuiet_loadL HLY.out.path rfl _ rfl rfl ?_) | (refine Agg.wpQuiet_neqS (s := x.1) (r := y.1) rfl rfl rfl rfl false HQ.out ?_) | (with_reducible refine Agg.wpQuiet_neq 48 48 _ _ rfl rfl (pC x.2.1.1 x.2.1.2) (pC y.2.1.1 y.2.1.2) rfl rfl (true) (by kernel_rfl) hq ?_)); simp only [Act.put, List.setIfInBounds_toArray, List.set_cons_succ, List.set_cons_zero]) | go_big_quiet_step (fail))
       refine wpQuiet_nil ?_
       intro _ hw'
       obtain ⟨x1, rfl⟩ := hw'
       go_wp2_with fail
       go_ret
       exact ⟨ret_bool HR.out.symm, belowThen HW.out (Nat.le_refl _) x1.h⟩
     ·have HQ := Lib.hid (show (!decide (x.1 = y.1)) = true by simp [hn])
      have HR := Lib.hid (show decide (a = b) = false by simp only [decide_eq_false_iff_not]; exact fun e => ne_at HX.out HY.out (fun e => hn (congrArg Prod.fst e)) (congrArg (fun z : Rv => z.2.1) e))
      clear hn
      go_wp2_with fail
      try simp only [Act.put, List.setIfInBounds_toArray, List.set_cons_succ, List.set_cons_zero]
      refine wp_region_later_lit (by kernel_rfl) (by kernel_rfl) ?_
      repeat (first | go_big_quiet_skip | ((first | (with_reducible refine wpQuiet_loadL HA.out.inp rfl _ rfl rfl ?_) | (with_reducible refine wpQuiet_loadL HB.out.inp rfl _ rfl rfl ?_) | (with_reducible refine wpQuiet_loadL HLX.out.name rfl _ rfl rfl ?_) | (with_reducible refine wpQuiet_loadL HLY.out.name rfl _ rfl rfl ?_) | (with_reducible refine wpQuiet_loadL HLX.out.path rfl _ rfl rfl ?_) | (with_reducible refine wpQuiet_loadL HLY.out.path rfl _ rfl rfl ?_) | (refine Agg.wpQuiet_neqS (s := x.1) (r := y.1) rfl rfl rfl rfl true HQ.out ?_)); simp only [Act.put, List.setIfInBounds_toArray, List.set_cons_succ, List.set_cons_zero]) | go_big_quiet_step (fail))
      refine wpQuiet_nil ?_
      intro _ hw'
      obtain ⟨x1, rfl⟩ := hw'
      go_wp2_with fail
      go_ret
      exact ⟨ret_bool HR.out.symm, belowThen HW.out (Nat.le_refl _) x1.h⟩
    ·obtain rfl : k = b.2.1.length := by omega
     have hd1 : decide ((b.2.1.length : Int) < (b.2.1.length : Int)) = false := by simp
     have HR := Lib.hid (show decide (a = b) = decide (a.2.2 = b.2.2) by
      have h := HTK.out
      rw [List.take_length, List.take_of_length_le (by rw [HLEN.out]; omega)] at h
      rw [decide_eq_decide]
      exact ⟨fun e => by rw [e], fun e => Prod.ext HNM.out (Prod.ext h e)⟩)
     go_wp2_with (first | (with_reducible refine wpList_loadL HA.out.inp rfl _ rfl rfl ?_) | (with_reducible refine wpList_loadL HA.out.rcp rfl _ rfl rfl ?_) | (with_reducible refine wpList_loadL HB.out.rcp rfl _ rfl rfl ?_))
     refine (sameBytes_any vr ur a.2.2 b.2.2 ha2 hb w3 (HV.out.2.below HW.out) (HU.out.2.below HW.out)).mono ?_
     rintro e w4 ⟨rfl, hx4⟩
     have HX4 := Lib.hid (belowThen HW.out (Nat.le_refl _) hx4)
     clear hx4
     go_wp2_with fail
     go_ret
     exact ⟨ret_bool HR.out.symm, HX4.out⟩
  ·have HQ0 := Lib.hid (show (!decide (a.1 = b.1)) = false by simp [hnm])
   have hnl : ((a.2.1.length : Int) != (b.2.1.length : Int)) = true := by rw [bne_iff_ne]; omega
   have HR := Lib.hid (show decide (a = b) = false by simp only [decide_eq_false_iff_not]; exact fun e => hln (by rw [e]))
   clear hln hnm
   go_enter Tryz.func21, Tryz.ntmps21
   go_wp2_with (first | (with_reducible refine wpList_box rfl 25 _ rfl (#[.string ⟨a.1.toArray⟩, vi, vr]) rfl ?_; intro g1 w1 hb1 hx1 hg1; have HA1 := Lib.hid (RvB.of_blk hb1); have HX1 := Lib.hid hx1; clear hb1 hx1 hg1) | (with_reducible refine wpList_box rfl 36 _ rfl (#[.string ⟨b.1.toArray⟩, ui, ur]) rfl ?_; intro g2 w2 hb2 hx2 hg2; have HB2 := Lib.hid (RfB.of_blk hb2); have HA2 := Lib.hid (HA1.out.below hx2); have HX2 := Lib.hid (belowThen HX1.out (Nat.le_refl _) hx2); clear hb2 hx2 hg2) | (with_reducible refine wpList_loadL HA2.out.name rfl _ rfl rfl ?_) | (with_reducible refine wpList_loadL HB2.out.name rfl _ rfl rfl ?_) | (refine Agg.wpList_neqS (s := a.1) (r := b.1) rfl rfl rfl rfl false HQ0.out ?_) | (with_reducible refine wpList_loadL HA2.out.inp rfl _ rfl rfl ?_) | (with_reducible refine wpList_loadL HB2.out.inp rfl _ rfl rfl ?_))
   go_ret
   exact ⟨ret_bool HR.out.symm, HX2.out⟩
 ·have HQ0 := Lib.hid (show (!decide (a.1 = b.1)) = true by simp [hnm])
  have HR := Lib.hid (show decide (a = b) = false by simp only [decide_eq_false_iff_not]; exact fun e => hnm (by rw [e]))
  clear hnm
  go_enter Tryz.func21, Tryz.ntmps21
  go_wp2_with (first | (with_reducible refine wpList_box rfl 25 _ rfl (#[.string ⟨a.1.toArray⟩, vi, vr]) rfl ?_; intro g1 w1 hb1 hx1 hg1; have HA1 := Lib.hid (RvB.of_blk hb1); have HX1 := Lib.hid hx1; clear hb1 hx1 hg1) | (with_reducible refine wpList_box rfl 36 _ rfl (#[.string ⟨b.1.toArray⟩, ui, ur]) rfl ?_; intro g2 w2 hb2 hx2 hg2; have HB2 := Lib.hid (RfB.of_blk hb2); have HA2 := Lib.hid (HA1.out.below hx2); have HX2 := Lib.hid (belowThen HX1.out (Nat.le_refl _) hx2); clear hb2 hx2 hg2) | (with_reducible refine wpList_loadL HA2.out.name rfl _ rfl rfl ?_) | (with_reducible refine wpList_loadL HB2.out.name rfl _ rfl rfl ?_) | (refine Agg.wpList_neqS (s := a.1) (r := b.1) rfl rfl rfl rfl true HQ0.out ?_))
  go_ret
  exact ⟨ret_bool HR.out.symm, HX2.out⟩
set_option maxRecDepth 100000 in
set_option maxHeartbeats 8000000 in
theorem ref20_any (v : Value) (r : Rv) (hl : r.2.1.length ≤ 1048576) (w : World) (h : RvAt w v r) :
  Calls Tryz.prog 11 #[v] w fun e w' => ∃ v', e = .returned v' ∧ RfAt w' v' r ∧ Below w.heap.size w w' := by
 obtain ⟨vi, vr, rfl, hvi, hvr⟩ := h
 have hli := ris_len hvi
 obtain ⟨pr, cr, hfr⟩ := hvr.form
 have HFR := Lib.hid hfr
 have HV := Lib.hid (And.intro hvi hvr)
 have HBV := Lib.hid (fun W => (show (Instr.build 36 #[(0, .string ⟨r.1.toArray⟩), (2, vr)]).run Tryz.prog W = .ok (.agg (rsC r.1 (.slice none 0 0) vr)) W by rw [hfr]; exact build_rf _ _ _ _ _))
 have HON := Lib.hid (show ∀ vi, (∃ p n c, vi = .slice p n c) → (rsC r.1 vi vr).all (·.oneCell') = true by rintro _ ⟨p, n, c, rfl⟩; rw [hfr]; simp [rsC, Value.oneCell'])
 clear hvi hvr hfr
 go_enter Tryz.func11, Tryz.ntmps11
 go_wp2_with (first | (with_reducible refine wpList_box rfl 25 _ rfl (rsC r.1 vi vr) rfl ?_; intro g1 w1 hb1 hx1 hg1; have HR1 := Lib.hid (show Blk w1 g1 25 (rsC r.1 vi vr) from hb1); have HX1 := Lib.hid hx1; clear hb1 hx1 hg1) | (with_reducible refine Agg.wpList_zero rfl 36 rfl (rsC [] (.slice none 0 0) (.slice none 0 0)) rfC_zero0 ?_; intro g2 w2 hb hx hg; have HZ2 := Lib.hid hb; have HR2 := Lib.hid (HR1.out.below hx); have HX2 := Lib.hid (belowThen HX1.out (Nat.le_refl _) hx); have HG2 := Lib.hid (Nat.le_trans HX1.out.size hg); have HL2 := Lib.hid (RvB.of_blk HR2.out); clear hb hx hg) | (with_reducible refine wpList_loadL HL2.out.name rfl _ rfl rfl ?_) | (with_reducible refine wpList_loadL HL2.out.rcp rfl _ rfl rfl ?_) | (with_reducible refine wpList_build2 36 0 _ 2 _ rfl rfl (.string ⟨r.1.toArray⟩) vr rfl rfl (.agg (rsC r.1 (.slice none 0 0) vr)) HBV.out ?_) | (refine wpList_new rfl rfl rfl 36 3 9 rfl rfl rfl (by decide) (rsC [] (.slice none 0 0) (.slice none 0 0)) (rsC r.1 (.slice none 0 0) vr) rfC_zero0 rfl (rf_info _ _ _) (HON.out _ ⟨_, _, _, rfl⟩) rfl (by simp [Act.put]) ?_; intro g3 w3 hb3 hx3 hg3; have HB3 := Lib.hid hb3; have HR3 := Lib.hid (HR2.out.below hx3); have HZ3 := Lib.hid (HZ2.out.below hx3); have HX3 := Lib.hid (belowThen HX2.out (Nat.le_refl _) hx3); have HG3 := Lib.hid (Nat.le_trans HX2.out.size hg3); have HNE := Lib.hid (show ¬ g1 = g3 from fun e => by have := HR2.out.lt; omega); have HN23 := Lib.hid (show ¬ g2 = g3 from fun e => by have := HZ2.out.lt; omega); clear hb3 hx3 hg3))
 go_loopw [4] (fun i wr => ∃ (k : Nat) (pv : Value), k ≤ r.2.1.length ∧ i = .int .i64 (k : Int) ∧ Agg.Own ERf w.heap.size wr pv (r.2.1.take k) ∧ Blk wr g1 25 (rsC r.1 vi vr) ∧ Blk wr g3 36 (rsC r.1 pv vr) ∧ Below w.heap.size w wr ∧ Blk wr g2 36 (rsC [] (.slice none 0 0) (.slice none 0 0))) (fun i _ => r.2.1.length - (intOf i).toNat)
 case atStart => exact ⟨0, _, by omega, rfl, Agg.Own.nil _ _ _, HR3.out, HB3.out, HX3.out, HZ3.out⟩
 case round =>
  obtain ⟨wr1, rfl⟩ : ∃ y : World, y = wr := ⟨_, rfl⟩
  obtain ⟨k, pv, hk, rfl, ho, hr, hb, hx, hz⟩ := hrel
  have HO := Lib.hid ho
  have HR := Lib.hid hr
  have HB := Lib.hid hb
  have HX := Lib.hid hx
  have HZ := Lib.hid hz
  have HLI := Lib.hid (RvB.of_blk hr)
  clear ho hr hb hx hz
  by_cases hlt : k < r.2.1.length
  ·have hd1 : decide ((k : Int) < (r.2.1.length : Int)) = true := by simp; omega
   obtain ⟨x, hxk⟩ : ∃ x, r.2.1[k]? = some x := ⟨_, List.getElem?_eq_getElem hlt⟩
   obtain ⟨p, hadr, _, hld⟩ := ri_at HV.out.1 k x hxk
   have HL := Lib.hid (fun (W : World) (h : Below w.heap.size w W) => hld.below h)
   have HTK := Lib.hid (show r.2.1.take (k + 1) = r.2.1.take k ++ [x] by rw [List.take_add_one, hxk]; rfl)
   have h63 : (r.2.1.take k).length + [x].length ≤ 1099511627776 / 8 := by rw [List.length_take]; simp; omega
   clear hld hxk
   go_wp2_with (first | (with_reducible refine wpList_loadL HLI.out.inp rfl _ rfl rfl ?_))
   try simp only [Act.put, List.setIfInBounds_toArray, List.set_cons_succ, List.set_cons_zero]
   obtain ⟨w0, hw0⟩ : ∃ W, W = wr1.drew := ⟨_, rfl⟩
   have hd0 : Below wr1.heap.size wr1 w0 := by rw [hw0]; exact (Below.refl _ _).drew
   have HRd := Lib.hid (HR.out.below hd0)
   have HBd := Lib.hid (HB.out.below hd0)
   have HOd := Lib.hid (HO.out.below hd0)
   have HXd := Lib.hid (belowThen HX.out (Nat.le_refl _) hd0)
   have HZd := Lib.hid (HZ.out.below hd0)
   refine wp_region_held_drew (S := fun W => Blk W g1 25 (rsC r.1 vi vr) ∧ Below w.heap.size w W) (by kernel_rfl) (by rw [← hw0]; exact ⟨HRd.out, HXd.out⟩) (fun hHeld => ?_)
   rw [← hw0] at hHeld ⊢
   clear hw0 hd0
   refine held_take 0 (.pointer (some ⟨g3, 1, none⟩)) rfl (by kernel_rfl) (fun _ _ _ h => h) rfl (fun W _ => by kernel_rfl) (by assumption) ?_
   try simp only [Act.put, List.setIfInBounds_toArray, List.set_cons_succ, List.set_cons_zero]
   refine held_take 2 (.pointer (some ⟨g1, 1, none⟩)) rfl (by kernel_rfl) (fun _ _ _ h => h) rfl (fun W _ => by kernel_rfl) (by assumption) ?_
   try simp only [Act.put, List.setIfInBounds_toArray, List.set_cons_succ, List.set_cons_zero]
   refine held_take 3 (vi) rfl (by kernel_rfl) (fun _ _ _ h => h) rfl (fun W hS => exec_loadC rfl rfl (RvB.of_blk hS.1).inp.now) (by assumption) ?_
   try simp only [Act.put, List.setIfInBounds_toArray, List.set_cons_succ, List.set_cons_zero]
   refine held_take 4 (.int .i64 (k : Int)) rfl (by kernel_rfl) (fun _ _ _ h => h) rfl (fun W _ => by kernel_rfl) (by assumption) ?_
   try simp only [Act.put, List.setIfInBounds_toArray, List.set_cons_succ, List.set_cons_zero]
   refine held_take 5 (.pointer (some p)) rfl (by kernel_rfl) (fun _ _ _ h => h) rfl (fun W _ => exec_indexC rfl rfl rfl (hadr W)) (by assumption) ?_
   try simp only [Act.put, List.setIfInBounds_toArray, List.set_cons_succ, List.set_cons_zero]
   refine held_take 6 (.pointer (some (p.add 0))) rfl (by kernel_rfl) (fun _ _ _ h => h) rfl (fun W _ => by kernel_rfl) (by assumption) ?_
   try simp only [Act.put, List.setIfInBounds_toArray, List.set_cons_succ, List.set_cons_zero]
   refine held_take 7 (.string ⟨x.1.toArray⟩) rfl (by kernel_rfl) (fun _ _ _ h => h) rfl (fun W hS => exec_loadC rfl rfl ((HL.out W hS.2).name.now)) (by assumption) ?_
   try simp only [Act.put, List.setIfInBounds_toArray, List.set_cons_succ, List.set_cons_zero]
   refine held_take 8 (.pointer (some ⟨g1, 1, none⟩)) rfl (by kernel_rfl) (fun _ _ _ h => h) rfl (fun W _ => by kernel_rfl) (by assumption) ?_
   try simp only [Act.put, List.setIfInBounds_toArray, List.set_cons_succ, List.set_cons_zero]
   refine held_take 9 (vi) rfl (by kernel_rfl) (fun _ _ _ h => h) rfl (fun W hS => exec_loadC rfl rfl (RvB.of_blk hS.1).inp.now) (by assumption) ?_
   try simp only [Act.put, List.setIfInBounds_toArray, List.set_cons_succ, List.set_cons_zero]
   refine held_take 10 (.int .i64 (k : Int)) rfl (by kernel_rfl) (fun _ _ _ h => h) rfl (fun W _ => by kernel_rfl) (by assumption) ?_
   try simp only [Act.put, List.setIfInBounds_toArray, List.set_cons_succ, List.set_cons_zero]
   refine held_take 11 (.pointer (some p)) rfl (by kernel_rfl) (fun _ _ _ h => h) rfl (fun W _ => exec_indexC rfl rfl rfl (hadr W)) (by assumption) ?_
   try simp only [Act.put, List.setIfInBounds_toArray, List.set_cons_succ, List.set_cons_zero]
   refine held_take 12 (.pointer (some (p.add 1))) rfl (by kernel_rfl) (fun _ _ _ h => h) rfl (fun W _ => by kernel_rfl) (by assumption) ?_
   try simp only [Act.put, List.setIfInBounds_toArray, List.set_cons_succ, List.set_cons_zero]
   refine held_take 13 (.agg (pC x.2.1.1 x.2.1.2)) rfl (by kernel_rfl) (fun _ _ _ h => h) rfl (fun W hS => exec_loadC rfl rfl ((HL.out W hS.2).path.now)) (by assumption) ?_
   try simp only [Act.put, List.setIfInBounds_toArray, List.set_cons_succ, List.set_cons_zero]
   refine held_take 14 (.agg (riC x)) rfl (by kernel_rfl) (fun _ _ _ h => h) rfl (fun W _ => exec_build2C rfl rfl rfl (build_rfin x.1 x.2 W)) (by assumption) ?_
   try simp only [Act.put, List.setIfInBounds_toArray, List.set_cons_succ, List.set_cons_zero]
   refine held_ready [1, 15] (by kernel_rfl) (by simp) ?_
   refine held_cons rfl ?_ ?_
   ·refine step_load rfl 34 _ rfl _ pv rfl (RfB.of_blk HBd.out).inp.now ?_
    have HR_1 := HRd
    have HB_1 := HBd
    have HO_1 := HOd
    have HX_1 := HXd
    have HZ_1 := HZd
    have HCJ := Lib.hid (And.intro HR_1.out HX_1.out)
    refine ⟨HCJ.out, ?_⟩
    try simp only [Act.put, List.setIfInBounds_toArray, List.set_cons_succ, List.set_cons_zero]
    refine held_one 15 rfl (by kernel_rfl) ?_
    refine step_slice1 (E := ERf) rfl _ rfl x rfl ?_
    intro x4 w_1_15 hx4 hb4
    have Ze := Lib.hid (HR_1.out.below hb4)
    have Zh := Lib.hid (HB_1.out.below hb4)
    have Zk := Lib.hid (HO_1.out.below hb4)
    have Zj := Lib.hid (HZ_1.out.below hb4)
    have Zb := Lib.hid (belowThen HX_1.out (Nat.le_refl _) hb4)
    have Zi := Lib.hid hx4.slice
    clear hx4 hb4
    have HCJ := Lib.hid (And.intro Ze.out Zb.out)
    refine ⟨HCJ.out, ?_⟩
    try simp only [Act.put, List.setIfInBounds_toArray, List.set_cons_succ, List.set_cons_zero]
    refine held_one 16 rfl (by kernel_rfl) ?_
    refine Agg.step_appendS (E := ERf) (base := w.heap.size) rfl _ _ rfl x4 rfl rfl [x] Zk.out Zi.out h63 (by decide) Zb.out.size ?_
    intro v5 Zm ho5 hp5
    have Zd := Lib.hid (Ze.out.pushedB hp5 (by decide))
    have Zg := Lib.hid (Zj.out.pushedB hp5 (by decide))
    have Zc := Lib.hid (Zh.out.pushedB hp5 (by decide))
    have Zf := Lib.hid ho5
    have Za := Lib.hid (Zb.out.trans (hp5.below w.heap.size (Nat.le_refl _) Zb.out.size))
    obtain ⟨p5, c5, hf5⟩ := ho5.slice.form
    have HF5 := Lib.hid hf5
    clear ho5 hp5 hf5
    have HCJ := Lib.hid (And.intro Zd.out Za.out)
    refine ⟨HCJ.out, ?_⟩
    try simp only [Act.put, List.setIfInBounds_toArray, List.set_cons_succ, List.set_cons_zero]
    refine held_take 17 (.pointer (some ⟨g3, 1, none⟩)) rfl (by kernel_rfl) (fun _ _ _ h => h) rfl (fun W _ => by kernel_rfl) (by assumption) ?_
    try simp only [Act.put, List.setIfInBounds_toArray, List.set_cons_succ, List.set_cons_zero]
    refine held_one 18 rfl (by kernel_rfl) ?_
    obtain ⟨w7, hrun, hb7, ho7⟩ := Blk.run_one (P := Tryz.prog) (ty := 34) Zc.out 1 (rsC_lt _ _ _ _ (by decide)) v5 (by rw [HF5.out]; rfl) (by rw [HF5.out]; rfl) (by kernel_rfl) (rsC r.1 v5 vr) rfl
    refine Agg.step_store rfl rfl 34 _ _ rfl (.pointer (some ⟨g3, 1, none⟩)) v5 rfl rfl hrun ?_
    have HR7 := Lib.hid (Zd.out.onlyQ ho7 HNE.out)
    have HB7 := Lib.hid hb7
    have HO7 := Lib.hid (Zf.out.onlyB ho7 Zc.out (by decide))
    have HX7 := Lib.hid (Za.out.trans (ho7.below (B := w.heap.size) Za.out.size (fun i hi => by subst hi; exact HG3.out)))
    have HZ7 := Lib.hid (Zg.out.onlyQ ho7 HN23.out)
    clear hrun hb7 ho7
    have HCJ := Lib.hid (And.intro HR7.out HX7.out)
    refine ⟨HCJ.out, ?_⟩
    try simp only [Act.put, List.setIfInBounds_toArray, List.set_cons_succ, List.set_cons_zero]
    refine held_end (by kernel_rfl) ?_
    go_wp2_with fail
    go_roundw
    case rel => exact ⟨k + 1, v5, by omega, by go_num, by rw [HTK.out]; exact HO7.out, HR7.out, HB7.out, HX7.out, HZ7.out⟩
    case measure => simp [intOf]; omega
   refine held_cons rfl ?_ ?_
   ·refine step_slice1 (E := ERf) rfl _ rfl x rfl ?_
    intro x4 w_15 hx4 hb4
    have HR_15 := Lib.hid (HRd.out.below hb4)
    have HB_15 := Lib.hid (HBd.out.below hb4)
    have HO_15 := Lib.hid (HOd.out.below hb4)
    have HZ_15 := Lib.hid (HZd.out.below hb4)
    have HX_15 := Lib.hid (belowThen HXd.out (Nat.le_refl _) hb4)
    have HS_15 := Lib.hid hx4.slice
    clear hx4 hb4
    have HCJ := Lib.hid (And.intro HR_15.out HX_15.out)
    refine ⟨HCJ.out, ?_⟩
    try simp only [Act.put, List.setIfInBounds_toArray, List.set_cons_succ, List.set_cons_zero]
    refine held_one 1 rfl (by kernel_rfl) ?_
    refine step_load rfl 34 _ rfl _ pv rfl (RfB.of_blk HB_15.out).inp.now ?_
    have Ze := HR_15
    have Zh := HB_15
    have Zk := HO_15
    have Zb := HX_15
    have Zj := HZ_15
    have Zi := HS_15
    have HCJ := Lib.hid (And.intro Ze.out Zb.out)
    refine ⟨HCJ.out, ?_⟩
    try simp only [Act.put, List.setIfInBounds_toArray, List.set_cons_succ, List.set_cons_zero]
    refine held_one 16 rfl (by kernel_rfl) ?_
    refine Agg.step_appendS (E := ERf) (base := w.heap.size) rfl _ _ rfl x4 rfl rfl [x] Zk.out Zi.out h63 (by decide) Zb.out.size ?_
    intro v5 Zm ho5 hp5
    have Zd := Lib.hid (Ze.out.pushedB hp5 (by decide))
    have Zg := Lib.hid (Zj.out.pushedB hp5 (by decide))
    have Zc := Lib.hid (Zh.out.pushedB hp5 (by decide))
    have Zf := Lib.hid ho5
    have Za := Lib.hid (Zb.out.trans (hp5.below w.heap.size (Nat.le_refl _) Zb.out.size))
    obtain ⟨p5, c5, hf5⟩ := ho5.slice.form
    have HF5 := Lib.hid hf5
    clear ho5 hp5 hf5
    have HCJ := Lib.hid (And.intro Zd.out Za.out)
    refine ⟨HCJ.out, ?_⟩
    try simp only [Act.put, List.setIfInBounds_toArray, List.set_cons_succ, List.set_cons_zero]
    refine held_take 17 (.pointer (some ⟨g3, 1, none⟩)) rfl (by kernel_rfl) (fun _ _ _ h => h) rfl (fun W _ => by kernel_rfl) (by assumption) ?_
    try simp only [Act.put, List.setIfInBounds_toArray, List.set_cons_succ, List.set_cons_zero]
    refine held_one 18 rfl (by kernel_rfl) ?_
    obtain ⟨w7, hrun, hb7, ho7⟩ := Blk.run_one (P := Tryz.prog) (ty := 34) Zc.out 1 (rsC_lt _ _ _ _ (by decide)) v5 (by rw [HF5.out]; rfl) (by rw [HF5.out]; rfl) (by kernel_rfl) (rsC r.1 v5 vr) rfl
    refine Agg.step_store rfl rfl 34 _ _ rfl (.pointer (some ⟨g3, 1, none⟩)) v5 rfl rfl hrun ?_
    have HR7 := Lib.hid (Zd.out.onlyQ ho7 HNE.out)
    have HB7 := Lib.hid hb7
    have HO7 := Lib.hid (Zf.out.onlyB ho7 Zc.out (by decide))
    have HX7 := Lib.hid (Za.out.trans (ho7.below (B := w.heap.size) Za.out.size (fun i hi => by subst hi; exact HG3.out)))
    have HZ7 := Lib.hid (Zg.out.onlyQ ho7 HN23.out)
    clear hrun hb7 ho7
    have HCJ := Lib.hid (And.intro HR7.out HX7.out)
    refine ⟨HCJ.out, ?_⟩
    try simp only [Act.put, List.setIfInBounds_toArray, List.set_cons_succ, List.set_cons_zero]
    refine held_end (by kernel_rfl) ?_
    go_wp2_with fail
    go_roundw
    case rel => exact ⟨k + 1, v5, by omega, by go_num, by rw [HTK.out]; exact HO7.out, HR7.out, HB7.out, HX7.out, HZ7.out⟩
    case measure => simp [intOf]; omega
   exact AllReadyH.nil
  ·obtain rfl : k = r.2.1.length := by omega
   rw [List.take_length] at HO
   have hd1 : decide ((r.2.1.length : Int) < (r.2.1.length : Int)) = false := by simp
   have HLF := Lib.hid (RfB.of_blk HB.out)
   obtain ⟨p9, c9, hf9⟩ := HO.out.slice.form
   go_wp2_with (first | (with_reducible refine wpList_loadL HLI.out.inp rfl _ rfl rfl ?_) | (with_reducible refine wpList_loadL HLF.out.all rfl _ rfl rfl ?_) | ((with_reducible refine wpList_put rfl rfl 36 _ _ rfl g2 (rsC r.1 pv vr) (rsC [] (.slice none 0 0) (.slice none 0 0)) rfl rfl HZ.out (rf_info _ _ _) (rsC_ss _ _ _ _ _ _) (HON.out _ ⟨_, _, _, hf9⟩) ?_); intro w9 hb9 hx9 hs9 hk9))
   have hb : Below w.heap.size w w9 := HX.out.trans (hx9.mono HG2.out)
   have ho9 : Only (· = g2) wr1 w9 := Only.of_eq hx9 hs9 hk9 rfl
   exact post_row rfl rfl hb9 rf_under rfl (rf_info _ _ _) rfl ⟨_, rfl, ⟨pv, vr, rfl, (HO.out.onlyB ho9 HZ.out (by decide)).slice, HV.out.2.below hb⟩, hb⟩
set_option maxRecDepth 100000 in
set_option maxHeartbeats 8000000 in
theorem great20_any (v : Value) (r : Rv) (hn : r.1.length ≤ 1048576) (hrl : r.2.2.length ≤ 1048576) (hi : ∀ x ∈ r.2.1, x.1.length ≤ 1048576 ∧ x.2.1.2.length ≤ 1048576) (hil : r.2.1.length ≤ 1048576) (w : World) (h : RvAt w v r) :
  Calls Tryz.prog 5 #[v] w fun e w' => (∃ b, e = .returned (.bool b)) ∧ Below w.heap.size w w' := by
 obtain ⟨vi, vr, rfl, hvi, hvr⟩ := h
 have hlv := ris_len hvi
 have hlr := bytes_len hvr
 have hls := str_len' r.1
 have HV := Lib.hid (And.intro hvi hvr)
 clear hvi hvr
 go_enter Tryz.func5, Tryz.ntmps5
 go_wp2_with (first | (with_reducible refine wpList_box rfl 25 _ rfl (#[.string ⟨r.1.toArray⟩, vi, vr]) rfl ?_; intro g1 w1 hb1 hx1 hg1; have HA1 := Lib.hid (RvB.of_blk hb1); have HX1 := Lib.hid hx1; clear hb1 hx1 hg1) | (with_reducible refine wpList_loadL HA1.out.name rfl _ rfl rfl ?_) | (with_reducible refine wpList_loadL HA1.out.rcp rfl _ rfl rfl ?_))
 go_loopw [3, 4] (fun m i wr => ∃ (k q : Nat), k ≤ r.2.1.length ∧ i = .int .i64 (k : Int) ∧ m = .int .i64 (q : Int) ∧ q ≤ 4194304 ∧ Below w.heap.size w wr ∧ Below w1.heap.size w1 wr) (fun _ i _ => r.2.1.length - (intOf i).toNat)
 case atStart => exact ⟨0, r.1.length + r.2.2.length, by omega, rfl, by go_num, by omega, HX1.out, Below.refl _ _⟩
 case round =>
  obtain ⟨w3, rfl⟩ : ∃ y : World, y = wr := ⟨_, rfl⟩
  obtain ⟨k, q, hk, rfl, rfl, hq, hw, hw1⟩ := hrel
  have HW := Lib.hid hw
  have HW1 := Lib.hid hw1
  have HA := Lib.hid (HA1.out.below hw1)
  clear hw hw1
  by_cases hlt : k < r.2.1.length
  ·have hd1 : decide ((k : Int) < (r.2.1.length : Int)) = true := by simp; omega
   by_cases hqm : q ≤ 3000
   ·have hd2 : decide ((q : Int) ≤ 3000) = true := by simp; omega
    obtain ⟨x, hxk⟩ : ∃ x, r.2.1[k]? = some x := ⟨_, List.getElem?_eq_getElem hlt⟩
    obtain ⟨p, hadr, _, hld⟩ := ri_at (HV.out.1.below HW.out) k x hxk
    have HLX := Lib.hid hld
    obtain ⟨hx1, hx2⟩ := hi x (List.mem_of_getElem? hxk)
    have hs1 := str_len' x.1
    have hs2 := str_len' x.2.1.2
    clear hld hxk
    go_wp2_with (first | (with_reducible refine wpList_loadL HA.out.inp rfl _ rfl rfl ?_))
    try simp only [Act.put, List.setIfInBounds_toArray, List.set_cons_succ, List.set_cons_zero]
    refine wp_region_later_lit (by kernel_rfl) (by kernel_rfl) ?_
    repeat (first | go_big_quiet_skip | ((first | (with_reducible refine wpQuiet_loadL HA.out.inp rfl _ rfl rfl ?_) | (with_reducible refine wpQuiet_loadL HLX.out.name rfl _ rfl rfl ?_) | (with_reducible refine wpQuiet_loadL HLX.out.pname rfl _ rfl rfl ?_)); simp only [Act.put, List.setIfInBounds_toArray, List.set_cons_succ, List.set_cons_zero]) | go_big_quiet_step (fail))
    refine wpQuiet_nil ?_
    intro _ hw'
    obtain ⟨x1, rfl⟩ := hw'
    go_wp2_with fail
    go_roundw
    case rel => exact ⟨k + 1, q + 1 + x.1.length + x.2.1.2.length, by omega, by go_num, by go_num, by omega, belowThen HW.out (Nat.le_refl _) x1.h, belowThen HW1.out (Nat.le_refl _) x1.h⟩
    case measure => simp [intOf]; omega
   ·have hd2 : decide ((q : Int) ≤ 3000) = false := by simp; omega
    go_wp2_with (first | (with_reducible refine wpList_loadL HA.out.inp rfl _ rfl rfl ?_))
    go_ret
    exact ⟨⟨_, rfl⟩, HW.out⟩
  ·obtain rfl : k = r.2.1.length := by omega
   have hd1 : decide ((r.2.1.length : Int) < (r.2.1.length : Int)) = false := by simp
   go_wp2_with (first | (with_reducible refine wpList_loadL HA.out.inp rfl _ rfl rfl ?_))
   go_ret
   exact ⟨⟨_, rfl⟩, HW.out⟩
end Go.Proofs.YtdebbmembkbniaaGreat
