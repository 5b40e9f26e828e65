/- Operations of a region that draws, guarded ones too: each by its own law. (Several texts in one.) -/
import Derived.Test.YtniibcgomnjfgaaGreatVBD
import Derived.Test.YtniibcgomnjfgaaGreatVAL
import Derived.Test.YtniibcgomnjfgaaGreatVAP
import Derived.Test.YtniibcgomnjfgaaGreatVAI
import Derived.Test.YtniibcgomnjfgaaGreatVAA
import Derived.Test.YtniibcgomnjfgaaGreatVAU
import Derived.Test.YtniibcgomnjfgaaGreatVAC
/-! spencekit.LentBuilt(s), KeptBuilt(s). -/
namespace Go.Proofs.YtniibcgomnjfgaaGreat
open Go.RowKit Pl Go.Agg
/-- a built whose inputs are lent -/
def LentI (base : Nat) (w : World) (x : BuV) : Prop := LentO EMd (marksG mkMd 1 12) base w (ivV x.2) x.1.ins
section
variable {base b' : Nat} {w w' : World} {x : BuV}
theorem LentI.below (h : LentI base w x) (hb : Below w.heap.size w w') : LentI base w' x := LentO.below h hb
theorem LentI.lower (h : LentI base w x) (hb : b' ≤ base) : LentI b' w x := LentO.lower h hb
theorem LentI.pushed {B : Nat} {u : Value} (h : LentI base w x) (hp : Pushed EBu B w w' u) : LentI base w' x := LentO.keepT h fun g _ _ hg => hp.blk g _ _ _ (by decide) hg
theorem LentI.ins (h : LentI base w x) : InsAt w x := (LentO.lent h (by rw [marksG_length]; omega)).slice
end
theorem bus_at0 {w : World} {v : Value} {l : List BuV} (h : SliceOf EBu w v l) (k : Nat) (x : BuV) (hk : l[k]? = some x) :
    ∃ p : Addr, (∀ W, (Instr.indexAt 22 v (.int .i64 (k : Int))).run Tryz.prog W = .ok (.pointer (some p)) W) ∧ p.block < w.heap.size ∧ ∀ j u, (bC x)[j]? = some u → w.cell? (p.add j) = some u := by
  obtain ⟨p, h1, h2, h3, _⟩ := h.at_ k x hk
  exact ⟨p, h1, h2, h3⟩
set_option maxRecDepth 100000 in
set_option maxHeartbeats 4000000 in
theorem lentBuilt_any (x : BuV) (w : World) (hl : x.1.ins.length ≤ 1048576) (hi : InsAt w x) :
    Calls Tryz.prog 8 #[.agg (bC x)] w fun e w' => ∃ iv : IV, e = .returned (.agg (bC (x.1, iv))) ∧ LentI w.heap.size w' (x.1, iv) ∧ Below w.heap.size w w' := by
  have HI := Lib.hid (show MdsAt w (ivV x.2) x.1.ins from hi)
  clear hi
  go_enter Tryz.func8, Tryz.ntmps8
  go_wp2_with (first | (with_reducible refine wpList_box rfl 29 _ rfl (bC x) rfl ?_; intro g1 w1 hb1 hx1 hg1; have HB1 := Lib.hid hb1; have HX1 := Lib.hid hx1; have HG1 := Lib.hid hg1; clear hb1 hx1 hg1) | (with_reducible refine wpList_zero rfl 29 rfl (bC (zB, none, 0, 0)) bC_zero ?_; intro g2 w2 hb2 hx2 hg2; have HB2 := Lib.hid hb2; have HB12 := Lib.hid (HB1.out.below hx2); have HL2 := Lib.hid (BuG.of_blk HB12.out); have HX2 := Lib.hid (Agg.belowThen HX1.out (Nat.le_refl _) hx2); have HG2 := Lib.hid (Nat.le_trans HX1.out.size hg2); have HNE := Lib.hid (show g2 ≠ g1 from fun e => by have := HB1.out.lt; omega); clear hb2 hx2 hg2) | (with_reducible refine wpList_loadL HL2.out.ins rfl _ rfl rfl ?_))
  refine (lentMades_any _ x.1.ins hl w2 (HI.out.below HX2.out)).mono ?_
  rintro e w3 ⟨v3, rfl, hx3, g3, c3, rfl, ho3⟩
  obtain ⟨w4, hr4, hb4, ho4⟩ := buB_ins (HB12.out.below hx3) (some ⟨g3, 0, none⟩, x.1.ins.length, c3)
  have HO4 := Lib.hid (ho3.onlyT (HB12.out.below hx3) (by decide) (fun k h1 h2 => ho4.block k h1 h2))
  have HB24 := Lib.hid ((HB2.out.below hx3).onlyB ho4 HNE.out)
  have HL4 := Lib.hid (BuG.of_blk hb4)
  have HX3 := Lib.hid (Agg.belowThen HX2.out (Nat.le_refl _) hx3)
  have HX4 := Lib.hid (HX3.out.trans (ho4.below (B := w.heap.size) HX3.out.size (fun i hi => by subst hi; exact HG1.out)))
  have HR4 := Lib.hid (show (Instr.storeAt 27 (.pointer (some ⟨g1, 62, none⟩)) (.slice (some ⟨g3, 0, none⟩) x.1.ins.length c3)).run Tryz.prog w3 = .ok () w4 from hr4)
  have HS2 := Lib.hid HX2.out.size
  clear ho3 hx3 hr4 hb4 ho4
  go_wp2_with (first | (with_reducible refine wpList_store rfl rfl 27 _ _ rfl (.pointer (some ⟨g1, 62, none⟩)) (.slice (some ⟨g3, 0, none⟩) x.1.ins.length c3) rfl rfl HR4.out ?_) | (with_reducible refine wpList_loadL HL4.out.all rfl _ rfl rfl ?_) | ((with_reducible refine wpList_put rfl rfl 29 _ _ rfl g2 (bC (x.1, some ⟨g3, 0, none⟩, x.1.ins.length, c3)) (bC (zB, none, 0, 0)) rfl rfl HB24.out (bC_info _) (by rw [bC_size, bC_size]) (bC_one _) ?_); intro w5 hb5 hx5 hs5 hk5; have HB5 := Lib.hid hb5; have HO5 := Lib.hid (HO4.out.onlyT HB24.out (by decide) (fun k _ h2 => hk5 k h2)); have HX5 := Lib.hid (HX4.out.trans (hx5.mono HG2.out)); clear hb5 hx5 hs5 hk5))
  exact post_row rfl rfl HB5.out bC_under rfl (bC_info _) rfl ⟨(some ⟨g3, 0, none⟩, x.1.ins.length, c3), rfl, ⟨g3, c3, rfl, HO5.out.lower HS2.out⟩, HX5.out⟩
set_option maxRecDepth 100000 in
set_option maxHeartbeats 4000000 in
theorem keptBuilt_any (x y : BuV) (hxy : x.1 = y.1) (hl : x.1.ins.length ≤ 1048576) (base : Nat) (w : World) (hx : LentI base w x) (hy : InsAt w y) :
    Calls Tryz.prog 27 #[.agg (bC x), .agg (bC y)] w fun e w' => e = .returned (.bool true) ∧ Below w.heap.size w w' := by
  have HSAME := Lib.hid (fun W (hW : Below w.heap.size w W) => (show Calls Tryz.prog 52 #[.agg (bC x), .agg (bC y)] W fun e w' => e = .returned (.bool true) ∧ Below W.heap.size W w' by have := sameBu_any x y hl W (hx.below hW).ins (hy.below hW); rwa [decide_eq_true hxy] at this))
  have HKB := Lib.hid (fun W (hW : Below w.heap.size w W) => (show Calls Tryz.prog 57 #[ivV x.2, ivV y.2] W fun e w' => e = .returned (.bool true) ∧ Below W.heap.size W w' from keptMades_any (ivV x.2) (ivV y.2) x.1.ins hl base W (LentO.lent (hx.below hW) (by rw [marksG_length]; omega)) (by rw [hxy]; exact hy.below hW)))
  clear hx hy hxy
  go_enter Tryz.func27, Tryz.ntmps27
  go_wp2_with (first | (with_reducible refine wpList_box rfl 29 _ rfl (bC x) rfl ?_; intro g1 w1 hb1 hx1 hg1; have HA1 := Lib.hid (BuG.of_blk hb1); have HX1 := Lib.hid hx1; clear hb1 hx1 hg1) | (with_reducible refine wpList_box rfl 29 _ rfl (bC y) rfl ?_; intro g2 w2 hb2 hx2 hg2; have HB := Lib.hid (BuG.of_blk hb2); have HA := Lib.hid (HA1.out.below hx2); have HX2 := Lib.hid (Agg.belowThen HX1.out (Nat.le_refl _) hx2); clear hb2 hx2 hg2) | (with_reducible refine wpList_loadL HA.out.all rfl _ rfl rfl ?_) | (with_reducible refine wpList_loadL HB.out.all rfl _ rfl rfl ?_))
  refine (HSAME.out _ HX2.out).mono ?_
  rintro e w3 ⟨rfl, hx3⟩
  have HX3 := Lib.hid (Agg.belowThen HX2.out (Nat.le_refl _) hx3)
  have HA3 := Lib.hid (HA.out.below hx3)
  have HB3 := Lib.hid (HB.out.below hx3)
  clear hx3
  go_wp2_with (first | (with_reducible refine wpList_loadL HA3.out.ins rfl _ rfl rfl ?_) | (with_reducible refine wpList_loadL HB3.out.ins rfl _ rfl rfl ?_))
  refine (HKB.out _ HX3.out).mono ?_
  rintro e w4 ⟨rfl, hx4⟩
  have HX4 := Lib.hid (Agg.belowThen HX3.out (Nat.le_refl _) hx4)
  clear hx4
  go_wp2_with fail
  go_ret
  exact ⟨rfl, HX4.out⟩
set_option maxRecDepth 100000 in
set_option maxHeartbeats 4000000 in
theorem lentBuilts_any (v : Value) (l : List BuV) (hl : l.length ≤ 1048576) (hni : ∀ x ∈ l, x.1.ins.length ≤ 1048576) (w : World) (hs : BusAt w v l) :
    Calls Tryz.prog 7 #[v] w fun e w' => ∃ u lv, e = .returned u ∧ Lent EBu (marksG mkU 1 12) w.heap.size w' u lv ∧ lv.map (·.1) = l.map (·.1) ∧ (∀ x ∈ lv, LentI w.heap.size w' x) ∧ Below w.heap.size w w' := by
  have HS := Lib.hid hs
  have HNI := Lib.hid hni
  have hlv := fun W => bus_len hs W
  clear hs hni
  have hc : l.length + 12 ≤ 1099511627776 / 8 := by omega
  go_enter Tryz.func7, Tryz.ntmps7
  go_wp2_with (first | (refine Agg.wpList_make0 (base := w.heap.size) EBu rfl .i64 .i64 _ (l.length + 12) rfl rfl hc (by decide) (Nat.le_refl _) ?_; intro v1 w1 ho1 hx1; have HO1 := Lib.hid ho1; have HX1 := Lib.hid hx1; clear ho1 hx1))
  go_loopw [3, 4] (fun out i wr => ∃ (k : Nat) (lv : List BuV), k ≤ l.length ∧ i = .int .i64 (k : Int) ∧ Own EBu w.heap.size wr out lv ∧ lv.map (·.1) = (l.take k).map (·.1) ∧ (∀ x ∈ lv, LentI w.heap.size wr x) ∧ Below w.heap.size w wr) (fun _ i _ => l.length - (intOf i).toNat)
  case atStart => exact ⟨0, [], by omega, rfl, HO1.out, rfl, by simp, HX1.out⟩
  case round =>
    clear HO1 HX1
    obtain ⟨wr1, rfl⟩ : ∃ y : World, y = wr := ⟨_, rfl⟩
    obtain ⟨k, lv, hk, rfl, ho, hm, hli, hw⟩ := hrel
    have hll : lv.length ≤ 1048576 := by have := congrArg List.length hm; simp at this; omega
    have HO := Lib.hid ho
    have HM := Lib.hid hm
    have HLI := Lib.hid hli
    have HW := Lib.hid hw
    clear hm hw ho hli
    by_cases hlt : k < l.length
    · have hd : decide ((k : Int) < (l.length : Int)) = true := decide_eq_true (by omega)
      obtain ⟨x, hxk⟩ : ∃ x, l[k]? = some x := ⟨_, List.getElem?_eq_getElem hlt⟩
      obtain ⟨q, hadr, hq, hin⟩ := (HS.out.below HW.out).at_ k x hxk
      have hnx := HNI.out x (List.mem_of_getElem? hxk)
      have HQ := Lib.hid hq
      have HIN := Lib.hid hin
      have HTK := Lib.hid (show (l.take (k + 1)).map (·.1) = (l.take k).map (·.1) ++ [x.1] by rw [List.take_add_one, hxk]; simp)
      clear hq hxk hin
      go_wp2_with (first | (with_reducible refine wpList_loadL HQ.out.all rfl _ rfl rfl ?_))
      refine (lentBuilt_any x wr1 hnx HIN.out).mono ?_
      rintro e w2 ⟨iv, rfl, hl2, hx2⟩
      have hsz := HW.out.size
      have HO2 := Lib.hid (HO.out.below hx2)
      have HLX := Lib.hid (hl2.lower hsz)
      have HLI2 := Lib.hid (fun y hy => (HLI.out y hy).below hx2)
      have HW2 := Lib.hid (Agg.belowThen HW.out (Nat.le_refl _) hx2)
      clear hl2 hx2 HO HLI
      go_wp2_with (first | (refine wpList_new rfl rfl rfl 29 5 21 rfl rfl rfl (by decide) (bC (zB, none, 0, 0)) (bC (x.1, iv)) bC_zero (by rw [bC_size, bC_size]) (bC_info _) (bC_one _) rfl (by simp [Act.put]) ?_; intro g3 w3 hb3 hx3 hg3; have HL3 := Lib.hid (BuG.of_blk hb3); have HO3 := Lib.hid (HO2.out.below hx3); have HLX3 := Lib.hid (HLX.out.below hx3); have HLI3 := Lib.hid (fun y hy => (HLI2.out y hy).below hx3); have HW3 := Lib.hid (Agg.belowThen HW2.out (Nat.le_refl _) hx3); clear hb3 hx3 hg3) | (with_reducible refine wpList_loadL HL3.out.all rfl _ rfl rfl ?_) | (refine wpList_push (E := EBu) (base := w.heap.size) rfl rfl 24 rfl _ rfl _ rfl (x.1, iv) rfl (fun _ => rfl) (by simp [Act.put]) HO3.out (by omega) (by decide) HW3.out.size ?_; intro u5 v5 w5 ho5 hp5; have HO5 := Lib.hid ho5; have HLX5 := Lib.hid (HLX3.out.pushed hp5); have HLI5 := Lib.hid (fun y hy => (HLI3.out y hy).pushed hp5); have HW5 := Lib.hid (HW3.out.trans (hp5.below w.heap.size (Nat.le_refl _) HW3.out.size)); clear ho5 hp5))
      go_roundw
      case rel =>
        refine ⟨k + 1, lv ++ [(x.1, iv)], by omega, by go_num, HO5.out, by rw [HTK.out, List.map_append, HM.out]; rfl, fun y hy => ?_, HW5.out⟩
        rcases List.mem_append.1 hy with hy | hy
        · exact HLI5.out y hy
        · obtain rfl := List.mem_singleton.1 hy
          exact HLX5.out
      case measure => simp [intOf]; omega
    · obtain rfl : k = l.length := by omega
      have hd : decide ((l.length : Int) < (l.length : Int)) = false := by simp
      have hlen : lv.length = l.length := by have := congrArg List.length HM.out; simpa using this
      rw [List.take_length] at HM
      go_wp2_with fail
      go_loopw [3, 6] (fun out i ws => ∃ k : Nat, k ≤ 12 ∧ i = .int .i64 (k : Int) ∧ Own EBu w.heap.size ws out (lv ++ marksG mkU 1 k) ∧ (∀ x ∈ lv, LentI w.heap.size ws x) ∧ Below w.heap.size w ws) (fun _ i _ => 12 - (intOf i).toNat)
      case atStart => exact ⟨0, by omega, rfl, by simpa [marksG] using HO.out, HLI.out, HW.out⟩
      case round =>
        clear HO HLI HW
        obtain ⟨ws1, rfl⟩ : ∃ y : World, y = wr := ⟨_, rfl⟩
        obtain ⟨k, hk, rfl, ho, hli, hw⟩ := hrel
        have HO := Lib.hid ho
        have HLI := Lib.hid hli
        have HW := Lib.hid hw
        clear ho hli hw
        by_cases hlt : k < 12
        · have hd12 : decide ((k : Int) < 12) = true := decide_eq_true (by omega)
          have h63 : (lv ++ marksG mkU 1 k).length + 1 ≤ 1099511627776 / 8 := by rw [List.length_append, marksG_length]; omega
          have hsz := HW.out.size
          go_wp2_with fail
          refine (markBuilt_any 1 k (by omega) (by omega) _).mono ?_
          rintro e w4 ⟨rfl, hw4⟩
          have HX4 := Lib.hid (Agg.belowThen HW.out (Nat.le_refl _) hw4)
          have HO4 := Lib.hid (HO.out.below hw4)
          have HLI4 := Lib.hid (fun y hy => (HLI.out y hy).below hw4)
          clear hw4
          go_wp2_with (first | (refine Agg.wpList_push (E := EBu) (base := w.heap.size) rfl rfl 33 rfl _ rfl _ rfl (mkU 1 k) rfl (fun _ => rfl) (by simp) HO4.out h63 (by decide) HX4.out.size ?_; intro u5 v5 w5 ho5 hp5; have HO5 := Lib.hid (show Own EBu w.heap.size w5 v5 (lv ++ marksG mkU 1 (k + 1)) by rw [marksG_succ, ← List.append_assoc]; exact ho5); have HLI5 := Lib.hid (fun y hy => (HLI4.out y hy).pushed hp5); have HW5 := Lib.hid (HX4.out.trans (hp5.below w.heap.size (Nat.le_refl _) HX4.out.size)); clear ho5 hp5))
          go_roundw
          case rel => exact ⟨k + 1, by omega, by go_num, HO5.out, HLI5.out, HW5.out⟩
          case measure => simp [intOf]; omega
        · obtain rfl : k = 12 := by omega
          obtain ⟨g, cap, rfl, hcap, hlent⟩ := Lent.of_own HO.out (by rw [marksG_length]; omega)
          rw [marksG_length] at hcap
          rw [hlen] at hcap
          have hcap2 : l.length ≤ cap := by omega
          have HLT := Lib.hid (show Lent EBu (marksG mkU 1 12) w.heap.size ws1 (.slice (some ⟨g, 0, none⟩) l.length cap) lv by rw [← hlen]; exact hlent)
          clear hlent
          simp only [hlen]
          go_wp2_with fail
          go_ret
          exact ⟨_, lv, rfl, HLT.out, HM.out, HLI.out, HW.out⟩
set_option maxRecDepth 100000 in
set_option maxHeartbeats 4000000 in
theorem keptBuilts_any (u v : Value) (lv l : List BuV) (hl : l.length ≤ 1048576) (hni : ∀ x ∈ l, x.1.ins.length ≤ 1048576) (base : Nat) (w : World) (hu : Lent EBu (marksG mkU 1 12) base w u lv) (hm : lv.map (·.1) = l.map (·.1)) (hli : ∀ x ∈ lv, LentI base w x) (hs : BusAt w v l) :
    Calls Tryz.prog 26 #[u, v] w fun e w' => e = .returned (.bool true) ∧ Below w.heap.size w w' := by
  have hlen : lv.length = l.length := by have := congrArg List.length hm; simpa using this
  have hlv := fun W => bus_len hs W
  have HS := Lib.hid hs
  have HM := Lib.hid hm
  have HLI := Lib.hid hli
  have HNI := Lib.hid hni
  obtain ⟨g, cap, rfl, _, hcap, ha⟩ := hu
  rw [marksG_length] at hcap ha
  rw [hlen] at hcap ha
  have HA := Lib.hid ha
  clear hs hm hli hni ha
  simp only [hlen]
  have hne : ((l.length : Int) != (l.length : Int)) = false := by simp
  go_enter Tryz.func26, Tryz.ntmps26
  go_wp2_with fail
  go_loopw [6] (fun i wr => ∃ k : Nat, k ≤ l.length + 12 ∧ i = .int .i64 (k : Int) ∧ Below w.heap.size w wr) (fun i _ => l.length + 12 - (intOf i).toNat)
  case atStart => exact ⟨0, by omega, rfl, Below.refl _ _⟩
  case round =>
    obtain ⟨w1, rfl⟩ : ∃ w1 : World, w1 = wr := ⟨_, rfl⟩
    obtain ⟨k, hk, rfl, hw⟩ := hrel
    have HW := Lib.hid hw
    clear hw
    by_cases hlt : k < l.length + 12
    · by_cases hlt2 : k < l.length
      · obtain ⟨y, hyk⟩ : ∃ y, l[k]? = some y := ⟨_, List.getElem?_eq_getElem hlt2⟩
        obtain ⟨x, hxk⟩ : ∃ x, lv[k]? = some x := ⟨_, List.getElem?_eq_getElem (by omega)⟩
        have hxy : x.1 = y.1 := by
          have h1 : (lv.map (·.1))[k]? = some x.1 := by rw [List.getElem?_map, hxk]; rfl
          rw [HM.out, List.getElem?_map, hyk] at h1
          exact (Option.some.inj h1).symm
        obtain ⟨pv, hadv, hldv, hiy⟩ := (HS.out.below HW.out).at_ k y hyk
        obtain ⟨pa, hadp, h2, h3⟩ := bus_at0 (SliceOf.below HA.out HW.out) k x (by rw [List.getElem?_append_left (by omega)]; exact hxk)
        have hlx := (HLI.out x (List.mem_of_getElem? hxk)).below HW.out
        have hnx : x.1.ins.length ≤ 1048576 := by rw [hxy]; exact HNI.out y (List.mem_of_getElem? hyk)
        have HLA := Lib.hid (BuL.of_cells h2 h3)
        have HLV := Lib.hid hldv
        have HKB := Lib.hid (fun z : Later w1 => keptBuilt_any x y hxy hnx base z.w (hlx.below z.h) (hiy.below z.h))
        have hd1 : decide ((k : Int) < (l.length : Int)) = true := decide_eq_true (by omega)
        have hd3 : decide (l.length ≤ k) = false := decide_eq_false (by omega)
        clear hyk hxk hxy hldv hiy h2 h3 hlx
        go_wp2_with fail
        try simp only [List.append_eq, List.cons_append, List.nil_append]
        try simp only [Act.put, List.setIfInBounds_toArray, List.set_cons_succ, List.set_cons_zero]
        refine Agg.wp_region_later_lit (by kernel_rfl) (by kernel_rfl) ?_
        repeat (first | go_big_quiet_skip | ((first | (with_reducible refine Agg.wpQuiet_loadL HLA.out.all rfl _ rfl rfl ?_) | (with_reducible refine Agg.wpQuiet_loadL HLV.out.all rfl _ rfl rfl ?_)); simp only [Act.put, List.setIfInBounds_toArray, List.set_cons_succ, List.set_cons_zero]) | go_big_quiet_step ((first | (go_at_call 27; exact Agg.Calls.later (HKB.out _)))))
        refine wpQuiet_nil ?_
        intro _ hw'
        obtain ⟨x1, rfl⟩ := hw'
        go_wp2_with fail
        go_roundw
        case rel => exact ⟨k + 1, by omega, by go_num, Agg.belowThen HW.out (Nat.le_refl _) x1.h⟩
        case measure => simp [intOf]; omega
      · obtain ⟨m, hmm⟩ : ∃ m, m = mkM 1 (k - l.length) := ⟨_, rfl⟩
        obtain ⟨pa, hadp, h2, h3⟩ := bus_at0 (SliceOf.below HA.out HW.out) k (buS m) (by rw [List.getElem?_append_right (by omega), hlen, hmm]; exact marksG_get _ _ _ _ (by omega))
        have HLA := Lib.hid (BuL.of_cells h2 h3)
        have HMN := Lib.hid (fun z : Later w1 => (show Calls Tryz.prog 32 #[.int .i64 1, .int .i64 ((k : Int) - (l.length : Int))] z.w fun e w' => e = .returned (.agg (bC (buS m))) ∧ Below z.w.heap.size z.w w' by rw [show ((k : Int) - (l.length : Int)) = ((k - l.length : Nat) : Int) by omega, hmm]; exact markBuilt_any 1 (k - l.length) (by omega) (by omega) z.w))
        have HSB := Lib.hid (fun z : Later w1 => (show Calls Tryz.prog 52 #[.agg (bC (buS m)), .agg (bC (buS m))] z.w fun e w' => e = .returned (.bool true) ∧ Below z.w.heap.size z.w w' by have h := sameBu_any (buS m) (buS m) (by simp [buS]) z.w (SliceOf.nil _ _ _) (SliceOf.nil _ _ _); simpa using h))
        have hd1 : decide ((k : Int) < (l.length : Int)) = false := decide_eq_false (by omega)
        have hd3 : decide (l.length ≤ k) = true := decide_eq_true (by omega)
        clear h2 h3 hmm
        go_wp2_with fail
        try simp only [List.append_eq, List.cons_append, List.nil_append]
        try simp only [Act.put, List.setIfInBounds_toArray, List.set_cons_succ, List.set_cons_zero]
        refine Agg.wp_region_later_lit (by kernel_rfl) (by kernel_rfl) ?_
        repeat (first | go_big_quiet_skip | ((first | (with_reducible refine Agg.wpQuiet_loadL HLA.out.all rfl _ rfl rfl ?_)); simp only [Act.put, List.setIfInBounds_toArray, List.set_cons_succ, List.set_cons_zero]) | go_big_quiet_step ((first | (go_at_call 32; exact Agg.Calls.later (HMN.out _)) | (go_at_call 52; exact Agg.Calls.later (HSB.out _)))))
        refine wpQuiet_nil ?_
        intro _ hw'
        obtain ⟨x1, rfl⟩ := hw'
        go_wp2_with fail
        go_roundw
        case rel => exact ⟨k + 1, by omega, by go_num, Agg.belowThen HW.out (Nat.le_refl _) x1.h⟩
        case measure => simp [intOf]; omega
    · obtain rfl : k = l.length + 12 := by omega
      go_wp2_with fail
      go_ret
      exact ⟨rfl, HW.out⟩
end Go.Proofs.YtniibcgomnjfgaaGreat
/-! spencekit.LentPaths, KeptPaths. -/
namespace Go.Proofs.YtniibcgomnjfgaaGreat
open Go.RowKit Pl Go.Agg
set_option maxRecDepth 100000 in
set_option maxHeartbeats 1000000 in
theorem lentPaths_any (v : Value) (b : List P20) (hb : b.length ≤ 1048576) (w : World) (he : ElemsAt w v b) :
    Calls Tryz.prog 9 #[v] w fun e w' => ∃ u, e = .returned u ∧ Below w.heap.size w w' ∧ Lent E20 (marksG mkP 1 12) w.heap.size w' u b := by
  have hlv := fun W => elems_len he W
  have HE := Lib.hid he
  clear he
  have hc : b.length + 12 ≤ 1099511627776 / 8 := by omega
  go_enter Tryz.func9, Tryz.ntmps9
  go_wp2_with (first | (refine Agg.wpList_make0 (base := w.heap.size) E20 rfl .i64 .i64 _ (b.length + 12) rfl rfl hc (by decide) (Nat.le_refl _) ?_; intro v1 w1 ho1 hx1) | (at_builtin; refine Agg.walk_stop ?_))
  refine ⟨?_, trivial⟩
  have h63 : ([] : List P20).length + b.length ≤ 1099511627776 / 8 := by simp; omega
  refine Agg.wpList_appendS (E := E20) rfl _ _ rfl v rfl rfl b ho1 (SliceOf.below HE.out hx1) h63 (by decide) hx1.size ?_
  intro v2 w2 ho2 hp2 _
  rw [List.nil_append] at ho2
  have hx2 := hx1.trans (hp2.below w.heap.size (Nat.le_refl _) hx1.size)
  simp only [Act.put, List.setIfInBounds_toArray, List.set_cons_succ, List.set_cons_zero]
  clear ho1 hp2 hx1
  go_wp2_with fail
  go_loopw [3, 4] (fun out i wr => ∃ k : Nat, k ≤ 12 ∧ i = .int .i64 k ∧ Own E20 w.heap.size wr out (b ++ marksG mkP 1 k) ∧ Below w.heap.size w wr) (fun _ i _ => 12 - (intOf i).toNat)
  case atStart => exact ⟨0, by omega, rfl, by simpa [marksG] using ho2, hx2⟩
  case round =>
    clear ho2 hx2
    obtain ⟨w3, rfl⟩ : ∃ w3 : World, w3 = wr := ⟨_, rfl⟩
    obtain ⟨k, hk, rfl, ho, hw⟩ := hrel
    have HO := Lib.hid ho
    have HW := Lib.hid hw
    clear ho hw
    by_cases hlt : k < 12
    · have h63 : (b ++ marksG mkP 1 k).length + 1 ≤ 1099511627776 / 8 := by rw [List.length_append, marksG_length]; omega
      have hsz := HW.out.size
      go_wp2_with fail
      refine (markPath_any 1 k (by omega) (by omega) _).mono ?_
      rintro e w4 ⟨rfl, hw4⟩
      have hx4 := Agg.belowThen HW.out (Nat.le_refl _) hw4
      have HO4 := Lib.hid (HO.out.below hw4)
      have hsz4 := hx4.size
      go_wp2_with (first | (refine Agg.wpList_push (E := E20) (base := w.heap.size) rfl rfl 19 rfl _ rfl _ rfl (mkP 1 k) rfl (fun _ => rfl) (by simp) HO4.out h63 (by decide) hsz4 ?_; intro u5 v5 w5 ho5 hp5))
      rw [List.append_assoc, ← marksG_succ] at ho5
      go_wp2_with fail
      go_roundw
      case rel => exact ⟨k + 1, by omega, by go_num, ho5, hx4.trans (hp5.below w.heap.size (Nat.le_refl _) hsz4)⟩
      case measure => simp [intOf]; omega
    · obtain rfl : k = 12 := by omega
      obtain ⟨g, cap, rfl, hcap, hlent⟩ := Lent.of_own HO.out (by rw [marksG_length]; omega)
      rw [marksG_length] at hcap
      have hcap2 : b.length ≤ cap := by omega
      have HLT := Lib.hid hlent
      clear hlent
      go_wp2_with fail
      go_ret
      exact ⟨_, rfl, HW.out, HLT.out⟩
theorem markPath_off (k n : Nat) (hk : n ≤ k) (hk2 : k ≤ 16777216) (w : World) : Calls Tryz.prog 34 #[.int .i64 1, .int .i64 ((k : Int) - (n : Int))] w fun e w' => e = .returned (.agg (pC z20 (mkT 1 (k - n)))) ∧ Below w.heap.size w w' := by
  rw [show ((k : Int) - (n : Int)) = ((k - n : Nat) : Int) by omega]
  exact markPath_any 1 (k - n) (by omega) (by omega) w
set_option maxRecDepth 100000 in
set_option maxHeartbeats 1000000 in
theorem keptPaths_any (u v : Value) (b : List P20) (hb : b.length ≤ 1048576) (base : Nat) (w : World) (hu : Lent E20 (marksG mkP 1 12) base w u b) (hv : ElemsAt w v b) :
    Calls Tryz.prog 28 #[u, v] w fun e w' => e = .returned (.bool true) ∧ Below w.heap.size w w' := by
  have hlv := fun W => elems_len hv W
  have HV := Lib.hid hv
  obtain ⟨g, cap, rfl, _, hcap, ha⟩ := hu
  rw [marksG_length] at hcap ha
  have HA := Lib.hid ha
  clear hv ha
  have hne : ((b.length : Int) != (b.length : Int)) = false := by simp
  go_enter Tryz.func28, Tryz.ntmps28
  go_wp2_with fail
  go_loopw [6] (fun i wr => ∃ k : Nat, k ≤ b.length + 12 ∧ i = .int .i64 k ∧ Below w.heap.size w wr) (fun i _ => b.length + 12 - (intOf i).toNat)
  case atStart => exact ⟨0, by omega, rfl, Below.refl _ _⟩
  case round =>
    obtain ⟨w1, rfl⟩ : ∃ w1 : World, w1 = wr := ⟨_, rfl⟩
    obtain ⟨k, hk, rfl, hw⟩ := hrel
    have HW := Lib.hid hw
    clear hw
    by_cases hlt : k < b.length + 12
    · by_cases hlt2 : k < b.length
      · obtain ⟨y, hyk⟩ : ∃ y, b[k]? = some y := ⟨_, List.getElem?_eq_getElem hlt2⟩
        obtain ⟨pa, hadp, hlda⟩ := elem_at (SliceOf.below HA.out HW.out) k y (by rw [List.getElem?_append_left hlt2]; exact hyk)
        obtain ⟨pv, hadv, hldv⟩ := elem_at (SliceOf.below HV.out HW.out) k y hyk
        have HLA := Lib.hid hlda.1
        have HLV := Lib.hid hldv.1
        have hd1 : decide ((k : Int) < (b.length : Int)) = true := by simp; omega
        have hd3 : decide (b.length ≤ k) = false := by simp; omega
        have hq : ∀ w, (binOp .eql 26 (.agg (pC y.1.1 y.1.2)) (.agg (pC y.1.1 y.1.2))).run Tryz.prog w = .ok (.bool true) w := fun w => by rw [eql_path _ _ _ _ y.2 y.2]; simp
        have HQ := Lib.hid hq
        clear hyk hlda hldv hq
        go_wp2_with fail
        try simp only [Act.put, List.setIfInBounds_toArray, List.set_cons_succ, List.set_cons_zero]
        refine Agg.wp_region_later_lit (by kernel_rfl) (by kernel_rfl) ?_
        repeat (first | go_big_quiet_skip | ((first | (with_reducible refine Agg.wpQuiet_loadL HLA.out rfl _ rfl rfl ?_) | (with_reducible refine Agg.wpQuiet_loadL HLV.out rfl _ rfl rfl ?_) | (with_reducible refine Agg.wpQuiet_eql rfl 26 26 _ _ rfl (pC y.1.1 y.1.2) (pC y.1.1 y.1.2) rfl rfl (true) (by kernel_rfl) HQ.out ?_)); simp only [Act.put, List.setIfInBounds_toArray, List.set_cons_succ, List.set_cons_zero]) | go_big_quiet_step (fail))
        refine wpQuiet_nil ?_
        intro _ hw'
        obtain ⟨x1, rfl⟩ := hw'
        go_wp2_with fail
        go_roundw
        case rel => exact ⟨k + 1, by omega, by go_num, Agg.belowThen HW.out (Nat.le_refl _) x1.h⟩
        case measure => simp [intOf]; omega
      · obtain ⟨y, hy⟩ : ∃ y, y = mkP 1 (k - b.length) := ⟨_, rfl⟩
        have hmn := fun w => markPath_off k b.length (by omega) (by omega) w
        obtain ⟨pa, hadp, hlda⟩ := elem_at (SliceOf.below HA.out HW.out) k (mkP 1 (k - b.length)) (by rw [List.getElem?_append_right (by omega)]; exact marksG_get _ _ _ _ (by omega))
        have hmn2 : ∀ w, Calls Tryz.prog 34 #[.int .i64 1, .int .i64 ((k : Int) - (b.length : Int))] w fun e w' => e = .returned (.agg (pC y.1.1 y.1.2)) ∧ Below w.heap.size w w' := by rw [hy]; exact hmn
        rw [← hy] at hlda
        have HMN := Lib.hid hmn2
        have HLA := Lib.hid hlda.1
        have hd1 : decide ((k : Int) < (b.length : Int)) = false := by simp; omega
        have hd3 : decide (b.length ≤ k) = true := by simp; omega
        have hq : ∀ w, (binOp .eql 26 (.agg (pC y.1.1 y.1.2)) (.agg (pC y.1.1 y.1.2))).run Tryz.prog w = .ok (.bool true) w := fun w => by rw [eql_path _ _ _ _ y.2 y.2]; simp
        have HQ := Lib.hid hq
        clear hlda hy hq hmn hmn2
        go_wp2_with fail
        try simp only [Act.put, List.setIfInBounds_toArray, List.set_cons_succ, List.set_cons_zero]
        refine Agg.wp_region_later_lit (by kernel_rfl) (by kernel_rfl) ?_
        repeat (first | go_big_quiet_skip | ((first | (with_reducible refine Agg.wpQuiet_loadL HLA.out rfl _ rfl rfl ?_) | (with_reducible refine Agg.wpQuiet_eql rfl 26 26 _ _ rfl (pC y.1.1 y.1.2) (pC y.1.1 y.1.2) rfl rfl (true) (by kernel_rfl) HQ.out ?_)); simp only [Act.put, List.setIfInBounds_toArray, List.set_cons_succ, List.set_cons_zero]) | go_big_quiet_step ((go_at_call 34; exact Agg.Calls.later (HMN.out _))))
        refine wpQuiet_nil ?_
        intro _ hw'
        obtain ⟨x1, rfl⟩ := hw'
        go_wp2_with fail
        go_roundw
        case rel => exact ⟨k + 1, by omega, by go_num, Agg.belowThen HW.out (Nat.le_refl _) x1.h⟩
        case measure => simp [intOf]; omega
    · obtain rfl : k = b.length + 12 := by omega
      go_wp2_with fail
      go_ret
      exact ⟨rfl, HW.out⟩
end Go.Proofs.YtniibcgomnjfgaaGreat
/-! spencekit.ApartPaths. -/
namespace Go.Proofs.YtniibcgomnjfgaaGreat
open Go.RowKit Pl Go.Agg
theorem bag_pushP {w w1 : World} {g : Nat} {vp v1 : Value} {l : List SV} (hb : Blk w g 100 (bagK vp (.slice none 0 0) (.slice none 0 0))) (ho : Own EPP (g + 1) w1 v1 l) (hp : Pushed EPP (g + 1) w w1 vp) :
    ∃ w2, (Instr.storeAt 50 (.pointer (some ⟨g, 7, none⟩)) v1).run Tryz.prog w1 = .ok () w2 ∧ Blk w2 g 100 (bagK v1 (.slice none 0 0) (.slice none 0 0)) ∧ Own EPP (g + 1) w2 v1 l ∧ Below g w w2 := by
  have h1 : Blk w1 g 100 (bagK vp (.slice none 0 0) (.slice none 0 0)) := hp.blk g _ _ _ (by decide) hb
  obtain ⟨p, c, rfl⟩ := ho.slice.form
  refine ⟨_, h1.run_put 7 (by simp [bagK]) _ rfl rfl (by kernel_rfl), h1.set 7 _, ho.keep fun k cur t fr hk hb => ?_, ?_⟩
  · rw [Below.heap_setCell _ _ _ _ (by show k ≠ g; omega)]; exact hb
  · exact (hp.below g (by omega) (Nat.le_of_lt hb.lt)).setCell (Nat.le_refl _) _
set_option maxRecDepth 100000 in
set_option maxHeartbeats 1000000 in
theorem putPathsP_any (g : Nat) (vp : Value) (ps : List SV) (x : SV) (w : World) (hb : Blk w g 100 (bagK vp (.slice none 0 0) (.slice none 0 0))) (ho : Own EPP (g + 1) w vp ps) (hn : ps.length ≤ 4194304) :
    Calls Tryz.prog 56 #[.pointer (some ⟨g, 0, none⟩), x.1] w fun e w' => (∃ r, e = .returned r) ∧ ∃ v', Blk w' g 100 (bagK v' (.slice none 0 0) (.slice none 0 0)) ∧ Own EPP (g + 1) w' v' (ps ++ [x]) ∧ Below g w w' := by
  have HL := Lib.hid (hb.one (P := Tryz.prog) 7 rfl (by kernel_rfl : Tryz.prog.underlying 50 = some (.slice 30)) rfl : LoadsL Tryz.prog w 50 (some ⟨g, 7, none⟩) vp)
  have HB := Lib.hid hb
  have HO := Lib.hid ho
  have hlt := hb.lt
  have h63 : ps.length + 1 ≤ 1099511627776 / 8 := by omega
  have hbase : g + 1 ≤ w.heap.size := hlt
  clear hb ho
  go_enter Tryz.func56, Tryz.ntmps56
  go_wp2_with (first | (with_reducible refine Agg.wpList_loadL HL.out rfl _ rfl rfl ?_) | (refine Agg.wpList_push (E := EPP) (base := g + 1) rfl rfl 10 rfl _ rfl _ rfl x rfl (fun _ => rfl) (by simp) HO.out h63 (by decide) hbase ?_; intro u1 v1 w1 ho1 hp1; obtain ⟨w2, hrun, hfin⟩ := bag_pushP HB.out ho1 hp1; have HFIN := Lib.hid hfin; clear ho1 hp1 hfin) | (refine Agg.wpList_store rfl rfl 50 _ _ rfl (.pointer (some ⟨g, 7, none⟩)) _ rfl rfl hrun ?_))
  refine bodyPost_end (results_none rfl _ _ _) rfl ?_
  exact ⟨⟨_, rfl⟩, _, HFIN.out.1, HFIN.out.2.1, HFIN.out.2.2⟩
set_option maxRecDepth 100000 in
set_option maxHeartbeats 1000000 in
theorem apartPaths_any (v0 : Value) (vs : List SV) (f : Nat → List P20) (w : World) (he : SliceOf EPP w v0 vs) (hr : RoomsOf E20 w vs f) (hd : Dist vs) (hn : vs.length ≤ 4194304) (hf : ∀ j, (f j).length ≤ 8388608) :
    Calls Tryz.prog 25 #[v0] w fun e w' => e = .returned (.bool true) ∧ Only (SS vs) w w' := by
  have hlv := fun W => xxlen_P he W
  have HE := Lib.hid he
  have HR := Lib.hid hr
  have HD := Lib.hid hd
  clear he hr hd
  have hbld : ∀ W, (Instr.build 100 #[]).run Tryz.prog W = .ok (.agg (bagK (.slice none 0 0) (.slice none 0 0) (.slice none 0 0))) W := fun W => by kernel_rfl
  have HBLD := Lib.hid hbld
  clear hbld
  go_enter Tryz.func25, Tryz.ntmps25
  go_wp2_with (first | (with_reducible refine Agg.wpList_build0 100 rfl rfl (.agg (bagK (.slice none 0 0) (.slice none 0 0) (.slice none 0 0))) HBLD.out ?_) | (with_reducible refine Agg.wpList_box rfl 100 _ rfl (bagK (.slice none 0 0) (.slice none 0 0) (.slice none 0 0)) rfl ?_; intro g w1 hb1 hx1 hlt1))
  go_loopw [4] (fun i wr => ∃ k : Nat, k ≤ vs.length ∧ i = .int .i64 k ∧ ∃ u, Blk wr g 100 (bagK u (.slice none 0 0) (.slice none 0 0)) ∧ Own EPP (g + 1) wr u (vs.take k) ∧ Below w.heap.size w wr) (fun i _ => vs.length - (intOf i).toNat)
  case atStart => exact ⟨0, by omega, rfl, _, hb1, Own.nil _ _ _, hx1⟩
  case round =>
    clear hb1 hx1
    obtain ⟨w2, rfl⟩ : ∃ w2 : World, w2 = wr := ⟨_, rfl⟩
    obtain ⟨k, hk, rfl, u, hb, ho, hw⟩ := hrel
    have HB := Lib.hid hb
    have HO := Lib.hid ho
    have HW := Lib.hid hw
    clear hb ho hw
    by_cases hlt : k < vs.length
    · obtain ⟨v, hvk⟩ : ∃ v, vs[k]? = some v := ⟨_, List.getElem?_eq_getElem hlt⟩
      have HV := Lib.hid hvk
      obtain ⟨q, hadr, hld⟩ := xxat_P (SliceOf.below HE.out HW.out) k v hvk
      have HL := Lib.hid hld
      have hkl : (vs.take k).length ≤ k := List.length_take_le _ _
      clear hvk hld
      go_wp2_with (first | (with_reducible refine Agg.wpList_loadL HL.out rfl _ rfl rfl ?_))
      refine (putPathsP_any g u (vs.take k) v w2 HB.out HO.out (by omega)).mono ?_
      rintro e w3 ⟨⟨r, rfl⟩, u3, hb3, ho3, hw3⟩
      have ht : vs.take k ++ [v] = vs.take (k + 1) := by rw [List.take_add_one, HV.out]; rfl
      rw [ht] at ho3
      go_wp2_with fail
      go_roundw
      case rel => exact ⟨k + 1, by omega, by go_num, _, hb3, ho3, HW.out.trans (hw3.mono hlt1)⟩
      case measure => simp [intOf]; omega
    · obtain rfl : k = vs.length := by omega
      have ho := HO.out
      rw [List.take_length] at ho
      have hss : ∀ b, SS vs b → b < w.heap.size := HR.out.lt
      have hsep : ∀ b, u.ownBlock = some b → ¬ SS vs b := fun b hb h => by
        have h1 := (ho.block b hb).1
        have h2 := hss b h
        omega
      have hgS : ¬ SS vs g := fun h => by have := hss g h; omega
      have HA := Lib.hid (apartPP_any g u vs f w2 HB.out hgS ho.slice (HR.out.below HW.out) HD.out hsep hn hf)
      clear ho hss hsep hgS
      go_wp2_with fail
      refine HA.out.mono ?_
      rintro e w3 ⟨rfl, h3⟩
      go_wp2_with fail
      go_ret
      exact ⟨rfl, (Only.of_below HW.out).trans h3 (fun _ _ h => h)⟩
end Go.Proofs.YtniibcgomnjfgaaGreat
/-! Operations of a region that draws, guarded ones too: each by its own law. -/
namespace Go.Agg
open Go.RowKit
variable {P : Program}
section
variable {ops : Array Oper} {o : Oper} {a : Act} {w : World} {Q : Exit → Act → World → Prop} {K : Act → World → Prop} {F : Prop}
theorem stepw_val {v : Value} {w' : World} (hw : Region.wanted o (yielded ops a.tmps) = true) (hrun : (execOp a.eval o).run P w = .ok (.value v) w') (h : K (a.put o.dst v) w') : if Region.wanted o (yielded ops a.tmps) = true then o.wp P a w K Q else F := by
  rw [if_pos hw]
  unfold Oper.wp
  rw [hrun]
  exact h
theorem stepw_store {w' : World} (hw : Region.wanted o (yielded ops a.tmps) = true) (hd : o.dst = none) (ty : TypeId) (x y : Operand) (ho : o.op = .store ty x y) (p v : Value) (hx : a.eval x = p) (hy : a.eval y = v)
    (hrun : (Instr.storeAt ty p v).run P w = .ok () w') (h : K a w') : if Region.wanted o (yielded ops a.tmps) = true then o.wp P a w K Q else F := by
  rw [if_pos hw]
  unfold Oper.wp
  have : (execOp a.eval o).run P w = .ok .skip w' := by simp [execOp, ho, hx, hy, hrun]
  rw [this, Oper.upon_skip, hd]
  exact h
theorem stepw_load (hw : Region.wanted o (yielded ops a.tmps) = true) (ty : TypeId) (x : Operand) (ho : o.op = .load ty x) (p v : Value) (hx : a.eval x = p) (hrun : (Instr.loadAt ty p).run P w = .ok v w) (h : K (a.put o.dst v) w) : if Region.wanted o (yielded ops a.tmps) = true then o.wp P a w K Q else F :=
  stepw_val hw (by simp [execOp, ho, hx, hrun]) h
/-- a call of a Go function, by its contract -/
theorem stepw_call (hw : Region.wanted o (yielded ops a.tmps) = true) (f : FuncId) (xs : Array Operand) (ts : Array TypeId) (ho : o.op = .call { callee := .value (.func f), args := xs, argTypes := ts }) (vs : Array Value) (hv : xs.map a.eval = vs)
    (he : ∀ w, (callFunc f vs).run P w = .ok (.enter f vs) w) (h : Calls P f vs w fun e w' => ∃ v, e = .returned v ∧ K (a.put o.dst v) w') : if Region.wanted o (yielded ops a.tmps) = true then o.wp P a w K Q else F := by
  rw [if_pos hw]
  unfold Oper.wp
  have : (execOp a.eval o).run P w = .ok (.enter f vs) w := by
    subst hv
    have hf : a.eval (Operand.func f) = .func (.func f) #[] #[] := rfl
    simp [execOp, ho, resolve, invoke, hf, Deferred.ofValue, he]
  rw [this, Oper.upon_enter]
  refine h.mono ?_
  rintro e w' ⟨v, rfl, hk⟩
  exact hk
theorem stepw_slice1 {α : Type} {E : Elem P α} (hw : Region.wanted o (yielded ops a.tmps) = true) (y : Operand) (ho : o.op = .buildSlice E.st 1 #[(0, y)]) (x : α) (hy : a.eval y = E.val x)
    (h : ∀ v' w', Own E w.heap.size w' v' [x] → Below w.heap.size w w' → K (a.put o.dst v') w') : if Region.wanted o (yielded ops a.tmps) = true then o.wp P a w K Q else F := by
  refine stepw_val hw (v := .slice (some ⟨w.heap.size, 0, none⟩) 1 1) (w' := w.alloc (.cells (E.val x).cells E.ty)) (by simp [execOp, ho, hy, run_slice_one]) (h _ _ ?_ ((Below.refl _ _).alloc (Nat.le_refl _) _))
  have hs := E.size x
  refine ⟨by rw [E.flat_one, E.cs_length]; simp, .inr ⟨_, 1, _, rfl, Nat.le_refl _, heap_alloc_new w _, Nat.le_refl _, by simp [maxLen], by rw [hs]; simp, ?_⟩⟩
  rw [E.flat_one, Elem.cs, List.take_of_length_le (by rw [Array.length_toList, hs]; simp)]
/-- 'append(v, u...)', where it came in -/
theorem stepw_append {α : Type} {E : Elem P α} (hw : Region.wanted o (yielded ops a.tmps) = true) (s x : Operand) (ho : o.op = .call { callee := .builtin .append, args := #[s, x], argTypes := #[E.st, E.st] }) (v : Value) (l : List α) (u : Value) (m : List α)
    (hs : a.eval s = v) (hx : a.eval x = u) (hr : RoomN E w v l) (hu : SliceOf E w u m) (h63 : l.length + m.length ≤ 1099511627776 / 8) (hby : E.bytes ≤ 1000)
    (h : ∀ v' w', RoomN E w' v' (l ++ m) → RoomN E w' v l → Only (fun b => v.ownBlock = some b) w w' → (∀ b, v'.ownBlock = some b → v.ownBlock = some b ∨ w.heap.size ≤ b) → K (a.put o.dst v') w') :
    if Region.wanted o (yielded ops a.tmps) = true then o.wp P a w K Q else F := by
  obtain ⟨v', w', hrun, h1, h2, h3, h4, _⟩ := run_append_room hr u m hu h63 hby o.type
  exact stepw_val hw (by simp [execOp, ho, resolve, invoke, builtin, hs, hx, hrun]) (h v' w' h1 h2 h3 h4)
end
end Go.Agg
