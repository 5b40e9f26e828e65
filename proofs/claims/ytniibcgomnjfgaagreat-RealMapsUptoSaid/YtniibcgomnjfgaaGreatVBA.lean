/- slices.SortFunc at paths, by base.order. (Several texts in one.) -/
import Derived.Test.YtniibcgomnjfgaaGreatVAP
import Derived.Test.YtniibcgomnjfgaaGreatVAJ
import Derived.Test.YtniibcgomnjfgaaGreatVAR
import Derived.Test.YtniibcgomnjfgaaGreatVAQ
import Derived.Test.YtniibcgomnjfgaaGreatVAF
import Derived.Test.YtniibcgomnjfgaaGreatProg
import Derived.Shelf.SlGeneric
import Derived.Ground.SlsfProg
import Derived.Shelf.SlSortCmp.WholeK
import Derived.Sort.Grow
import Derived.Deep.QuietTactic
import Derived.Test.YtniibcgomnjfgaaGreatVAG
/-! real.some with a closure that asks for a class, a key, a held path. -/
namespace Go.Proofs.YtniibcgomnjfgaaGreat
open Go.RowKit Pl Go.Agg Go.Mp
theorem filter_take {l : List BuV} {p : Bu → Bool} {k : Nat} {x : BuV} (hx : l[k]? = some x) : ((l.take (k + 1)).map (·.1)).filter p = ((l.take k).map (·.1)).filter p ++ if p x.1 then [x.1] else [] := by
  rw [List.take_add_one, hx]
  simp [List.filter_append, List.filter_cons]
def heldM (l : List P20) : List (P20 × Int) := l.map fun p => (p, 1)
theorem ofClassC_any (x : BuV) (b3 : Nat) (h : H20) (w : World) (hb : LoadsL Tryz.prog w 24 (some ⟨b3, 0, none⟩) (.agg (hC h.1))) : Calls Tryz.prog 48 #[.agg (bC x), .pointer (some ⟨b3, 0, none⟩)] w fun e w' => e = .returned (.bool (decide (x.1.cl = h))) ∧ Below w.heap.size w w' := by
  have HH := Lib.hid hb
  have HE := Lib.hid (fun W => eqlHB x.1.cl h W)
  clear hb
  go_enter Tryz.func48, Tryz.ntmps48
  go_wp2_with (first | (with_reducible refine wpList_box rfl 29 _ rfl (bC x) rfl ?_; intro g1 w1 hb1 hx1 hg1; have HL1 := Lib.hid (BuG.of_blk hb1); have HH1 := Lib.hid (HH.out.below hx1); have HX1 := Lib.hid hx1; clear hb1 hx1 hg1) | (with_reducible refine wpList_loadL HL1.out.cls rfl _ rfl rfl ?_) | (with_reducible refine wpList_loadL HH1.out rfl _ rfl rfl ?_) | (with_reducible refine wpList_eqlw 24 24 _ _ rfl rfl (hC x.1.cl.1) (hC h.1) rfl rfl _ (by kernel_rfl) HE.out ?_))
  go_ret
  exact ⟨rfl, HX1.out⟩
theorem ofKeyC_any (x : BuV) (b3 : Nat) (h : H20) (w : World) (hb : LoadsL Tryz.prog w 24 (some ⟨b3, 0, none⟩) (.agg (hC h.1))) : Calls Tryz.prog 49 #[.agg (bC x), .pointer (some ⟨b3, 0, none⟩)] w fun e w' => e = .returned (.bool (decide (x.1.ky = h))) ∧ Below w.heap.size w w' := by
  have HH := Lib.hid hb
  have HE := Lib.hid (fun W => eqlHB x.1.ky h W)
  clear hb
  go_enter Tryz.func49, Tryz.ntmps49
  go_wp2_with (first | (with_reducible refine wpList_box rfl 29 _ rfl (bC x) rfl ?_; intro g1 w1 hb1 hx1 hg1; have HL1 := Lib.hid (BuG.of_blk hb1); have HH1 := Lib.hid (HH.out.below hx1); have HX1 := Lib.hid hx1; clear hb1 hx1 hg1) | (with_reducible refine wpList_loadL HL1.out.key rfl _ rfl rfl ?_) | (with_reducible refine wpList_loadL HH1.out rfl _ rfl rfl ?_) | (with_reducible refine wpList_eqlw 24 24 _ _ rfl rfl (hC x.1.ky.1) (hC h.1) rfl rfl _ (by kernel_rfl) HE.out ?_))
  go_ret
  exact ⟨rfl, HX1.out⟩
def KeptM (m : List (P20 × Int)) (held : List P20) : Prop := ∀ p, mget m p = if p ∈ held then some 1 else none
theorem zeroIB (w : World) : (zeroValue 3).run Tryz.prog w = .ok (.int .i64 0) w := by kernel_rfl
theorem kept_val {m : List (P20 × Int)} {held : List P20} (h : KeptM m held) (p : P20) : mval (fun n : Int => .int .i64 n) (.int .i64 0) (mget m p) = .int .i64 (if p ∈ held then 1 else 0) := by
  rw [h p]; split <;> rfl
theorem keptC_any (x : BuV) (b3 gm : Nat) (m : List (P20 × Int)) (held : List P20) (w : World) (hb : LoadsL Tryz.prog w 77 (some ⟨b3, 0, none⟩) (.map (some gm))) (hm : MapIs w gm pV (fun n : Int => .int .i64 n) m) (hk : KeptM m held) : Calls Tryz.prog 50 #[.agg (bC x), .pointer (some ⟨b3, 0, none⟩)] w fun e w' => e = .returned (.bool (decide (x.1.pa ∈ held))) ∧ Below w.heap.size w w' := by
  have HH := Lib.hid hb
  have HM := Lib.hid hm
  obtain ⟨r, hr⟩ : ∃ r, decide (x.1.pa ∈ held) = r := ⟨_, rfl⟩
  rw [hr]
  have HV := Lib.hid (show mval (fun n : Int => .int .i64 n) (.int .i64 0) (mget m x.1.pa) = .int .i64 (if r then 1 else 0) by rw [kept_val hk, ← hr]; by_cases h : x.1.pa ∈ held <;> simp [h])
  clear hb hm hr hk
  go_enter Tryz.func50, Tryz.ntmps50
  cases r
  all_goals
    go_wp2_with (first | (with_reducible refine wpList_box rfl 29 _ rfl (bC x) rfl ?_; intro g1 w1 hb1 hx1 hg1; have HL1 := Lib.hid (BuG.of_blk hb1); have HH1 := Lib.hid (HH.out.below hx1); have HM1 := Lib.hid (HM.out.keep (hx1.block _ HM.out.lt)); have HX1 := Lib.hid hx1; clear hb1 hx1 hg1) | (with_reducible refine wpList_loadL HL1.out.path rfl _ rfl rfl ?_) | (with_reducible refine wpList_loadL HH1.out rfl _ rfl rfl ?_) | (at_lookup; refine Mp.wpList_lookup0 rfl _ _ 77 26 3 rfl Tryz.underlying77 path_key zeroIB rfl HM1.out x.1.pa rfl _ HV.out ?_))
    go_ret
    exact ⟨rfl, HX1.out⟩
set_option maxRecDepth 100000 in
set_option maxHeartbeats 4000000 in
theorem someClass_any (v : Value) (l : List BuV) (hn : l.length ≤ 1048576) (hni : ∀ x ∈ l, x.1.ins.length ≤ 1048576) (b3 : Nat) (h : H20) (w : World) (hs : BusAt w v l) (hb : LoadsL Tryz.prog w 24 (some ⟨b3, 0, none⟩) (.agg (hC h.1))) :
    Calls Tryz.prog 40 #[v, .func (.func 48) #[] #[.pointer (some ⟨b3, 0, none⟩)]] w fun e w' => ∃ v' lv, e = .returned v' ∧ OwnBus w.heap.size w' v' lv ∧ lv.map (·.1) = (l.map (·.1)).filter (fun y => decide (y.cl = h)) ∧ Below w.heap.size w w' := by
  have HS := Lib.hid hs
  have hlv := fun W => bus_len hs W
  have HBX := Lib.hid hb
  clear hb
  clear hs
  go_enter Tryz.func40, Tryz.ntmps40
  go_wp2_with fail
  go_loopw [4, 9] (fun out i wr => ∃ (k : Nat) (lv : List BuV), k ≤ l.length ∧ i = .int .i64 k ∧ OwnBus w.heap.size wr out lv ∧ lv.map (·.1) = ((l.take k).map (·.1)).filter (fun y => decide (y.cl = h)) ∧ Below w.heap.size w wr) (fun _ i _ => l.length - (intOf i).toNat)
  case atStart => exact ⟨0, [], by omega, rfl, OwnBus.nil _ _, rfl, Below.refl _ _⟩
  case round =>
    obtain ⟨wr1, rfl⟩ : ∃ y : World, y = wr := ⟨_, rfl⟩
    obtain ⟨k, lv, hk, rfl, ho, hm, hw⟩ := hrel
    have hll : lv.length ≤ 1048576 := by
      have h1 := congrArg List.length hm
      have h2 := List.length_filter_le (fun y => decide (y.cl = h)) ((l.take k).map (·.1))
      simp only [List.length_map, List.length_take] at h1 h2; omega
    have HO := Lib.hid ho
    have HM := Lib.hid hm
    have HW := Lib.hid hw
    clear hm hw ho
    by_cases hlt : k < l.length
    · have hd : decide ((k : Int) < (l.length : Int)) = true := by simp; omega
      obtain ⟨x, hxk⟩ : ∃ x, l[k]? = some x := ⟨_, List.getElem?_eq_getElem hlt⟩
      obtain ⟨q, hadr, hq, hin⟩ := (HS.out.below HW.out).at_ k x hxk
      have HNI := Lib.hid (hni x (List.mem_of_getElem? hxk))
      have HQ := Lib.hid hq
      have HFT := Lib.hid (filter_take (p := (fun y => decide (y.cl = h))) hxk)
      have HI := Lib.hid hin
      clear hq hxk hin
      go_wp2_with (first | (with_reducible refine wpList_loadL HQ.out.all rfl _ rfl rfl ?_) | (refine wpList_new rfl rfl rfl 29 6 12 rfl rfl rfl (by decide) (bC (zB, none, 0, 0)) (bC x) bC_zero (by rw [bC_size, bC_size]) (bC_info x) (bC_one x) rfl (by simp [Act.put]) ?_; intro g2 w2 hb2 hx2 hg2; have HL2 := Lib.hid (BuG.of_blk hb2); have HX2 := Lib.hid hx2; have HW2 := Lib.hid (Agg.belowThen HW.out (Nat.le_refl _) hx2); clear hb2 hx2 hg2) | (with_reducible refine wpList_loadL HL2.out.all rfl _ rfl rfl ?_))
      refine (ofClassC_any x b3 h w2 (HBX.out.below HW2.out)).mono ?_
      rintro e w3 ⟨rfl, hx3⟩
      have HL3 := Lib.hid (HL2.out.below hx3)
      have HX3 := Lib.hid (Agg.belowThen HX2.out (Nat.le_refl _) hx3)
      clear hx3
      obtain ⟨r, hr⟩ : ∃ r, (decide (x.1.cl = h)) = r := ⟨_, rfl⟩
      simp only [hr]
      have HR := Lib.hid hr
      clear hr
      cases r with
      | false =>
        go_wp2_with fail
        go_roundw
        case rel => exact ⟨k + 1, lv, by omega, by go_num, HO.out.below HX3.out, by rw [HFT.out, HR.out, HM.out]; simp, Agg.belowThen HW.out (Nat.le_refl _) HX3.out⟩
        case measure => simp [intOf]; omega
      | true =>
      go_wp2_with (first | (with_reducible refine wpList_loadL HL3.out.all rfl _ rfl rfl ?_))
      refine (owned_any x w3 HNI.out (HI.out.below HX3.out)).mono ?_
      rintro e w4 ⟨iv, rfl, ho4, hx4⟩
      have hX4 := Agg.belowThen HX3.out (Nat.le_refl _) hx4
      have hW4 := Agg.belowThen HW.out (Nat.le_refl _) hX4
      have HO4 := Lib.hid (HO.out.below hX4)
      have HN4 := Lib.hid (ho4.lower (Agg.belowThen HW.out (Nat.le_refl _) HX3.out).size)
      have HF4 := Lib.hid (HO.out.fresh (x := (x.1, iv)) HX3.out.size ho4)
      have HW4 := Lib.hid hW4
      clear ho4 hx4 hX4 hW4
      go_wp2_with (first | (refine wpList_push (E := EBu) (base := w.heap.size) rfl rfl 19 rfl _ rfl _ rfl (x.1, iv) rfl (fun _ => rfl) (by simp) HO4.out.row (by omega) (by decide) HW4.out.size ?_; intro u5 v5 w5 ho5 hp5; have HO5 := Lib.hid (HO4.out.push (x := (x.1, iv)) HN4.out HF4.out ho5 hp5); have HW5 := Lib.hid (HW4.out.trans (hp5.below w.heap.size (Nat.le_refl _) HW4.out.size)); clear ho5 hp5))
      go_roundw
      case rel => exact ⟨k + 1, lv ++ [(x.1, iv)], by omega, by go_num, HO5.out, by rw [HFT.out, HR.out, List.map_append, HM.out]; rfl, HW5.out⟩
      case measure => simp [intOf]; omega
    · obtain rfl : k = l.length := by omega
      go_wp2_with fail
      go_ret
      exact ⟨_, rfl, lv, HO.out, by rw [HM.out, List.take_length], HW.out⟩
set_option maxRecDepth 100000 in
set_option maxHeartbeats 4000000 in
theorem someKey_any (v : Value) (l : List BuV) (hn : l.length ≤ 1048576) (hni : ∀ x ∈ l, x.1.ins.length ≤ 1048576) (b3 : Nat) (h : H20) (w : World) (hs : BusAt w v l) (hb : LoadsL Tryz.prog w 24 (some ⟨b3, 0, none⟩) (.agg (hC h.1))) :
    Calls Tryz.prog 40 #[v, .func (.func 49) #[] #[.pointer (some ⟨b3, 0, none⟩)]] w fun e w' => ∃ v' lv, e = .returned v' ∧ OwnBus w.heap.size w' v' lv ∧ lv.map (·.1) = (l.map (·.1)).filter (fun y => decide (y.ky = h)) ∧ Below w.heap.size w w' := by
  have HS := Lib.hid hs
  have hlv := fun W => bus_len hs W
  have HBX := Lib.hid hb
  clear hb
  clear hs
  go_enter Tryz.func40, Tryz.ntmps40
  go_wp2_with fail
  go_loopw [4, 9] (fun out i wr => ∃ (k : Nat) (lv : List BuV), k ≤ l.length ∧ i = .int .i64 k ∧ OwnBus w.heap.size wr out lv ∧ lv.map (·.1) = ((l.take k).map (·.1)).filter (fun y => decide (y.ky = h)) ∧ Below w.heap.size w wr) (fun _ i _ => l.length - (intOf i).toNat)
  case atStart => exact ⟨0, [], by omega, rfl, OwnBus.nil _ _, rfl, Below.refl _ _⟩
  case round =>
    obtain ⟨wr1, rfl⟩ : ∃ y : World, y = wr := ⟨_, rfl⟩
    obtain ⟨k, lv, hk, rfl, ho, hm, hw⟩ := hrel
    have hll : lv.length ≤ 1048576 := by
      have h1 := congrArg List.length hm
      have h2 := List.length_filter_le (fun y => decide (y.ky = h)) ((l.take k).map (·.1))
      simp only [List.length_map, List.length_take] at h1 h2; omega
    have HO := Lib.hid ho
    have HM := Lib.hid hm
    have HW := Lib.hid hw
    clear hm hw ho
    by_cases hlt : k < l.length
    · have hd : decide ((k : Int) < (l.length : Int)) = true := by simp; omega
      obtain ⟨x, hxk⟩ : ∃ x, l[k]? = some x := ⟨_, List.getElem?_eq_getElem hlt⟩
      obtain ⟨q, hadr, hq, hin⟩ := (HS.out.below HW.out).at_ k x hxk
      have HNI := Lib.hid (hni x (List.mem_of_getElem? hxk))
      have HQ := Lib.hid hq
      have HFT := Lib.hid (filter_take (p := (fun y => decide (y.ky = h))) hxk)
      have HI := Lib.hid hin
      clear hq hxk hin
      go_wp2_with (first | (with_reducible refine wpList_loadL HQ.out.all rfl _ rfl rfl ?_) | (refine wpList_new rfl rfl rfl 29 6 12 rfl rfl rfl (by decide) (bC (zB, none, 0, 0)) (bC x) bC_zero (by rw [bC_size, bC_size]) (bC_info x) (bC_one x) rfl (by simp [Act.put]) ?_; intro g2 w2 hb2 hx2 hg2; have HL2 := Lib.hid (BuG.of_blk hb2); have HX2 := Lib.hid hx2; have HW2 := Lib.hid (Agg.belowThen HW.out (Nat.le_refl _) hx2); clear hb2 hx2 hg2) | (with_reducible refine wpList_loadL HL2.out.all rfl _ rfl rfl ?_))
      refine (ofKeyC_any x b3 h w2 (HBX.out.below HW2.out)).mono ?_
      rintro e w3 ⟨rfl, hx3⟩
      have HL3 := Lib.hid (HL2.out.below hx3)
      have HX3 := Lib.hid (Agg.belowThen HX2.out (Nat.le_refl _) hx3)
      clear hx3
      obtain ⟨r, hr⟩ : ∃ r, (decide (x.1.ky = h)) = r := ⟨_, rfl⟩
      simp only [hr]
      have HR := Lib.hid hr
      clear hr
      cases r with
      | false =>
        go_wp2_with fail
        go_roundw
        case rel => exact ⟨k + 1, lv, by omega, by go_num, HO.out.below HX3.out, by rw [HFT.out, HR.out, HM.out]; simp, Agg.belowThen HW.out (Nat.le_refl _) HX3.out⟩
        case measure => simp [intOf]; omega
      | true =>
      go_wp2_with (first | (with_reducible refine wpList_loadL HL3.out.all rfl _ rfl rfl ?_))
      refine (owned_any x w3 HNI.out (HI.out.below HX3.out)).mono ?_
      rintro e w4 ⟨iv, rfl, ho4, hx4⟩
      have hX4 := Agg.belowThen HX3.out (Nat.le_refl _) hx4
      have hW4 := Agg.belowThen HW.out (Nat.le_refl _) hX4
      have HO4 := Lib.hid (HO.out.below hX4)
      have HN4 := Lib.hid (ho4.lower (Agg.belowThen HW.out (Nat.le_refl _) HX3.out).size)
      have HF4 := Lib.hid (HO.out.fresh (x := (x.1, iv)) HX3.out.size ho4)
      have HW4 := Lib.hid hW4
      clear ho4 hx4 hX4 hW4
      go_wp2_with (first | (refine wpList_push (E := EBu) (base := w.heap.size) rfl rfl 19 rfl _ rfl _ rfl (x.1, iv) rfl (fun _ => rfl) (by simp) HO4.out.row (by omega) (by decide) HW4.out.size ?_; intro u5 v5 w5 ho5 hp5; have HO5 := Lib.hid (HO4.out.push (x := (x.1, iv)) HN4.out HF4.out ho5 hp5); have HW5 := Lib.hid (HW4.out.trans (hp5.below w.heap.size (Nat.le_refl _) HW4.out.size)); clear ho5 hp5))
      go_roundw
      case rel => exact ⟨k + 1, lv ++ [(x.1, iv)], by omega, by go_num, HO5.out, by rw [HFT.out, HR.out, List.map_append, HM.out]; rfl, HW5.out⟩
      case measure => simp [intOf]; omega
    · obtain rfl : k = l.length := by omega
      go_wp2_with fail
      go_ret
      exact ⟨_, rfl, lv, HO.out, by rw [HM.out, List.take_length], HW.out⟩
set_option maxRecDepth 100000 in
set_option maxHeartbeats 4000000 in
theorem someKept_any (v : Value) (l : List BuV) (hn : l.length ≤ 1048576) (hni : ∀ x ∈ l, x.1.ins.length ≤ 1048576) (b3 gm : Nat) (mm : List (P20 × Int)) (held : List P20) (w : World) (hs : BusAt w v l) (hb : LoadsL Tryz.prog w 77 (some ⟨b3, 0, none⟩) (.map (some gm))) (hm : MapIs w gm pV (fun n : Int => .int .i64 n) mm) (hkm : KeptM mm held) :
    Calls Tryz.prog 40 #[v, .func (.func 50) #[] #[.pointer (some ⟨b3, 0, none⟩)]] w fun e w' => ∃ v' lv, e = .returned v' ∧ OwnBus w.heap.size w' v' lv ∧ lv.map (·.1) = (l.map (·.1)).filter (fun y => decide (y.pa ∈ held)) ∧ Below w.heap.size w w' := by
  have HS := Lib.hid hs
  have hlv := fun W => bus_len hs W
  have HBX := Lib.hid hb
  have HMX := Lib.hid hm
  have HKX := Lib.hid hkm
  clear hb hm hkm
  clear hs
  go_enter Tryz.func40, Tryz.ntmps40
  go_wp2_with fail
  go_loopw [4, 9] (fun out i wr => ∃ (k : Nat) (lv : List BuV), k ≤ l.length ∧ i = .int .i64 k ∧ OwnBus w.heap.size wr out lv ∧ lv.map (·.1) = ((l.take k).map (·.1)).filter (fun y => decide (y.pa ∈ held)) ∧ Below w.heap.size w wr) (fun _ i _ => l.length - (intOf i).toNat)
  case atStart => exact ⟨0, [], by omega, rfl, OwnBus.nil _ _, rfl, Below.refl _ _⟩
  case round =>
    obtain ⟨wr1, rfl⟩ : ∃ y : World, y = wr := ⟨_, rfl⟩
    obtain ⟨k, lv, hk, rfl, ho, hm, hw⟩ := hrel
    have hll : lv.length ≤ 1048576 := by
      have h1 := congrArg List.length hm
      have h2 := List.length_filter_le (fun y => decide (y.pa ∈ held)) ((l.take k).map (·.1))
      simp only [List.length_map, List.length_take] at h1 h2; omega
    have HO := Lib.hid ho
    have HM := Lib.hid hm
    have HW := Lib.hid hw
    clear hm hw ho
    by_cases hlt : k < l.length
    · have hd : decide ((k : Int) < (l.length : Int)) = true := by simp; omega
      obtain ⟨x, hxk⟩ : ∃ x, l[k]? = some x := ⟨_, List.getElem?_eq_getElem hlt⟩
      obtain ⟨q, hadr, hq, hin⟩ := (HS.out.below HW.out).at_ k x hxk
      have HNI := Lib.hid (hni x (List.mem_of_getElem? hxk))
      have HQ := Lib.hid hq
      have HFT := Lib.hid (filter_take (p := (fun y => decide (y.pa ∈ held))) hxk)
      have HI := Lib.hid hin
      clear hq hxk hin
      go_wp2_with (first | (with_reducible refine wpList_loadL HQ.out.all rfl _ rfl rfl ?_) | (refine wpList_new rfl rfl rfl 29 6 12 rfl rfl rfl (by decide) (bC (zB, none, 0, 0)) (bC x) bC_zero (by rw [bC_size, bC_size]) (bC_info x) (bC_one x) rfl (by simp [Act.put]) ?_; intro g2 w2 hb2 hx2 hg2; have HL2 := Lib.hid (BuG.of_blk hb2); have HX2 := Lib.hid hx2; have HW2 := Lib.hid (Agg.belowThen HW.out (Nat.le_refl _) hx2); clear hb2 hx2 hg2) | (with_reducible refine wpList_loadL HL2.out.all rfl _ rfl rfl ?_))
      refine (keptC_any x b3 gm mm held w2 (HBX.out.below HW2.out) (HMX.out.keep (HW2.out.block _ HMX.out.lt)) HKX.out).mono ?_
      rintro e w3 ⟨rfl, hx3⟩
      have HL3 := Lib.hid (HL2.out.below hx3)
      have HX3 := Lib.hid (Agg.belowThen HX2.out (Nat.le_refl _) hx3)
      clear hx3
      obtain ⟨r, hr⟩ : ∃ r, (decide (x.1.pa ∈ held)) = r := ⟨_, rfl⟩
      simp only [hr]
      have HR := Lib.hid hr
      clear hr
      cases r with
      | false =>
        go_wp2_with fail
        go_roundw
        case rel => exact ⟨k + 1, lv, by omega, by go_num, HO.out.below HX3.out, by rw [HFT.out, HR.out, HM.out]; simp, Agg.belowThen HW.out (Nat.le_refl _) HX3.out⟩
        case measure => simp [intOf]; omega
      | true =>
      go_wp2_with (first | (with_reducible refine wpList_loadL HL3.out.all rfl _ rfl rfl ?_))
      refine (owned_any x w3 HNI.out (HI.out.below HX3.out)).mono ?_
      rintro e w4 ⟨iv, rfl, ho4, hx4⟩
      have hX4 := Agg.belowThen HX3.out (Nat.le_refl _) hx4
      have hW4 := Agg.belowThen HW.out (Nat.le_refl _) hX4
      have HO4 := Lib.hid (HO.out.below hX4)
      have HN4 := Lib.hid (ho4.lower (Agg.belowThen HW.out (Nat.le_refl _) HX3.out).size)
      have HF4 := Lib.hid (HO.out.fresh (x := (x.1, iv)) HX3.out.size ho4)
      have HW4 := Lib.hid hW4
      clear ho4 hx4 hX4 hW4
      go_wp2_with (first | (refine wpList_push (E := EBu) (base := w.heap.size) rfl rfl 19 rfl _ rfl _ rfl (x.1, iv) rfl (fun _ => rfl) (by simp) HO4.out.row (by omega) (by decide) HW4.out.size ?_; intro u5 v5 w5 ho5 hp5; have HO5 := Lib.hid (HO4.out.push (x := (x.1, iv)) HN4.out HF4.out ho5 hp5); have HW5 := Lib.hid (HW4.out.trans (hp5.below w.heap.size (Nat.le_refl _) HW4.out.size)); clear ho5 hp5))
      go_roundw
      case rel => exact ⟨k + 1, lv ++ [(x.1, iv)], by omega, by go_num, HO5.out, by rw [HFT.out, HR.out, List.map_append, HM.out]; rfl, HW5.out⟩
      case measure => simp [intOf]; omega
    · obtain rfl : k = l.length := by omega
      go_wp2_with fail
      go_ret
      exact ⟨_, rfl, lv, HO.out, by rw [HM.out, List.take_length], HW.out⟩
end Go.Proofs.YtniibcgomnjfgaaGreat
/-! spenceref03.Less -/
namespace Go.Proofs.YtniibcgomnjfgaaGreat
open Go.RowKit Pl Go.Agg
open Go.Lib (compareBytes)
set_option maxRecDepth 100000 in
set_option maxHeartbeats 1000000 in
theorem refLess_any (h n h' n' : List UInt8) (hl : h.length = 20) (hl' : h'.length = 20) (w : World) :
    Calls Tryz.prog 77 #[.agg (pC h n), .agg (pC h' n')] w fun e w' => e = .returned (.bool (decide (cmpP h n h' n' < 0))) ∧ Below w.heap.size w w' := by
  have hb1 := heap_alloc_new (w.alloc (.cells (pC h n) 26)) (.cells (pC h' n') 26)
  have hb0 : ((w.alloc (.cells (pC h n) 26)).alloc (.cells (pC h' n') 26)).heap[w.heap.size]? = _ := (heap_alloc_old _ _ (by simp)).trans (heap_alloc_new w (.cells (pC h n) 26))
  have hw : Below w.heap.size w ((w.alloc (.cells (pC h n) 26)).alloc (.cells (pC h' n') 26)) := ((Below.refl _ _).alloc (Nat.le_refl _) _).alloc (by simp) _
  rw [show (w.alloc (.cells (pC h n) 26)).heap.size = w.heap.size + 1 by simp] at hb1
  have HL := Lib.hid hl
  have HL' := Lib.hid hl'
  clear hl hl'
  go_enter Tryz.func77, Tryz.ntmps77
  go_wp2_with fail
  generalize (w.alloc (.cells (pC h n) 26)).alloc (.cells (pC h' n') 26) = w0 at *
  go_loopw [5] (fun i wr => ∃ k : Nat, k ≤ 20 ∧ i = .int .i64 k ∧ h.take k = h'.take k ∧ wr.heap[w.heap.size]? = some (.cells (pC h n) 26 (0, 0)) ∧ wr.heap[w.heap.size + 1]? = some (.cells (pC h' n') 26 (0, 0)) ∧ Below w.heap.size w wr) (fun i _ => 20 - (intOf i).toNat)
  case atStart => exact ⟨0, by omega, rfl, rfl, hb0, hb1, hw⟩
  case round =>
    obtain ⟨k, hk, rfl, hkk, hb0, hb1, hw⟩ := hrel
    have HK := Lib.hid hkk
    clear hkk
    by_cases hlt : k < 20
    · have hd : decide ((k : Int) < 20) = true := by simp; omega
      have hx : h[k]? = some (h[k]'(by rw [HL.out]; exact hlt)) := List.getElem?_eq_getElem _
      have hy : h'[k]? = some (h'[k]'(by rw [HL'.out]; exact hlt)) := List.getElem?_eq_getElem _
      generalize h[k]'(by rw [HL.out]; exact hlt) = x at hx
      generalize h'[k]'(by rw [HL'.out]; exact hlt) = y at hy
      have c0 : wr.cell? ⟨w.heap.size, k, none⟩ = some (.int .u8 (x.toNat : Int)) := by rw [cell_of_row _ _ _ _ _ _ hb0, pC_byte h n k x hx]
      have c1 : wr.cell? ⟨w.heap.size + 1, k, none⟩ = some (.int .u8 (y.toNat : Int)) := by rw [cell_of_row _ _ _ _ _ _ hb1, pC_byte h' n' k y hy]
      have HX := Lib.hid hx
      have HY := Lib.hid hy
      clear hx hy
      by_cases hxy : x = y
      · have hne : ((x.toNat : Int) != (y.toNat : Int)) = false := by simp [hxy]
        go_wp2_with fail
        go_region
        go_wp2_with fail
        go_roundw
        case rel => exact ⟨k + 1, by omega, by go_num, by rw [List.take_add_one, List.take_add_one, HK.out, HX.out, HY.out, hxy], hb0, hb1, hw.drew⟩
        case measure => simp [intOf]; omega
      · have hne : ((x.toNat : Int) != (y.toNat : Int)) = true := by
          simp only [bne_iff_ne, ne_eq]
          intro e
          exact hxy (UInt8.toNat_inj.1 (by omega))
        go_wp2_with fail
        go_region
        have hres : decide (cmpP h n h' n' < 0) = decide (x.toNat < y.toNat) := by
          have hhh : (h == h') = false := by
            simp only [beq_eq_false_iff_ne, ne_eq]
            rintro rfl
            exact hxy (Option.some.inj (HX.out.symm.trans HY.out))
          rw [cmpP, hhh, if_neg (by simp), compare_diff k h h' x y HX.out HY.out HK.out hxy]
          rw [decide_eq_decide, UInt8.lt_iff_toNat_lt]
        have HR := Lib.hid hres
        clear hres
        go_wp2_with fail
        go_region
        go_wp2_with fail
        go_ret
        exact ⟨ret_bool HR.out.symm, hw.drew.drew⟩
    · obtain rfl : k = 20 := by omega
      have hhh : h = h' := by
        have := HK.out
        rwa [List.take_of_length_le (by rw [HL.out]; omega), List.take_of_length_le (by rw [HL'.out]; omega)] at this
      have c0 : wr.cell? ⟨w.heap.size, 20, none⟩ = some (.string ⟨n.toArray⟩) := by rw [cell_of_row _ _ _ _ _ _ hb0, pC_name h n HL.out]
      have c1 : wr.cell? ⟨w.heap.size + 1, 20, none⟩ = some (.string ⟨n'.toArray⟩) := by rw [cell_of_row _ _ _ _ _ _ hb1, pC_name h' n' HL'.out]
      have hres : decide (cmpP h n h' n' < 0) = Op.bytesLess n n' := by rw [← compare_less, cmpP, hhh]; simp
      have HR := Lib.hid hres
      clear hres hhh
      have hta := Agg.bytes_toList n
      have htb := Agg.bytes_toList n'
      go_wp2_with fail
      go_ret
      exact ⟨ret_bool HR.out.symm, hw⟩
end Go.Proofs.YtniibcgomnjfgaaGreat
/-! DERIVED: THE SHELF's CONTRACTS AT THIS DUMP, IN PLAIN WORDS (tools/lay-plain.mjs out of 'TryzShelf.lean', which tools/lay-shelf.mjs wrote): THE SAME DECLARATIONS UNDER THE SAME NAMES: 'import', 'namespace', 'open', 'def', 'theorem' AND NOTHING ELSE: no command of the shelf's: FOR A HAND-IN. Each laying: the table of numbers ('.._ren') and one theorem, a field a fact of the dump's own or the kernel's comparison; each contract: ONE APPLICATION. -/
namespace Go.Proofs
open Go.Shelf
def Tryz.sortPath_ren : Go.Shelf.Ren := ⟨fun | 6 => 74 | 15 => 114 | 14 => 113 | 28 => 149 | 29 => 150 | 20 => 141 | 21 => 142 | 22 => 143 | 23 => 144 | 24 => 145 | 25 => 146 | 26 => 147 | 27 => 148 | 46 => 155 | 47 => 156 | 48 => 157 | 49 => 158 | 50 => 159 | 57 => 161 | n => n, fun | 22 => 30 | 24 => 26 | 25 => 126 | 3 => 3 | 39 => 118 | 0 => 0 | 53 => 168 | 55 => 152 | 4 => 4 | 46 => 233 | 45 => 232 | 50 => 66 | 5 => 5 | 9 => 9 | 66 => 242 | 70 => 246 | 76 => 248 | 77 => 249 | n => n, fun | n => n⟩
theorem Tryz.sortPath : Go.Proofs.SlLaysF0.n6 Tryz.prog Tryz.sortPath_ren := {
  mixed := by kernel_rfl
  f6 := ⟨Tryz.f74.name, by decide, Tryz.func74.trans (congrArg some (by kernel_rfl))⟩
  f14 := ⟨Tryz.f113.name, by decide, Tryz.func113.trans (congrArg some (by kernel_rfl))⟩
  f15 := Tryz.func114.trans (congrArg some (by kernel_rfl))
  f20 := ⟨Tryz.f141.name, by decide, Tryz.func141.trans (congrArg some (by kernel_rfl))⟩
  f21 := ⟨Tryz.f142.name, by decide, Tryz.func142.trans (congrArg some (by kernel_rfl))⟩
  f22 := ⟨Tryz.f143.name, by decide, Tryz.func143.trans (congrArg some (by kernel_rfl))⟩
  f23 := ⟨Tryz.f144.name, by decide, Tryz.func144.trans (congrArg some (by kernel_rfl))⟩
  f24 := ⟨Tryz.f145.name, by decide, Tryz.func145.trans (congrArg some (by kernel_rfl))⟩
  f25 := ⟨Tryz.f146.name, by decide, Tryz.func146.trans (congrArg some (by kernel_rfl))⟩
  f26 := ⟨Tryz.f147.name, by decide, Tryz.func147.trans (congrArg some (by kernel_rfl))⟩
  f27 := ⟨Tryz.f148.name, by decide, Tryz.func148.trans (congrArg some (by kernel_rfl))⟩
  f28 := Tryz.func149.trans (congrArg some (by kernel_rfl))
  f29 := Tryz.func150.trans (congrArg some (by kernel_rfl))
  f46 := ⟨Tryz.f155.name, by decide, Tryz.func155.trans (congrArg some (by kernel_rfl))⟩
  f47 := Tryz.func156.trans (congrArg some (by kernel_rfl))
  f48 := Tryz.func157.trans (congrArg some (by kernel_rfl))
  f49 := ⟨Tryz.f158.name, by decide, Tryz.func158.trans (congrArg some (by kernel_rfl))⟩
  f50 := ⟨Tryz.f159.name, by decide, Tryz.func159.trans (congrArg some (by kernel_rfl))⟩
  f57 := ⟨Tryz.f161.name, by decide, Tryz.func161.trans (congrArg some (by kernel_rfl))⟩
  t0 := Tryz.underlying0
  a0 := Tryz.isAgg0
  z0 := Tryz.sizeOf0
  v0 := Tryz.zeroValue0
  t3 := Tryz.underlying3
  a3 := Tryz.isAgg3
  z3 := Tryz.sizeOf3
  v3 := Tryz.zeroValue3
  t4 := Tryz.underlying4
  a4 := Tryz.isAgg4
  z4 := Tryz.sizeOf4
  v4 := Tryz.zeroValue4
  t5 := Tryz.underlying5
  a5 := Tryz.isAgg5
  z5 := Tryz.sizeOf5
  v5 := Tryz.zeroValue5
  t9 := Tryz.underlying9
  a9 := Tryz.isAgg9
  z9 := Tryz.sizeOf9
  v9 := Tryz.zeroValue9
  t22 := Tryz.underlying30
  a22 := Tryz.isAgg30
  z22 := Tryz.sizeOf30
  v22 := Tryz.zeroValue30
  t25 := Tryz.underlying126
  a25 := Tryz.isAgg126
  z25 := Tryz.sizeOf126
  v25 := Tryz.zeroValue126
  t39 := Tryz.underlying118
  a39 := Tryz.isAgg118
  z39 := Tryz.sizeOf118
  v39 := Tryz.zeroValue118
  t45 := Tryz.underlying232
  a45 := Tryz.isAgg232
  z45 := Tryz.sizeOf232
  v45 := Tryz.zeroValue232
  t46 := Tryz.underlying233
  a46 := Tryz.isAgg233
  z46 := Tryz.sizeOf233
  v46 := Tryz.zeroValue233
  t50 := Tryz.underlying66
  a50 := Tryz.isAgg66
  z50 := Tryz.sizeOf66
  v50 := Tryz.zeroValue66
  t53 := Tryz.underlying168
  a53 := Tryz.isAgg168
  z53 := Tryz.sizeOf168
  v53 := Tryz.zeroValue168
  t55 := Tryz.underlying152
  a55 := Tryz.isAgg152
  z55 := Tryz.sizeOf152
  v55 := Tryz.zeroValue152
  t66 := Tryz.underlying242
  a66 := Tryz.isAgg242
  z66 := Tryz.sizeOf242
  v66 := Tryz.zeroValue242
  t70 := Tryz.underlying246
  a70 := Tryz.isAgg246
  z70 := Tryz.sizeOf246
  v70 := Tryz.zeroValue246
  t76 := Tryz.underlying248
  a76 := Tryz.isAgg248
  z76 := Tryz.sizeOf248
  v76 := Tryz.zeroValue248
  t77 := Tryz.underlying249
  a77 := Tryz.isAgg249
  z77 := Tryz.sizeOf249
  v77 := Tryz.zeroValue249 }
end Go.Proofs
/-! base.order, as the sort asks it: the world behind it to the last block. -/
namespace Go.Proofs.YtniibcgomnjfgaaGreat
open Go.RowKit Pl Go.Agg
open Go.Lib (compareBytes)
set_option maxRecDepth 100000 in
set_option maxHeartbeats 1000000 in
theorem order_grown (h n h' n' : List UInt8) (hl : h.length = 20) (hl' : h'.length = 20) (w : World) :
    Calls Tryz.prog 75 #[.agg (pC h n), .agg (pC h' n')] w fun e w' => e = .returned (.int .i64 (cmpP h n h' n')) ∧ ∃ q os, w' = Sort.grow (w.drewN q) os := by
  have hb1 := heap_alloc_new (w.alloc (.cells (pC h n) 26)) (.cells (pC h' n') 26)
  have hb0 : ((w.alloc (.cells (pC h n) 26)).alloc (.cells (pC h' n') 26)).heap[w.heap.size]? = _ := (heap_alloc_old _ _ (by simp)).trans (heap_alloc_new w (.cells (pC h n) 26))
  have hw : ∃ os, (w.alloc (.cells (pC h n) 26)).alloc (.cells (pC h' n') 26) = Sort.grow w os := ⟨_, by rw [Sort.alloc_eq_grow, Sort.alloc_eq_grow, Sort.grow_grow]⟩
  obtain ⟨os, hos⟩ := hw
  have HOS := Lib.hid hos
  clear hos
  rw [show (w.alloc (.cells (pC h n) 26)).heap.size = w.heap.size + 1 by simp] at hb1
  have HL := Lib.hid hl
  have HL' := Lib.hid hl'
  clear hl hl'
  have hq0 : (Instr.loadAt 24 (.pointer (some ⟨w.heap.size, 0, none⟩))).run Tryz.prog ((w.alloc (.cells (pC h n) 26)).alloc (.cells (pC h' n') 26)) = _ := Agg.run_loadAt_sub hb0 (pC_hash h n) Tryz.underlying24 rfl (hC_info _ HL.out)
  have hq1 : (Instr.loadAt 24 (.pointer (some ⟨w.heap.size + 1, 0, none⟩))).run Tryz.prog ((w.alloc (.cells (pC h n) 26)).alloc (.cells (pC h' n') 26)) = _ := Agg.run_loadAt_sub hb1 (pC_hash h' n') Tryz.underlying24 rfl (hC_info _ HL'.out)
  have hqq : ∀ w, (binOp .eql 24 (.agg (hC h)) (.agg (hC h'))).run Tryz.prog w = .ok (.bool (h == h')) w := fun w => eql_hash _ _ HL.out HL'.out w
  cases hh : (h == h') with
  | true =>
    have hcm : cmpP h n h' n' = compareBytes n n' := by simp [cmpP, hh]
    have c0 : ((w.alloc (.cells (pC h n) 26)).alloc (.cells (pC h' n') 26)).cell? ⟨w.heap.size, 20, none⟩ = some (.string ⟨n.toArray⟩) := by rw [cell_of_row _ _ _ _ _ _ hb0, pC_name h n HL.out]
    have c1 : ((w.alloc (.cells (pC h n) 26)).alloc (.cells (pC h' n') 26)).cell? ⟨w.heap.size + 1, 20, none⟩ = some (.string ⟨n'.toArray⟩) := by rw [cell_of_row _ _ _ _ _ _ hb1, pC_name h' n' HL'.out]
    rw [hh] at hqq
    have HH := Lib.hid hh
    clear hh
    rw [hcm]
    clear hcm
    go_enter Tryz.func75, Tryz.ntmps75
    go_wp2_with (first | (with_reducible refine Agg.wpList_loadw 24 _ rfl rfl (.pointer (some ⟨w.heap.size, 0, none⟩)) rfl (.agg (hC h)) hq0 ?_) | (with_reducible refine Agg.wpList_loadw 24 _ rfl rfl (.pointer (some ⟨w.heap.size + 1, 0, none⟩)) rfl (.agg (hC h')) hq1 ?_) | (with_reducible refine Agg.wpList_eqlw 24 24 _ _ rfl rfl (hC h) (hC h') rfl rfl true (by kernel_rfl) hqq ?_))
    refine (cmpString_any _ _ _).mono ?_
    rintro e w1 ⟨rfl, rfl⟩
    go_wp2_with fail
    go_ret
    exact ⟨rfl, 0, os, HOS.out⟩
  | false =>
    have hcm : cmpP h n h' n' = compareBytes h h' := by simp [cmpP, hh]
    rw [hh] at hqq
    have HH := Lib.hid hh
    clear hh
    rw [hcm]
    clear hcm
    go_enter Tryz.func75, Tryz.ntmps75
    go_wp2_with (first | (with_reducible refine Agg.wpList_loadw 24 _ rfl rfl (.pointer (some ⟨w.heap.size, 0, none⟩)) rfl (.agg (hC h)) hq0 ?_) | (with_reducible refine Agg.wpList_loadw 24 _ rfl rfl (.pointer (some ⟨w.heap.size + 1, 0, none⟩)) rfl (.agg (hC h')) hq1 ?_) | (with_reducible refine Agg.wpList_eqlw 24 24 _ _ rfl rfl (hC h) (hC h') rfl rfl false (by kernel_rfl) hqq ?_))
    clear hq0 hq1 hqq
    generalize (w.alloc (.cells (pC h n) 26)).alloc (.cells (pC h' n') 26) = w0 at *
    have hcc : ∀ q, Calls Tryz.prog 67 #[.slice (some ⟨w.heap.size, 0, none⟩) 20 20, .slice (some ⟨w.heap.size + 1, 0, none⟩) 20 20] (w0.drewN q) fun e w' => e = .returned (.int .i64 (compareBytes h h')) ∧ w0.drewN q = w' := fun q => by
      have := bytesCompare_any (w0.drewN q) h h' w.heap.size 0 (w.heap.size + 1) 0 20 20 (fun j y hj => by rw [Nat.zero_add, World.cell?_drewN, cell_of_row _ _ _ _ _ _ hb0, pC_byte h n j y hj]) (fun j y hj => by rw [Nat.zero_add, World.cell?_drewN, cell_of_row _ _ _ _ _ _ hb1, pC_byte h' n' j y hj])
      rwa [HL.out, HL'.out] at this
    have hs := slice_hash
    simp only [Act.put, List.setIfInBounds_toArray, List.set_cons_succ, List.set_cons_zero]
    go_quiet ((go_at_call 67; refine (hcc _).mono ?_; rintro e w' ⟨rfl, rfl⟩; exact ⟨rfl, _, rfl⟩))
    go_wp2_with fail
    go_ret
    exact ⟨rfl, nq, os, by rw [HOS.out]; rfl⟩
end Go.Proofs.YtniibcgomnjfgaaGreat
/-! Slices of paths. -/

/-! slices.SortFunc at paths, by base.order. -/
namespace Go.Proofs.YtniibcgomnjfgaaGreat
open Go.RowKit Pl Go.Sort
theorem cmpLays20 (blk off size : Nat) (w : World) : CmpLays Tryz.prog 75 #[] cells20 21 cmp20 blk off size w :=
  fun _ _ _ _ x y => order_grown x.1.1 x.1.2 y.1.1 y.1.2 x.2 y.2 _
theorem sort_any (d : Array P20) (blk off cap : Nat) (w : World) (hH : HoldsK cells20 21 w blk off d) (hblk : blk < w.heap.size) (hsz : d.size < 4611686018427387904) :
    Calls Tryz.prog 74 #[.slice (some ⟨blk, off, none⟩) d.size cap, .func (.func 75) #[] #[]] w fun e w' =>
      e = .returned (.tuple #[]) ∧ ∃ d' n os, PermIn 0 d.size d d' ∧ SortedIn lt20 0 d.size d' ∧ w' = sortWorldK cells20 21 w blk off n d' os := by
  have eg : ∀ args w, (callFunc 75 args).run Tryz.prog w = .ok (.enter 75 args) w := enters_of Tryz.func75 (by kernel_rfl) rfl
  exact AnyQ.slices_SortFunc Tryz.sortPath 21 (fun w => by kernel_rfl) (fun w => by kernel_rfl) cells20 cells20_length cells20_one cmp20 lt20_swo 75 #[] blk off cap d w eg (cmpLays20 blk off d.size w) hH hblk hsz
end Go.Proofs.YtniibcgomnjfgaaGreat
