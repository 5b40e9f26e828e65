/- What is lent: its laws, for any elements. (Several texts in one.) -/
import Derived.Test.YtniibcgomnjfgaaGreatVAX
import Derived.Test.YtniibcgomnjfgaaGreatVAY
import Derived.Test.YtniibcgomnjfgaaGreatVBA
import Derived.Test.YtniibcgomnjfgaaGreatVBC
import Derived.Test.YtniibcgomnjfgaaGreatVAE
import Derived.Test.YtniibcgomnjfgaaGreatVAJ
import Derived.Test.YtniibcgomnjfgaaGreatVAC
/-! spenceref22.OfClass, OfKey, Kept, Paths of any builts. -/
namespace Go.Proofs.YtniibcgomnjfgaaGreat
open Go.RowKit Pl Go.Agg
theorem lv_len {l lv : List BuV} {k : Nat} {p : Bu → Bool} (hm : lv.map (·.1) = ((l.take k).map (·.1)).filter p) : lv.length ≤ l.length := by
  have h1 := congrArg List.length hm
  have h2 := List.length_filter_le p ((l.take k).map (·.1))
  simp only [List.length_map, List.length_take] at h1 h2
  omega
set_option maxRecDepth 100000 in
set_option maxHeartbeats 8000000 in
theorem refOfClass_any (v : Value) (l : List BuV) (hn : l.length ≤ 1048576) (h : H20) (w : World) (hs : BusAt w v l) :
    Calls Tryz.prog 19 #[v, .agg (hC h.1)] w fun e w' => ∃ v' lv, e = .returned v' ∧ BusAt w' v' lv ∧ lv.map (·.1) = (l.map (·.1)).filter (fun y => decide (y.cl = h)) ∧ Below w.heap.size w w' := by
  have HS := Lib.hid hs
  have hlv := fun W => bus_len hs W
  clear hs
  go_enter Tryz.func19, Tryz.ntmps19
  go_wp2_with (first | (with_reducible refine wpList_box rfl 24 _ rfl (hC h.1) rfl ?_; intro g1 w1 hb1 hx1 hg1; have HLH := Lib.hid (fun W (k : Below w1.heap.size w1 W) => (show LoadsL Tryz.prog W 24 (some ⟨g1, 0, none⟩) (.agg (hC h.1)) from (hb1.below k).loads Tryz.underlying24 rfl (hC_info _ h.2))); have HX1 := Lib.hid hx1; clear hb1 hx1 hg1))
  have HS1 := Lib.hid (HS.out.below HX1.out)
  go_loopw [5, 6] (fun out i wr => ∃ (k : Nat) (lv : List BuV), k ≤ l.length ∧ i = .int .i64 (k : Int) ∧ Own EBu w1.heap.size wr out lv ∧ (∀ x ∈ lv, x ∈ l) ∧ lv.map (·.1) = ((l.take k).map (·.1)).filter (fun y => decide (y.cl = h)) ∧ Below w1.heap.size w1 wr) (fun _ i _ => l.length - (intOf i).toNat)
  case atStart => exact ⟨0, [], by omega, rfl, Own.nil _ _ _, by simp, rfl, Below.refl _ _⟩
  case round =>
    obtain ⟨wr1, rfl⟩ : ∃ y : World, y = wr := ⟨_, rfl⟩
    obtain ⟨k, lv, hk, rfl, ho, hmem, hm, hw⟩ := hrel
    have hll := lv_len hm
    have HO := Lib.hid ho
    have HM := Lib.hid hm
    have HMEM := Lib.hid hmem
    have HW := Lib.hid hw
    clear ho hm hmem hw
    by_cases hlt : k < l.length
    · have hd : decide ((k : Int) < (l.length : Int)) = true := by simp; omega
      obtain ⟨x, hxk⟩ : ∃ x, l[k]? = some x := ⟨_, List.getElem?_eq_getElem hlt⟩
      obtain ⟨q, hadr, hq, _⟩ := bus_atW HS1.out k x hxk
      have HXM := Lib.hid (List.mem_of_getElem? hxk)
      have HFT := Lib.hid (filter_take (p := (fun y => decide (y.cl = h))) hxk)
      have HQ := Lib.hid hq
      have HQ0 := Lib.hid (hq _ HW.out)
      have HH0 := Lib.hid (HLH.out _ HW.out)
      clear hq hxk
      obtain ⟨r, hr⟩ : ∃ r, decide (x.1.cl = h) = r := ⟨_, rfl⟩
      have HE := Lib.hid (fun W => (show (binOp .eql 24 (.agg (hC x.1.cl.1)) (.agg (hC h.1))).run Tryz.prog W = .ok (.bool r) W by rw [eqlHB, hr]))
      have HR := Lib.hid hr
      clear hr
      go_wp2_with fail
      cases r with
      | false =>
        try simp only [Act.put, List.setIfInBounds_toArray, List.set_cons_succ, List.set_cons_zero]
        refine Agg.wp_region_later_lit (by kernel_rfl) (by kernel_rfl) ?_
        repeat (first | go_big_quiet_skip | ((first | (with_reducible refine Agg.wpQuiet_loadL HQ0.out.cls rfl _ rfl rfl ?_) | (with_reducible refine Agg.wpQuiet_loadL HH0.out rfl _ rfl rfl ?_) | (refine Agg.wpQuiet_eql rfl 24 24 _ _ rfl (hC x.1.cl.1) (hC h.1) rfl rfl _ (by kernel_rfl) HE.out ?_)); simp only [Act.put, List.setIfInBounds_toArray, List.set_cons_succ, List.set_cons_zero]) | go_big_quiet_step (fail))
        refine wpQuiet_nil ?_
        intro _ hw'
        obtain ⟨x5, rfl⟩ := hw'
        go_wp2_with fail
        go_roundw
        case rel => exact ⟨k + 1, lv, by omega, by go_num, HO.out.below x5.h, HMEM.out, by rw [HFT.out, HR.out, HM.out]; simp, Agg.belowThen HW.out (Nat.le_refl _) x5.h⟩
        case measure => simp [intOf]; omega
      | true =>
        try simp only [Act.put, List.setIfInBounds_toArray, List.set_cons_succ, List.set_cons_zero]
        refine Agg.wp_region_later_lit (by kernel_rfl) (by kernel_rfl) ?_
        repeat (first | go_big_quiet_skip | ((first | (with_reducible refine Agg.wpQuiet_loadL HQ0.out.cls rfl _ rfl rfl ?_) | (with_reducible refine Agg.wpQuiet_loadL HH0.out rfl _ rfl rfl ?_) | (refine Agg.wpQuiet_eql rfl 24 24 _ _ rfl (hC x.1.cl.1) (hC h.1) rfl rfl _ (by kernel_rfl) HE.out ?_)); simp only [Act.put, List.setIfInBounds_toArray, List.set_cons_succ, List.set_cons_zero]) | go_big_quiet_step (fail))
        refine wpQuiet_nil ?_
        intro _ hw'
        obtain ⟨x5, rfl⟩ := hw'
        have HW5 := Lib.hid (Agg.belowThen HW.out (Nat.le_refl _) x5.h)
        have HO5 := Lib.hid (HO.out.below x5.h)
        have HQ5 := Lib.hid (HQ.out _ HW5.out)
        go_wp2_with (first | (with_reducible refine wpList_loadL HQ5.out.all rfl _ rfl rfl ?_) | (refine wpList_push (E := EBu) (base := w1.heap.size) rfl rfl 25 rfl _ rfl _ rfl x rfl (fun _ => rfl) (by simp [Act.put]) HO5.out (by omega) (by decide) HW5.out.size ?_; intro u6 v6 w6 ho hp; have HO6 := Lib.hid ho; have HW6 := Lib.hid (HW5.out.trans (hp.below w1.heap.size (Nat.le_refl _) HW5.out.size)); clear ho hp))
        go_roundw
        case rel => exact ⟨k + 1, lv ++ [x], by omega, by go_num, HO6.out, (fun y hy => (List.mem_append.1 hy).elim (HMEM.out y) (fun h => by rw [List.mem_singleton.1 h]; exact HXM.out)), by rw [HFT.out, HR.out, List.map_append, HM.out]; rfl, HW6.out⟩
        case measure => simp [intOf]; omega
    · obtain rfl : k = l.length := by omega
      go_wp2_with fail
      go_ret
      exact ⟨_, rfl, lv, ⟨HO.out.slice, fun y hy => (HS1.out.ins y (HMEM.out y hy)).below HW.out⟩, by rw [HM.out, List.take_length], HX1.out.trans (HW.out.mono HX1.out.size)⟩
set_option maxRecDepth 100000 in
set_option maxHeartbeats 8000000 in
theorem refOfKey_any (v : Value) (l : List BuV) (hn : l.length ≤ 1048576) (h : H20) (w : World) (hs : BusAt w v l) :
    Calls Tryz.prog 20 #[v, .agg (hC h.1)] w fun e w' => ∃ v' lv, e = .returned v' ∧ BusAt w' v' lv ∧ lv.map (·.1) = (l.map (·.1)).filter (fun y => decide (y.ky = h)) ∧ Below w.heap.size w w' := by
  have HS := Lib.hid hs
  have hlv := fun W => bus_len hs W
  clear hs
  go_enter Tryz.func20, Tryz.ntmps20
  go_wp2_with (first | (with_reducible refine wpList_box rfl 24 _ rfl (hC h.1) rfl ?_; intro g1 w1 hb1 hx1 hg1; have HLH := Lib.hid (fun W (k : Below w1.heap.size w1 W) => (show LoadsL Tryz.prog W 24 (some ⟨g1, 0, none⟩) (.agg (hC h.1)) from (hb1.below k).loads Tryz.underlying24 rfl (hC_info _ h.2))); have HX1 := Lib.hid hx1; clear hb1 hx1 hg1))
  have HS1 := Lib.hid (HS.out.below HX1.out)
  go_loopw [5, 6] (fun out i wr => ∃ (k : Nat) (lv : List BuV), k ≤ l.length ∧ i = .int .i64 (k : Int) ∧ Own EBu w1.heap.size wr out lv ∧ (∀ x ∈ lv, x ∈ l) ∧ lv.map (·.1) = ((l.take k).map (·.1)).filter (fun y => decide (y.ky = h)) ∧ Below w1.heap.size w1 wr) (fun _ i _ => l.length - (intOf i).toNat)
  case atStart => exact ⟨0, [], by omega, rfl, Own.nil _ _ _, by simp, rfl, Below.refl _ _⟩
  case round =>
    obtain ⟨wr1, rfl⟩ : ∃ y : World, y = wr := ⟨_, rfl⟩
    obtain ⟨k, lv, hk, rfl, ho, hmem, hm, hw⟩ := hrel
    have hll := lv_len hm
    have HO := Lib.hid ho
    have HM := Lib.hid hm
    have HMEM := Lib.hid hmem
    have HW := Lib.hid hw
    clear ho hm hmem hw
    by_cases hlt : k < l.length
    · have hd : decide ((k : Int) < (l.length : Int)) = true := by simp; omega
      obtain ⟨x, hxk⟩ : ∃ x, l[k]? = some x := ⟨_, List.getElem?_eq_getElem hlt⟩
      obtain ⟨q, hadr, hq, _⟩ := bus_atW HS1.out k x hxk
      have HXM := Lib.hid (List.mem_of_getElem? hxk)
      have HFT := Lib.hid (filter_take (p := (fun y => decide (y.ky = h))) hxk)
      have HQ := Lib.hid hq
      have HQ0 := Lib.hid (hq _ HW.out)
      have HH0 := Lib.hid (HLH.out _ HW.out)
      clear hq hxk
      obtain ⟨r, hr⟩ : ∃ r, decide (x.1.ky = h) = r := ⟨_, rfl⟩
      have HE := Lib.hid (fun W => (show (binOp .eql 24 (.agg (hC x.1.ky.1)) (.agg (hC h.1))).run Tryz.prog W = .ok (.bool r) W by rw [eqlHB, hr]))
      have HR := Lib.hid hr
      clear hr
      go_wp2_with fail
      cases r with
      | false =>
        try simp only [Act.put, List.setIfInBounds_toArray, List.set_cons_succ, List.set_cons_zero]
        refine Agg.wp_region_later_lit (by kernel_rfl) (by kernel_rfl) ?_
        repeat (first | go_big_quiet_skip | ((first | (with_reducible refine Agg.wpQuiet_loadL HQ0.out.key rfl _ rfl rfl ?_) | (with_reducible refine Agg.wpQuiet_loadL HH0.out rfl _ rfl rfl ?_) | (refine Agg.wpQuiet_eql rfl 24 24 _ _ rfl (hC x.1.ky.1) (hC h.1) rfl rfl _ (by kernel_rfl) HE.out ?_)); simp only [Act.put, List.setIfInBounds_toArray, List.set_cons_succ, List.set_cons_zero]) | go_big_quiet_step (fail))
        refine wpQuiet_nil ?_
        intro _ hw'
        obtain ⟨x5, rfl⟩ := hw'
        go_wp2_with fail
        go_roundw
        case rel => exact ⟨k + 1, lv, by omega, by go_num, HO.out.below x5.h, HMEM.out, by rw [HFT.out, HR.out, HM.out]; simp, Agg.belowThen HW.out (Nat.le_refl _) x5.h⟩
        case measure => simp [intOf]; omega
      | true =>
        try simp only [Act.put, List.setIfInBounds_toArray, List.set_cons_succ, List.set_cons_zero]
        refine Agg.wp_region_later_lit (by kernel_rfl) (by kernel_rfl) ?_
        repeat (first | go_big_quiet_skip | ((first | (with_reducible refine Agg.wpQuiet_loadL HQ0.out.key rfl _ rfl rfl ?_) | (with_reducible refine Agg.wpQuiet_loadL HH0.out rfl _ rfl rfl ?_) | (refine Agg.wpQuiet_eql rfl 24 24 _ _ rfl (hC x.1.ky.1) (hC h.1) rfl rfl _ (by kernel_rfl) HE.out ?_)); simp only [Act.put, List.setIfInBounds_toArray, List.set_cons_succ, List.set_cons_zero]) | go_big_quiet_step (fail))
        refine wpQuiet_nil ?_
        intro _ hw'
        obtain ⟨x5, rfl⟩ := hw'
        have HW5 := Lib.hid (Agg.belowThen HW.out (Nat.le_refl _) x5.h)
        have HO5 := Lib.hid (HO.out.below x5.h)
        have HQ5 := Lib.hid (HQ.out _ HW5.out)
        go_wp2_with (first | (with_reducible refine wpList_loadL HQ5.out.all rfl _ rfl rfl ?_) | (refine wpList_push (E := EBu) (base := w1.heap.size) rfl rfl 25 rfl _ rfl _ rfl x rfl (fun _ => rfl) (by simp [Act.put]) HO5.out (by omega) (by decide) HW5.out.size ?_; intro u6 v6 w6 ho hp; have HO6 := Lib.hid ho; have HW6 := Lib.hid (HW5.out.trans (hp.below w1.heap.size (Nat.le_refl _) HW5.out.size)); clear ho hp))
        go_roundw
        case rel => exact ⟨k + 1, lv ++ [x], by omega, by go_num, HO6.out, (fun y hy => (List.mem_append.1 hy).elim (HMEM.out y) (fun h => by rw [List.mem_singleton.1 h]; exact HXM.out)), by rw [HFT.out, HR.out, List.map_append, HM.out]; rfl, HW6.out⟩
        case measure => simp [intOf]; omega
    · obtain rfl : k = l.length := by omega
      go_wp2_with fail
      go_ret
      exact ⟨_, rfl, lv, ⟨HO.out.slice, fun y hy => (HS1.out.ins y (HMEM.out y hy)).below HW.out⟩, by rw [HM.out, List.take_length], HX1.out.trans (HW.out.mono HX1.out.size)⟩
set_option maxRecDepth 100000 in
set_option maxHeartbeats 8000000 in
theorem refKeptB_any (v u : Value) (l : List BuV) (held : List P20) (hn : l.length ≤ 1048576) (hh : held.length ≤ 1048576) (w : World) (hs : BusAt w v l) (ht : ElemsAt w u held) :
    Calls Tryz.prog 21 #[v, u] w fun e w' => ∃ v' lv, e = .returned v' ∧ BusAt w' v' lv ∧ lv.map (·.1) = (l.map (·.1)).filter (fun y => decide (y.pa ∈ held)) ∧ Below w.heap.size w w' := by
  have HS1 := Lib.hid hs
  have HT := Lib.hid ht
  have hlv := fun W => bus_len hs W
  have hlu := fun W => elems_len ht W
  clear hs ht
  go_enter Tryz.func21, Tryz.ntmps21
  go_wp2_with fail
  go_loopw [5, 6] (fun out i wr => ∃ (k : Nat) (lv : List BuV), k ≤ l.length ∧ i = .int .i64 (k : Int) ∧ Own EBu w.heap.size wr out lv ∧ (∀ x ∈ lv, x ∈ l) ∧ lv.map (·.1) = ((l.take k).map (·.1)).filter (fun y => decide (y.pa ∈ held)) ∧ Below w.heap.size w wr) (fun _ i _ => l.length - (intOf i).toNat)
  case atStart => exact ⟨0, [], by omega, rfl, Own.nil _ _ _, by simp, rfl, Below.refl _ _⟩
  case round =>
    obtain ⟨wr1, rfl⟩ : ∃ y : World, y = wr := ⟨_, rfl⟩
    obtain ⟨k, lv, hk, rfl, ho, hmem, hm, hw⟩ := hrel
    have hll := lv_len hm
    have HO := Lib.hid ho
    have HM := Lib.hid hm
    have HMEM := Lib.hid hmem
    have HW := Lib.hid hw
    clear ho hm hmem hw
    by_cases hlt : k < l.length
    · have hd : decide ((k : Int) < (l.length : Int)) = true := by simp; omega
      obtain ⟨x, hxk⟩ : ∃ x, l[k]? = some x := ⟨_, List.getElem?_eq_getElem hlt⟩
      obtain ⟨q, hadr, hq, _⟩ := bus_atW HS1.out k x hxk
      have HXM := Lib.hid (List.mem_of_getElem? hxk)
      have HFT := Lib.hid (filter_take (p := (fun y => decide (y.pa ∈ held))) hxk)
      have HQ := Lib.hid hq
      clear hq hxk
      go_wp2_with fail
      go_loopw [7, 8] (fun is i wr2 => ∃ (n : Nat) (b : Bool), n ≤ held.length ∧ i = .int .i64 (n : Int) ∧ is = .bool b ∧ (b = true ↔ x.1.pa ∈ held.take n) ∧ Below wr1.heap.size wr1 wr2) (fun _ i _ => held.length - (intOf i).toNat)
      case atStart => exact ⟨0, false, by omega, rfl, rfl, by simp, Below.refl _ _⟩
      case round =>
        obtain ⟨wr3, rfl⟩ : ∃ y : World, y = wr := ⟨_, rfl⟩
        obtain ⟨n, b, hn2, rfl, rfl, hb, hw2⟩ := hrel
        have HB := Lib.hid hb
        have HV := Lib.hid hw2
        clear hb hw2
        by_cases hlt2 : n < held.length
        · have hd2 : decide ((n : Int) < (held.length : Int)) = true := by simp; omega
          obtain ⟨y, hyk⟩ : ∃ y, held[n]? = some y := ⟨_, List.getElem?_eq_getElem hlt2⟩
          have HWV := Lib.hid (Agg.belowThen HW.out (Nat.le_refl _) HV.out)
          obtain ⟨q2, hadr2, hq2, _⟩ := elem_at (SliceOf.below HT.out HWV.out) n y hyk
          have HQ2 := Lib.hid hq2
          have HQ0 := Lib.hid (HQ.out _ HWV.out)
          have HTK := Lib.hid (show x.1.pa ∈ held.take (n + 1) ↔ x.1.pa ∈ held.take n ∨ y = x.1.pa by rw [List.take_add_one, hyk]; simp [eq_comm])
          obtain ⟨r, hr⟩ : ∃ r, decide (y = x.1.pa) = r := ⟨_, rfl⟩
          have HE := Lib.hid (fun W => (show (binOp .eql 26 (.agg (pC y.1.1 y.1.2)) (.agg (pC x.1.pa.1.1 x.1.pa.1.2))).run Tryz.prog W = .ok (.bool r) W by rw [eqlPB, hr]))
          have HR := Lib.hid (show r = true ↔ y = x.1.pa by rw [← hr]; exact decide_eq_true_iff)
          clear hq2 hyk hr
          go_wp2_with fail
          cases b with
          | true =>
            try simp only [Act.put, List.setIfInBounds_toArray, List.set_cons_succ, List.set_cons_zero]
            refine Agg.wp_region_later_lit (by kernel_rfl) (by kernel_rfl) ?_
            repeat (first | go_big_quiet_skip | ((first | (with_reducible refine Agg.wpQuiet_loadL HQ2.out rfl _ rfl rfl ?_) | (with_reducible refine Agg.wpQuiet_loadL HQ0.out.path rfl _ rfl rfl ?_) | (refine Agg.wpQuiet_eql rfl 26 26 _ _ rfl (pC y.1.1 y.1.2) (pC x.1.pa.1.1 x.1.pa.1.2) rfl rfl _ (by kernel_rfl) HE.out ?_)); simp only [Act.put, List.setIfInBounds_toArray, List.set_cons_succ, List.set_cons_zero]) | go_big_quiet_step (fail))
            refine wpQuiet_nil ?_
            intro _ hw'
            obtain ⟨x5, rfl⟩ := hw'
            go_wp2_with fail
            go_roundw
            case rel => exact ⟨n + 1, true, by omega, by go_num, rfl, by rw [HTK.out]; exact ⟨fun _ => .inl (HB.out.1 rfl), fun _ => rfl⟩, Agg.belowThen HV.out (Nat.le_refl _) x5.h⟩
            case measure => simp [intOf]; omega
          | false =>
            try simp only [Act.put, List.setIfInBounds_toArray, List.set_cons_succ, List.set_cons_zero]
            refine Agg.wp_region_later_lit (by kernel_rfl) (by kernel_rfl) ?_
            repeat (first | go_big_quiet_skip | ((first | (with_reducible refine Agg.wpQuiet_loadL HQ2.out rfl _ rfl rfl ?_) | (with_reducible refine Agg.wpQuiet_loadL HQ0.out.path rfl _ rfl rfl ?_) | (refine Agg.wpQuiet_eql rfl 26 26 _ _ rfl (pC y.1.1 y.1.2) (pC x.1.pa.1.1 x.1.pa.1.2) rfl rfl _ (by kernel_rfl) HE.out ?_)); simp only [Act.put, List.setIfInBounds_toArray, List.set_cons_succ, List.set_cons_zero]) | go_big_quiet_step (fail))
            refine wpQuiet_nil ?_
            intro _ hw'
            obtain ⟨x5, rfl⟩ := hw'
            go_wp2_with fail
            go_roundw
            case rel => exact ⟨n + 1, r, by omega, by go_num, rfl, by rw [HTK.out, HR.out]; exact ⟨fun h => .inr h, fun h => h.elim (fun h => by have := HB.out.2 h; cases this) id⟩, Agg.belowThen HV.out (Nat.le_refl _) x5.h⟩
            case measure => simp [intOf]; omega
        · obtain rfl : n = held.length := by omega
          have HBB := Lib.hid (show decide (x.1.pa ∈ held) = b by have := HB.out; rw [List.take_length] at this; rw [Bool.eq_iff_iff, decide_eq_true_iff]; exact this.symm)
          have HWV := Lib.hid (Agg.belowThen HW.out (Nat.le_refl _) HV.out)
          have HO5 := Lib.hid (HO.out.below HV.out)
          have HQ5 := Lib.hid (HQ.out _ HWV.out)
          cases b with
          | false =>
            go_wp2_with fail
            go_roundw
            case rel => exact ⟨k + 1, lv, by omega, by go_num, HO5.out, HMEM.out, by rw [HFT.out, HBB.out, HM.out]; simp, HWV.out⟩
            case measure => simp [intOf]; omega
          | true =>
            go_wp2_with (first | (with_reducible refine wpList_loadL HQ5.out.all rfl _ rfl rfl ?_) | (refine wpList_push (E := EBu) (base := w.heap.size) rfl rfl 40 rfl _ rfl _ rfl x rfl (fun _ => rfl) (by simp [Act.put]) HO5.out (by omega) (by decide) HWV.out.size ?_; intro u6 v6 w6 ho hp; have HO6 := Lib.hid ho; have HW6 := Lib.hid (HWV.out.trans (hp.below w.heap.size (Nat.le_refl _) HWV.out.size)); clear ho hp))
            go_roundw
            case rel => exact ⟨k + 1, lv ++ [x], by omega, by go_num, HO6.out, (fun y hy => (List.mem_append.1 hy).elim (HMEM.out y) (fun h => by rw [List.mem_singleton.1 h]; exact HXM.out)), by rw [HFT.out, HBB.out, List.map_append, HM.out]; rfl, HW6.out⟩
            case measure => simp [intOf]; omega
    · obtain rfl : k = l.length := by omega
      go_wp2_with fail
      go_ret
      exact ⟨_, rfl, lv, ⟨HO.out.slice, fun y hy => (HS1.out.ins y (HMEM.out y hy)).below HW.out⟩, by rw [HM.out, List.take_length], HW.out⟩
set_option maxRecDepth 100000 in
set_option maxHeartbeats 8000000 in
theorem refPathsB_any (v : Value) (l : List BuV) (hn : l.length ≤ 1048576) (w : World) (hs : BusAt w v l) :
    Calls Tryz.prog 23 #[v] w fun e w' => ∃ v' R, e = .returned v' ∧ Rising R ∧ (∀ q, q ∈ R ↔ ∃ x ∈ l, x.1.pa = q) ∧ ElemsAt w' v' R ∧ Below w.heap.size w w' := by
  have HS := Lib.hid hs
  have hlv := fun W => bus_len hs W
  clear hs
  go_enter Tryz.func23, Tryz.ntmps23
  go_wp2_with fail
  go_loopw [3, 4] (fun out i wr => ∃ k : Nat, k ≤ l.length ∧ i = .int .i64 (k : Int) ∧ Own E20 w.heap.size wr out ((l.take k).map fun x => x.1.pa) ∧ Below w.heap.size w wr) (fun _ i _ => l.length - (intOf i).toNat)
  case atStart => exact ⟨0, by omega, rfl, Own.nil _ _ _, Below.refl _ _⟩
  case round =>
    obtain ⟨wr1, rfl⟩ : ∃ y : World, y = wr := ⟨_, rfl⟩
    obtain ⟨k, hk, rfl, ho, hw⟩ := hrel
    have HO := Lib.hid ho
    have HW := Lib.hid hw
    clear hw ho
    by_cases hlt : k < l.length
    · have hd : decide ((k : Int) < (l.length : Int)) = true := by simp; omega
      obtain ⟨x, hxk⟩ : ∃ x, l[k]? = some x := ⟨_, List.getElem?_eq_getElem hlt⟩
      obtain ⟨q, hadr, hq, hin⟩ := (HS.out.below HW.out).at_ k x hxk
      have HQ := Lib.hid hq
      have HT := Lib.hid (show (l.take (k + 1)).map (fun x => x.1.pa) = (l.take k).map (fun x => x.1.pa) ++ [x.1.pa] by rw [List.take_add_one, hxk]; simp)
      clear hq hxk hin
      go_wp2_with (first | (with_reducible refine wpList_loadL HQ.out.path rfl _ rfl rfl ?_) | (refine wpList_push (E := E20) (base := w.heap.size) rfl rfl 17 rfl _ rfl _ rfl x.1.pa rfl (fun _ => rfl) (by simp [Act.put]) HO.out (by simp; omega) (by decide) HW.out.size ?_; intro u5 v5 w5 ho5 hp5; have HO5 := Lib.hid ho5; have HW5 := Lib.hid (HW.out.trans (hp5.below w.heap.size (Nat.le_refl _) HW.out.size)); clear ho5 hp5))
      go_roundw
      case rel => exact ⟨k + 1, by omega, by go_num, by rw [HT.out]; exact HO5.out, HW5.out⟩
      case measure => simp [intOf]; omega
    · obtain rfl : k = l.length := by omega
      rw [List.take_length] at HO
      go_wp2_with fail
      refine (refSorted_any _ (l.map fun x => x.1.pa) (by simp; omega) wr1 HO.out.slice).mono ?_
      rintro e w2 ⟨v2, R, rfl, hr, hm, he, hx2⟩
      have HR := Lib.hid hr
      have HM := Lib.hid hm
      have HE := Lib.hid he
      have HX := Lib.hid (Agg.belowThen HW.out (Nat.le_refl _) hx2)
      clear hr hm he hx2
      go_wp2_with fail
      go_ret
      exact ⟨_, R, rfl, HR.out, fun q => by rw [HM.out, List.mem_map], HE.out, HX.out⟩
end Go.Proofs.YtniibcgomnjfgaaGreat
/-! (of general use) spencekit.LentBytes. -/
namespace Go.Proofs.YtniibcgomnjfgaaGreat
open Go.RowKit Pl Go.Agg
/-- a list with marks behind it, in its spare room -/
def Lent {α : Type} (E : Elem Tryz.prog α) (M : List α) (base : Nat) (w : World) (u : Value) (l : List α) : Prop :=
  ∃ g cap, u = .slice (some ⟨g, 0, none⟩) l.length cap ∧ base ≤ g ∧ l.length + M.length ≤ cap ∧ SliceOf E w (.slice (some ⟨g, 0, none⟩) (l.length + M.length) cap) (l ++ M)
/-- .. in a block of its own -/
def LentO {α : Type} (E : Elem Tryz.prog α) (M : List α) (base : Nat) (w : World) (u : Value) (l : List α) : Prop :=
  ∃ g cap, u = .slice (some ⟨g, 0, none⟩) l.length cap ∧ Own E base w (.slice (some ⟨g, 0, none⟩) (l.length + M.length) cap) (l ++ M)
theorem LentO.lent {α : Type} {E : Elem Tryz.prog α} {M l : List α} {base : Nat} {w : World} {u : Value} (h : LentO E M base w u l) (_hM : 0 < M.length) : Lent E M base w u l := by
  obtain ⟨g, cap, rfl, ho⟩ := h
  have hs := ho.slice
  obtain ⟨_, ⟨h, _⟩ | ⟨g', cap', cur, hv, hgb, hcur, hle, _⟩⟩ := ho
  · cases h
  · injection hv with h1 h2 h3
    injection h1 with h1
    injection h1 with h1
    subst h1 h3
    exact ⟨g, cap, rfl, hgb, by rw [← List.length_append]; exact hle, hs⟩
theorem LentO.of_own {α : Type} {E : Elem Tryz.prog α} {M l : List α} {base : Nat} {w : World} {v : Value} (h : Own E base w v (l ++ M)) (hM : 0 < M.length) : ∃ g cap, v = .slice (some ⟨g, 0, none⟩) (l.length + M.length) cap ∧ l.length + M.length ≤ cap ∧ LentO E M base w (.slice (some ⟨g, 0, none⟩) l.length cap) l := by
  have ho := h
  obtain ⟨hfl, ⟨rfl, h0⟩ | ⟨g, cap, cur, rfl, hgb, hcur, hle, _⟩⟩ := h
  · rw [List.length_append] at h0; omega
  · rw [List.length_append] at hle ho ⊢
    exact ⟨g, cap, rfl, hle, g, cap, rfl, ho⟩
theorem Lent.of_own {α : Type} {E : Elem Tryz.prog α} {M l : List α} {base : Nat} {w : World} {v : Value} (h : Own E base w v (l ++ M)) (hM : 0 < M.length) : ∃ g cap, v = .slice (some ⟨g, 0, none⟩) (l.length + M.length) cap ∧ l.length + M.length ≤ cap ∧ Lent E M base w (.slice (some ⟨g, 0, none⟩) l.length cap) l := by
  have hs := h.slice
  obtain ⟨hfl, ⟨rfl, h0⟩ | ⟨g, cap, cur, rfl, hgb, hcur, hle, _⟩⟩ := h
  · rw [List.length_append] at h0; omega
  · rw [List.length_append] at hs hle ⊢
    exact ⟨g, cap, rfl, hle, g, cap, rfl, hgb, hle, hs⟩
theorem LentO.keepT {α : Type} {E : Elem Tryz.prog α} {M l : List α} {base : Nat} {w w' : World} {u : Value} (h : LentO E M base w u l) (hk : ∀ (g : Nat) (cur : Array Value) (fr : Nat × Nat), w.heap[g]? = some (Obj.cells cur E.ty fr) → w'.heap[g]? = some (Obj.cells cur E.ty fr)) : LentO E M base w' u l := by
  obtain ⟨g, cap, rfl, ho⟩ := h
  obtain ⟨hfl, h | ⟨g', cap', cur, hv, hb, hc, hr⟩⟩ := ho
  · exact ⟨g, cap, rfl, hfl, .inl h⟩
  · exact ⟨g, cap, rfl, hfl, .inr ⟨g', cap', cur, hv, hb, hk g' cur _ hc, hr⟩⟩
theorem LentO.below {α : Type} {E : Elem Tryz.prog α} {M l : List α} {base : Nat} {w w' : World} {u : Value} (h : LentO E M base w u l) (hb : Below w.heap.size w w') : LentO E M base w' u l := h.keepT fun _ _ _ hg => keep' hb hg
theorem LentO.lower {α : Type} {E : Elem Tryz.prog α} {M l : List α} {base b' : Nat} {w : World} {u : Value} (h : LentO E M base w u l) (hb : b' ≤ base) : LentO E M b' w u l := by
  obtain ⟨g, cap, rfl, ho⟩ := h
  exact ⟨g, cap, rfl, ho.lower hb⟩
theorem sliceOf_prefix {α : Type} {E : Elem Tryz.prog α} {w : World} {p : Option Addr} {cap : Nat} {l M : List α} (h : SliceOf E w (.slice p (l.length + M.length) cap) (l ++ M)) : SliceOf E w (.slice p l.length cap) l := by
  rcases h with ⟨q, c, hv, hl⟩ | ⟨q, c, hv, hp, hc⟩
  · obtain ⟨rfl, _⟩ := List.append_eq_nil_iff.1 hl
    exact SliceOf.nil _ _ _
  · simp only [Value.slice.injEq] at hv
    obtain ⟨rfl, _, rfl⟩ := hv
    refine .inr ⟨_, _, rfl, hp, fun j u hj => hc j u ?_⟩
    rw [Elem.flat_append, List.getElem?_append_left (List.getElem?_eq_some_iff.1 hj).1]
    exact hj
theorem LentO.form {α : Type} {E : Elem Tryz.prog α} {M l : List α} {base : Nat} {w : World} {u : Value} (h : LentO E M base w u l) : ∃ p n c, u = .slice p n c := by
  obtain ⟨g, cap, rfl, _⟩ := h
  exact ⟨_, _, _, rfl⟩
end Go.Proofs.YtniibcgomnjfgaaGreat
/-! spencekit.LentMades, KeptMades. -/
namespace Go.Proofs.YtniibcgomnjfgaaGreat
open Go.RowKit Pl Go.Agg
theorem md_at {w : World} {v : Value} {l : List Md} (h : MdsAt w v l) (k : Nat) (x : Md) (hx : l[k]? = some x) :
    ∃ p : Addr, (∀ W, (Instr.indexAt 27 v (.int .i64 (k : Int))).run Tryz.prog W = .ok (.pointer (some p)) W) ∧ LoadsL Tryz.prog w 54 (some p) (.agg (mC x)) := by
  obtain ⟨p, h1, _, _, h4⟩ := h.at_ k x hx
  exact ⟨p, h1, h4⟩
set_option maxRecDepth 100000 in
set_option maxHeartbeats 1000000 in
theorem lentMades_any (v : Value) (b : List Md) (hb : b.length ≤ 1048576) (w : World) (he : MdsAt w v b) :
    Calls Tryz.prog 33 #[v] w fun e w' => ∃ u, e = .returned u ∧ Below w.heap.size w w' ∧ LentO EMd (marksG mkMd 1 12) w.heap.size w' u b := by
  have hlv := fun W => mds_len he W
  have HE := Lib.hid he
  clear he
  have hc : b.length + 12 ≤ 1099511627776 / 8 := by omega
  go_enter Tryz.func33, Tryz.ntmps33
  go_wp2_with (first | (refine Agg.wpList_make0 (base := w.heap.size) EMd rfl .i64 .i64 _ (b.length + 12) rfl rfl hc (by decide) (Nat.le_refl _) ?_; intro v1 w1 ho1 hx1) | (at_builtin; refine Agg.walk_stop ?_))
  refine ⟨?_, trivial⟩
  have h63 : ([] : List Md).length + b.length ≤ 1099511627776 / 8 := by simp; omega
  refine Agg.wpList_appendS (E := EMd) rfl _ _ rfl v rfl rfl b ho1 (SliceOf.below HE.out hx1) h63 (by decide) hx1.size ?_
  intro v2 w2 ho2 hp2 _
  rw [List.nil_append] at ho2
  have hx2 := hx1.trans (hp2.below w.heap.size (Nat.le_refl _) hx1.size)
  simp only [Act.put, List.setIfInBounds_toArray, List.set_cons_succ, List.set_cons_zero]
  clear ho1 hp2 hx1
  go_wp2_with fail
  go_loopw [3, 4] (fun out i wr => ∃ k : Nat, k ≤ 12 ∧ i = .int .i64 k ∧ Own EMd w.heap.size wr out (b ++ marksG mkMd 1 k) ∧ Below w.heap.size w wr) (fun _ i _ => 12 - (intOf i).toNat)
  case atStart => exact ⟨0, by omega, rfl, by simpa [marksG] using ho2, hx2⟩
  case round =>
    clear ho2 hx2
    obtain ⟨w3, rfl⟩ : ∃ w3 : World, w3 = wr := ⟨_, rfl⟩
    obtain ⟨k, hk, rfl, ho, hw⟩ := hrel
    have HO := Lib.hid ho
    have HW := Lib.hid hw
    clear ho hw
    by_cases hlt : k < 12
    · have h63 : (b ++ marksG mkMd 1 k).length + 1 ≤ 1099511627776 / 8 := by rw [List.length_append, marksG_length]; omega
      have hsz := HW.out.size
      go_wp2_with fail
      refine (markMade_any 1 k (by omega) (by omega) _).mono ?_
      rintro e w4 ⟨rfl, hw4⟩
      have hx4 := Agg.belowThen HW.out (Nat.le_refl _) hw4
      have HO4 := Lib.hid (HO.out.below hw4)
      have hsz4 := hx4.size
      go_wp2_with (first | (refine Agg.wpList_push (E := EMd) (base := w.heap.size) rfl rfl 19 rfl _ rfl _ rfl (mkMd 1 k) rfl (fun _ => rfl) (by simp) HO4.out h63 (by decide) hsz4 ?_; intro u5 v5 w5 ho5 hp5))
      rw [List.append_assoc, ← marksG_succ] at ho5
      go_wp2_with fail
      go_roundw
      case rel => exact ⟨k + 1, by omega, by go_num, ho5, hx4.trans (hp5.below w.heap.size (Nat.le_refl _) hsz4)⟩
      case measure => simp [intOf]; omega
    · obtain rfl : k = 12 := by omega
      have hown := HO.out
      obtain ⟨g, cap, rfl, hcap, _⟩ := Lent.of_own HO.out (by rw [marksG_length]; omega)
      have HLT := Lib.hid (show LentO EMd (marksG mkMd 1 12) w.heap.size w3 (.slice (some ⟨g, 0, none⟩) b.length cap) b from ⟨g, cap, rfl, hown⟩)
      rw [marksG_length] at hcap
      have hcap2 : b.length ≤ cap := by omega
      clear hown
      go_wp2_with fail
      go_ret
      exact ⟨_, rfl, HW.out, HLT.out⟩
theorem markMade_off (k n : Nat) (hk : n ≤ k) (hk2 : k ≤ 16777216) (w : World) : Calls Tryz.prog 63 #[.int .i64 1, .int .i64 ((k : Int) - (n : Int))] w fun e w' => e = .returned (.agg (mC (mdS (mkT (1) (k - n))))) ∧ Below w.heap.size w w' := by
  rw [show ((k : Int) - (n : Int)) = ((k - n : Nat) : Int) by omega]
  exact markMade_any 1 (k - n) (by omega) (by omega) w
set_option maxRecDepth 100000 in
set_option maxHeartbeats 1000000 in
theorem keptMades_any (u v : Value) (b : List Md) (hb : b.length ≤ 1048576) (base : Nat) (w : World) (hu : Lent EMd (marksG mkMd 1 12) base w u b) (hv : MdsAt w v b) :
    Calls Tryz.prog 57 #[u, v] w fun e w' => e = .returned (.bool true) ∧ Below w.heap.size w w' := by
  have hlv := fun W => mds_len hv W
  have HV := Lib.hid hv
  obtain ⟨g, cap, rfl, _, hcap, ha⟩ := hu
  rw [marksG_length] at hcap ha
  have HA := Lib.hid ha
  clear hv ha
  have hne : ((b.length : Int) != (b.length : Int)) = false := by simp
  go_enter Tryz.func57, Tryz.ntmps57
  go_wp2_with fail
  go_loopw [6] (fun i wr => ∃ k : Nat, k ≤ b.length + 12 ∧ i = .int .i64 k ∧ Below w.heap.size w wr) (fun i _ => b.length + 12 - (intOf i).toNat)
  case atStart => exact ⟨0, by omega, rfl, Below.refl _ _⟩
  case round =>
    obtain ⟨w1, rfl⟩ : ∃ w1 : World, w1 = wr := ⟨_, rfl⟩
    obtain ⟨k, hk, rfl, hw⟩ := hrel
    have HW := Lib.hid hw
    clear hw
    by_cases hlt : k < b.length + 12
    · by_cases hlt2 : k < b.length
      · obtain ⟨y, hyk⟩ : ∃ y, b[k]? = some y := ⟨_, List.getElem?_eq_getElem hlt2⟩
        obtain ⟨pa, hadp, hlda⟩ := md_at (SliceOf.below HA.out HW.out) k y (by rw [List.getElem?_append_left hlt2]; exact hyk)
        obtain ⟨pv, hadv, hldv⟩ := md_at (SliceOf.below HV.out HW.out) k y hyk
        have HLA := Lib.hid hlda
        have HLV := Lib.hid hldv
        have hd1 : decide ((k : Int) < (b.length : Int)) = true := by simp; omega
        have hd3 : decide (b.length ≤ k) = false := by simp; omega
        have hq : ∀ w, (binOp .eql 54 (.agg (mC y)) (.agg (mC y))).run Tryz.prog w = .ok (.bool true) w := fun w => by rw [eqlM]; simp
        have HQ := Lib.hid hq
        clear hyk hlda hldv hq
        go_wp2_with fail
        try simp only [Act.put, List.setIfInBounds_toArray, List.set_cons_succ, List.set_cons_zero]
        refine Agg.wp_region_later_lit (by kernel_rfl) (by kernel_rfl) ?_
        repeat (first | go_big_quiet_skip | ((first | (with_reducible refine Agg.wpQuiet_loadL HLA.out rfl _ rfl rfl ?_) | (with_reducible refine Agg.wpQuiet_loadL HLV.out rfl _ rfl rfl ?_) | (with_reducible refine Agg.wpQuiet_eql rfl 54 54 _ _ rfl (mC y) (mC y) rfl rfl (true) (by kernel_rfl) HQ.out ?_)); simp only [Act.put, List.setIfInBounds_toArray, List.set_cons_succ, List.set_cons_zero]) | go_big_quiet_step (fail))
        refine wpQuiet_nil ?_
        intro _ hw'
        obtain ⟨x1, rfl⟩ := hw'
        go_wp2_with fail
        go_roundw
        case rel => exact ⟨k + 1, by omega, by go_num, Agg.belowThen HW.out (Nat.le_refl _) x1.h⟩
        case measure => simp [intOf]; omega
      · obtain ⟨y, hy⟩ : ∃ y, y = mkMd 1 (k - b.length) := ⟨_, rfl⟩
        have hmn := fun w => markMade_off k b.length (by omega) (by omega) w
        obtain ⟨pa, hadp, hlda⟩ := md_at (SliceOf.below HA.out HW.out) k (mkMd 1 (k - b.length)) (by rw [List.getElem?_append_right (by omega)]; exact marksG_get _ _ _ _ (by omega))
        have hmn2 : ∀ w, Calls Tryz.prog 63 #[.int .i64 1, .int .i64 ((k : Int) - (b.length : Int))] w fun e w' => e = .returned (.agg (mC y)) ∧ Below w.heap.size w w' := by rw [hy]; exact hmn
        rw [← hy] at hlda
        have HMN := Lib.hid hmn2
        have HLA := Lib.hid hlda
        have hd1 : decide ((k : Int) < (b.length : Int)) = false := by simp; omega
        have hd3 : decide (b.length ≤ k) = true := by simp; omega
        have hq : ∀ w, (binOp .eql 54 (.agg (mC y)) (.agg (mC y))).run Tryz.prog w = .ok (.bool true) w := fun w => by rw [eqlM]; simp
        have HQ := Lib.hid hq
        clear hlda hy hq hmn hmn2
        go_wp2_with fail
        try simp only [Act.put, List.setIfInBounds_toArray, List.set_cons_succ, List.set_cons_zero]
        refine Agg.wp_region_later_lit (by kernel_rfl) (by kernel_rfl) ?_
        repeat (first | go_big_quiet_skip | ((first | (with_reducible refine Agg.wpQuiet_loadL HLA.out rfl _ rfl rfl ?_) | (with_reducible refine Agg.wpQuiet_eql rfl 54 54 _ _ rfl (mC y) (mC y) rfl rfl (true) (by kernel_rfl) HQ.out ?_)); simp only [Act.put, List.setIfInBounds_toArray, List.set_cons_succ, List.set_cons_zero]) | go_big_quiet_step ((go_at_call 63; exact Agg.Calls.later (HMN.out _))))
        refine wpQuiet_nil ?_
        intro _ hw'
        obtain ⟨x1, rfl⟩ := hw'
        go_wp2_with fail
        go_roundw
        case rel => exact ⟨k + 1, by omega, by go_num, Agg.belowThen HW.out (Nat.le_refl _) x1.h⟩
        case measure => simp [intOf]; omega
    · obtain rfl : k = b.length + 12 := by omega
      go_wp2_with fail
      go_ret
      exact ⟨rfl, HW.out⟩
end Go.Proofs.YtniibcgomnjfgaaGreat
/-! What is lent: its laws, for any elements. -/
namespace Go.Proofs.YtniibcgomnjfgaaGreat
open Go.RowKit Pl Go.Agg
section
variable {α : Type} {E : Elem Tryz.prog α} {M l : List α} {base : Nat} {w w' : World} {u : Value}
theorem Lent.slice (h : Lent E M base w u l) : SliceOf E w u l := by
  obtain ⟨g, cap, rfl, _, _, hs⟩ := h
  rcases hs with ⟨p, c, hv, hl⟩ | ⟨p, c, hv, hp, hc⟩
  · obtain ⟨rfl, _⟩ := List.append_eq_nil_iff.1 hl
    exact SliceOf.nil _ _ _
  · simp only [Value.slice.injEq, Option.some.injEq] at hv
    obtain ⟨rfl, _, rfl⟩ := hv
    refine .inr ⟨_, _, rfl, hp, fun j u hj => hc j u ?_⟩
    rw [Elem.flat_append, List.getElem?_append_left (List.getElem?_eq_some_iff.1 hj).1]
    exact hj
theorem Lent.below (h : Lent E M base w u l) (hb : Below w.heap.size w w') : Lent E M base w' u l := by
  obtain ⟨g, cap, rfl, h1, h2, hs⟩ := h
  exact ⟨g, cap, rfl, h1, h2, hs.below hb⟩
theorem Lent.only {S : Nat → Prop} (h : Lent E M base w u l) (ho : Only S w w') (hS : ∀ b, base ≤ b → ¬ S b) : Lent E M base w' u l := by
  obtain ⟨g, cap, rfl, h1, h2, hs⟩ := h
  refine ⟨g, cap, rfl, h1, h2, hs.onlyS ho fun b hb => hS b ?_⟩
  simp only [Value.ownBlock, Option.some.injEq] at hb
  omega
theorem Lent.onlyB {S : Nat → Prop} (h : Lent E M base w u l) (ho : Only S w w') (hS : ∀ b, u.ownBlock = some b → ¬ S b) : Lent E M base w' u l := by
  obtain ⟨g, cap, rfl, h1, h2, hs⟩ := h
  exact ⟨g, cap, rfl, h1, h2, hs.onlyS ho fun b hb => hS b hb⟩
theorem Lent.lower {b' : Nat} (h : Lent E M base w u l) (hb : b' ≤ base) : Lent E M b' w u l := by
  obtain ⟨g, cap, rfl, h1, h2, hs⟩ := h
  exact ⟨g, cap, rfl, Nat.le_trans hb h1, h2, hs⟩
theorem Lent.form (h : Lent E M base w u l) : ∃ g cap, u = .slice (some ⟨g, 0, none⟩) l.length cap ∧ base ≤ g := by
  obtain ⟨g, cap, rfl, h1, _⟩ := h
  exact ⟨g, cap, rfl, h1⟩
end
end Go.Proofs.YtniibcgomnjfgaaGreat
