/- spenceref22.Add of any builts. -/
import Derived.Test.YtniibcgomnjfgaaGreatVAT
import Derived.Test.YtniibcgomnjfgaaGreatVAY
namespace Go.Proofs.YtniibcgomnjfgaaGreat
open Go.RowKit Pl Go.Agg
set_option maxRecDepth 100000 in
set_option maxHeartbeats 16000000 in
theorem refAddB_any (v : Value) (l : List BuV) (hn : l.length ≤ 1048576) (hsm : ∀ x ∈ l, SmallB x.1) (b : BuV) (hsb : SmallB b.1) (w : World) (hs : BusAt w v l) (hb : InsAt w b) :
    Calls Tryz.prog 11 #[v, .agg (bC b)] w fun e w' => ∃ (v' : Value) (c : Nat) (lv : List BuV), e = .returned (.tuple #[v', .int .i64 (c : Int)]) ∧ AddR (l.map (·.1)) b.1 (lv.map (·.1)) c ∧ BusAt w' v' lv ∧ Below w.heap.size w w' := by
  have HS := Lib.hid hs
  have HB := Lib.hid hb
  have HSM := Lib.hid hsm
  have HSB := Lib.hid hsb
  have hlv := fun W => bus_len hs W
  have HNIL := Lib.hid (fun W => (⟨SliceOf.nil _ _ _, by simp⟩ : BusAt W (.slice none 0 0) []))
  clear hs hb hsm hsb
  go_enter Tryz.func11, Tryz.ntmps11
  go_wp2_with (first | (with_reducible refine wpList_box rfl 29 _ rfl (bC b) rfl ?_; intro g1 w1 hb1 hx1 hg1; have HLB := Lib.hid (fun W (h : Below w1.heap.size w1 W) => BuG.of_blk (hb1.below h)); have HX1 := Lib.hid hx1; clear hb1 hx1 hg1))
  have HS1 := Lib.hid (HS.out.below HX1.out)
  have HB1 := Lib.hid (HB.out.below HX1.out)
  refine (refMapB_any v l (by omega) HSM.out w1 HS1.out).mono ?_
  rintro e w2 ⟨bm, rfl, hbm, hx2⟩
  have HW2 := Lib.hid hx2
  have HBM := Lib.hid hbm
  clear hx2 hbm
  cases bm with
  | false =>
    go_wp2_with fail
    go_ret2
    exact ⟨_, 2, [], rfl, .inl ⟨rfl, rfl, .inl fun h => by have := HBM.out.2 h; cases this⟩, HNIL.out _, HX1.out.trans (HW2.out.mono HX1.out.size)⟩
  | true =>
  have HM := Lib.hid (HBM.out.1 rfl)
  go_wp2_with (first | (with_reducible refine wpList_loadL (HLB.out _ HW2.out).all rfl _ rfl rfl ?_))
  refine (refRightS_any b HSB.out w2 (HB1.out.below HW2.out)).mono ?_
  rintro e w3 ⟨rfl, hx3⟩
  have HW3 := Lib.hid (Agg.belowThen HW2.out (Nat.le_refl _) hx3)
  clear hx3
  cases hrb : rightBu b.1 with
  | false =>
    have HRB := Lib.hid hrb
    clear hrb
    go_wp2_with fail
    go_ret2
    exact ⟨_, 2, [], rfl, .inl ⟨rfl, rfl, .inr HRB.out⟩, HNIL.out _, HX1.out.trans (HW3.out.mono HX1.out.size)⟩
  | true =>
  have HRB := Lib.hid hrb
  clear hrb
  go_wp2_with fail
  go_loopw [6, 7, 8] (fun out p i wr => ∃ (k : Nat) (put : Bool) (lv : List BuV), k ≤ l.length ∧ i = .int .i64 (k : Int) ∧ p = .bool put ∧ Own EBu w1.heap.size wr out lv ∧ (∀ x ∈ lv, x ∈ l ∨ x = b) ∧ lv.length ≤ k + 1 ∧ (put = false → lv.length ≤ k) ∧ AddI (l.map (·.1)) b.1 k put (lv.map (·.1)) ∧ Below w1.heap.size w1 wr) (fun _ _ i _ => l.length - (intOf i).toNat)
  case atStart => exact ⟨0, false, [], by omega, rfl, rfl, Own.nil _ _ _, by simp, by simp, by simp, AddI.zero _ _, HW3.out⟩
  case round =>
    obtain ⟨wr1, rfl⟩ : ∃ y : World, y = wr := ⟨_, rfl⟩
    obtain ⟨k, put, lv, hk, rfl, rfl, ho, hmem, hll, hpf, hai, hw⟩ := hrel
    have HO := Lib.hid ho
    have HW := Lib.hid hw
    have HAI := Lib.hid hai
    have HMEM := Lib.hid hmem
    clear hw ho hai hmem
    by_cases hlt : k < l.length
    · have hd : decide ((k : Int) < (l.length : Int)) = true := by simp; omega
      obtain ⟨x, hxk⟩ : ∃ x, l[k]? = some x := ⟨_, List.getElem?_eq_getElem hlt⟩
      obtain ⟨q, hadr, hq, hin⟩ := bus_atW HS1.out k x hxk
      have HXM := Lib.hid (List.mem_of_getElem? hxk)
      have HXB := Lib.hid (show (l.map (·.1))[k]? = some x.1 by rw [List.getElem?_map, hxk]; rfl)
      have HRX := Lib.hid (map_right HM.out x.1 (List.mem_of_getElem? HXB.out))
      have HQ := Lib.hid hq
      have HPX := Lib.hid (fun W => refPlace_any x W)
      have HPB := Lib.hid (fun W => refPlace_any b W)
      have HSA := Lib.hid (fun W (h : Below w1.heap.size w1 W) => refSameB_any x b HRX.out HRB.out W (hin W h) (HB1.out.below h))
      clear hq hxk hin
      go_wp2_with fail
      by_cases hpl : plOf x.1 = plOf b.1
      · have HEQ := Lib.hid (show decide (plS x.1 = plS b.1) = true from decide_eq_true ((plS_eq HRX.out HRB.out).2 hpl))
        have HNE := Lib.hid (show (!decide (plS x.1 = plS b.1)) = false by rw [HEQ.out]; rfl)
        have HGE := Lib.hid (show (!Op.bytesLess (plS x.1) (plS b.1)) = true by rw [plS_less HRX.out HRB.out, hpl, ltPl_irrefl]; rfl)
        have HPL := Lib.hid hpl
        clear hpl
        by_cases hxb : x.1 = b.1
        · have HSC := Lib.hid (fun z : Later wr1 => (show Calls Tryz.prog 47 #[.agg (bC x), .agg (bC b)] z.w fun e w' => e = .returned (.bool true) ∧ Below z.w.heap.size z.w w' by have := HSA.out z.w (Agg.belowThen HW.out (Nat.le_refl _) z.h); rwa [decide_eq_true hxb] at this))
          have HNX := Lib.hid (fun (p' : Bool) (o : List Bu) (h1 : p' = true) (h2 : o = if (!put && !ltPl (plOf x.1) (plOf b.1)) = true then lv.map (·.1) ++ [b.1] else lv.map (·.1)) => (show AddI (l.map (·.1)) b.1 (k + 1) p' o by have := HAI.out.next (map_up HM.out) HXB.out (fun _ => hxb); rw [if_pos HPL.out, List.append_nil, ← h2, HPL.out, ltPl_irrefl, Bool.not_false, Bool.or_true] at this; rw [h1]; exact this))
          clear hxb
          have HQ0 := Lib.hid (HQ.out _ HW.out)
          have HB0 := Lib.hid (HLB.out _ HW.out)
          try simp only [Act.put, List.setIfInBounds_toArray, List.set_cons_succ, List.set_cons_zero]
          refine Agg.wp_region_later_lit (by kernel_rfl) (by kernel_rfl) ?_
          repeat (first | go_big_quiet_skip | ((first | (with_reducible refine Agg.wpQuiet_loadL HQ0.out.all rfl _ rfl rfl ?_) | (with_reducible refine Agg.wpQuiet_loadL HB0.out.all rfl _ rfl rfl ?_) | (refine Agg.wpQuiet_eqlS (s := plS x.1) (r := plS b.1) rfl rfl rfl rfl true HEQ.out ?_)); simp only [Act.put, List.setIfInBounds_toArray, List.set_cons_succ, List.set_cons_zero]) | go_big_quiet_step ((first | (go_at_call 46; with_reducible exact Agg.Calls.later (HPX.out _)) | (go_at_call 46; with_reducible exact Agg.Calls.later (HPB.out _)) | (go_at_call 47; with_reducible exact Agg.Calls.later (HSC.out _)))))
          refine wpQuiet_nil ?_
          intro _ hw'
          obtain ⟨x5, rfl⟩ := hw'
          have HW5 := Lib.hid (Agg.belowThen HW.out (Nat.le_refl _) x5.h)
          have HO5 := Lib.hid (HO.out.below x5.h)
          have HQ5 := Lib.hid (HQ.out _ HW5.out)
          have HB5 := Lib.hid (HLB.out _ HW5.out)
          go_wp2_with fail
          cases put with
          | true =>
            try simp only [Act.put, List.setIfInBounds_toArray, List.set_cons_succ, List.set_cons_zero]
            refine Agg.wp_region_later_lit (by kernel_rfl) (by kernel_rfl) ?_
            repeat (first | go_big_quiet_skip | ((first | (with_reducible refine Agg.wpQuiet_loadL HQ5.out.all rfl _ rfl rfl ?_) | (with_reducible refine Agg.wpQuiet_loadL HB5.out.all rfl _ rfl rfl ?_) | (refine Agg.wpQuiet_geqS (s := plS x.1) (r := plS b.1) rfl rfl rfl rfl true HGE.out ?_)); simp only [Act.put, List.setIfInBounds_toArray, List.set_cons_succ, List.set_cons_zero]) | go_big_quiet_step ((first | (go_at_call 46; with_reducible exact Agg.Calls.later (HPX.out _)) | (go_at_call 46; with_reducible exact Agg.Calls.later (HPB.out _)))))
            refine wpQuiet_nil ?_
            intro _ hw'
            obtain ⟨x6, rfl⟩ := hw'
            have HW6 := Lib.hid (Agg.belowThen HW5.out (Nat.le_refl _) x6.h)
            have HO6 := Lib.hid (HO5.out.below x6.h)
            have HQ6 := Lib.hid (HQ.out _ HW6.out)
            have HB6 := Lib.hid (HLB.out _ HW6.out)
            go_wp2_with fail
            try simp only [Act.put, List.setIfInBounds_toArray, List.set_cons_succ, List.set_cons_zero]
            refine Agg.wp_region_later_lit (by kernel_rfl) (by kernel_rfl) ?_
            repeat (first | go_big_quiet_skip | ((first | (with_reducible refine Agg.wpQuiet_loadL HQ6.out.all rfl _ rfl rfl ?_) | (with_reducible refine Agg.wpQuiet_loadL HB6.out.all rfl _ rfl rfl ?_) | (refine Agg.wpQuiet_neqS (s := plS x.1) (r := plS b.1) rfl rfl rfl rfl false HNE.out ?_)); simp only [Act.put, List.setIfInBounds_toArray, List.set_cons_succ, List.set_cons_zero]) | go_big_quiet_step ((first | (go_at_call 46; with_reducible exact Agg.Calls.later (HPX.out _)) | (go_at_call 46; with_reducible exact Agg.Calls.later (HPB.out _)))))
            refine wpQuiet_nil ?_
            intro _ hw'
            obtain ⟨x7, rfl⟩ := hw'
            have HW7 := Lib.hid (Agg.belowThen HW6.out (Nat.le_refl _) x7.h)
            have HO7 := Lib.hid (HO6.out.below x7.h)
            have HQ7 := Lib.hid (HQ.out _ HW7.out)
            have HB7 := Lib.hid (HLB.out _ HW7.out)
            go_wp2_with fail
            go_roundw
            case rel => exact ⟨k + 1, true, lv, by omega, by go_num, rfl, HO7.out, HMEM.out, by (try simp only [List.length_append, List.length_cons, List.length_nil]); omega, (fun h => by cases h), HNX.out _ _ rfl (by simp), HW7.out⟩
            case measure => simp [intOf]; omega
          | false =>
            have hpf2 := hpf rfl
            try simp only [Act.put, List.setIfInBounds_toArray, List.set_cons_succ, List.set_cons_zero]
            refine Agg.wp_region_later_lit (by kernel_rfl) (by kernel_rfl) ?_
            repeat (first | go_big_quiet_skip | ((first | (with_reducible refine Agg.wpQuiet_loadL HQ5.out.all rfl _ rfl rfl ?_) | (with_reducible refine Agg.wpQuiet_loadL HB5.out.all rfl _ rfl rfl ?_) | (refine Agg.wpQuiet_geqS (s := plS x.1) (r := plS b.1) rfl rfl rfl rfl true HGE.out ?_)); simp only [Act.put, List.setIfInBounds_toArray, List.set_cons_succ, List.set_cons_zero]) | go_big_quiet_step ((first | (go_at_call 46; with_reducible exact Agg.Calls.later (HPX.out _)) | (go_at_call 46; with_reducible exact Agg.Calls.later (HPB.out _)))))
            refine wpQuiet_nil ?_
            intro _ hw'
            obtain ⟨x6, rfl⟩ := hw'
            have HW6 := Lib.hid (Agg.belowThen HW5.out (Nat.le_refl _) x6.h)
            have HO6 := Lib.hid (HO5.out.below x6.h)
            have HQ6 := Lib.hid (HQ.out _ HW6.out)
            have HB6 := Lib.hid (HLB.out _ HW6.out)
            go_wp2_with (first | (with_reducible refine wpList_loadL HB6.out.all rfl _ rfl rfl ?_) | (refine wpList_push (E := EBu) (base := w1.heap.size) rfl rfl 54 rfl _ rfl _ rfl b rfl (fun _ => rfl) (by simp [Act.put]) HO6.out (by simp; omega) (by decide) HW6.out.size ?_; intro u8 v8 w8 ho hp; have HO8 := Lib.hid ho; have HW8 := Lib.hid (HW6.out.trans (hp.below w1.heap.size (Nat.le_refl _) HW6.out.size)); clear ho hp))
            have HQ8 := Lib.hid (HQ.out _ HW8.out)
            have HB8 := Lib.hid (HLB.out _ HW8.out)
            try simp only [Act.put, List.setIfInBounds_toArray, List.set_cons_succ, List.set_cons_zero]
            refine Agg.wp_region_later_lit (by kernel_rfl) (by kernel_rfl) ?_
            repeat (first | go_big_quiet_skip | ((first | (with_reducible refine Agg.wpQuiet_loadL HQ8.out.all rfl _ rfl rfl ?_) | (with_reducible refine Agg.wpQuiet_loadL HB8.out.all rfl _ rfl rfl ?_) | (refine Agg.wpQuiet_neqS (s := plS x.1) (r := plS b.1) rfl rfl rfl rfl false HNE.out ?_)); simp only [Act.put, List.setIfInBounds_toArray, List.set_cons_succ, List.set_cons_zero]) | go_big_quiet_step ((first | (go_at_call 46; with_reducible exact Agg.Calls.later (HPX.out _)) | (go_at_call 46; with_reducible exact Agg.Calls.later (HPB.out _)))))
            refine wpQuiet_nil ?_
            intro _ hw'
            obtain ⟨x9, rfl⟩ := hw'
            have HW9 := Lib.hid (Agg.belowThen HW8.out (Nat.le_refl _) x9.h)
            have HO9 := Lib.hid (HO8.out.below x9.h)
            have HQ9 := Lib.hid (HQ.out _ HW9.out)
            have HB9 := Lib.hid (HLB.out _ HW9.out)
            go_wp2_with fail
            go_roundw
            case rel => exact ⟨k + 1, true, (lv ++ [b]), by omega, by go_num, rfl, HO9.out, (fun y hy => (List.mem_append.1 hy).elim (HMEM.out y) (fun h => .inr (List.mem_singleton.1 h))), by (try simp only [List.length_append, List.length_cons, List.length_nil]); omega, (fun h => by cases h), HNX.out _ _ rfl (by rw [HPL.out, ltPl_irrefl]; simp), HW9.out⟩
            case measure => simp [intOf]; omega
        · have HSC := Lib.hid (fun z : Later wr1 => (show Calls Tryz.prog 47 #[.agg (bC x), .agg (bC b)] z.w fun e w' => e = .returned (.bool false) ∧ Below z.w.heap.size z.w w' by have := HSA.out z.w (Agg.belowThen HW.out (Nat.le_refl _) z.h); rwa [decide_eq_false hxb] at this))
          have HXN := Lib.hid hxb
          clear hxb
          have HQ0 := Lib.hid (HQ.out _ HW.out)
          have HB0 := Lib.hid (HLB.out _ HW.out)
          try simp only [Act.put, List.setIfInBounds_toArray, List.set_cons_succ, List.set_cons_zero]
          refine Agg.wp_region_later_lit (by kernel_rfl) (by kernel_rfl) ?_
          repeat (first | go_big_quiet_skip | ((first | (with_reducible refine Agg.wpQuiet_loadL HQ0.out.all rfl _ rfl rfl ?_) | (with_reducible refine Agg.wpQuiet_loadL HB0.out.all rfl _ rfl rfl ?_) | (refine Agg.wpQuiet_eqlS (s := plS x.1) (r := plS b.1) rfl rfl rfl rfl true HEQ.out ?_)); simp only [Act.put, List.setIfInBounds_toArray, List.set_cons_succ, List.set_cons_zero]) | go_big_quiet_step ((first | (go_at_call 46; with_reducible exact Agg.Calls.later (HPX.out _)) | (go_at_call 46; with_reducible exact Agg.Calls.later (HPB.out _)) | (go_at_call 47; with_reducible exact Agg.Calls.later (HSC.out _)))))
          refine wpQuiet_nil ?_
          intro _ hw'
          obtain ⟨x5, rfl⟩ := hw'
          have HW5 := Lib.hid (Agg.belowThen HW.out (Nat.le_refl _) x5.h)
          go_wp2_with fail
          go_ret2
          exact ⟨_, 6, [], rfl, .inr (.inl ⟨rfl, rfl, HM.out, HRB.out, x.1, List.mem_of_getElem? HXB.out, HPL.out, HXN.out⟩), HNIL.out _, HX1.out.trans (HW5.out.mono HX1.out.size)⟩
      · have HEQ := Lib.hid (show decide (plS x.1 = plS b.1) = false from decide_eq_false (fun e => hpl ((plS_eq HRX.out HRB.out).1 e)))
        have HNE := Lib.hid (show (!decide (plS x.1 = plS b.1)) = true by rw [HEQ.out]; rfl)
        obtain ⟨c, hc⟩ : ∃ c, ltPl (plOf x.1) (plOf b.1) = c := ⟨_, rfl⟩
        have HGE := Lib.hid (show (!Op.bytesLess (plS x.1) (plS b.1)) = !c by rw [plS_less HRX.out HRB.out, hc])
        have HNX := Lib.hid (fun (p' : Bool) (o : List Bu) (h1 : p' = (put || !c)) (h2 : o = (if (!put && !c) = true then lv.map (·.1) ++ [b.1] else lv.map (·.1)) ++ [x.1]) => (show AddI (l.map (·.1)) b.1 (k + 1) p' o by have := HAI.out.next (map_up HM.out) HXB.out (fun e => absurd e hpl); rw [if_neg hpl, hc, ← h2, ← h1] at this; exact this))
        clear hpl hc
        have HQ0 := Lib.hid (HQ.out _ HW.out)
        have HB0 := Lib.hid (HLB.out _ HW.out)
        try simp only [Act.put, List.setIfInBounds_toArray, List.set_cons_succ, List.set_cons_zero]
        refine Agg.wp_region_later_lit (by kernel_rfl) (by kernel_rfl) ?_
        repeat (first | go_big_quiet_skip | ((first | (with_reducible refine Agg.wpQuiet_loadL HQ0.out.all rfl _ rfl rfl ?_) | (with_reducible refine Agg.wpQuiet_loadL HB0.out.all rfl _ rfl rfl ?_) | (refine Agg.wpQuiet_eqlS (s := plS x.1) (r := plS b.1) rfl rfl rfl rfl false HEQ.out ?_)); simp only [Act.put, List.setIfInBounds_toArray, List.set_cons_succ, List.set_cons_zero]) | go_big_quiet_step ((first | (go_at_call 46; with_reducible exact Agg.Calls.later (HPX.out _)) | (go_at_call 46; with_reducible exact Agg.Calls.later (HPB.out _)))))
        refine wpQuiet_nil ?_
        intro _ hw'
        obtain ⟨x5, rfl⟩ := hw'
        have HW5 := Lib.hid (Agg.belowThen HW.out (Nat.le_refl _) x5.h)
        have HO5 := Lib.hid (HO.out.below x5.h)
        have HQ5 := Lib.hid (HQ.out _ HW5.out)
        have HB5 := Lib.hid (HLB.out _ HW5.out)
        go_wp2_with fail
        cases put with
        | true =>
          try simp only [Act.put, List.setIfInBounds_toArray, List.set_cons_succ, List.set_cons_zero]
          refine Agg.wp_region_later_lit (by kernel_rfl) (by kernel_rfl) ?_
          repeat (first | go_big_quiet_skip | ((first | (with_reducible refine Agg.wpQuiet_loadL HQ5.out.all rfl _ rfl rfl ?_) | (with_reducible refine Agg.wpQuiet_loadL HB5.out.all rfl _ rfl rfl ?_) | (refine Agg.wpQuiet_geqS (s := plS x.1) (r := plS b.1) rfl rfl rfl rfl _ HGE.out ?_)); simp only [Act.put, List.setIfInBounds_toArray, List.set_cons_succ, List.set_cons_zero]) | go_big_quiet_step ((first | (go_at_call 46; with_reducible exact Agg.Calls.later (HPX.out _)) | (go_at_call 46; with_reducible exact Agg.Calls.later (HPB.out _)))))
          refine wpQuiet_nil ?_
          intro _ hw'
          obtain ⟨x6, rfl⟩ := hw'
          have HW6 := Lib.hid (Agg.belowThen HW5.out (Nat.le_refl _) x6.h)
          have HO6 := Lib.hid (HO5.out.below x6.h)
          have HQ6 := Lib.hid (HQ.out _ HW6.out)
          have HB6 := Lib.hid (HLB.out _ HW6.out)
          go_wp2_with fail
          try simp only [Act.put, List.setIfInBounds_toArray, List.set_cons_succ, List.set_cons_zero]
          refine Agg.wp_region_later_lit (by kernel_rfl) (by kernel_rfl) ?_
          repeat (first | go_big_quiet_skip | ((first | (with_reducible refine Agg.wpQuiet_loadL HQ6.out.all rfl _ rfl rfl ?_) | (with_reducible refine Agg.wpQuiet_loadL HB6.out.all rfl _ rfl rfl ?_) | (refine Agg.wpQuiet_neqS (s := plS x.1) (r := plS b.1) rfl rfl rfl rfl true HNE.out ?_)); simp only [Act.put, List.setIfInBounds_toArray, List.set_cons_succ, List.set_cons_zero]) | go_big_quiet_step ((first | (go_at_call 46; with_reducible exact Agg.Calls.later (HPX.out _)) | (go_at_call 46; with_reducible exact Agg.Calls.later (HPB.out _)))))
          refine wpQuiet_nil ?_
          intro _ hw'
          obtain ⟨y7, rfl⟩ := hw'
          have HW17 := Lib.hid (Agg.belowThen HW6.out (Nat.le_refl _) y7.h)
          have HO17 := Lib.hid (HO6.out.below y7.h)
          have HQ17 := Lib.hid (HQ.out _ HW17.out)
          go_wp2_with (first | (with_reducible refine wpList_loadL HQ17.out.all rfl _ rfl rfl ?_) | (refine wpList_push (E := EBu) (base := w1.heap.size) rfl rfl 69 rfl _ rfl _ rfl x rfl (fun _ => rfl) (by simp [Act.put]) HO17.out (by simp; omega) (by decide) HW17.out.size ?_; intro u19 v19 w19 ho hp; have HO19 := Lib.hid ho; have HW19 := Lib.hid (HW17.out.trans (hp.below w1.heap.size (Nat.le_refl _) HW17.out.size)); clear ho hp))
          go_roundw
          case rel => exact ⟨k + 1, true, (lv ++ [x]), by omega, by go_num, rfl, HO19.out, (fun y hy => (List.mem_append.1 hy).elim (HMEM.out y) (fun h => .inl (by rw [List.mem_singleton.1 h]; exact HXM.out))), by (try simp only [List.length_append, List.length_cons, List.length_nil]); omega, (fun h => by cases h), HNX.out _ _ (by simp) (by simp), HW19.out⟩
          case measure => simp [intOf]; omega
        | false =>
        have hpf2 := hpf rfl
        cases c with
        | true =>
          try simp only [Act.put, List.setIfInBounds_toArray, List.set_cons_succ, List.set_cons_zero]
          refine Agg.wp_region_later_lit (by kernel_rfl) (by kernel_rfl) ?_
          repeat (first | go_big_quiet_skip | ((first | (with_reducible refine Agg.wpQuiet_loadL HQ5.out.all rfl _ rfl rfl ?_) | (with_reducible refine Agg.wpQuiet_loadL HB5.out.all rfl _ rfl rfl ?_) | (refine Agg.wpQuiet_geqS (s := plS x.1) (r := plS b.1) rfl rfl rfl rfl false HGE.out ?_)); simp only [Act.put, List.setIfInBounds_toArray, List.set_cons_succ, List.set_cons_zero]) | go_big_quiet_step ((first | (go_at_call 46; with_reducible exact Agg.Calls.later (HPX.out _)) | (go_at_call 46; with_reducible exact Agg.Calls.later (HPB.out _)))))
          refine wpQuiet_nil ?_
          intro _ hw'
          obtain ⟨x6, rfl⟩ := hw'
          have HW6 := Lib.hid (Agg.belowThen HW5.out (Nat.le_refl _) x6.h)
          have HO6 := Lib.hid (HO5.out.below x6.h)
          have HQ6 := Lib.hid (HQ.out _ HW6.out)
          have HB6 := Lib.hid (HLB.out _ HW6.out)
          go_wp2_with fail
          try simp only [Act.put, List.setIfInBounds_toArray, List.set_cons_succ, List.set_cons_zero]
          refine Agg.wp_region_later_lit (by kernel_rfl) (by kernel_rfl) ?_
          repeat (first | go_big_quiet_skip | ((first | (with_reducible refine Agg.wpQuiet_loadL HQ6.out.all rfl _ rfl rfl ?_) | (with_reducible refine Agg.wpQuiet_loadL HB6.out.all rfl _ rfl rfl ?_) | (refine Agg.wpQuiet_neqS (s := plS x.1) (r := plS b.1) rfl rfl rfl rfl true HNE.out ?_)); simp only [Act.put, List.setIfInBounds_toArray, List.set_cons_succ, List.set_cons_zero]) | go_big_quiet_step ((first | (go_at_call 46; with_reducible exact Agg.Calls.later (HPX.out _)) | (go_at_call 46; with_reducible exact Agg.Calls.later (HPB.out _)))))
          refine wpQuiet_nil ?_
          intro _ hw'
          obtain ⟨y7, rfl⟩ := hw'
          have HW17 := Lib.hid (Agg.belowThen HW6.out (Nat.le_refl _) y7.h)
          have HO17 := Lib.hid (HO6.out.below y7.h)
          have HQ17 := Lib.hid (HQ.out _ HW17.out)
          go_wp2_with (first | (with_reducible refine wpList_loadL HQ17.out.all rfl _ rfl rfl ?_) | (refine wpList_push (E := EBu) (base := w1.heap.size) rfl rfl 69 rfl _ rfl _ rfl x rfl (fun _ => rfl) (by simp [Act.put]) HO17.out (by simp; omega) (by decide) HW17.out.size ?_; intro u19 v19 w19 ho hp; have HO19 := Lib.hid ho; have HW19 := Lib.hid (HW17.out.trans (hp.below w1.heap.size (Nat.le_refl _) HW17.out.size)); clear ho hp))
          go_roundw
          case rel => exact ⟨k + 1, false, (lv ++ [x]), by omega, by go_num, rfl, HO19.out, (fun y hy => (List.mem_append.1 hy).elim (HMEM.out y) (fun h => .inl (by rw [List.mem_singleton.1 h]; exact HXM.out))), by (try simp only [List.length_append, List.length_cons, List.length_nil]); omega, (fun _ => by (try simp only [List.length_append, List.length_cons, List.length_nil]); omega), HNX.out _ _ (by simp) (by simp), HW19.out⟩
          case measure => simp [intOf]; omega
        | false =>
          try simp only [Act.put, List.setIfInBounds_toArray, List.set_cons_succ, List.set_cons_zero]
          refine Agg.wp_region_later_lit (by kernel_rfl) (by kernel_rfl) ?_
          repeat (first | go_big_quiet_skip | ((first | (with_reducible refine Agg.wpQuiet_loadL HQ5.out.all rfl _ rfl rfl ?_) | (with_reducible refine Agg.wpQuiet_loadL HB5.out.all rfl _ rfl rfl ?_) | (refine Agg.wpQuiet_geqS (s := plS x.1) (r := plS b.1) rfl rfl rfl rfl true HGE.out ?_)); simp only [Act.put, List.setIfInBounds_toArray, List.set_cons_succ, List.set_cons_zero]) | go_big_quiet_step ((first | (go_at_call 46; with_reducible exact Agg.Calls.later (HPX.out _)) | (go_at_call 46; with_reducible exact Agg.Calls.later (HPB.out _)))))
          refine wpQuiet_nil ?_
          intro _ hw'
          obtain ⟨x6, rfl⟩ := hw'
          have HW6 := Lib.hid (Agg.belowThen HW5.out (Nat.le_refl _) x6.h)
          have HO6 := Lib.hid (HO5.out.below x6.h)
          have HQ6 := Lib.hid (HQ.out _ HW6.out)
          have HB6 := Lib.hid (HLB.out _ HW6.out)
          go_wp2_with (first | (with_reducible refine wpList_loadL HB6.out.all rfl _ rfl rfl ?_) | (refine wpList_push (E := EBu) (base := w1.heap.size) rfl rfl 54 rfl _ rfl _ rfl b rfl (fun _ => rfl) (by simp [Act.put]) HO6.out (by simp; omega) (by decide) HW6.out.size ?_; intro u8 v8 w8 ho hp; have HO8 := Lib.hid ho; have HW8 := Lib.hid (HW6.out.trans (hp.below w1.heap.size (Nat.le_refl _) HW6.out.size)); clear ho hp))
          have HQ8 := Lib.hid (HQ.out _ HW8.out)
          have HB8 := Lib.hid (HLB.out _ HW8.out)
          try simp only [Act.put, List.setIfInBounds_toArray, List.set_cons_succ, List.set_cons_zero]
          refine Agg.wp_region_later_lit (by kernel_rfl) (by kernel_rfl) ?_
          repeat (first | go_big_quiet_skip | ((first | (with_reducible refine Agg.wpQuiet_loadL HQ8.out.all rfl _ rfl rfl ?_) | (with_reducible refine Agg.wpQuiet_loadL HB8.out.all rfl _ rfl rfl ?_) | (refine Agg.wpQuiet_neqS (s := plS x.1) (r := plS b.1) rfl rfl rfl rfl true HNE.out ?_)); simp only [Act.put, List.setIfInBounds_toArray, List.set_cons_succ, List.set_cons_zero]) | go_big_quiet_step ((first | (go_at_call 46; with_reducible exact Agg.Calls.later (HPX.out _)) | (go_at_call 46; with_reducible exact Agg.Calls.later (HPB.out _)))))
          refine wpQuiet_nil ?_
          intro _ hw'
          obtain ⟨y7, rfl⟩ := hw'
          have HW17 := Lib.hid (Agg.belowThen HW8.out (Nat.le_refl _) y7.h)
          have HO17 := Lib.hid (HO8.out.below y7.h)
          have HQ17 := Lib.hid (HQ.out _ HW17.out)
          go_wp2_with (first | (with_reducible refine wpList_loadL HQ17.out.all rfl _ rfl rfl ?_) | (refine wpList_push (E := EBu) (base := w1.heap.size) rfl rfl 69 rfl _ rfl _ rfl x rfl (fun _ => rfl) (by simp [Act.put]) HO17.out (by simp; omega) (by decide) HW17.out.size ?_; intro u19 v19 w19 ho hp; have HO19 := Lib.hid ho; have HW19 := Lib.hid (HW17.out.trans (hp.below w1.heap.size (Nat.le_refl _) HW17.out.size)); clear ho hp))
          go_roundw
          case rel => exact ⟨k + 1, true, ((lv ++ [b]) ++ [x]), by omega, by go_num, rfl, HO19.out, (fun y hy => (List.mem_append.1 hy).elim (fun h => (List.mem_append.1 h).elim (HMEM.out y) (fun h => .inr (List.mem_singleton.1 h))) (fun h => .inl (by rw [List.mem_singleton.1 h]; exact HXM.out))), by (try simp only [List.length_append, List.length_cons, List.length_nil]); omega, (fun h => by cases h), HNX.out _ _ (by simp) (by simp), HW19.out⟩
          case measure => simp [intOf]; omega
    · obtain rfl : k = l.length := by omega
      have HDN := Lib.hid (show AddI (l.map (·.1)) b.1 (l.map (·.1)).length put (lv.map (·.1)) by rw [List.length_map]; exact HAI.out)
      have HBA := Lib.hid (fun W (h : Below w1.heap.size w1 W) (y : BuV) (hy : y ∈ l ∨ y = b) => (show InsAt W y from hy.elim (fun h1 => (HS1.out.ins y h1).below h) (fun h1 => by rw [h1]; exact HB1.out.below h)))
      cases put with
      | true =>
        go_wp2_with fail
        go_ret2
        exact ⟨_, 0, rfl, lv, HDN.out.done HM.out HRB.out, ⟨HO.out.slice, fun y hy => HBA.out _ HW.out y (HMEM.out y hy)⟩, HX1.out.trans (HW.out.mono HX1.out.size)⟩
      | false =>
        have HB0 := Lib.hid (HLB.out _ HW.out)
        go_wp2_with (first | (with_reducible refine wpList_loadL HB0.out.all rfl _ rfl rfl ?_) | (refine wpList_push (E := EBu) (base := w1.heap.size) rfl rfl 75 rfl _ rfl _ rfl b rfl (fun _ => rfl) (by simp [Act.put]) HO.out (by simp; omega) (by decide) HW.out.size ?_; intro u8 v8 w8 ho hp; have HO8 := Lib.hid ho; have HW8 := Lib.hid (HW.out.trans (hp.below w1.heap.size (Nat.le_refl _) HW.out.size)); clear ho hp))
        go_ret2
        exact ⟨_, 0, rfl, lv ++ [b], by rw [List.map_append]; exact HDN.out.done HM.out HRB.out, ⟨HO8.out.slice, fun y hy => HBA.out _ HW8.out y ((fun y hy => (List.mem_append.1 hy).elim (HMEM.out y) (fun h => .inr (List.mem_singleton.1 h))) y hy)⟩, HX1.out.trans (HW8.out.mono HX1.out.size)⟩
end Go.Proofs.YtniibcgomnjfgaaGreat
