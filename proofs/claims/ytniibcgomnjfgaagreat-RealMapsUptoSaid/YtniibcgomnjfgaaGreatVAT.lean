/- What Add answers, told once: the plain law. (Several texts in one.) -/
import Derived.Test.YtniibcgomnjfgaaGreatVAS
import Derived.Test.YtniibcgomnjfgaaGreatVAR
import Derived.Test.YtniibcgomnjfgaaGreatVAQ
import Derived.Test.YtniibcgomnjfgaaGreatVAJ
/-! slices.Insert at any place; slices.BinarySearchFunc among builts, by places. -/
namespace Go.Proofs.YtniibcgomnjfgaaGreat
open Go.RowKit Pl Go.Agg
theorem insert_any (v : Value) (l : List BuV) (hl : l.length ≤ 1048576) (base gv k : Nat) (x : BuV) (w : World) (hown : OwnBus base w v l) (hx : Own EMd base w (ivV x.2) x.1.ins) (hf : ∀ y ∈ l, ApartI y x) (hv : Blk w gv 29 (bC x)) (hne : v.ownBlock ≠ some gv) (hbase : base ≤ w.heap.size) (hk : k ≤ l.length) :
    Calls Tryz.prog 42 #[v, .int .i64 (k : Int), .slice (some ⟨gv, 0, none⟩) 1 1] w fun e w' => ∃ v' l', e = .returned v' ∧ l' = l.take k ++ x :: l.drop k ∧ OwnBus base w' v' l' ∧ Below base w w' := by
  have hdist : (l.take k ++ x :: l.drop k).Pairwise ApartI := by
    have h0 := hown.dist
    rw [← List.take_append_drop k l] at h0
    obtain ⟨h1, h2, h3⟩ := List.pairwise_append.1 h0
    refine List.pairwise_append.2 ⟨h1, List.pairwise_cons.2 ⟨fun y hy => (hf y (List.mem_of_mem_drop hy)).symm, h2⟩, fun y hy z hz => ?_⟩
    rcases List.mem_cons.1 hz with rfl | hz
    · exact hf y (List.mem_of_mem_take hy)
    · exact h3 y hy z hz
  have fin : ∀ (v' : Value) (w' : World), Own EBu base w' v' (l.take k ++ x :: l.drop k) → Pushed EBu base w w' v → OwnBus base w' v' (l.take k ++ x :: l.drop k) ∧ Below base w w' := fun v' w' ho hp =>
    ⟨⟨ho, fun y hy => by
      rcases Gr.mem_insert.1 hy with rfl | hy
      · exact hx.pushedT hp (by decide)
      · exact (hown.ins y hy).pushedT hp (by decide), hdist⟩, hp.below base (Nat.le_refl _) hbase⟩
  by_cases hke : k = l.length
  · subst hke
    refine (insert_end v l hl base gv x w hown.row hv hbase).mono ?_
    rintro e w' ⟨v', rfl, ho, hp⟩
    have := fin v' w' (by rw [List.take_length, List.drop_length]; exact ho) hp
    exact ⟨v', _, rfl, rfl, this.1, this.2⟩
  · obtain ⟨_, ⟨rfl, h0⟩ | ⟨g, c, cur, rfl, hgb, hcur, hle, hmx, hsz, htk⟩⟩ := hown.row
    · exact absurd (show k = l.length by omega) hke
    · have hne' : gv ≠ g := fun e => hne (by rw [e]; rfl)
      by_cases hr : l.length + 1 ≤ c
      · refine (insert_room l hl base g c gv k x w hown.row hv hne' (by omega) hr).mono ?_
        rintro e w' ⟨v', rfl, ho, hp⟩
        have := fin v' w' ho hp
        exact ⟨v', _, rfl, rfl, this.1, this.2⟩
      · refine (insert_grow l hl base g c gv k x w hown.row hv hbase (by omega) (by omega)).mono ?_
        rintro e w' ⟨v', rfl, ho, hp⟩
        have := fin v' w' ho hp
        exact ⟨v', _, rfl, rfl, this.1, this.2⟩
set_option maxRecDepth 100000 in
set_option maxHeartbeats 4000000 in
theorem addCmp_any (x : BuV) (p : Pla) (w : World) :
    Calls Tryz.prog 38 #[.agg (bC x), .agg (plC p)] w fun e w' => e = .returned (.int .i64 (cmpPl (plOf x.1) p)) ∧ Below w.heap.size w w' := by
  go_enter Tryz.func38, Tryz.ntmps38
  go_wp2_with (first | (with_reducible refine wpList_box rfl 29 _ rfl (bC x) rfl ?_; intro g1 w1 hb1 hx1 hg1; have HL1 := Lib.hid (BuG.of_blk hb1); have HX1 := Lib.hid hx1; clear hb1 hx1 hg1) | (with_reducible refine wpList_box rfl 69 _ rfl (plC p) rfl ?_; intro g2 w2 hb2 hx2 hg2; have HP2 := Lib.hid (PlG.of_blk hb2); have HL2 := Lib.hid (HL1.out.below hx2); have HX2 := Lib.hid (Agg.belowThen HX1.out (Nat.le_refl _) hx2); clear hb2 hx2 hg2))
  have HOF := Lib.hid (fun z : Later w2 => of_any x z.w)
  have HAG := Lib.hid (fun z : Later w2 => against_any (plOf x.1) p z.w)
  try simp only [Act.put, List.setIfInBounds_toArray, List.set_cons_succ, List.set_cons_zero]
  refine Agg.wp_region_later_lit (by kernel_rfl) (by kernel_rfl) ?_
  repeat (first | go_big_quiet_skip | ((first | (with_reducible refine Agg.wpQuiet_loadL HL2.out.all rfl _ rfl rfl ?_) | (with_reducible refine Agg.wpQuiet_loadL HP2.out.all rfl _ rfl rfl ?_)); simp only [Act.put, List.setIfInBounds_toArray, List.set_cons_succ, List.set_cons_zero]) | go_big_quiet_step ((first | (go_at_call 37; exact Agg.Calls.later (HOF.out _)) | (go_at_call 39; exact Agg.Calls.later (HAG.out _)))))
  refine wpQuiet_nil ?_
  intro _ hw'
  obtain ⟨x4, rfl⟩ := hw'
  go_wp2_with fail
  go_ret
  exact ⟨rfl, Agg.belowThen HX2.out (Nat.le_refl _) x4.h⟩
/-- what a search keeps -/
structure Srch (l : List BuV) (p : Pla) (i j : Nat) : Prop where
  le : i ≤ j
  top : j ≤ l.length
  low : ∀ (t : Nat) x, t < i → l[t]? = some x → ltPl (plOf x.1) p = true
  high : ∀ (t : Nat) x, j ≤ t → l[t]? = some x → ltPl (plOf x.1) p = false
theorem Srch.start (l : List BuV) (p : Pla) : Srch l p 0 l.length := ⟨by omega, Nat.le_refl _, fun t _ h => absurd h (by omega), fun t x h hx => by have := (List.getElem?_eq_some_iff.1 hx).1; omega⟩
theorem up_lt {l : List BuV} (hU : Gr.Up (fun x : BuV => plOf x.1) ltPl l) {s t : Nat} {x y : BuV} (hst : s < t) (hx : l[s]? = some x) (hy : l[t]? = some y) : ltPl (plOf x.1) (plOf y.1) = true := by
  obtain ⟨hs, rfl⟩ := List.getElem?_eq_some_iff.1 hx
  obtain ⟨ht, rfl⟩ := List.getElem?_eq_some_iff.1 hy
  exact List.pairwise_iff_getElem.1 hU s t hs ht hst
theorem Srch.up {l : List BuV} {p : Pla} {i j h : Nat} (hU : Gr.Up (fun x : BuV => plOf x.1) ltPl l) (hs : Srch l p i j) {x : BuV} (hh : h < j) (hx : l[h]? = some x) (hlt : ltPl (plOf x.1) p = true) : Srch l p (h + 1) j :=
  ⟨by omega, hs.top, fun t y ht hy => by
    by_cases e : t = h
    · subst e; rw [hx] at hy; obtain rfl := Option.some.inj hy; exact hlt
    · exact ltPl_trans _ _ _ (up_lt hU (by omega) hy hx) hlt, hs.high⟩
theorem Srch.down {l : List BuV} {p : Pla} {i j h : Nat} (hU : Gr.Up (fun x : BuV => plOf x.1) ltPl l) (hs : Srch l p i j) {x : BuV} (hi : i ≤ h) (hh : h < j) (hx : l[h]? = some x) (hlt : ltPl (plOf x.1) p = false) : Srch l p i h :=
  ⟨hi, by have := hs.top; omega, hs.low, fun t y ht hy => by
    by_cases e : t = h
    · subst e; rw [hx] at hy; obtain rfl := Option.some.inj hy; exact hlt
    · cases hq : ltPl (plOf y.1) p with
      | false => rfl
      | true => have := ltPl_trans _ _ _ (up_lt hU (by omega) hx hy) hq; rw [hlt] at this; cases this⟩
set_option maxRecDepth 100000 in
set_option maxHeartbeats 8000000 in
theorem search_any (v : Value) (l : List BuV) (hl : l.length ≤ 1048576) (hU : Gr.Up (fun x : BuV => plOf x.1) ltPl l) (p : Pla) (w : World) (hs : BusAt w v l) :
    Calls Tryz.prog 36 #[v, .agg (plC p), .func (.func 38) #[] #[]] w fun e w' => ∃ (k : Nat) (b : Bool), e = .returned (.tuple #[.int .i64 (k : Int), .bool b]) ∧ Srch l p k k ∧ (b = true ↔ ∃ x, l[k]? = some x ∧ plOf x.1 = p) ∧ Below w.heap.size w w' := by
  have HS := Lib.hid hs
  have HU := Lib.hid hU
  have hlv := fun W => bus_len hs W
  clear hs hU
  go_enter Tryz.func36, Tryz.ntmps36
  go_wp2_with (first | (with_reducible refine wpList_box rfl 69 _ rfl (plC p) rfl ?_; intro g1 w1 hb1 hx1 hg1; have HP1 := Lib.hid (PlG.of_blk hb1); have HX1 := Lib.hid hx1; clear hb1 hx1 hg1))
  go_loopw [9, 10] (fun i j wr => ∃ a b : Nat, i = .int .i64 (a : Int) ∧ j = .int .i64 (b : Int) ∧ Srch l p a b ∧ Below w1.heap.size w1 wr) (fun i j _ => (intOf j).toNat - (intOf i).toNat)
  case atStart => exact ⟨0, l.length, rfl, rfl, Srch.start l p, Below.refl _ _⟩
  case round =>
    obtain ⟨wr1, rfl⟩ : ∃ y : World, y = wr := ⟨_, rfl⟩
    obtain ⟨a, b, rfl, rfl, hsr, hw⟩ := hrel
    have hab := hsr.le
    have hbn := hsr.top
    have HR := Lib.hid hsr
    have HW := Lib.hid hw
    have HWW := Lib.hid (Agg.belowThen HX1.out (Nat.le_refl _) hw)
    have HP := Lib.hid (HP1.out.below hw)
    have HSW := Lib.hid (HS.out.below HWW.out)
    clear hsr hw
    by_cases hlt : a < b
    · have hd : decide ((a : Int) < (b : Int)) = true := by simp; omega
      obtain ⟨x, hxk⟩ : ∃ x, l[(a + b) / 2]? = some x := ⟨_, List.getElem?_eq_getElem (by omega)⟩
      obtain ⟨q, hadr, hq, hin⟩ := HSW.out.at_ _ x hxk
      have HQ := Lib.hid hq
      have HX := Lib.hid hxk
      clear hq hxk hin
      go_wp2_with fail
      simp only [show ((a : Int) + (b : Int)) / 2 = (((a + b) / 2 : Nat) : Int) by omega]
      have hha : a ≤ (a + b) / 2 := by omega
      have hhb : (a + b) / 2 < b := by omega
      generalize (a + b) / 2 = h at *
      obtain ⟨c, hc⟩ : ∃ c, cmpPl (plOf x.1) p = c := ⟨_, rfl⟩
      have HC := Lib.hid (fun z : Later wr1 => (show Calls Tryz.prog 38 #[.agg (bC x), .agg (plC p)] z.w fun e w' => e = .returned (.int .i64 c) ∧ Below z.w.heap.size z.w w' by have := addCmp_any x p z.w; rwa [hc] at this))
      have HCC := Lib.hid hc
      clear hc
      by_cases h1 : c < 0
      · have hd1 := decide_eq_true h1
        try simp only [Act.put, List.setIfInBounds_toArray, List.set_cons_succ, List.set_cons_zero]
        refine Agg.wp_region_later_lit (by kernel_rfl) (by kernel_rfl) ?_
        repeat (first | go_big_quiet_skip | ((first | (with_reducible refine Agg.wpQuiet_loadL HQ.out.all rfl _ rfl rfl ?_) | (with_reducible refine Agg.wpQuiet_loadL HP.out.all rfl _ rfl rfl ?_)); simp only [Act.put, List.setIfInBounds_toArray, List.set_cons_succ, List.set_cons_zero]) | go_big_quiet_step ((first | (go_at_call 38; exact Agg.Calls.later (HC.out _)))))
        refine wpQuiet_nil ?_
        intro _ hw'
        obtain ⟨x4, rfl⟩ := hw'
        go_wp2_with fail
        go_roundw
        case rel => exact ⟨h + 1, b, by go_num, rfl, HR.out.up HU.out hhb HX.out (by rw [← cmpPl_neg, HCC.out]; exact hd1), Agg.belowThen HW.out (Nat.le_refl _) x4.h⟩
        case measure => simp [intOf]; omega
      · have hd1 := decide_eq_false h1
        try simp only [Act.put, List.setIfInBounds_toArray, List.set_cons_succ, List.set_cons_zero]
        refine Agg.wp_region_later_lit (by kernel_rfl) (by kernel_rfl) ?_
        repeat (first | go_big_quiet_skip | ((first | (with_reducible refine Agg.wpQuiet_loadL HQ.out.all rfl _ rfl rfl ?_) | (with_reducible refine Agg.wpQuiet_loadL HP.out.all rfl _ rfl rfl ?_)); simp only [Act.put, List.setIfInBounds_toArray, List.set_cons_succ, List.set_cons_zero]) | go_big_quiet_step ((first | (go_at_call 38; exact Agg.Calls.later (HC.out _)))))
        refine wpQuiet_nil ?_
        intro _ hw'
        obtain ⟨x4, rfl⟩ := hw'
        go_wp2_with fail
        go_roundw
        case rel => exact ⟨a, h, rfl, rfl, HR.out.down HU.out hha hhb HX.out (by rw [← cmpPl_neg, HCC.out]; exact hd1), Agg.belowThen HW.out (Nat.le_refl _) x4.h⟩
        case measure => simp [intOf]; omega
    · obtain rfl : a = b := by omega
      have hd : decide ((a : Int) < (a : Int)) = false := by simp
      by_cases hlt2 : a < l.length
      · have hd2 : decide ((a : Int) < (l.length : Int)) = true := by simp; omega
        obtain ⟨x, hxk⟩ : ∃ x, l[a]? = some x := ⟨_, List.getElem?_eq_getElem hlt2⟩
        obtain ⟨q, hadr, hq, hin⟩ := HSW.out.at_ _ x hxk
        have HQ := Lib.hid hq
        have HX := Lib.hid hxk
        clear hq hxk hin
        obtain ⟨c, hc⟩ : ∃ c, cmpPl (plOf x.1) p = c := ⟨_, rfl⟩
        have HC := Lib.hid (fun z : Later wr1 => (show Calls Tryz.prog 38 #[.agg (bC x), .agg (plC p)] z.w fun e w' => e = .returned (.int .i64 c) ∧ Below z.w.heap.size z.w w' by have := addCmp_any x p z.w; rwa [hc] at this))
        obtain ⟨d, hd3⟩ : ∃ d, (c == 0) = d := ⟨_, rfl⟩
        have HCC := Lib.hid (show d = decide (plOf x.1 = p) by rw [← hd3, ← hc, cmpPl_zero])
        clear hc
        go_wp2_with fail
        try simp only [Act.put, List.setIfInBounds_toArray, List.set_cons_succ, List.set_cons_zero]
        refine Agg.wp_region_later_lit (by kernel_rfl) (by kernel_rfl) ?_
        repeat (first | go_big_quiet_skip | ((first | (with_reducible refine Agg.wpQuiet_loadL HQ.out.all rfl _ rfl rfl ?_) | (with_reducible refine Agg.wpQuiet_loadL HP.out.all rfl _ rfl rfl ?_)); simp only [Act.put, List.setIfInBounds_toArray, List.set_cons_succ, List.set_cons_zero]) | go_big_quiet_step ((first | (go_at_call 38; exact Agg.Calls.later (HC.out _)))))
        refine wpQuiet_nil ?_
        intro _ hw'
        obtain ⟨x4, rfl⟩ := hw'
        go_wp2_with fail
        go_ret2
        refine ⟨a, d, rfl, HR.out, ?_, Agg.belowThen HWW.out (Nat.le_refl _) x4.h⟩
        rw [HCC.out, decide_eq_true_eq]
        exact ⟨fun h => ⟨x, HX.out, h⟩, fun ⟨y, h1, h2⟩ => (by rw [HX.out] at h1; obtain rfl := Option.some.inj h1; exact h2)⟩
      · have hd2 : decide ((a : Int) < (l.length : Int)) = false := by simp; omega
        go_wp2_with fail
        try simp only [Act.put, List.setIfInBounds_toArray, List.set_cons_succ, List.set_cons_zero]
        refine Agg.wp_region_later_lit (by kernel_rfl) (by kernel_rfl) ?_
        repeat (first | go_big_quiet_skip | ((first | (with_reducible refine Agg.wpQuiet_loadL HP.out.all rfl _ rfl rfl ?_)); simp only [Act.put, List.setIfInBounds_toArray, List.set_cons_succ, List.set_cons_zero]) | go_big_quiet_step ((first | (go_at_call 38; exact Agg.Calls.later (addCmp_any _ _ _)))))
        refine wpQuiet_nil ?_
        intro _ hw'
        obtain ⟨x4, rfl⟩ := hw'
        go_wp2_with fail
        go_ret2
        exact ⟨a, false, rfl, HR.out, ⟨fun h => (by cases h), fun ⟨y, h1, _⟩ => (by have := (List.getElem?_eq_some_iff.1 h1).1; omega)⟩, Agg.belowThen HWW.out (Nat.le_refl _) x4.h⟩
end Go.Proofs.YtniibcgomnjfgaaGreat
/-! real.Add of any builts. -/
namespace Go.Agg
open Go.RowKit
theorem wpList_slice1B {P : Program} {α : Type} {E : Elem P α} {ops : Array Oper} {rest : List Oper} {o : Oper} {a : Act} {w : World} {Q : Exit → Act → World → Prop} (hg : o.guard = none) (y : Operand) (ho : o.op = .buildSlice E.st 1 #[(0, y)]) (x : α) (hy : a.eval y = E.val x)
    (h : ∀ gv w', Blk w' gv E.ty (E.val x).cells → Below w.heap.size w w' → w.heap.size ≤ gv → wpList P ops Q rest (a.put o.dst (.slice (some ⟨gv, 0, none⟩) 1 1)) w') : wpList P ops Q (o :: rest) a w :=
  wpList_val hg (v := .slice (some ⟨w.heap.size, 0, none⟩) 1 1) (w' := w.alloc (.cells (E.val x).cells E.ty)) (by simp [execOp, ho, hy, run_slice_one]) (h _ _ (Blk.new w E.ty _) ((Below.refl _ _).alloc (Nat.le_refl _) _) (Nat.le_refl _))
end Go.Agg
namespace Go.Proofs.YtniibcgomnjfgaaGreat
open Go.RowKit Pl Go.Agg
abbrev MapB (l : List Bu) : Prop := Gr.MapP plOf ltPl rightBu l
/-- what Add answers -/
def AddP (l : List Bu) (b : Bu) (l' : List Bu) (c : Nat) : Prop :=
  (c = 2 ∧ (¬ MapB l ∨ rightBu b = false)) ∨
  (c = 0 ∧ MapB l ∧ rightBu b = true ∧ ∃ k, (∀ y ∈ l.take k, ltPl (plOf y) (plOf b) = true) ∧ (∀ y ∈ l.drop k, ltPl (plOf b) (plOf y) = true) ∧ l' = l.take k ++ b :: l.drop k) ∨
  (c = 0 ∧ MapB l ∧ rightBu b = true ∧ b ∈ l ∧ l' = l) ∨
  (c = 6 ∧ MapB l ∧ rightBu b = true ∧ ∃ y ∈ l, plOf y = plOf b ∧ y ≠ b)
theorem bu_ext {x y : Bu} (h1 : plOf x = plOf y) (h2 : x.pa = y.pa) (h3 : x.ins = y.ins) : x = y := by
  cases x; cases y
  simp only [plOf, Prod.mk.injEq] at *
  obtain ⟨rfl, rfl, rfl⟩ := h1
  subst h2 h3
  rfl
theorem srch_add {l : List BuV} {b : Bu} {k : Nat} (hU : Gr.Up (fun x : BuV => plOf x.1) ltPl l) (h : Srch l (plOf b) k k) (hno : ¬ ∃ x, l[k]? = some x ∧ plOf x.1 = plOf b) :
    (∀ y ∈ (l.map (·.1)).take k, ltPl (plOf y) (plOf b) = true) ∧ (∀ y ∈ (l.map (·.1)).drop k, ltPl (plOf b) (plOf y) = true) := by
  constructor
  · intro y hy
    rw [← List.map_take, List.mem_map] at hy
    obtain ⟨x, hx, rfl⟩ := hy
    obtain ⟨t, ht, rfl⟩ := List.getElem_of_mem hx
    rw [List.length_take] at ht
    refine h.low t _ (by omega) ?_
    rw [List.getElem_take]
    exact List.getElem?_eq_getElem (by omega)
  · intro y hy
    rw [← List.map_drop, List.mem_map] at hy
    obtain ⟨x, hx, rfl⟩ := hy
    obtain ⟨t, ht, rfl⟩ := List.getElem_of_mem hx
    rw [List.length_drop] at ht
    have hx' : l[k + t]? = some (l.drop k)[t] := by rw [List.getElem_drop]; exact List.getElem?_eq_getElem (by omega)
    have hf := h.high (k + t) _ (by omega) hx'
    refine ltPl_total _ _ (fun e => ?_) hf
    by_cases h0 : t = 0
    · subst h0; exact hno ⟨_, hx', e⟩
    · obtain ⟨z, hz⟩ : ∃ z, l[k]? = some z := ⟨_, List.getElem?_eq_getElem (by omega)⟩
      have h1 := up_lt hU (by omega : k < k + t) hz hx'
      have h2 := h.high k z (Nat.le_refl _) hz
      rw [e] at h1
      rw [h1] at h2; cases h2
theorem up_map {l : List BuV} (h : MapB (l.map (·.1))) : Gr.Up (fun x : BuV => plOf x.1) ltPl l := by
  have := ((Gr.mapP_iff ltPl_ord _).1 h).2
  unfold Gr.Up at *
  rwa [List.pairwise_map] at this
set_option maxRecDepth 100000 in
set_option maxHeartbeats 8000000 in
theorem addO_any (v : Value) (l : List BuV) (hl : l.length ≤ 1048576) (hni : ∀ x ∈ l, x.1.ins.length ≤ 1048576) (b : BuV) (hnb : b.1.ins.length ≤ 1048576) (w : World) (hs : BusAt w v l) (hb : InsAt w b) :
    Calls Tryz.prog 10 #[v, .agg (bC b)] w fun e w' => ∃ (v' : Value) (c : Nat) (lv : List BuV), e = .returned (.tuple #[v', .int .i64 (c : Int)]) ∧ (c ≠ 0 → lv = []) ∧ AddP (l.map (·.1)) b.1 (lv.map (·.1)) c ∧ OwnBus w.heap.size w' v' lv ∧ Below w.heap.size w w' := by
  have HS := Lib.hid hs
  have HB := Lib.hid hb
  have HNI := Lib.hid hni
  have hnil : ∀ W, OwnBus w.heap.size W (.slice none 0 0) [] := fun W => OwnBus.nil _ _
  have HNIL := Lib.hid hnil
  clear hs hb hni hnil
  go_enter Tryz.func10, Tryz.ntmps10
  go_wp2_with (first | (with_reducible refine wpList_box rfl 29 _ rfl (bC b) rfl ?_; intro g1 w1 hb1 hx1 hg1; have HL1 := Lib.hid (BuG.of_blk hb1); have HX1 := Lib.hid hx1; clear hb1 hx1 hg1))
  refine (buMap_any v l (by omega) w1 (HS.out.below HX1.out)).mono ?_
  rintro e w2 ⟨bm, rfl, hbm, hx2⟩
  have HX2 := Lib.hid (Agg.belowThen HX1.out (Nat.le_refl _) hx2)
  have HL2 := Lib.hid (HL1.out.below hx2)
  have HBM := Lib.hid hbm
  clear hx2 hbm
  cases bm with
  | false =>
    go_wp2_with fail
    go_ret2
    exact ⟨_, 2, [], rfl, fun _ => rfl, .inl ⟨rfl, .inl fun h => by have := HBM.out.2 h; cases this⟩, HNIL.out _, HX2.out⟩
  | true =>
  have HM := Lib.hid (HBM.out.1 rfl)
  go_wp2_with (first | (with_reducible refine wpList_loadL HL2.out.all rfl _ rfl rfl ?_))
  refine (buRight_any b w2 (HB.out.below HX2.out)).mono ?_
  rintro e w3 ⟨rfl, hx3⟩
  have HX3 := Lib.hid (Agg.belowThen HX2.out (Nat.le_refl _) hx3)
  have HL3 := Lib.hid (HL2.out.below hx3)
  clear hx3
  cases hrb : rightBu b.1 with
  | false =>
    have HRB := Lib.hid hrb
    clear hrb
    go_wp2_with fail
    go_ret2
    exact ⟨_, 2, [], rfl, fun _ => rfl, .inl ⟨rfl, .inr HRB.out⟩, HNIL.out _, HX3.out⟩
  | true =>
  have HRB := Lib.hid hrb
  clear hrb
  go_wp2_with (first | (with_reducible refine wpList_loadL HL3.out.all rfl _ rfl rfl ?_))
  refine (of_any b w3).mono ?_
  rintro e w4 ⟨rfl, hx4⟩
  have HX4 := Lib.hid (Agg.belowThen HX3.out (Nat.le_refl _) hx4)
  have HL4 := Lib.hid (HL3.out.below hx4)
  clear hx4
  go_wp2_with fail
  refine (search_any v l (by omega) (up_map HM.out) (plOf b.1) w4 (HS.out.below HX4.out)).mono ?_
  rintro e w5 ⟨k, there, rfl, hsr, hth, hx5⟩
  have hkl := hsr.top
  have HSR := Lib.hid hsr
  have HTH := Lib.hid hth
  have HX5 := Lib.hid (Agg.belowThen HX4.out (Nat.le_refl _) hx5)
  have HL5 := Lib.hid (HL4.out.below hx5)
  clear hx5 hsr hth
  go_wp2_with fail
  refine (someAll_any v l (by omega) HNI.out w5 (HS.out.below HX5.out)).mono ?_
  rintro e w6 ⟨v6, lv, rfl, ho6, hm6, hx6⟩
  have HX6 := Lib.hid (Agg.belowThen HX5.out (Nat.le_refl _) hx6)
  have HL6 := Lib.hid (HL5.out.below hx6)
  have HO6 := Lib.hid ho6
  have HM6 := Lib.hid hm6
  have hll : lv.length = l.length := by have := congrArg List.length hm6; simpa using this
  have HS6 := Lib.hid (Nat.le_trans (Nat.le_refl _) HX5.out.size)
  have HSZ := Lib.hid hx6.size
  clear hx6 ho6 hm6
  cases there with
  | false =>
    have HNO := Lib.hid (show ¬ ∃ x, l[k]? = some x ∧ plOf x.1 = plOf b.1 from fun h => by have := HTH.out.2 h; cases this)
    go_wp2_with (first | (with_reducible refine wpList_loadL HL6.out.all rfl _ rfl rfl ?_))
    refine (owned_any b w6 hnb (HB.out.below HX6.out)).mono ?_
    rintro e w7 ⟨iv, rfl, ho7, hx7⟩
    have HX7 := Lib.hid (Agg.belowThen HX6.out (Nat.le_refl _) hx7)
    have HO7 := Lib.hid (HO6.out.below hx7)
    have HI7 := Lib.hid (ho7.lower HSZ.out)
    have HF7 := Lib.hid (HO6.out.fresh (x := (b.1, iv)) (Nat.le_refl _) ho7)
    have HLT7 := Lib.hid (Nat.le_trans HSZ.out hx7.size)
    clear hx7 ho7
    go_wp2_with (first | (refine wpList_slice1B (E := EBu) rfl _ rfl (b.1, iv) rfl ?_; intro gv w8 hb8 hx8 hg8; have HV8 := Lib.hid (show Blk w8 gv 29 (bC (b.1, iv)) from hb8); have HX8 := Lib.hid (Agg.belowThen HX7.out (Nat.le_refl _) hx8); have HO8 := Lib.hid (HO7.out.below hx8); have HI8 := Lib.hid (HI7.out.below hx8); have HLT8 := Lib.hid (Nat.le_trans HLT7.out hx8.size); have HNE := Lib.hid (show v6.ownBlock ≠ some gv from fun e => (by obtain ⟨_, cur, hc⟩ := HO7.out.row.block gv e; have := Agg.heap_lt hc; omega)); clear hb8 hx8 hg8))
    refine (insert_any v6 lv (by omega) w5.heap.size gv k (b.1, iv) w8 HO8.out HI8.out HF7.out HV8.out HNE.out HLT8.out (by omega)).mono ?_
    rintro e w9 ⟨v9, l9, rfl, rfl, ho9, hx9⟩
    have HX9 := Lib.hid (show Below w.heap.size w w9 from HX8.out.trans (hx9.mono HS6.out))
    have HO9 := Lib.hid ho9
    clear ho9 hx9
    go_wp2_with fail
    go_ret2
    refine ⟨_, 0, _, rfl, fun h => absurd rfl h, .inr (.inl ⟨rfl, HM.out, HRB.out, k, (srch_add (up_map HM.out) HSR.out HNO.out).1, (srch_add (up_map HM.out) HSR.out HNO.out).2, ?_⟩), HO9.out.lower HS6.out, HX9.out⟩
    rw [← HM6.out]
    simp
  | true =>
    obtain ⟨x, hxk, hpl⟩ := HTH.out.1 rfl
    obtain ⟨q, hadr, hq, hin⟩ := (HS.out.below HX6.out).at_ k x hxk
    have hbi := HB.out.below HX6.out
    have HQ := Lib.hid hq
    have HX := Lib.hid hxk
    have HPL := Lib.hid hpl
    have hxl := HNI.out x (List.mem_of_getElem? hxk)
    have hmem : x.1 ∈ l.map (·.1) := List.mem_map.2 ⟨x, List.mem_of_getElem? hxk, rfl⟩
    have HMEM := Lib.hid hmem
    obtain ⟨e1, he1⟩ : ∃ e, (!decide (x.1.pa = b.1.pa)) = e := ⟨_, rfl⟩
    obtain ⟨e2, he2⟩ : ∃ e, decide (x.1.ins = b.1.ins) = e := ⟨_, rfl⟩
    have HN := Lib.hid (fun W => (show (binOp .neq 26 (.agg (pC x.1.pa.1.1 x.1.pa.1.2)) (.agg (pC b.1.pa.1.1 b.1.pa.1.2))).run Tryz.prog W = .ok (.bool e1) W by rw [neqPB, he1]))
    have HEQ := Lib.hid (fun z : Later w6 => (show Calls Tryz.prog 44 #[ivV x.2, ivV b.2] z.w fun e w' => e = .returned (.bool e2) ∧ Below z.w.heap.size z.w w' by have := mEqual_any (ivV x.2) (ivV b.2) x.1.ins b.1.ins hxl z.w (SliceOf.below hin z.h) (SliceOf.below hbi z.h); rwa [he2] at this))
    have HE1 := Lib.hid he1
    have HE2 := Lib.hid he2
    clear hq hxk hpl hin hbi hmem he1 he2
    cases e1 with
    | true =>
      go_wp2_with fail
      try simp only [Act.put, List.setIfInBounds_toArray, List.set_cons_succ, List.set_cons_zero]
      refine Agg.wp_region_later_lit (by kernel_rfl) (by kernel_rfl) ?_
      repeat (first | go_big_quiet_skip | ((first | (with_reducible refine Agg.wpQuiet_loadL HQ.out.path rfl _ rfl rfl ?_) | (with_reducible refine Agg.wpQuiet_loadL HL6.out.path rfl _ rfl rfl ?_) | (with_reducible refine Agg.wpQuiet_neq 26 26 _ _ rfl rfl (pC x.1.pa.1.1 x.1.pa.1.2) (pC b.1.pa.1.1 b.1.pa.1.2) rfl rfl _ (by kernel_rfl) HN.out ?_)); simp only [Act.put, List.setIfInBounds_toArray, List.set_cons_succ, List.set_cons_zero]) | go_big_quiet_step (fail))
      refine wpQuiet_nil ?_
      intro _ hw'
      obtain ⟨x9, rfl⟩ := hw'
      go_wp2_with fail
      go_ret2
      exact ⟨_, 6, [], rfl, fun _ => rfl, .inr (.inr (.inr ⟨rfl, HM.out, HRB.out, x.1, HMEM.out, HPL.out, fun e => (by have := HE1.out; rw [e] at this; simp at this)⟩)), HNIL.out _, Agg.belowThen HX6.out (Nat.le_refl _) x9.h⟩
    | false =>
      cases e2 with
      | false =>
        go_wp2_with fail
        try simp only [Act.put, List.setIfInBounds_toArray, List.set_cons_succ, List.set_cons_zero]
        refine Agg.wp_region_later_lit (by kernel_rfl) (by kernel_rfl) ?_
        repeat (first | go_big_quiet_skip | ((first | (with_reducible refine Agg.wpQuiet_loadL HQ.out.path rfl _ rfl rfl ?_) | (with_reducible refine Agg.wpQuiet_loadL HL6.out.path rfl _ rfl rfl ?_) | (with_reducible refine Agg.wpQuiet_neq 26 26 _ _ rfl rfl (pC x.1.pa.1.1 x.1.pa.1.2) (pC b.1.pa.1.1 b.1.pa.1.2) rfl rfl _ (by kernel_rfl) HN.out ?_) | (with_reducible refine Agg.wpQuiet_loadL HQ.out.ins rfl _ rfl rfl ?_) | (with_reducible refine Agg.wpQuiet_loadL HL6.out.ins rfl _ rfl rfl ?_)); simp only [Act.put, List.setIfInBounds_toArray, List.set_cons_succ, List.set_cons_zero]) | go_big_quiet_step ((first | (go_at_call 44; with_reducible exact Agg.Calls.later (HEQ.out _)))))
        refine wpQuiet_nil ?_
        intro _ hw'
        obtain ⟨x9, rfl⟩ := hw'
        go_wp2_with fail
        go_ret2
        exact ⟨_, 6, [], rfl, fun _ => rfl, .inr (.inr (.inr ⟨rfl, HM.out, HRB.out, x.1, HMEM.out, HPL.out, fun e => of_decide_eq_false HE2.out (by rw [e])⟩)), HNIL.out _, Agg.belowThen HX6.out (Nat.le_refl _) x9.h⟩
      | true =>
        have hxb : x.1 = b.1 := bu_ext HPL.out (by simpa using HE1.out) (of_decide_eq_true HE2.out)
        have HXB := Lib.hid (show b.1 ∈ l.map (·.1) by rw [← hxb]; exact HMEM.out)
        clear hxb
        go_wp2_with fail
        try simp only [Act.put, List.setIfInBounds_toArray, List.set_cons_succ, List.set_cons_zero]
        refine Agg.wp_region_later_lit (by kernel_rfl) (by kernel_rfl) ?_
        repeat (first | go_big_quiet_skip | ((first | (with_reducible refine Agg.wpQuiet_loadL HQ.out.path rfl _ rfl rfl ?_) | (with_reducible refine Agg.wpQuiet_loadL HL6.out.path rfl _ rfl rfl ?_) | (with_reducible refine Agg.wpQuiet_neq 26 26 _ _ rfl rfl (pC x.1.pa.1.1 x.1.pa.1.2) (pC b.1.pa.1.1 b.1.pa.1.2) rfl rfl _ (by kernel_rfl) HN.out ?_) | (with_reducible refine Agg.wpQuiet_loadL HQ.out.ins rfl _ rfl rfl ?_) | (with_reducible refine Agg.wpQuiet_loadL HL6.out.ins rfl _ rfl rfl ?_)); simp only [Act.put, List.setIfInBounds_toArray, List.set_cons_succ, List.set_cons_zero]) | go_big_quiet_step ((first | (go_at_call 44; with_reducible exact Agg.Calls.later (HEQ.out _)))))
        refine wpQuiet_nil ?_
        intro _ hw'
        obtain ⟨x9, rfl⟩ := hw'
        go_wp2_with fail
        go_ret2
        exact ⟨_, 0, lv, rfl, fun h => absurd rfl h, .inr (.inr (.inl ⟨rfl, HM.out, HRB.out, HXB.out, HM6.out⟩)), (HO6.out.below x9.h).lower HS6.out, Agg.belowThen HX6.out (Nat.le_refl _) x9.h⟩
theorem add_any (v : Value) (l : List BuV) (hl : l.length ≤ 1048576) (hni : ∀ x ∈ l, x.1.ins.length ≤ 1048576) (b : BuV) (hnb : b.1.ins.length ≤ 1048576) (w : World) (hs : BusAt w v l) (hb : InsAt w b) :
    Calls Tryz.prog 10 #[v, .agg (bC b)] w fun e w' => ∃ (v' : Value) (c : Nat) (lv : List BuV), e = .returned (.tuple #[v', .int .i64 (c : Int)]) ∧ AddP (l.map (·.1)) b.1 (lv.map (·.1)) c ∧ BusAt w' v' lv ∧ Below w.heap.size w w' := by
  refine (addO_any v l hl hni b hnb w hs hb).mono ?_
  rintro e w' ⟨v', c, lv, rfl, _, h1, h2, h3⟩
  exact ⟨v', c, lv, rfl, h1, h2.at_, h3⟩
end Go.Proofs.YtniibcgomnjfgaaGreat
/-! What Add answers, told once: the plain law. -/
namespace Go.Proofs.YtniibcgomnjfgaaGreat
open Go.RowKit Pl Go.Agg
def AddR (l : List Bu) (b : Bu) (l' : List Bu) (c : Nat) : Prop :=
  (c = 2 ∧ l' = [] ∧ (¬ MapB l ∨ rightBu b = false)) ∨
  (c = 6 ∧ l' = [] ∧ MapB l ∧ rightBu b = true ∧ ∃ y ∈ l, plOf y = plOf b ∧ y ≠ b) ∨
  (c = 0 ∧ MapB l ∧ rightBu b = true ∧ (∀ y ∈ l, plOf y = plOf b → y = b) ∧ Gr.Up plOf ltPl l' ∧ ∀ x, x ∈ l' ↔ x = b ∨ (x ∈ l ∧ plOf x ≠ plOf b))
theorem map_up {l : List Bu} (h : MapB l) : Gr.Up plOf ltPl l := ((Gr.mapP_iff ltPl_ord _).1 h).2
theorem map_right {l : List Bu} (h : MapB l) : ∀ x ∈ l, rightBu x = true := ((Gr.mapP_iff ltPl_ord _).1 h).1
theorem addR_of {l l' : List Bu} {b : Bu} {c : Nat} (h : AddP l b l' c) (hn : c ≠ 0 → l' = []) : AddR l b l' c := by
  rcases h with ⟨rfl, h⟩ | ⟨rfl, hm, hr, k, h1, h2, rfl⟩ | ⟨rfl, hm, hr, hb, rfl⟩ | ⟨rfl, hm, hr, y, hy, h1, h2⟩
  · exact .inl ⟨rfl, hn (by omega), h⟩
  · have hne : ∀ y ∈ l, plOf y ≠ plOf b := by
      intro y hy e
      rw [← List.take_append_drop k l, List.mem_append] at hy
      rcases hy with hy | hy
      · have := h1 y hy
        rw [e, ltPl_ord.irrefl] at this; cases this
      · have := h2 y hy
        rw [e, ltPl_ord.irrefl] at this; cases this
    refine .inr (.inr ⟨rfl, hm, hr, fun y hy e => absurd e (hne y hy), Gr.up_insert (map_up hm) h1 h2, fun x => ?_⟩)
    rw [Gr.mem_insert]
    constructor
    · rintro (h | h)
      · exact .inl h
      · exact .inr ⟨h, hne x h⟩
    · rintro (h | h)
      · exact .inl h
      · exact .inr h.1
  · have hu := map_up hm
    refine .inr (.inr ⟨rfl, hm, hr, fun y hy e => Gr.up_key ltPl_ord _ hu y hy b hb e, hu, fun x => ?_⟩)
    constructor
    · intro hx
      by_cases e : plOf x = plOf b
      · exact .inl (Gr.up_key ltPl_ord _ hu x hx b hb e)
      · exact .inr ⟨hx, e⟩
    · rintro (rfl | h)
      · exact hb
      · exact h.1
  · exact .inr (.inl ⟨rfl, hn (by omega), hm, hr, y, hy, h1, h2⟩)
theorem addR_one {l l1 l2 : List Bu} {b : Bu} {c1 c2 : Nat} (h1 : AddR l b l1 c1) (h2 : AddR l b l2 c2) : c1 = c2 ∧ l1 = l2 := by
  rcases h1 with ⟨rfl, rfl, h1⟩ | ⟨rfl, rfl, h1, h3, y, h4, h5, h6⟩ | ⟨rfl, h1, h3, h4, h5, h6⟩ <;> rcases h2 with ⟨rfl, rfl, g1⟩ | ⟨rfl, rfl, g1, g3, z, g4, g5, g6⟩ | ⟨rfl, g1, g3, g4, g5, g6⟩
  · exact ⟨rfl, rfl⟩
  · rcases h1 with h | h
    · exact absurd g1 h
    · rw [g3] at h; cases h
  · rcases h1 with h | h
    · exact absurd g1 h
    · rw [g3] at h; cases h
  · rcases g1 with h | h
    · exact absurd h1 h
    · rw [h3] at h; cases h
  · exact ⟨rfl, rfl⟩
  · exact absurd (g4 y h4 h5) h6
  · rcases g1 with h | h
    · exact absurd h1 h
    · rw [h3] at h; cases h
  · exact absurd (h4 z g4 g5) g6
  · exact ⟨rfl, Gr.up_unique ltPl_ord _ _ h5 g5 fun x => by rw [h6, g6]⟩
/-- what the document's Add has up to a place -/
structure AddI (l : List Bu) (b : Bu) (k : Nat) (put : Bool) (out : List Bu) : Prop where
  one : ∀ y ∈ l.take k, plOf y = plOf b → y = b
  nput : put = false → ∀ y ∈ l.take k, ltPl (plOf y) (plOf b) = true
  yput : put = true → ∃ y ∈ l.take k, ltPl (plOf y) (plOf b) = false
  up : Gr.Up plOf ltPl out
  mem : ∀ x, x ∈ out ↔ (put = true ∧ x = b) ∨ (x ∈ l.take k ∧ plOf x ≠ plOf b)
theorem AddI.zero (l : List Bu) (b : Bu) : AddI l b 0 false [] where
  one := by simp
  nput := by simp
  yput := by simp
  up := List.Pairwise.nil
  mem := by simp
theorem up_push {l : List Bu} {x : Bu} (h : Gr.Up plOf ltPl l) (hx : ∀ y ∈ l, ltPl (plOf y) (plOf x) = true) : Gr.Up plOf ltPl (l ++ [x]) := by
  unfold Gr.Up at *
  rw [List.pairwise_append]
  exact ⟨h, List.pairwise_singleton _ _, fun a ha c hc => by rw [List.mem_singleton] at hc; subst hc; exact hx a ha⟩
theorem AddI.next {l out : List Bu} {b y : Bu} {k : Nat} {put : Bool} (h : AddI l b k put out) (hu : Gr.Up plOf ltPl l) (hy : l[k]? = some y) (hok : plOf y = plOf b → y = b) :
    AddI l b (k + 1) (put || !ltPl (plOf y) (plOf b)) ((if (!put && !ltPl (plOf y) (plOf b)) = true then out ++ [b] else out) ++ (if plOf y = plOf b then [] else [y])) := by
  have ht : ∀ x, x ∈ l.take (k + 1) ↔ x ∈ l.take k ∨ x = y := fun x => by rw [List.take_add_one, hy]; simp
  have hlt : ∀ x ∈ l.take k, ltPl (plOf x) (plOf y) = true := by
    intro x hx
    obtain ⟨i, hi, rfl⟩ := List.getElem_of_mem hx
    rw [List.length_take] at hi
    obtain ⟨hk, rfl⟩ := List.getElem?_eq_some_iff.1 hy
    rw [List.getElem_take]
    exact List.pairwise_iff_getElem.1 hu i k (by omega) hk (by omega)
  obtain ⟨p', hp'⟩ : ∃ p', (put || !ltPl (plOf y) (plOf b)) = p' := ⟨_, rfl⟩
  obtain ⟨o1, ho1⟩ : ∃ o1, (if (!put && !ltPl (plOf y) (plOf b)) = true then out ++ [b] else out) = o1 := ⟨_, rfl⟩
  rw [hp', ho1]
  have hb : p' = true → ltPl (plOf y) (plOf b) = true → False := by
    intro e1 e2
    rw [e2] at hp'
    have e3 : put = true := by simpa [e1] using hp'
    obtain ⟨z, hz, hzb⟩ := h.yput e3
    rw [ltPl_ord.trans _ _ _ (hlt z hz) e2] at hzb
    cases hzb
  have hup : Gr.Up plOf ltPl o1 ∧ ∀ x, x ∈ o1 ↔ (p' = true ∧ x = b) ∨ (x ∈ l.take k ∧ plOf x ≠ plOf b) := by
    by_cases hc : (!put && !ltPl (plOf y) (plOf b)) = true
    · rw [if_pos hc] at ho1
      subst ho1
      simp only [Bool.and_eq_true, Bool.not_eq_true'] at hc
      have e : p' = true := by rw [← hp', hc.2]; simp
      have hn := h.nput hc.1
      refine ⟨up_push h.up fun x hx => ?_, fun x => ?_⟩
      · rcases (h.mem x).1 hx with ⟨h1, _⟩ | ⟨h1, _⟩
        · rw [hc.1] at h1; cases h1
        · exact hn x h1
      · rw [List.mem_append, List.mem_singleton, h.mem x, e, hc.1]
        constructor
        · rintro ((⟨h1, _⟩ | h1) | h1)
          · cases h1
          · exact .inr h1
          · exact .inl ⟨rfl, h1⟩
        · rintro (⟨_, h1⟩ | h1)
          · exact .inr h1
          · exact .inl (.inr h1)
    · rw [if_neg hc] at ho1
      subst ho1
      have e : p' = put := by
        rw [← hp']
        cases put
        · simp only [Bool.not_false, Bool.true_and] at hc
          simp only [Bool.false_or]
          exact Bool.eq_false_iff.2 hc
        · rfl
      rw [e]
      exact ⟨h.up, h.mem⟩
  refine ⟨?_, ?_, ?_, ?_, ?_⟩
  · intro x hx e
    rcases (ht x).1 hx with h1 | rfl
    · exact h.one x h1 e
    · exact hok e
  · intro e x hx
    rw [e, Bool.or_eq_false_iff, Bool.not_eq_false'] at hp'
    rcases (ht x).1 hx with h1 | rfl
    · exact h.nput hp'.1 x h1
    · exact hp'.2
  · intro e
    rw [e, Bool.or_eq_true, Bool.not_eq_true'] at hp'
    rcases hp' with h1 | h1
    · obtain ⟨z, hz, hzb⟩ := h.yput h1
      exact ⟨z, (ht z).2 (.inl hz), hzb⟩
    · exact ⟨y, (ht y).2 (.inr rfl), h1⟩
  · by_cases e : plOf y = plOf b
    · rw [if_pos e, List.append_nil]; exact hup.1
    · rw [if_neg e]
      refine up_push hup.1 fun x hx => ?_
      rcases (hup.2 x).1 hx with ⟨h1, rfl⟩ | ⟨h1, _⟩
      · refine ltPl_total _ _ (fun h2 => e h2) ?_
        cases h3 : ltPl (plOf y) (plOf x) with
        | false => rfl
        | true => exact absurd (hb h1 h3) id
      · exact hlt x h1
  · intro x
    by_cases e : plOf y = plOf b
    · rw [if_pos e, List.append_nil, hup.2 x, ht x]
      constructor
      · rintro (h1 | ⟨h1, h2⟩)
        · exact .inl h1
        · exact .inr ⟨.inl h1, h2⟩
      · rintro (h1 | ⟨h1 | rfl, h2⟩)
        · exact .inl h1
        · exact .inr ⟨h1, h2⟩
        · exact absurd e h2
    · rw [if_neg e, List.mem_append, List.mem_singleton, hup.2 x, ht x]
      constructor
      · rintro ((h1 | ⟨h1, h2⟩) | rfl)
        · exact .inl h1
        · exact .inr ⟨.inl h1, h2⟩
        · exact .inr ⟨.inr rfl, e⟩
      · rintro (h1 | ⟨h1 | rfl, h2⟩)
        · exact .inl (.inl h1)
        · exact .inl (.inr ⟨h1, h2⟩)
        · exact .inr rfl
theorem AddI.done {l out : List Bu} {b : Bu} {put : Bool} (h : AddI l b l.length put out) (hm : MapB l) (hr : rightBu b = true) : AddR l b (if put = true then out else out ++ [b]) 0 := by
  have h1 := h.one
  have h2 := h.nput
  have h5 := h.mem
  rw [List.take_length] at h1 h2
  simp only [List.take_length] at h5
  cases put with
  | true =>
    rw [if_pos rfl]
    refine .inr (.inr ⟨rfl, hm, hr, h1, h.up, fun x => ?_⟩)
    rw [h5 x]
    simp
  | false =>
    rw [if_neg (by simp)]
    refine .inr (.inr ⟨rfl, hm, hr, h1, up_push h.up fun x hx => ?_, fun x => ?_⟩)
    · rcases (h5 x).1 hx with ⟨e, _⟩ | ⟨e, _⟩
      · cases e
      · exact h2 rfl x e
    · rw [List.mem_append, List.mem_singleton, h5 x]
      constructor
      · rintro ((⟨e, _⟩ | e) | e)
        · cases e
        · exact .inr e
        · exact .inl e
      · rintro (e | e)
        · exact .inr e
        · exact .inl (.inr e)
end Go.Proofs.YtniibcgomnjfgaaGreat
