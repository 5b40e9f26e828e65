/- resolve.Paths. (Several texts in one.) -/
import Derived.Test.YtdebbmembkbniaaGreatTBH
import Derived.Test.YtdebbmembkbniaaGreatTAA
import Derived.Test.YtdebbmembkbniaaGreatTAO
import Derived.Test.YtdebbmembkbniaaGreatTAD
import Derived.Test.YtdebbmembkbniaaGreatTAC
/-! spenceref03.Sorted: the paths once, rising. -/
namespace Go.Proofs.YtdebbmembkbniaaGreat
open Go.RowKit Pl Go.Mp Go.Agg
theorem own_elems {w : World} {base : Nat} {v : Value} {D : List P20} (h : w.ownsRow base 48 21 v D.length (flat D)) : ElemsAt w v D := Own.slice (E := E20) h
theorem own_len {w : World} {base n : Nat} {e : TypeId} {sz : Nat} {v : Value} {xs : List Value} (h : w.ownsRow base e sz v n xs) : lenOf v = n := by
 obtain ⟨_, ⟨rfl, h0⟩ | ⟨g, cap, cur, rfl, _⟩⟩ := h
 ·simp [lenOf, h0]
 ·rfl
theorem own_block {w : World} {base n : Nat} {e : TypeId} {sz : Nat} {v : Value} {xs : List Value} (h : w.ownsRow base e sz v n xs) : ∀ k, v.ownBlock = some k → base ≤ k := by
 obtain ⟨_, ⟨rfl, h0⟩ | ⟨g, cap, cur, rfl, hg, _⟩⟩ := h
 ·intro k hk; simp [Value.ownBlock] at hk
 ·intro k hk
  obtain rfl : g = k := by simpa [Value.ownBlock] using hk
  exact hg
theorem refLess20 (p q : P20) (w : World) (b : Bool) (h : lt20 p q = b) :
  Calls Tryz.prog 90 #[.agg (pC p.1.1 p.1.2), .agg (pC q.1.1 q.1.2)] w fun e w' => e = .returned (.bool b) ∧ Below w.heap.size w w' := by
 subst h
 exact refLess_any p.1.1 p.1.2 q.1.1 q.1.2 p.2 q.2 w
theorem piC_size (b : Option P20) : (piC b).size = 21 := by
 cases b with
 | none => rfl
 | some b => rw [piC, pC_size, b.2]
theorem piC_info (b : Option P20) : (Tryz.prog.info? 48).map (·.size) = some (piC b).size := by
 cases b with
 | none => exact pC_info _ _ z20_length
 | some b => exact pC_info _ _ b.2
theorem i64_pred (n : Nat) (h0 : 0 < n) (h : n ≤ 1048576) : IntKind.i64.wrap ((n : Int) - 1) = ((n - 1 : Nat) : Int) := by
 rw [IntKind.wrap_i64]; omega
set_option maxRecDepth 100000 in
set_option maxHeartbeats 4000000 in
theorem refSorted_any (v : Value) (l : List P20) (hlen : l.length ≤ 1048576) (w : World) (he : ElemsAt w v l) :
  Calls Tryz.prog 57 #[v] w fun e w' => ∃ v R, e = .returned v ∧ Rising R ∧ (∀ x, x ∈ R ↔ x ∈ l) ∧ ElemsAt w' v R ∧ Below w.heap.size w w' := by
 have hlv := fun W => elems_len he W
 have HE := Lib.hid he
 clear he
 go_enter Tryz.func57, Tryz.ntmps57
 go_wp2_with fail
 go_loopw [3] (fun out wr => ∃ D : List P20, wr.ownsRow w.heap.size 48 21 out D.length (flat D) ∧ Told l D ∧ Below w.heap.size w wr) (fun out _ => l.length + 1 - lenOf out)
 case atStart => exact ⟨[], ⟨rfl, .inl ⟨rfl, rfl⟩⟩, Told.start l, Below.refl _ _⟩
 case round =>
  obtain ⟨wo, rfl⟩ : ∃ wo : World, wo = wr := ⟨_, rfl⟩
  obtain ⟨D, hown, htold, hw⟩ := hrel
  have hle := htold.length
  have hlo := fun W => elems_len (own_elems hown) W
  have HOWN := Lib.hid hown
  have HT := Lib.hid htold
  clear hown htold
  go_wp2_with (first | (with_reducible refine Agg.wpList_zero rfl 48 rfl (pC z20 []) pC_zero ?_; intro g w1 hb hx hg))
  have hgw := hb.lt
  go_loopw [4, 6] (fun f i w2 => ∃ (k : Nat) (fb : Bool), k ≤ l.length ∧ i = .int .i64 k ∧ f = .bool fb ∧ fb = (pick D (l.take k)).isSome ∧ Blk w2 g 48 (piC (pick D (l.take k))) ∧ Below wo.heap.size wo w2)
   (fun _ i _ => l.length - (intOf i).toNat)
  case atStart => exact ⟨0, false, by omega, rfl, rfl, rfl, hb, hx⟩
  case round =>
   clear hb hx
   obtain ⟨w2, rfl⟩ : ∃ w2 : World, w2 = wr := ⟨_, rfl⟩
   obtain ⟨k, fb, hk, rfl, rfl, hfb, hb, hx⟩ := hrel
   by_cases hlt : k < l.length
   ·obtain ⟨x, hxk⟩ : ∃ x, l[k]? = some x := ⟨_, List.getElem?_eq_getElem hlt⟩
    obtain ⟨p, hadr, hld, _⟩ := elem_at ((HE.out.below hw).below hx) k x hxk
    have hsn : pick D (l.take (k + 1)) = nb D (pick D (l.take k)) x := by rw [List.take_add_one, hxk]; exact pick_snoc _ _ _
    have HSN := Lib.hid hsn
    have HXK := Lib.hid hxk
    clear hsn hxk
    have hbl : LoadsL Tryz.prog w2 48 (some ⟨g, 0, none⟩) (.agg (piC (pick D (l.take k)))) := hb.loads pC_under rfl (piC_info _)
    generalize hpk : pick D (l.take k) = b at *
    have HFB := Lib.hid hfb
    clear hfb
    have HPK := Lib.hid hpk
    clear hpk
    have HL := Lib.hid hld
    have HB := Lib.hid hbl
    clear hld hbl
    rcases List.eq_nil_or_concat D with hD | ⟨D', y, hD⟩
    ·have HAB : Hid (above D x = true) := Lib.hid (by rw [hD]; rfl)
     have hq : ((D.length : Int) == 0) = true := by simp [hD]
     have HD := Lib.hid hD
     clear hD
     rcases b with _ | c
     ·obtain rfl : fb = false := by simpa using HFB.out
      go_wp2_with fail
      refine wp_region_later_lit (by kernel_rfl) (by kernel_rfl) ?_
      repeat (first | go_big_quiet_step (fail))
      refine wpQuiet_nil ?_
      intro _ hw'
      obtain ⟨x1, rfl⟩ := hw'
      have HL1 := Lib.hid (HL.out.below x1.h)
      have HB1 := Lib.hid (HB.out.below x1.h)
      have hx1 := belowThen hx (Nat.le_refl _) x1.h
      have hb1 := hb.below x1.h
      generalize x1.w = w3 at *
      go_wp2_with fail
      refine wp_region_later_lit (by kernel_rfl) (by kernel_rfl) ?_
      repeat (first | go_big_quiet_step (fail))
      refine wpQuiet_nil ?_
      intro _ hw'
      obtain ⟨x2, rfl⟩ := hw'
      have HL2 := Lib.hid (HL1.out.below x2.h)
      have hx2 := belowThen hx1 (Nat.le_refl _) x2.h
      have hb2 := hb1.below x2.h
      generalize x2.w = w4 at *
      go_wp2_with (first | (with_reducible refine wpList_loadL HL2.out (by kernel_rfl) _ rfl rfl ?_) | (with_reducible refine Agg.wpList_put rfl rfl 48 _ _ rfl g (pC x.1.1 x.1.2) _ rfl rfl hb2 (pC_info _ _ x.2) (by rw [piC_size, pC_size, x.2]) (pC_one _ _) ?_; intro w5 hb5 hx5 _ _))
      go_roundw
      case rel => exact ⟨k + 1, _, by omega, by go_num, rfl, by rw [HSN.out, nb_first _ _ HAB.out]; rfl, by rw [HSN.out, nb_first _ _ HAB.out]; exact hb5, hx2.trans (hx5.mono hg)⟩
      case measure => simp [intOf]; omega
     ·obtain rfl : fb = true := by simpa using HFB.out
      cases hlc : lt20 x c with
      | true =>
       go_wp2_with fail
       refine wp_region_later_lit (by kernel_rfl) (by kernel_rfl) ?_
       repeat (first | go_big_quiet_step (fail))
       refine wpQuiet_nil ?_
       intro _ hw'
       obtain ⟨x1, rfl⟩ := hw'
       have HL1 := Lib.hid (HL.out.below x1.h)
       have HB1 := Lib.hid (HB.out.below x1.h)
       have hx1 := belowThen hx (Nat.le_refl _) x1.h
       have hb1 := hb.below x1.h
       generalize x1.w = w3 at *
       go_wp2_with fail
       refine wp_region_later_lit (by kernel_rfl) (by kernel_rfl) ?_
       repeat (first | ((first | (with_reducible refine wpQuiet_loadL HL1.out (by kernel_rfl) _ rfl rfl ?_) | (with_reducible refine wpQuiet_loadL HB1.out (by kernel_rfl) _ rfl rfl ?_)); simp only [Act.put, List.setIfInBounds_toArray, List.set_cons_succ, List.set_cons_zero]) | go_big_quiet_step ((go_at_call 90; exact Calls.later (refLess20 x c _ true hlc))))
       refine wpQuiet_nil ?_
       intro _ hw'
       obtain ⟨x2, rfl⟩ := hw'
       have HL2 := Lib.hid (HL1.out.below x2.h)
       have hx2 := belowThen hx1 (Nat.le_refl _) x2.h
       have hb2 := hb1.below x2.h
       generalize x2.w = w4 at *
       go_wp2_with (first | (with_reducible refine wpList_loadL HL2.out (by kernel_rfl) _ rfl rfl ?_) | (with_reducible refine Agg.wpList_put rfl rfl 48 _ _ rfl g (pC x.1.1 x.1.2) _ rfl rfl hb2 (pC_info _ _ x.2) (by rw [piC_size, pC_size, x.2]) (pC_one _ _) ?_; intro w5 hb5 hx5 _ _))
       go_roundw
       case rel => exact ⟨k + 1, _, by omega, by go_num, rfl, by rw [HSN.out, nb_less _ _ _ HAB.out hlc]; rfl, by rw [HSN.out, nb_less _ _ _ HAB.out hlc]; exact hb5, hx2.trans (hx5.mono hg)⟩
       case measure => simp [intOf]; omega
      | false =>
       go_wp2_with fail
       refine wp_region_later_lit (by kernel_rfl) (by kernel_rfl) ?_
       repeat (first | go_big_quiet_step (fail))
       refine wpQuiet_nil ?_
       intro _ hw'
       obtain ⟨x1, rfl⟩ := hw'
       have HL1 := Lib.hid (HL.out.below x1.h)
       have HB1 := Lib.hid (HB.out.below x1.h)
       have hx1 := belowThen hx (Nat.le_refl _) x1.h
       have hb1 := hb.below x1.h
       generalize x1.w = w3 at *
       go_wp2_with fail
       refine wp_region_later_lit (by kernel_rfl) (by kernel_rfl) ?_
       repeat (first | ((first | (with_reducible refine wpQuiet_loadL HL1.out (by kernel_rfl) _ rfl rfl ?_) | (with_reducible refine wpQuiet_loadL HB1.out (by kernel_rfl) _ rfl rfl ?_)); simp only [Act.put, List.setIfInBounds_toArray, List.set_cons_succ, List.set_cons_zero]) | go_big_quiet_step ((go_at_call 90; exact Calls.later (refLess20 x c _ false hlc))))
       refine wpQuiet_nil ?_
       intro _ hw'
       obtain ⟨x2, rfl⟩ := hw'
       have HL2 := Lib.hid (HL1.out.below x2.h)
       have hx2 := belowThen hx1 (Nat.le_refl _) x2.h
       have hb2 := hb1.below x2.h
       generalize x2.w = w4 at *
       go_wp2_with fail
       go_roundw
       case rel => exact ⟨k + 1, _, by omega, by go_num, rfl, by rw [HSN.out, nb_more _ _ _ hlc]; rfl, by rw [HSN.out, nb_more _ _ _ hlc]; exact hb2, hx2⟩
       case measure => simp [intOf]; omega
    ·have hab0 : above D x = lt20 y x := by rw [hD, List.concat_eq_append]; exact above_snoc _ _ _
     have hm : 0 < D.length := by rw [hD]; simp
     have hmm : D.length - 1 < D.length := by omega
     have hyk : D[D.length - 1]? = some y := by rw [hD]; simp
     have hq : ((D.length : Int) == 0) = false := by rw [beq_eq_false_iff_ne]; omega
     have hwr := i64_pred D.length hm (by omega)
     obtain ⟨py, hadry, hldy, _⟩ := elem_at (own_elems HOWN.out) (D.length - 1) y hyk
     have HLY := Lib.hid (hldy.below hx)
     clear hldy hyk
     have HD := Lib.hid hD
     clear hD
     cases hab : lt20 y x with
     | false =>
      have HAB := Lib.hid (hab0.trans hab)
      clear hab0
      go_wp2_with fail
      refine wp_region_later_lit (by kernel_rfl) (by kernel_rfl) ?_
      repeat (first | ((first | (with_reducible refine wpQuiet_loadL HLY.out (by kernel_rfl) _ rfl rfl ?_) | (with_reducible refine wpQuiet_loadL HL.out (by kernel_rfl) _ rfl rfl ?_)); simp only [Act.put, List.setIfInBounds_toArray, List.set_cons_succ, List.set_cons_zero]) | go_big_quiet_step ((go_at_call 90; exact Calls.later (refLess20 y x _ false hab))))
      refine wpQuiet_nil ?_
      intro _ hw'
      obtain ⟨x1, rfl⟩ := hw'
      have HL1 := Lib.hid (HL.out.below x1.h)
      have HB1 := Lib.hid (HB.out.below x1.h)
      have hx1 := belowThen hx (Nat.le_refl _) x1.h
      have hb1 := hb.below x1.h
      generalize x1.w = w3 at *
      go_wp2_with fail
      refine wp_region_later_lit (by kernel_rfl) (by kernel_rfl) ?_
      repeat (first | go_big_quiet_step (fail))
      refine wpQuiet_nil ?_
      intro _ hw'
      obtain ⟨x2, rfl⟩ := hw'
      have hx2 := belowThen hx1 (Nat.le_refl _) x2.h
      have hb2 := hb1.below x2.h
      generalize x2.w = w4 at *
      go_wp2_with fail
      go_roundw
      case rel => exact ⟨k + 1, _, by omega, by go_num, rfl, by rw [HSN.out, nb_no _ _ _ HAB.out]; exact HFB.out, by rw [HSN.out, nb_no _ _ _ HAB.out]; exact hb2, hx2⟩
      case measure => simp [intOf]; omega
     | true =>
      have HAB := Lib.hid (hab0.trans hab)
      clear hab0
      rcases b with _ | c
      ·obtain rfl : fb = false := by simpa using HFB.out
       go_wp2_with fail
       refine wp_region_later_lit (by kernel_rfl) (by kernel_rfl) ?_
       repeat (first | ((first | (with_reducible refine wpQuiet_loadL HLY.out (by kernel_rfl) _ rfl rfl ?_) | (with_reducible refine wpQuiet_loadL HL.out (by kernel_rfl) _ rfl rfl ?_)); simp only [Act.put, List.setIfInBounds_toArray, List.set_cons_succ, List.set_cons_zero]) | go_big_quiet_step ((go_at_call 90; exact Calls.later (refLess20 y x _ true hab))))
       refine wpQuiet_nil ?_
       intro _ hw'
       obtain ⟨x1, rfl⟩ := hw'
       have HL1 := Lib.hid (HL.out.below x1.h)
       have HB1 := Lib.hid (HB.out.below x1.h)
       have hx1 := belowThen hx (Nat.le_refl _) x1.h
       have hb1 := hb.below x1.h
       generalize x1.w = w3 at *
       go_wp2_with fail
       refine wp_region_later_lit (by kernel_rfl) (by kernel_rfl) ?_
       repeat (first | go_big_quiet_step (fail))
       refine wpQuiet_nil ?_
       intro _ hw'
       obtain ⟨x2, rfl⟩ := hw'
       have HL2 := Lib.hid (HL1.out.below x2.h)
       have hx2 := belowThen hx1 (Nat.le_refl _) x2.h
       have hb2 := hb1.below x2.h
       generalize x2.w = w4 at *
       go_wp2_with (first | (with_reducible refine wpList_loadL HL2.out (by kernel_rfl) _ rfl rfl ?_) | (with_reducible refine Agg.wpList_put rfl rfl 48 _ _ rfl g (pC x.1.1 x.1.2) _ rfl rfl hb2 (pC_info _ _ x.2) (by rw [piC_size, pC_size, x.2]) (pC_one _ _) ?_; intro w5 hb5 hx5 _ _))
       go_roundw
       case rel => exact ⟨k + 1, _, by omega, by go_num, rfl, by rw [HSN.out, nb_first _ _ HAB.out]; rfl, by rw [HSN.out, nb_first _ _ HAB.out]; exact hb5, hx2.trans (hx5.mono hg)⟩
       case measure => simp [intOf]; omega
      ·obtain rfl : fb = true := by simpa using HFB.out
       cases hlc : lt20 x c with
       | true =>
        go_wp2_with fail
        refine wp_region_later_lit (by kernel_rfl) (by kernel_rfl) ?_
        repeat (first | ((first | (with_reducible refine wpQuiet_loadL HLY.out (by kernel_rfl) _ rfl rfl ?_) | (with_reducible refine wpQuiet_loadL HL.out (by kernel_rfl) _ rfl rfl ?_)); simp only [Act.put, List.setIfInBounds_toArray, List.set_cons_succ, List.set_cons_zero]) | go_big_quiet_step ((go_at_call 90; exact Calls.later (refLess20 y x _ true hab))))
        refine wpQuiet_nil ?_
        intro _ hw'
        obtain ⟨x1, rfl⟩ := hw'
        have HL1 := Lib.hid (HL.out.below x1.h)
        have HB1 := Lib.hid (HB.out.below x1.h)
        have hx1 := belowThen hx (Nat.le_refl _) x1.h
        have hb1 := hb.below x1.h
        generalize x1.w = w3 at *
        go_wp2_with fail
        refine wp_region_later_lit (by kernel_rfl) (by kernel_rfl) ?_
        repeat (first | ((first | (with_reducible refine wpQuiet_loadL HL1.out (by kernel_rfl) _ rfl rfl ?_) | (with_reducible refine wpQuiet_loadL HB1.out (by kernel_rfl) _ rfl rfl ?_)); simp only [Act.put, List.setIfInBounds_toArray, List.set_cons_succ, List.set_cons_zero]) | go_big_quiet_step ((go_at_call 90; exact Calls.later (refLess20 x c _ true hlc))))
        refine wpQuiet_nil ?_
        intro _ hw'
        obtain ⟨x2, rfl⟩ := hw'
        have HL2 := Lib.hid (HL1.out.below x2.h)
        have hx2 := belowThen hx1 (Nat.le_refl _) x2.h
        have hb2 := hb1.below x2.h
        generalize x2.w = w4 at *
        go_wp2_with (first | (with_reducible refine wpList_loadL HL2.out (by kernel_rfl) _ rfl rfl ?_) | (with_reducible refine Agg.wpList_put rfl rfl 48 _ _ rfl g (pC x.1.1 x.1.2) _ rfl rfl hb2 (pC_info _ _ x.2) (by rw [piC_size, pC_size, x.2]) (pC_one _ _) ?_; intro w5 hb5 hx5 _ _))
        go_roundw
        case rel => exact ⟨k + 1, _, by omega, by go_num, rfl, by rw [HSN.out, nb_less _ _ _ HAB.out hlc]; rfl, by rw [HSN.out, nb_less _ _ _ HAB.out hlc]; exact hb5, hx2.trans (hx5.mono hg)⟩
        case measure => simp [intOf]; omega
       | false =>
        go_wp2_with fail
        refine wp_region_later_lit (by kernel_rfl) (by kernel_rfl) ?_
        repeat (first | ((first | (with_reducible refine wpQuiet_loadL HLY.out (by kernel_rfl) _ rfl rfl ?_) | (with_reducible refine wpQuiet_loadL HL.out (by kernel_rfl) _ rfl rfl ?_)); simp only [Act.put, List.setIfInBounds_toArray, List.set_cons_succ, List.set_cons_zero]) | go_big_quiet_step ((go_at_call 90; exact Calls.later (refLess20 y x _ true hab))))
        refine wpQuiet_nil ?_
        intro _ hw'
        obtain ⟨x1, rfl⟩ := hw'
        have HL1 := Lib.hid (HL.out.below x1.h)
        have HB1 := Lib.hid (HB.out.below x1.h)
        have hx1 := belowThen hx (Nat.le_refl _) x1.h
        have hb1 := hb.below x1.h
        generalize x1.w = w3 at *
        go_wp2_with fail
        refine wp_region_later_lit (by kernel_rfl) (by kernel_rfl) ?_
        repeat (first | ((first | (with_reducible refine wpQuiet_loadL HL1.out (by kernel_rfl) _ rfl rfl ?_) | (with_reducible refine wpQuiet_loadL HB1.out (by kernel_rfl) _ rfl rfl ?_)); simp only [Act.put, List.setIfInBounds_toArray, List.set_cons_succ, List.set_cons_zero]) | go_big_quiet_step ((go_at_call 90; exact Calls.later (refLess20 x c _ false hlc))))
        refine wpQuiet_nil ?_
        intro _ hw'
        obtain ⟨x2, rfl⟩ := hw'
        have HL2 := Lib.hid (HL1.out.below x2.h)
        have hx2 := belowThen hx1 (Nat.le_refl _) x2.h
        have hb2 := hb1.below x2.h
        generalize x2.w = w4 at *
        go_wp2_with fail
        go_roundw
        case rel => exact ⟨k + 1, _, by omega, by go_num, rfl, by rw [HSN.out, nb_more _ _ _ hlc]; rfl, by rw [HSN.out, nb_more _ _ _ hlc]; exact hb2, hx2⟩
        case measure => simp [intOf]; omega
   ·obtain rfl : k = l.length := by omega
    rw [List.take_length] at hb hfb
    cases hpk : pick D l with
    | none =>
     obtain rfl : fb = false := by simpa [hpk] using hfb
     have HPK := Lib.hid hpk
     clear hpk hfb
     go_wp2_with fail
     go_ret
     exact ⟨_, D, rfl, HT.out.rise, HT.out.done HPK.out, (own_elems HOWN.out).below hx, hw.trans (hx.mono hw.size)⟩
    | some b =>
     obtain rfl : fb = true := by simpa [hpk] using hfb
     have HPK := Lib.hid hpk
     rw [hpk] at hb
     clear hpk hfb
     have hbl : LoadsL Tryz.prog w2 48 (some ⟨g, 0, none⟩) (.agg (pC b.1.1 b.1.2)) := hb.loads pC_under rfl (piC_info (some b))
     have HB := Lib.hid hbl
     clear hbl
     obtain ⟨ie, hie0⟩ := info_path
     have hie := Lib.hid hie0
     clear hie0
     have hzc : (Value.agg (pC z20 [])).cells.size = 21 := by simp [Value.cells, pC_size, z20_length]
     have hmx : D.length + 1 ≤ maxLen := by simp only [maxLen]; omega
     have hby : (D.length + 1) * 40 ≤ 140737488355328 := by omega
     have hown2 := own_below (own_below HOWN.out hx) ((Below.refl _ _).alloc (Nat.le_refl w2.heap.size) (.cells (pC b.1.1 b.1.2) 48))
     have HO2 := Lib.hid hown2
     clear hown2
     go_wp2_with (first | (with_reducible refine wpList_loadL HB.out (by kernel_rfl) _ rfl rfl ?_) | (with_reducible refine Agg.wpList_buildSlice1 55 1 0 _ rfl rfl (pV b) rfl _ _ (slice_one b _) ?_) | (at_builtin; refine walk_stop ?_))
     refine ⟨?_, trivial⟩
     refine wpList_append_own _ rfl _ _ 55 rfl w.heap.size 48 ie _ 21 40 (by kernel_rfl) hie.out.1 hie.out.2.1 hie.out.2.2.1 hie.out.2.2.2 hzc (by decide) _ _ _ rfl HO2.out ⟨w2.heap.size, 0, none⟩ 1 1 (cells20 b) rfl (cells20_length b) (new_cells w2 b) (cells20_one b) hmx hby ?hbs ?_
     case hbs => have h6 := hx.size; have h7 := hw.size; simp only [World.size_alloc]; omega
     intro v5 w5 ho5 hg5 _
     have hl5 := own_len ho5
     have hl4 := own_len HOWN.out
     go_wp2_with fail
     go_roundw
     case rel =>
      refine ⟨D ++ [b], ?_, HT.out.next HPK.out, ?_⟩
      ·rw [flat_append, List.length_append]
       simpa [flat] using ho5
      ·have hb4 : Below w.heap.size w (w2.alloc (.cells (pC b.1.1 b.1.2) 48)) := (hw.trans (hx.mono hw.size)).alloc (Nat.le_trans hw.size hx.size) _
       exact hb4.grown hg5 hb4.size (own_block HO2.out)
     case measure => rw [hl5, hl4]; omega
end Go.Proofs.YtdebbmembkbniaaGreat
/-! spenceref20.Paths, resolve.Paths. -/
namespace Go.Agg
open Go.RowKit
variable {P : Program} {ops : Array Oper} {rest : List Oper} {o : Oper} {a : Act} {w : World} {Q : Exit → Act → World → Prop}
theorem wpList_zero1 (hg : o.guard = none) (ty : TypeId) (ho : o.op = .alloc ty) (v : Value) (hv : v.cells = #[v]) (hz : (P.info? ty).map (·.zero) = some (some v))
  (h : ∀ g w', Blk w' g ty #[v] → Below w.heap.size w w' → w.heap.size ≤ g → wpList P ops Q rest (a.put o.dst (.pointer (some ⟨g, 0, none⟩))) w') : wpList P ops Q (o :: rest) a w := by
 refine wpList_val hg (v := .pointer (some ⟨w.heap.size, 0, none⟩)) (w' := w.alloc (.cells #[v] ty)) ?_ (h _ _ (Blk.new w ty #[v]) ((Below.refl _ _).alloc (Nat.le_refl _) _) (Nat.le_refl _))
 cases hq : P.info? ty with
 | none => simp [hq] at hz
 | some i =>
  have hs : i.zero = some v := by simpa [hq] using hz
  simp [execOp, ho, Instr.alloc, zeroValue, typeInfo, hq, hs, newVar, newRow, hv]
end Go.Agg
namespace Go.Proofs.YtdebbmembkbniaaGreat
open Go.RowKit Pl Go.Agg
theorem map_succR {l : List Rin} {k : Nat} {x : Rin} (h : l[k]? = some x) : (l.take (k + 1)).map (·.2) = (l.take k).map (·.2) ++ [x.2] := by
 rw [List.take_add_one, h, List.map_append]; rfl
set_option maxRecDepth 100000 in
set_option maxHeartbeats 8000000 in
theorem rfPaths_any (v : Value) (r : Rv) (hb : r.2.1.length ≤ 1048576) (w : World) (h : RfAt w v r) :
  Calls Tryz.prog 24 #[v] w fun e w' => ∃ v' R, e = .returned v' ∧ Rising R ∧ (∀ x, x ∈ R ↔ x ∈ r.2.1.map (·.2)) ∧ ElemsAt w' v' R ∧ Below w.heap.size w w' := by
 obtain ⟨vi, vr, rfl, hvi, hvr⟩ := h
 have hli := rfs_len hvi
 have HV := Lib.hid hvi
 clear hvi hvr
 go_enter Tryz.func24, Tryz.ntmps24
 go_wp2_with (first | (with_reducible refine wpList_box rfl 36 _ rfl (#[.string ⟨r.1.toArray⟩, vi, vr]) rfl ?_; intro g1 w1 hb hx1 hg; have HX1 := Lib.hid hx1; have HL1 := Lib.hid (RfB.of_blk hb); clear hb hx1 hg))
 go_loopw [3, 4] (fun t i wr => ∃ k : Nat, k ≤ r.2.1.length ∧ i = .int .i64 (k : Int) ∧ Agg.Own E20 w1.heap.size wr t ((r.2.1.take k).map (·.2)) ∧ Below w1.heap.size w1 wr) (fun _ i _ => r.2.1.length - (intOf i).toNat)
 case atStart => exact ⟨0, by omega, rfl, Agg.Own.nil _ _ _, Below.refl _ _⟩
 case round =>
  obtain ⟨w2, rfl⟩ : ∃ y : World, y = wr := ⟨_, rfl⟩
  obtain ⟨k, hk, rfl, ho, hx⟩ := hrel
  have HL2 := Lib.hid (HL1.out.below hx)
  have HO := Lib.hid ho
  have HX := Lib.hid hx
  have hsz := hx.size
  by_cases hlt : k < r.2.1.length
  ·have hd1 : decide (k < r.2.1.length) = true := by simpa using hlt
   obtain ⟨x, hxk⟩ : ∃ x, r.2.1[k]? = some x := ⟨_, List.getElem?_eq_getElem hlt⟩
   obtain ⟨p, hadr, _, hle⟩ := rf_at ((HV.out.below HX1.out).below hx) k x hxk
   have HE := Lib.hid hle
   have HMS := Lib.hid (map_succR hxk)
   have h63 : ((r.2.1.take k).map (·.2)).length + [x.2].length ≤ 1099511627776 / 8 := by rw [List.length_map, List.length_take]; simp; omega
   clear ho hx hle hxk
   go_wp2_with (first | (with_reducible refine wpList_loadL HL2.out.inp rfl _ rfl rfl ?_) | (with_reducible refine wpList_loadL HE.out.path rfl _ rfl rfl ?_) | (refine wpList_push (E := E20) (base := w1.heap.size) rfl rfl 19 rfl _ rfl _ rfl x.2 rfl (fun _ => rfl) (by first | (simp; done) | simp [Act.put]) HO.out h63 (by decide) hsz ?_; intro vz vg wg hog hpg; have HOg := Lib.hid hog; have HXg := Lib.hid (HX.out.trans (hpg.below w1.heap.size (Nat.le_refl _) hsz)); clear hog hpg))
   go_roundw
   case rel => exact ⟨k + 1, by omega, by go_num, by rw [HMS.out]; exact HOg.out, HXg.out⟩
   case measure => simp [intOf]; omega
  ·obtain rfl : k = r.2.1.length := by omega
   have hd1 : decide (r.2.1.length < r.2.1.length) = false := by simp
   rw [List.take_length] at ho
   have HO2 := Lib.hid ho
   clear ho hx
   go_wp2_with (first | (with_reducible refine wpList_loadL HL2.out.inp rfl _ rfl rfl ?_))
   refine (refSorted_any _ (r.2.1.map (·.2)) (by rw [List.length_map]; exact hb) w2 HO2.out.slice).mono ?_
   rintro e w3 ⟨v3, R, rfl, h1, h2, h3, h4⟩
   have HR := Lib.hid (And.intro h1 (And.intro h2 h3))
   have HX3 := Lib.hid (HX1.out.trans ((HX.out.trans (h4.mono hsz)).mono HX1.out.size))
   clear h1 h2 h3 h4
   go_wp2_with fail
   go_ret
   exact ⟨_, R, rfl, HR.out.1, HR.out.2.1, HR.out.2.2, HX3.out⟩
end Go.Proofs.YtdebbmembkbniaaGreat
/-! resolve.Paths. -/
namespace Go.Proofs.YtdebbmembkbniaaGreat
open Go.RowKit Pl Go.Agg
set_option maxRecDepth 100000 in
set_option maxHeartbeats 4000000 in
theorem pathsPut_any (p : P20) (g base : Nat) (pv : Value) (l : List P20) (hl : l.length ≤ 1048576) (w : World) (hb : Blk w g 55 #[pv]) (hbg : base ≤ g) (ho : Agg.Own E20 base w pv l) :
  Calls Tryz.prog 55 #[.agg (pC p.1.1 p.1.2), .pointer (some ⟨g, 0, none⟩)] w fun e w' => (∃ q, e = .returned q) ∧ ∃ pv', Blk w' g 55 #[pv'] ∧ Agg.Own E20 base w' pv' (l ++ [p]) ∧ Below base w w' := by
 have HB := Lib.hid hb
 have HO := Lib.hid ho
 have hlt := hb.lt
 have h63 : l.length + [p].length ≤ 1099511627776 / 8 := by simp; omega
 clear hb ho
 go_enter Tryz.func55, Tryz.ntmps55
 go_wp2_with (first | (with_reducible refine wpList_box rfl 48 _ rfl (pC p.1.1 p.1.2) rfl ?_; intro g2 w1 hb hx hg; have HX1 := Lib.hid hx; have HB1 := Lib.hid (HB.out.below hx); have HO1 := Lib.hid (HO.out.below hx); have HL1 := Lib.hid (show LoadsL Tryz.prog w1 55 (some ⟨g, 0, none⟩) pv from HB1.out.one (P := Tryz.prog) (ty := 55) 0 rfl (by kernel_rfl : Tryz.prog.underlying 55 = some (.slice 48)) rfl); have HP1 := Lib.hid (hb.loads (P := Tryz.prog) pC_under rfl (pC_info _ _ p.2)); have hsz : base ≤ w1.heap.size := (by have := hx.size; omega); clear hb hx hg) | (with_reducible refine wpList_loadL HL1.out rfl _ rfl rfl ?_) | (with_reducible refine wpList_loadL HP1.out rfl _ rfl rfl ?_) | (refine wpList_push (E := E20) (base := base) rfl rfl 5 rfl _ rfl _ rfl p rfl (fun _ => rfl) (show (5 : Nat) < 7 by decide) HO1.out h63 (by decide) hsz ?_; intro vz vg wg hog hpg; have HOg := Lib.hid hog; have HBg := Lib.hid (hpg.blk g _ _ _ (by decide) HB1.out : Blk wg g 55 #[pv]); have HXg := Lib.hid ((HX1.out.mono (by omega)).trans (hpg.below base (Nat.le_refl _) hsz)); clear hog hpg; obtain ⟨pg, cg, hvg⟩ := HOg.out.slice.form; obtain ⟨wh, hrh, hbh, hoh⟩ := Blk.run_one (P := Tryz.prog) (ty := 55) HBg.out 0 (show 0 < 1 from Nat.zero_lt_one) vg (by rw [hvg]; rfl) (by rw [hvg]; rfl) (by kernel_rfl) #[vg] rfl; have HRH := Lib.hid hrh; have HBh := Lib.hid hbh; have HOh := Lib.hid (HOg.out.onlyB hoh HBg.out (by decide)); have HXh := Lib.hid (HXg.out.trans (hoh.below (B := base) (Nat.le_trans (by omega) HXg.out.size) (fun i hi => by subst hi; exact hbg))); clear hvg hrh hbh hoh hsz h63; try simp only [Act.put, List.setIfInBounds_toArray, List.set_cons_succ, List.set_cons_zero]; refine wpList_store rfl rfl 55 _ _ rfl (.pointer (some ⟨g, 0, none⟩)) vg rfl rfl HRH.out ?_))
 refine bodyPost_end (results_none rfl _ _ _) rfl ?_
 exact ⟨⟨_, rfl⟩, vg, HBh.out, HOh.out, HXh.out⟩
end Go.Proofs.YtdebbmembkbniaaGreat
/-! resolve.Paths. -/
namespace Go.Proofs.YtdebbmembkbniaaGreat
open Go.RowKit Pl Go.Agg
set_option maxRecDepth 100000 in
set_option maxHeartbeats 8000000 in
theorem rsPaths_any (v : Value) (r : Rv) (hb : r.2.1.length ≤ 1048576) (w : World) (h : RvAt w v r) :
  Calls Tryz.prog 22 #[v] w fun e w' => ∃ v' R, e = .returned v' ∧ Rising R ∧ (∀ x, x ∈ R ↔ x ∈ r.2.1.map (·.2)) ∧ Agg.Own E20 w.heap.size w' v' R ∧ Below w.heap.size w w' := by
 obtain ⟨vi, vr, rfl, hvi, hvr⟩ := h
 have hli := ris_len hvi
 have HV := Lib.hid hvi
 clear hvi hvr
 go_enter Tryz.func22, Tryz.ntmps22
 go_wp2_with (first | (with_reducible refine wpList_box rfl 25 _ rfl (#[.string ⟨r.1.toArray⟩, vi, vr]) rfl ?_; intro g1 w1 hb hx1 hg; have HX1 := Lib.hid hx1; have HL1 := Lib.hid (RvB.of_blk hb); clear hb hx1 hg) | (with_reducible refine Agg.wpList_zero1 rfl 55 rfl (.slice none 0 0) rfl (by kernel_rfl) ?_; intro g3 w2 hb hx hg; have HB2 := Lib.hid hb; have HX2 := Lib.hid (belowThen HX1.out (Nat.le_refl _) hx); have HL2 := Lib.hid (HL1.out.below hx); have HG3 := Lib.hid (Nat.le_trans HX1.out.size hg); clear hb hx hg) | (with_reducible refine wpList_loadL HL2.out.inp rfl _ rfl rfl ?_))
 go_loopw [11] (fun i wr => ∃ (k : Nat) (pv : Value), k ≤ r.2.1.length ∧ i = .int .i64 (k : Int) ∧ Blk wr g3 55 #[pv] ∧ Agg.Own E20 w.heap.size wr pv ((r.2.1.take k).map (·.2)) ∧ Below w.heap.size w wr) (fun i _ => r.2.1.length - (intOf i).toNat)
 case atStart => exact ⟨0, _, by omega, rfl, HB2.out, Agg.Own.nil _ _ _, HX2.out⟩
 case round =>
  obtain ⟨wr1, rfl⟩ : ∃ y : World, y = wr := ⟨_, rfl⟩
  obtain ⟨k, pv, hk, rfl, hbk, ho, hx⟩ := hrel
  have HB := Lib.hid hbk
  have HO := Lib.hid ho
  have HX := Lib.hid hx
  clear hbk ho hx
  by_cases hlt : k < r.2.1.length
  ·have hd1 : decide (k < r.2.1.length) = true := by simpa using hlt
   obtain ⟨x, hxk⟩ : ∃ x, r.2.1[k]? = some x := ⟨_, List.getElem?_eq_getElem hlt⟩
   obtain ⟨p, hadr, hle, _⟩ := ri_at (HV.out.below HX.out) k x hxk
   have HE := Lib.hid hle
   have HMS := Lib.hid (map_succR hxk)
   clear hle hxk
   go_wp2_with (first | (with_reducible refine wpList_loadL HE.out rfl _ rfl rfl ?_) | (refine wpList_new rfl rfl rfl 77 6 14 rfl rfl rfl (by decide) (riC zR) (riC x) riC_zero (by rw [riC_size, riC_size]) (riC_info x) (riC_one x) rfl (by simp [Act.put]) ?_; intro g6 wa hb6 hx6 hg6; have HI6 := Lib.hid (RinB.of_blk hb6); have HBa := Lib.hid (HB.out.below hx6); have HOa := Lib.hid (HO.out.below hx6); have HXa := Lib.hid (belowThen HX.out (Nat.le_refl _) hx6); clear hb6 hx6 hg6) | (with_reducible refine wpList_loadL HI6.out.path rfl _ rfl rfl ?_))
   refine (pathsPut_any x.2 g3 w.heap.size pv _ (by rw [List.length_map, List.length_take]; omega) wa HBa.out HG3.out HOa.out).mono ?_
   rintro e wb ⟨⟨q, rfl⟩, pv2, hb2, ho2, hx2⟩
   have HBb := Lib.hid hb2
   have HOb := Lib.hid ho2
   have HXb := Lib.hid (HXa.out.trans hx2)
   clear hb2 ho2 hx2
   go_wp2_with fail
   go_roundw
   case rel => exact ⟨k + 1, pv2, by omega, by go_num, HBb.out, by rw [HMS.out]; exact HOb.out, HXb.out⟩
   case measure => simp [intOf]; omega
  ·obtain rfl : k = r.2.1.length := by omega
   have hd1 : decide (r.2.1.length < r.2.1.length) = false := by simp
   have HO2 := Lib.hid (show Agg.Own E20 w.heap.size wr1 pv (r.2.1.map (·.2)) by have := HO.out; rwa [List.take_length] at this)
   have HLP := Lib.hid (show LoadsL Tryz.prog wr1 55 (some ⟨g3, 0, none⟩) pv from HB.out.one (P := Tryz.prog) (ty := 55) 0 rfl (by kernel_rfl : Tryz.prog.underlying 55 = some (.slice 48)) rfl)
   go_wp2_with (first | (with_reducible refine wpList_loadL HLP.out rfl _ rfl rfl ?_))
   refine (sortedO_any _ (r.2.1.map (·.2)) (by rw [List.length_map]; exact hb) wr1 HO2.out.slice).mono ?_
   rintro e w3 ⟨v3, R, rfl, h1, h2, h3, h4⟩
   have HR := Lib.hid (And.intro h1 (And.intro h2 (h3.lower HX.out.size)))
   have HX3 := Lib.hid (belowThen HX.out (Nat.le_refl _) h4)
   clear h1 h2 h3 h4
   go_wp2_with fail
   go_ret
   exact ⟨_, R, rfl, HR.out.1, HR.out.2.1, HR.out.2.2, HX3.out⟩
end Go.Proofs.YtdebbmembkbniaaGreat
