/- spenceref03.Sorted: the paths once, rising. -/
import Derived.Test.YtniibcgomnjfgaaGreatVBA
import Derived.Test.YtniibcgomnjfgaaGreatVBB
import Derived.Test.YtniibcgomnjfgaaGreatVAA
namespace Go.Proofs.YtniibcgomnjfgaaGreat
open Go.RowKit Pl Go.Mp Go.Agg
theorem own_elems {w : World} {base : Nat} {v : Value} {D : List P20} (h : w.ownsRow base 26 21 v D.length (flat D)) : ElemsAt w v D := Own.slice (E := E20) h
theorem own_len {w : World} {base n : Nat} {e : TypeId} {sz : Nat} {v : Value} {xs : List Value} (h : w.ownsRow base e sz v n xs) : lenOf v = n := by
  obtain ⟨_, ⟨rfl, h0⟩ | ⟨g, cap, cur, rfl, _⟩⟩ := h
  · simp [lenOf, h0]
  · rfl
theorem own_block {w : World} {base n : Nat} {e : TypeId} {sz : Nat} {v : Value} {xs : List Value} (h : w.ownsRow base e sz v n xs) : ∀ k, v.ownBlock = some k → base ≤ k := by
  obtain ⟨_, ⟨rfl, h0⟩ | ⟨g, cap, cur, rfl, hg, _⟩⟩ := h
  · intro k hk; simp [Value.ownBlock] at hk
  · intro k hk
    obtain rfl : g = k := by simpa [Value.ownBlock] using hk
    exact hg
theorem refLess20 (p q : P20) (w : World) (b : Bool) (h : lt20 p q = b) :
    Calls Tryz.prog 77 #[.agg (pC p.1.1 p.1.2), .agg (pC q.1.1 q.1.2)] w fun e w' => e = .returned (.bool b) ∧ Below w.heap.size w w' := by
  subst h
  exact refLess_any p.1.1 p.1.2 q.1.1 q.1.2 p.2 q.2 w
theorem piC_size (b : Option P20) : (piC b).size = 21 := by
  cases b with
  | none => rfl
  | some b => rw [piC, pC_size, b.2]
theorem piC_info (b : Option P20) : (Tryz.prog.info? 26).map (·.size) = some (piC b).size := by
  cases b with
  | none => exact pC_info _ _ z20_length
  | some b => exact pC_info _ _ b.2
theorem i64_pred (n : Nat) (h0 : 0 < n) (h : n ≤ 1048576) : IntKind.i64.wrap ((n : Int) - 1) = ((n - 1 : Nat) : Int) := by
  rw [IntKind.wrap_i64]; omega
set_option maxRecDepth 100000 in
set_option maxHeartbeats 4000000 in
theorem refSorted_any (v : Value) (l : List P20) (hlen : l.length ≤ 1048576) (w : World) (he : ElemsAt w v l) :
    Calls Tryz.prog 53 #[v] w fun e w' => ∃ v R, e = .returned v ∧ Rising R ∧ (∀ x, x ∈ R ↔ x ∈ l) ∧ ElemsAt w' v R ∧ Below w.heap.size w w' := by
  have hlv := fun W => elems_len he W
  have HE := Lib.hid he
  clear he
  go_enter Tryz.func53, Tryz.ntmps53
  go_wp2_with fail
  go_loopw [3] (fun out wr => ∃ D : List P20, wr.ownsRow w.heap.size 26 21 out D.length (flat D) ∧ Told l D ∧ Below w.heap.size w wr) (fun out _ => l.length + 1 - lenOf out)
  case atStart => exact ⟨[], ⟨rfl, .inl ⟨rfl, rfl⟩⟩, Told.start l, Below.refl _ _⟩
  case round =>
    obtain ⟨wo, rfl⟩ : ∃ wo : World, wo = wr := ⟨_, rfl⟩
    obtain ⟨D, hown, htold, hw⟩ := hrel
    have hle := htold.length
    have hlo := fun W => elems_len (own_elems hown) W
    have HOWN := Lib.hid hown
    have HT := Lib.hid htold
    clear hown htold
    go_wp2_with (first | (with_reducible refine Agg.wpList_zero rfl 26 rfl (pC z20 []) pC_zero ?_; intro g w1 hb hx hg))
    have hgw := hb.lt
    go_loopw [4, 6] (fun f i w2 => ∃ (k : Nat) (fb : Bool), k ≤ l.length ∧ i = .int .i64 k ∧ f = .bool fb ∧ fb = (pick D (l.take k)).isSome ∧ Blk w2 g 26 (piC (pick D (l.take k))) ∧ Below wo.heap.size wo w2)
      (fun _ i _ => l.length - (intOf i).toNat)
    case atStart => exact ⟨0, false, by omega, rfl, rfl, rfl, hb, hx⟩
    case round =>
      clear hb hx
      obtain ⟨w2, rfl⟩ : ∃ w2 : World, w2 = wr := ⟨_, rfl⟩
      obtain ⟨k, fb, hk, rfl, rfl, hfb, hb, hx⟩ := hrel
      by_cases hlt : k < l.length
      · obtain ⟨x, hxk⟩ : ∃ x, l[k]? = some x := ⟨_, List.getElem?_eq_getElem hlt⟩
        obtain ⟨p, hadr, hld, _⟩ := elem_at ((HE.out.below hw).below hx) k x hxk
        have hsn : pick D (l.take (k + 1)) = nb D (pick D (l.take k)) x := by rw [List.take_add_one, hxk]; exact pick_snoc _ _ _
        have HSN := Lib.hid hsn
        have HXK := Lib.hid hxk
        clear hsn hxk
        have hbl : LoadsL Tryz.prog w2 26 (some ⟨g, 0, none⟩) (.agg (piC (pick D (l.take k)))) := hb.loads pC_under rfl (piC_info _)
        generalize hpk : pick D (l.take k) = b at *
        have HFB := Lib.hid hfb
        clear hfb
        have HPK := Lib.hid hpk
        clear hpk
        have HL := Lib.hid hld
        have HB := Lib.hid hbl
        clear hld hbl
        rcases List.eq_nil_or_concat D with hD | ⟨D', y, hD⟩
        · have HAB : Hid (above D x = true) := Lib.hid (by rw [hD]; rfl)
          have hq : ((D.length : Int) == 0) = true := by simp [hD]
          have HD := Lib.hid hD
          clear hD
          rcases b with _ | c
          · obtain rfl : fb = false := by simpa using HFB.out
            go_wp2_with fail
            refine Agg.wp_region_later_lit (by kernel_rfl) (by kernel_rfl) ?_
            repeat (first | go_big_quiet_step (fail))
            refine wpQuiet_nil ?_
            intro _ hw'
            obtain ⟨x1, rfl⟩ := hw'
            have HL1 := Lib.hid (HL.out.below x1.h)
            have HB1 := Lib.hid (HB.out.below x1.h)
            have hx1 := Agg.belowThen hx (Nat.le_refl _) x1.h
            have hb1 := hb.below x1.h
            generalize x1.w = w3 at *
            go_wp2_with fail
            refine Agg.wp_region_later_lit (by kernel_rfl) (by kernel_rfl) ?_
            repeat (first | go_big_quiet_step (fail))
            refine wpQuiet_nil ?_
            intro _ hw'
            obtain ⟨x2, rfl⟩ := hw'
            have HL2 := Lib.hid (HL1.out.below x2.h)
            have hx2 := Agg.belowThen hx1 (Nat.le_refl _) x2.h
            have hb2 := hb1.below x2.h
            generalize x2.w = w4 at *
            go_wp2_with (first | (with_reducible refine Agg.wpList_loadL HL2.out (by kernel_rfl) _ rfl rfl ?_) | (with_reducible refine Agg.wpList_put rfl rfl 26 _ _ rfl g (pC x.1.1 x.1.2) _ rfl rfl hb2 (pC_info _ _ x.2) (by rw [piC_size, pC_size, x.2]) (pC_one _ _) ?_; intro w5 hb5 hx5 _ _))
            go_roundw
            case rel => exact ⟨k + 1, _, by omega, by go_num, rfl, by rw [HSN.out, nb_first _ _ HAB.out]; rfl, by rw [HSN.out, nb_first _ _ HAB.out]; exact hb5, hx2.trans (hx5.mono hg)⟩
            case measure => simp [intOf]; omega
          · obtain rfl : fb = true := by simpa using HFB.out
            cases hlc : lt20 x c with
            | true =>
              go_wp2_with fail
              refine Agg.wp_region_later_lit (by kernel_rfl) (by kernel_rfl) ?_
              repeat (first | go_big_quiet_step (fail))
              refine wpQuiet_nil ?_
              intro _ hw'
              obtain ⟨x1, rfl⟩ := hw'
              have HL1 := Lib.hid (HL.out.below x1.h)
              have HB1 := Lib.hid (HB.out.below x1.h)
              have hx1 := Agg.belowThen hx (Nat.le_refl _) x1.h
              have hb1 := hb.below x1.h
              generalize x1.w = w3 at *
              go_wp2_with fail
              refine Agg.wp_region_later_lit (by kernel_rfl) (by kernel_rfl) ?_
              repeat (first | ((first | (with_reducible refine Agg.wpQuiet_loadL HL1.out (by kernel_rfl) _ rfl rfl ?_) | (with_reducible refine Agg.wpQuiet_loadL HB1.out (by kernel_rfl) _ rfl rfl ?_)); simp only [Act.put, List.setIfInBounds_toArray, List.set_cons_succ, List.set_cons_zero]) | go_big_quiet_step ((go_at_call 77; exact Agg.Calls.later (refLess20 x c _ true hlc))))
              refine wpQuiet_nil ?_
              intro _ hw'
              obtain ⟨x2, rfl⟩ := hw'
              have HL2 := Lib.hid (HL1.out.below x2.h)
              have hx2 := Agg.belowThen hx1 (Nat.le_refl _) x2.h
              have hb2 := hb1.below x2.h
              generalize x2.w = w4 at *
              go_wp2_with (first | (with_reducible refine Agg.wpList_loadL HL2.out (by kernel_rfl) _ rfl rfl ?_) | (with_reducible refine Agg.wpList_put rfl rfl 26 _ _ rfl g (pC x.1.1 x.1.2) _ rfl rfl hb2 (pC_info _ _ x.2) (by rw [piC_size, pC_size, x.2]) (pC_one _ _) ?_; intro w5 hb5 hx5 _ _))
              go_roundw
              case rel => exact ⟨k + 1, _, by omega, by go_num, rfl, by rw [HSN.out, nb_less _ _ _ HAB.out hlc]; rfl, by rw [HSN.out, nb_less _ _ _ HAB.out hlc]; exact hb5, hx2.trans (hx5.mono hg)⟩
              case measure => simp [intOf]; omega
            | false =>
              go_wp2_with fail
              refine Agg.wp_region_later_lit (by kernel_rfl) (by kernel_rfl) ?_
              repeat (first | go_big_quiet_step (fail))
              refine wpQuiet_nil ?_
              intro _ hw'
              obtain ⟨x1, rfl⟩ := hw'
              have HL1 := Lib.hid (HL.out.below x1.h)
              have HB1 := Lib.hid (HB.out.below x1.h)
              have hx1 := Agg.belowThen hx (Nat.le_refl _) x1.h
              have hb1 := hb.below x1.h
              generalize x1.w = w3 at *
              go_wp2_with fail
              refine Agg.wp_region_later_lit (by kernel_rfl) (by kernel_rfl) ?_
              repeat (first | ((first | (with_reducible refine Agg.wpQuiet_loadL HL1.out (by kernel_rfl) _ rfl rfl ?_) | (with_reducible refine Agg.wpQuiet_loadL HB1.out (by kernel_rfl) _ rfl rfl ?_)); simp only [Act.put, List.setIfInBounds_toArray, List.set_cons_succ, List.set_cons_zero]) | go_big_quiet_step ((go_at_call 77; exact Agg.Calls.later (refLess20 x c _ false hlc))))
              refine wpQuiet_nil ?_
              intro _ hw'
              obtain ⟨x2, rfl⟩ := hw'
              have HL2 := Lib.hid (HL1.out.below x2.h)
              have hx2 := Agg.belowThen hx1 (Nat.le_refl _) x2.h
              have hb2 := hb1.below x2.h
              generalize x2.w = w4 at *
              go_wp2_with fail
              go_roundw
              case rel => exact ⟨k + 1, _, by omega, by go_num, rfl, by rw [HSN.out, nb_more _ _ _ hlc]; rfl, by rw [HSN.out, nb_more _ _ _ hlc]; exact hb2, hx2⟩
              case measure => simp [intOf]; omega
        · have hab0 : above D x = lt20 y x := by rw [hD, List.concat_eq_append]; exact above_snoc _ _ _
          have hm : 0 < D.length := by rw [hD]; simp
          have hmm : D.length - 1 < D.length := by omega
          have hyk : D[D.length - 1]? = some y := by rw [hD]; simp
          have hq : ((D.length : Int) == 0) = false := by rw [beq_eq_false_iff_ne]; omega
          have hwr := i64_pred D.length hm (by omega)
          obtain ⟨py, hadry, hldy, _⟩ := elem_at (own_elems HOWN.out) (D.length - 1) y hyk
          have HLY := Lib.hid (hldy.below hx)
          clear hldy hyk
          have HD := Lib.hid hD
          clear hD
          cases hab : lt20 y x with
          | false =>
            have HAB := Lib.hid (hab0.trans hab)
            clear hab0
            go_wp2_with fail
            refine Agg.wp_region_later_lit (by kernel_rfl) (by kernel_rfl) ?_
            repeat (first | ((first | (with_reducible refine Agg.wpQuiet_loadL HLY.out (by kernel_rfl) _ rfl rfl ?_) | (with_reducible refine Agg.wpQuiet_loadL HL.out (by kernel_rfl) _ rfl rfl ?_)); simp only [Act.put, List.setIfInBounds_toArray, List.set_cons_succ, List.set_cons_zero]) | go_big_quiet_step ((go_at_call 77; exact Agg.Calls.later (refLess20 y x _ false hab))))
            refine wpQuiet_nil ?_
            intro _ hw'
            obtain ⟨x1, rfl⟩ := hw'
            have HL1 := Lib.hid (HL.out.below x1.h)
            have HB1 := Lib.hid (HB.out.below x1.h)
            have hx1 := Agg.belowThen hx (Nat.le_refl _) x1.h
            have hb1 := hb.below x1.h
            generalize x1.w = w3 at *
            go_wp2_with fail
            refine Agg.wp_region_later_lit (by kernel_rfl) (by kernel_rfl) ?_
            repeat (first | go_big_quiet_step (fail))
            refine wpQuiet_nil ?_
            intro _ hw'
            obtain ⟨x2, rfl⟩ := hw'
            have hx2 := Agg.belowThen hx1 (Nat.le_refl _) x2.h
            have hb2 := hb1.below x2.h
            generalize x2.w = w4 at *
            go_wp2_with fail
            go_roundw
            case rel => exact ⟨k + 1, _, by omega, by go_num, rfl, by rw [HSN.out, nb_no _ _ _ HAB.out]; exact HFB.out, by rw [HSN.out, nb_no _ _ _ HAB.out]; exact hb2, hx2⟩
            case measure => simp [intOf]; omega
          | true =>
            have HAB := Lib.hid (hab0.trans hab)
            clear hab0
            rcases b with _ | c
            · obtain rfl : fb = false := by simpa using HFB.out
              go_wp2_with fail
              refine Agg.wp_region_later_lit (by kernel_rfl) (by kernel_rfl) ?_
              repeat (first | ((first | (with_reducible refine Agg.wpQuiet_loadL HLY.out (by kernel_rfl) _ rfl rfl ?_) | (with_reducible refine Agg.wpQuiet_loadL HL.out (by kernel_rfl) _ rfl rfl ?_)); simp only [Act.put, List.setIfInBounds_toArray, List.set_cons_succ, List.set_cons_zero]) | go_big_quiet_step ((go_at_call 77; exact Agg.Calls.later (refLess20 y x _ true hab))))
              refine wpQuiet_nil ?_
              intro _ hw'
              obtain ⟨x1, rfl⟩ := hw'
              have HL1 := Lib.hid (HL.out.below x1.h)
              have HB1 := Lib.hid (HB.out.below x1.h)
              have hx1 := Agg.belowThen hx (Nat.le_refl _) x1.h
              have hb1 := hb.below x1.h
              generalize x1.w = w3 at *
              go_wp2_with fail
              refine Agg.wp_region_later_lit (by kernel_rfl) (by kernel_rfl) ?_
              repeat (first | go_big_quiet_step (fail))
              refine wpQuiet_nil ?_
              intro _ hw'
              obtain ⟨x2, rfl⟩ := hw'
              have HL2 := Lib.hid (HL1.out.below x2.h)
              have hx2 := Agg.belowThen hx1 (Nat.le_refl _) x2.h
              have hb2 := hb1.below x2.h
              generalize x2.w = w4 at *
              go_wp2_with (first | (with_reducible refine Agg.wpList_loadL HL2.out (by kernel_rfl) _ rfl rfl ?_) | (with_reducible refine Agg.wpList_put rfl rfl 26 _ _ rfl g (pC x.1.1 x.1.2) _ rfl rfl hb2 (pC_info _ _ x.2) (by rw [piC_size, pC_size, x.2]) (pC_one _ _) ?_; intro w5 hb5 hx5 _ _))
              go_roundw
              case rel => exact ⟨k + 1, _, by omega, by go_num, rfl, by rw [HSN.out, nb_first _ _ HAB.out]; rfl, by rw [HSN.out, nb_first _ _ HAB.out]; exact hb5, hx2.trans (hx5.mono hg)⟩
              case measure => simp [intOf]; omega
            · obtain rfl : fb = true := by simpa using HFB.out
              cases hlc : lt20 x c with
              | true =>
                go_wp2_with fail
                refine Agg.wp_region_later_lit (by kernel_rfl) (by kernel_rfl) ?_
                repeat (first | ((first | (with_reducible refine Agg.wpQuiet_loadL HLY.out (by kernel_rfl) _ rfl rfl ?_) | (with_reducible refine Agg.wpQuiet_loadL HL.out (by kernel_rfl) _ rfl rfl ?_)); simp only [Act.put, List.setIfInBounds_toArray, List.set_cons_succ, List.set_cons_zero]) | go_big_quiet_step ((go_at_call 77; exact Agg.Calls.later (refLess20 y x _ true hab))))
                refine wpQuiet_nil ?_
                intro _ hw'
                obtain ⟨x1, rfl⟩ := hw'
                have HL1 := Lib.hid (HL.out.below x1.h)
                have HB1 := Lib.hid (HB.out.below x1.h)
                have hx1 := Agg.belowThen hx (Nat.le_refl _) x1.h
                have hb1 := hb.below x1.h
                generalize x1.w = w3 at *
                go_wp2_with fail
                refine Agg.wp_region_later_lit (by kernel_rfl) (by kernel_rfl) ?_
                repeat (first | ((first | (with_reducible refine Agg.wpQuiet_loadL HL1.out (by kernel_rfl) _ rfl rfl ?_) | (with_reducible refine Agg.wpQuiet_loadL HB1.out (by kernel_rfl) _ rfl rfl ?_)); simp only [Act.put, List.setIfInBounds_toArray, List.set_cons_succ, List.set_cons_zero]) | go_big_quiet_step ((go_at_call 77; exact Agg.Calls.later (refLess20 x c _ true hlc))))
                refine wpQuiet_nil ?_
                intro _ hw'
                obtain ⟨x2, rfl⟩ := hw'
                have HL2 := Lib.hid (HL1.out.below x2.h)
                have hx2 := Agg.belowThen hx1 (Nat.le_refl _) x2.h
                have hb2 := hb1.below x2.h
                generalize x2.w = w4 at *
                go_wp2_with (first | (with_reducible refine Agg.wpList_loadL HL2.out (by kernel_rfl) _ rfl rfl ?_) | (with_reducible refine Agg.wpList_put rfl rfl 26 _ _ rfl g (pC x.1.1 x.1.2) _ rfl rfl hb2 (pC_info _ _ x.2) (by rw [piC_size, pC_size, x.2]) (pC_one _ _) ?_; intro w5 hb5 hx5 _ _))
                go_roundw
                case rel => exact ⟨k + 1, _, by omega, by go_num, rfl, by rw [HSN.out, nb_less _ _ _ HAB.out hlc]; rfl, by rw [HSN.out, nb_less _ _ _ HAB.out hlc]; exact hb5, hx2.trans (hx5.mono hg)⟩
                case measure => simp [intOf]; omega
              | false =>
                go_wp2_with fail
                refine Agg.wp_region_later_lit (by kernel_rfl) (by kernel_rfl) ?_
                repeat (first | ((first | (with_reducible refine Agg.wpQuiet_loadL HLY.out (by kernel_rfl) _ rfl rfl ?_) | (with_reducible refine Agg.wpQuiet_loadL HL.out (by kernel_rfl) _ rfl rfl ?_)); simp only [Act.put, List.setIfInBounds_toArray, List.set_cons_succ, List.set_cons_zero]) | go_big_quiet_step ((go_at_call 77; exact Agg.Calls.later (refLess20 y x _ true hab))))
                refine wpQuiet_nil ?_
                intro _ hw'
                obtain ⟨x1, rfl⟩ := hw'
                have HL1 := Lib.hid (HL.out.below x1.h)
                have HB1 := Lib.hid (HB.out.below x1.h)
                have hx1 := Agg.belowThen hx (Nat.le_refl _) x1.h
                have hb1 := hb.below x1.h
                generalize x1.w = w3 at *
                go_wp2_with fail
                refine Agg.wp_region_later_lit (by kernel_rfl) (by kernel_rfl) ?_
                repeat (first | ((first | (with_reducible refine Agg.wpQuiet_loadL HL1.out (by kernel_rfl) _ rfl rfl ?_) | (with_reducible refine Agg.wpQuiet_loadL HB1.out (by kernel_rfl) _ rfl rfl ?_)); simp only [Act.put, List.setIfInBounds_toArray, List.set_cons_succ, List.set_cons_zero]) | go_big_quiet_step ((go_at_call 77; exact Agg.Calls.later (refLess20 x c _ false hlc))))
                refine wpQuiet_nil ?_
                intro _ hw'
                obtain ⟨x2, rfl⟩ := hw'
                have HL2 := Lib.hid (HL1.out.below x2.h)
                have hx2 := Agg.belowThen hx1 (Nat.le_refl _) x2.h
                have hb2 := hb1.below x2.h
                generalize x2.w = w4 at *
                go_wp2_with fail
                go_roundw
                case rel => exact ⟨k + 1, _, by omega, by go_num, rfl, by rw [HSN.out, nb_more _ _ _ hlc]; rfl, by rw [HSN.out, nb_more _ _ _ hlc]; exact hb2, hx2⟩
                case measure => simp [intOf]; omega
      · obtain rfl : k = l.length := by omega
        rw [List.take_length] at hb hfb
        cases hpk : pick D l with
        | none =>
          obtain rfl : fb = false := by simpa [hpk] using hfb
          have HPK := Lib.hid hpk
          clear hpk hfb
          go_wp2_with fail
          go_ret
          exact ⟨_, D, rfl, HT.out.rise, HT.out.done HPK.out, (own_elems HOWN.out).below hx, hw.trans (hx.mono hw.size)⟩
        | some b =>
          obtain rfl : fb = true := by simpa [hpk] using hfb
          have HPK := Lib.hid hpk
          rw [hpk] at hb
          clear hpk hfb
          have hbl : LoadsL Tryz.prog w2 26 (some ⟨g, 0, none⟩) (.agg (pC b.1.1 b.1.2)) := hb.loads pC_under rfl (piC_info (some b))
          have HB := Lib.hid hbl
          clear hbl
          obtain ⟨ie, hie0⟩ := info_path
          have hie := Lib.hid hie0
          clear hie0
          have hzc : (Value.agg (pC z20 [])).cells.size = 21 := by simp [Value.cells, pC_size, z20_length]
          have hmx : D.length + 1 ≤ maxLen := by simp only [maxLen]; omega
          have hby : (D.length + 1) * 40 ≤ 140737488355328 := by omega
          have hown2 := own_below (own_below HOWN.out hx) ((Below.refl _ _).alloc (Nat.le_refl w2.heap.size) (.cells (pC b.1.1 b.1.2) 26))
          have HO2 := Lib.hid hown2
          clear hown2
          go_wp2_with (first | (with_reducible refine Agg.wpList_loadL HB.out (by kernel_rfl) _ rfl rfl ?_) | (with_reducible refine Agg.wpList_buildSlice1 30 1 0 _ rfl rfl (pV b) rfl _ _ (slice_one b _) ?_) | (at_builtin; refine walk_stop ?_))
          refine ⟨?_, trivial⟩
          refine wpList_append_own _ rfl _ _ 30 rfl w.heap.size 26 ie _ 21 40 (by kernel_rfl) hie.out.1 hie.out.2.1 hie.out.2.2.1 hie.out.2.2.2 hzc (by decide) _ _ _ rfl HO2.out ⟨w2.heap.size, 0, none⟩ 1 1 (cells20 b) rfl (cells20_length b) (new_cells w2 b) (cells20_one b) hmx hby ?hbs ?_
          case hbs => have h6 := hx.size; have h7 := hw.size; simp only [World.size_alloc]; omega
          intro v5 w5 ho5 hg5 _
          have hl5 := own_len ho5
          have hl4 := own_len HOWN.out
          go_wp2_with fail
          go_roundw
          case rel =>
            refine ⟨D ++ [b], ?_, HT.out.next HPK.out, ?_⟩
            · rw [flat_append, List.length_append]
              simpa [flat] using ho5
            · have hb4 : Below w.heap.size w (w2.alloc (.cells (pC b.1.1 b.1.2) 26)) := (hw.trans (hx.mono hw.size)).alloc (Nat.le_trans hw.size hx.size) _
              exact hb4.grown hg5 hb4.size (own_block HO2.out)
          case measure => rw [hl5, hl4]; omega
end Go.Proofs.YtniibcgomnjfgaaGreat
