/- spencelaw03.BaseOrder: true, whatever the paths. -/
import Derived.Test.YtfgjepfmcmppaaaBaseSorts
namespace Go.Proofs.Ytfgjepfmcmppaaa
open Go.RowKit Pl Go.Agg
set_option maxRecDepth 100000 in
set_option maxHeartbeats 8000000 in
theorem border_any (a b c : P20) (v : Value) (l : List P20) (hn : a.1.2.length ≤ 1048576) (hn2 : b.1.2.length ≤ 1048576) (hn3 : c.1.2.length ≤ 1048576) (hlen : l.length ≤ 1048576) (hnm : names l ≤ 1048576) (w : World) (he : ElemsAt w v l) :
    Calls Try.prog 10 #[.agg (pC a.1.1 a.1.2), .agg (pC b.1.1 b.1.2), .agg (pC c.1.1 c.1.2), v] w fun e w' => e = .returned (.bool true) ∧ Below w.heap.size w w' := by
  have hlv := fun W => elems_len he W
  have HE := Lib.hid he
  clear he
  have hsa := str_len a.1.2
  have hsb := str_len b.1.2
  have hsc := str_len c.1.2
  go_enter Try.func10, Try.ntmps10
  go_wp2_with (first | (with_reducible refine Agg.wpList_box rfl 40 _ rfl (pC a.1.1 a.1.2) rfl ?_; intro ga w1 hba hx1 hga) | (with_reducible refine Agg.wpList_box rfl 40 _ rfl (pC b.1.1 b.1.2) rfl ?_; intro gb w2 hbb hx2 hgb) | (with_reducible refine Agg.wpList_box rfl 40 _ rfl (pC c.1.1 c.1.2) rfl ?_; intro gc w3 hbc hx3 hgc))
  have hw3 := Agg.belowThen (Agg.belowThen hx1 (Nat.le_refl _) hx2) (Nat.le_refl _) hx3
  have hba3 := (hba.below hx2).below hx3
  have hbb3 := hbb.below hx3
  refine (awake_any _).mono ?_
  rintro e w4 ⟨rfl, hx4⟩
  have hw4 := Agg.belowThen hw3 (Nat.le_refl _) hx4
  have HA : Hid (LoadsL Try.prog w4 40 (some ⟨ga, 0, none⟩) (.agg (pC a.1.1 a.1.2))) := Lib.hid ((hba3.below hx4).loads pC_under rfl (pC_info _ _ a.2))
  have HB : Hid (LoadsL Try.prog w4 40 (some ⟨gb, 0, none⟩) (.agg (pC b.1.1 b.1.2))) := Lib.hid ((hbb3.below hx4).loads pC_under rfl (pC_info _ _ b.2))
  have HC : Hid (LoadsL Try.prog w4 40 (some ⟨gc, 0, none⟩) (.agg (pC c.1.1 c.1.2))) := Lib.hid ((hbc.below hx4).loads pC_under rfl (pC_info _ _ c.2))
  have HAn : Hid (LoadsL Try.prog w4 9 (some ⟨ga, 20, none⟩) (.string ⟨a.1.2.toArray⟩)) := Lib.hid ((hba3.below hx4).one 20 (pC_name _ _ a.2) Try.underlying9 rfl)
  have HBn : Hid (LoadsL Try.prog w4 9 (some ⟨gb, 20, none⟩) (.string ⟨b.1.2.toArray⟩)) := Lib.hid ((hbb3.below hx4).one 20 (pC_name _ _ b.2) Try.underlying9 rfl)
  have HCn : Hid (LoadsL Try.prog w4 9 (some ⟨gc, 20, none⟩) (.string ⟨c.1.2.toArray⟩)) := Lib.hid ((hbc.below hx4).one 20 (pC_name _ _ c.2) Try.underlying9 rfl)
  clear hx1 hx2 hx3 hba hbb hbc hba3 hbb3 hga hgb hgc hw3 hx4
  have hm4 := hw4.size
  go_wp2_with (first | (with_reducible refine Agg.wpList_loadL HAn.out (by kernel_rfl) _ rfl rfl ?_) | (with_reducible refine Agg.wpList_loadL HBn.out (by kernel_rfl) _ rfl rfl ?_) | (with_reducible refine Agg.wpList_loadL HCn.out (by kernel_rfl) _ rfl rfl ?_))

  obtain ⟨N0, hN0⟩ : ∃ n : Nat, n = a.1.2.length + b.1.2.length + c.1.2.length := ⟨_, rfl⟩
  have hb0 : N0 ≤ 4194304 := by omega
  have HN0 := Lib.hid hN0
  clear hsa hsb hsc hN0 HAn HBn HCn
  go_loopw [9, 10] (fun n i wr => ∃ k : Nat, k ≤ l.length ∧ k ≤ 120 ∧ i = .int .i64 k ∧ n = .int .i64 ((N0 + names (l.take k) : Nat) : Int) ∧ Below w4.heap.size w4 wr) (fun _ i _ => l.length - (intOf i).toNat)
  case atStart => exact ⟨0, by omega, by omega, rfl, by rw [HN0.out]; simp [names], Below.refl _ _⟩
  case round =>
    obtain ⟨wo, rfl⟩ : ∃ wo : World, wo = wr := ⟨_, rfl⟩
    obtain ⟨k, hk, hk2, rfl, rfl, hx⟩ := hrel
    have hna0 := names_take_le l k
    by_cases hlt : k < l.length ∧ k < 120 ∧ N0 + names (l.take k) ≤ 2000
    · obtain ⟨hlt, hlt2, hlt3⟩ := hlt
      obtain ⟨x, hxk⟩ : ∃ x, l[k]? = some x := ⟨_, List.getElem?_eq_getElem hlt⟩
      obtain ⟨q, hadr, _, hld⟩ := elem_at ((HE.out.below hw4).below hx) k x hxk
      have HL := Lib.hid hld
      have HN := Lib.hid (names_take_succ hxk)
      have hna := names_at hxk
      have hsl := str_len x.1.2
      clear hld hxk
      generalize names (l.take k) = N at *
      obtain ⟨M, hM⟩ : ∃ M, M = N0 + N := ⟨_, rfl⟩
      rw [← hM]
      have hM2 : M ≤ 2000 := by omega
      have HM := Lib.hid hM
      clear hM hlt3
      have hd1 : decide (k < l.length) = true := by simpa using hlt
      have hd2 : decide ((k : Int) < 120) = true := by simp; omega
      have hd3 : decide ((M : Int) ≤ 2000) = true := by simp; omega
      go_wp2_with (first | (with_reducible refine Agg.wpList_loadL HL.out (by kernel_rfl) _ rfl rfl ?_))

      go_roundw
      case rel => exact ⟨k + 1, by omega, by omega, by go_num, by rw [HN.out, ← Nat.add_assoc, ← HM.out]; go_num, hx⟩
      case measure => simp [intOf]; omega
    · obtain ⟨M, hM⟩ : ∃ M, M = N0 + names (l.take k) := ⟨_, rfl⟩
      rw [← hM] at hlt ⊢
      have hMb : M ≤ 8388608 := by omega
      have HM := Lib.hid hM
      have hw := Agg.belowThen hw4 (Nat.le_refl _) hx
      by_cases hbig : M ≤ 2000 ∧ l.length ≤ 120
      · obtain ⟨h2000, h120⟩ := hbig
        have hkl : k = l.length := by omega
        clear hM hlt
        have hd1 : decide (k < l.length) = false := by simp; omega
        have hd2 : decide (120 < (l.length : Int)) = false := by simp; omega
        have hd3 : decide (2000 < (M : Int)) = false := by simp; omega
        have HA5 := Lib.hid (HA.out.below hx)
        have HB5 := Lib.hid (HB.out.below hx)
        have HC5 := Lib.hid (HC.out.below hx)
        clear hx hkl HA HB HC
        have tri : (a = b ∧ lt20 a b = false ∧ lt20 b a = false) ∨ (a ≠ b ∧ lt20 a b = true ∧ lt20 b a = false ∧ (lt20 b c = false ∨ lt20 b c = true ∧ lt20 a c = true)) ∨ (a ≠ b ∧ lt20 a b = false ∧ lt20 b a = true) := by
          by_cases e : a = b
          · subst e; exact .inl ⟨rfl, lt20_irrefl _, lt20_irrefl _⟩
          · cases h : lt20 a b with
            | false => exact .inr (.inr ⟨e, rfl, lt20_total _ _ e h⟩)
            | true =>
              refine .inr (.inl ⟨e, rfl, lt20_asymm _ _ h, ?_⟩)
              cases h2 : lt20 b c with
              | false => exact .inl rfl
              | true => exact .inr ⟨rfl, lt20_trans _ _ _ h h2⟩
        rcases tri with ⟨he1, hab, hba⟩ | ⟨he1, hab, hba, hbc | ⟨hbc, hac⟩⟩ | ⟨he1, hab, hba⟩
        · have hq : ∀ w, (binOp .eql 40 (.agg (pC a.1.1 a.1.2)) (.agg (pC b.1.1 b.1.2))).run Try.prog w = .ok (.bool true) w := fun w => by rw [eql20]; simp [he1]
          have H1 := Lib.hid he1
          clear he1
          have Hab := Lib.hid hab
          have Hba := Lib.hid hba
          clear hab hba
          go_wp2_with fail
          try simp only [Act.put, List.setIfInBounds_toArray, List.set_cons_succ, List.set_cons_zero]
          refine Agg.wp_region_later_lit (by kernel_rfl) (by kernel_rfl) ?_
          repeat (first | go_big_quiet_skip | ((first | (with_reducible refine Agg.wpQuiet_loadL HA5.out (by kernel_rfl) _ rfl rfl ?_) | (with_reducible refine Agg.wpQuiet_loadL HB5.out (by kernel_rfl) _ rfl rfl ?_) | (with_reducible refine Agg.wpQuiet_loadL HC5.out (by kernel_rfl) _ rfl rfl ?_) | (with_reducible refine Agg.wpQuiet_eql (by kernel_rfl) 40 40 _ _ rfl (pC a.1.1 a.1.2) (pC b.1.1 b.1.2) rfl rfl (true) (by kernel_rfl) hq ?_)); simp only [Act.put, List.setIfInBounds_toArray, List.set_cons_succ, List.set_cons_zero]) | go_big_quiet_step ((go_at_call 36; (first | with_reducible exact Agg.Calls.later (less20 a a _ false (lt20_irrefl a)) | with_reducible exact Agg.Calls.later (less20 a b _ false Hab.out) | with_reducible exact Agg.Calls.later (less20 b a _ false Hba.out)))))
          refine wpQuiet_nil ?_
          intro _ hw'
          obtain ⟨x1, rfl⟩ := hw'
          have hw1 := Agg.belowThen hw (Nat.le_refl _) x1.h
          generalize x1.w = w6 at *
          clear hq HA5 HB5 HC5 hd1 hd2 hd3
          go_wp2_with fail
          refine (sorted_any v l hlen w6 (HE.out.below hw1)).mono ?_
          rintro e w7 ⟨vout, R, rfl, hR, hmem, hout, hx7⟩
          have hw7 := hw1.trans (hx7.mono hw1.size)
          have hrl : R.length ≤ l.length := length_le_of_sub R l (List.Pairwise.imp (fun {a b} hab (e : a = b) => by subst e; rw [lt20_irrefl] at hab; cases hab) hR) fun x hx => (hmem x).1 hx
          have HOUT := Lib.hid hout
          have HR := Lib.hid hR
          have HMEM := Lib.hid hmem
          have hlo := fun W => elems_len HOUT.out W
          clear hx7 hout hR hmem
          go_wp2_with fail
          go_loopw [12] (fun i wr => ∃ k : Nat, (k ≤ R.length ∨ k = 1) ∧ 1 ≤ k ∧ i = .int .i64 k ∧ Below w7.heap.size w7 wr) (fun i _ => R.length - (intOf i).toNat)
          case atStart => exact ⟨1, .inr rfl, by omega, rfl, Below.refl _ _⟩
          case round =>
            obtain ⟨w8, rfl⟩ : ∃ w8 : World, w8 = wr := ⟨_, rfl⟩
            obtain ⟨k, hk, hk1, rfl, hx⟩ := hrel
            by_cases hlt : k < R.length
            · obtain ⟨y, hyk⟩ : ∃ y, R[k]? = some y := ⟨_, List.getElem?_eq_getElem hlt⟩
              have hlt0 : k - 1 < R.length := by omega
              obtain ⟨x, hxk⟩ : ∃ x, R[k - 1]? = some x := ⟨_, List.getElem?_eq_getElem hlt0⟩
              have hless : lt20 x y = true := by
                have := List.pairwise_iff_getElem.1 HR.out (k - 1) k hlt0 hlt (by omega)
                rw [List.getElem?_eq_getElem hlt] at hyk
                rw [List.getElem?_eq_getElem hlt0] at hxk
                rwa [Option.some.inj hyk, Option.some.inj hxk] at this
              obtain ⟨q1, hadr1, hld1, _⟩ := elem_at (HOUT.out.below hx) k y hyk
              obtain ⟨q2, hadr2, hld2, _⟩ := elem_at (HOUT.out.below hx) (k - 1) x hxk
              have HL1 := Lib.hid hld1
              have HL2 := Lib.hid hld2
              have HLS := Lib.hid hless
              have hwr := i64_pred k (by omega) (by omega)
              clear hld1 hld2 hxk hyk hless
              have hd1 : decide (k < R.length) = true := by simpa using hlt
              go_wp2_with fail
              try simp only [Act.put, List.setIfInBounds_toArray, List.set_cons_succ, List.set_cons_zero]
              refine Agg.wp_region_later_lit (by kernel_rfl) (by kernel_rfl) ?_
              repeat (first | go_big_quiet_skip | ((first | (with_reducible refine Agg.wpQuiet_loadL HL1.out (by kernel_rfl) _ rfl rfl ?_) | (with_reducible refine Agg.wpQuiet_loadL HL2.out (by kernel_rfl) _ rfl rfl ?_)); simp only [Act.put, List.setIfInBounds_toArray, List.set_cons_succ, List.set_cons_zero]) | go_big_quiet_step ((go_at_call 36; exact Agg.Calls.later (less20 x y _ true HLS.out))))
              refine wpQuiet_nil ?_
              intro _ hw'
              obtain ⟨x2, rfl⟩ := hw'
              go_wp2_with fail
              go_roundw
              case rel => exact ⟨k + 1, .inl (by omega), by omega, by go_num, Agg.belowThen hx (Nat.le_refl _) x2.h⟩
              case measure => simp [intOf]; omega
            · have hd1 : decide (k < R.length) = false := by simp; omega
              have hw8 := hw7.trans (hx.mono hw7.size)
              go_wp2_with fail
              refine (withinP_any v vout l R hlen (by omega) (fun x hx => (HMEM.out x).2 hx) _ (HE.out.below hw8) (HOUT.out.below hx)).mono ?_
              rintro e w9 ⟨rfl, hx9⟩
              have hw9 := hw8.trans (hx9.mono hw8.size)
              go_wp2_with fail
              refine (withinP_any vout v R l (by omega) hlen (fun x hx => (HMEM.out x).1 hx) _ ((HOUT.out.below hx).below hx9) (HE.out.below hw9)).mono ?_
              rintro e w10 ⟨rfl, hx10⟩
              go_wp2_with fail
              go_ret
              exact ⟨rfl, hw9.trans (hx10.mono hw9.size)⟩
        · have hq : ∀ w, (binOp .eql 40 (.agg (pC a.1.1 a.1.2)) (.agg (pC b.1.1 b.1.2))).run Try.prog w = .ok (.bool false) w := fun w => by rw [eql20]; simp [he1]
          have H1 := Lib.hid he1
          clear he1
          have Hab := Lib.hid hab
          have Hba := Lib.hid hba
          clear hab hba
          have Hbc := Lib.hid hbc
          clear hbc
          go_wp2_with fail
          try simp only [Act.put, List.setIfInBounds_toArray, List.set_cons_succ, List.set_cons_zero]
          refine Agg.wp_region_later_lit (by kernel_rfl) (by kernel_rfl) ?_
          repeat (first | go_big_quiet_skip | ((first | (with_reducible refine Agg.wpQuiet_loadL HA5.out (by kernel_rfl) _ rfl rfl ?_) | (with_reducible refine Agg.wpQuiet_loadL HB5.out (by kernel_rfl) _ rfl rfl ?_) | (with_reducible refine Agg.wpQuiet_loadL HC5.out (by kernel_rfl) _ rfl rfl ?_) | (with_reducible refine Agg.wpQuiet_eql (by kernel_rfl) 40 40 _ _ rfl (pC a.1.1 a.1.2) (pC b.1.1 b.1.2) rfl rfl (false) (by kernel_rfl) hq ?_)); simp only [Act.put, List.setIfInBounds_toArray, List.set_cons_succ, List.set_cons_zero]) | go_big_quiet_step ((go_at_call 36; (first | with_reducible exact Agg.Calls.later (less20 a a _ false (lt20_irrefl a)) | with_reducible exact Agg.Calls.later (less20 a b _ true Hab.out) | with_reducible exact Agg.Calls.later (less20 b a _ false Hba.out) | with_reducible exact Agg.Calls.later (less20 b c _ false Hbc.out)))))
          refine wpQuiet_nil ?_
          intro _ hw'
          obtain ⟨x1, rfl⟩ := hw'
          have hw1 := Agg.belowThen hw (Nat.le_refl _) x1.h
          generalize x1.w = w6 at *
          clear hq HA5 HB5 HC5 hd1 hd2 hd3
          go_wp2_with fail
          refine (sorted_any v l hlen w6 (HE.out.below hw1)).mono ?_
          rintro e w7 ⟨vout, R, rfl, hR, hmem, hout, hx7⟩
          have hw7 := hw1.trans (hx7.mono hw1.size)
          have hrl : R.length ≤ l.length := length_le_of_sub R l (List.Pairwise.imp (fun {a b} hab (e : a = b) => by subst e; rw [lt20_irrefl] at hab; cases hab) hR) fun x hx => (hmem x).1 hx
          have HOUT := Lib.hid hout
          have HR := Lib.hid hR
          have HMEM := Lib.hid hmem
          have hlo := fun W => elems_len HOUT.out W
          clear hx7 hout hR hmem
          go_wp2_with fail
          go_loopw [12] (fun i wr => ∃ k : Nat, (k ≤ R.length ∨ k = 1) ∧ 1 ≤ k ∧ i = .int .i64 k ∧ Below w7.heap.size w7 wr) (fun i _ => R.length - (intOf i).toNat)
          case atStart => exact ⟨1, .inr rfl, by omega, rfl, Below.refl _ _⟩
          case round =>
            obtain ⟨w8, rfl⟩ : ∃ w8 : World, w8 = wr := ⟨_, rfl⟩
            obtain ⟨k, hk, hk1, rfl, hx⟩ := hrel
            by_cases hlt : k < R.length
            · obtain ⟨y, hyk⟩ : ∃ y, R[k]? = some y := ⟨_, List.getElem?_eq_getElem hlt⟩
              have hlt0 : k - 1 < R.length := by omega
              obtain ⟨x, hxk⟩ : ∃ x, R[k - 1]? = some x := ⟨_, List.getElem?_eq_getElem hlt0⟩
              have hless : lt20 x y = true := by
                have := List.pairwise_iff_getElem.1 HR.out (k - 1) k hlt0 hlt (by omega)
                rw [List.getElem?_eq_getElem hlt] at hyk
                rw [List.getElem?_eq_getElem hlt0] at hxk
                rwa [Option.some.inj hyk, Option.some.inj hxk] at this
              obtain ⟨q1, hadr1, hld1, _⟩ := elem_at (HOUT.out.below hx) k y hyk
              obtain ⟨q2, hadr2, hld2, _⟩ := elem_at (HOUT.out.below hx) (k - 1) x hxk
              have HL1 := Lib.hid hld1
              have HL2 := Lib.hid hld2
              have HLS := Lib.hid hless
              have hwr := i64_pred k (by omega) (by omega)
              clear hld1 hld2 hxk hyk hless
              have hd1 : decide (k < R.length) = true := by simpa using hlt
              go_wp2_with fail
              try simp only [Act.put, List.setIfInBounds_toArray, List.set_cons_succ, List.set_cons_zero]
              refine Agg.wp_region_later_lit (by kernel_rfl) (by kernel_rfl) ?_
              repeat (first | go_big_quiet_skip | ((first | (with_reducible refine Agg.wpQuiet_loadL HL1.out (by kernel_rfl) _ rfl rfl ?_) | (with_reducible refine Agg.wpQuiet_loadL HL2.out (by kernel_rfl) _ rfl rfl ?_)); simp only [Act.put, List.setIfInBounds_toArray, List.set_cons_succ, List.set_cons_zero]) | go_big_quiet_step ((go_at_call 36; exact Agg.Calls.later (less20 x y _ true HLS.out))))
              refine wpQuiet_nil ?_
              intro _ hw'
              obtain ⟨x2, rfl⟩ := hw'
              go_wp2_with fail
              go_roundw
              case rel => exact ⟨k + 1, .inl (by omega), by omega, by go_num, Agg.belowThen hx (Nat.le_refl _) x2.h⟩
              case measure => simp [intOf]; omega
            · have hd1 : decide (k < R.length) = false := by simp; omega
              have hw8 := hw7.trans (hx.mono hw7.size)
              go_wp2_with fail
              refine (withinP_any v vout l R hlen (by omega) (fun x hx => (HMEM.out x).2 hx) _ (HE.out.below hw8) (HOUT.out.below hx)).mono ?_
              rintro e w9 ⟨rfl, hx9⟩
              have hw9 := hw8.trans (hx9.mono hw8.size)
              go_wp2_with fail
              refine (withinP_any vout v R l (by omega) hlen (fun x hx => (HMEM.out x).1 hx) _ ((HOUT.out.below hx).below hx9) (HE.out.below hw9)).mono ?_
              rintro e w10 ⟨rfl, hx10⟩
              go_wp2_with fail
              go_ret
              exact ⟨rfl, hw9.trans (hx10.mono hw9.size)⟩
        · have hq : ∀ w, (binOp .eql 40 (.agg (pC a.1.1 a.1.2)) (.agg (pC b.1.1 b.1.2))).run Try.prog w = .ok (.bool false) w := fun w => by rw [eql20]; simp [he1]
          have H1 := Lib.hid he1
          clear he1
          have Hab := Lib.hid hab
          have Hba := Lib.hid hba
          clear hab hba
          have Hbc := Lib.hid hbc
          clear hbc
          have Hac := Lib.hid hac
          clear hac
          go_wp2_with fail
          try simp only [Act.put, List.setIfInBounds_toArray, List.set_cons_succ, List.set_cons_zero]
          refine Agg.wp_region_later_lit (by kernel_rfl) (by kernel_rfl) ?_
          repeat (first | go_big_quiet_skip | ((first | (with_reducible refine Agg.wpQuiet_loadL HA5.out (by kernel_rfl) _ rfl rfl ?_) | (with_reducible refine Agg.wpQuiet_loadL HB5.out (by kernel_rfl) _ rfl rfl ?_) | (with_reducible refine Agg.wpQuiet_loadL HC5.out (by kernel_rfl) _ rfl rfl ?_) | (with_reducible refine Agg.wpQuiet_eql (by kernel_rfl) 40 40 _ _ rfl (pC a.1.1 a.1.2) (pC b.1.1 b.1.2) rfl rfl (false) (by kernel_rfl) hq ?_)); simp only [Act.put, List.setIfInBounds_toArray, List.set_cons_succ, List.set_cons_zero]) | go_big_quiet_step ((go_at_call 36; (first | with_reducible exact Agg.Calls.later (less20 a a _ false (lt20_irrefl a)) | with_reducible exact Agg.Calls.later (less20 a b _ true Hab.out) | with_reducible exact Agg.Calls.later (less20 b a _ false Hba.out) | with_reducible exact Agg.Calls.later (less20 b c _ true Hbc.out) | with_reducible exact Agg.Calls.later (less20 a c _ true Hac.out)))))
          refine wpQuiet_nil ?_
          intro _ hw'
          obtain ⟨x1, rfl⟩ := hw'
          have hw1 := Agg.belowThen hw (Nat.le_refl _) x1.h
          generalize x1.w = w6 at *
          clear hq HA5 HB5 HC5 hd1 hd2 hd3
          go_wp2_with fail
          refine (sorted_any v l hlen w6 (HE.out.below hw1)).mono ?_
          rintro e w7 ⟨vout, R, rfl, hR, hmem, hout, hx7⟩
          have hw7 := hw1.trans (hx7.mono hw1.size)
          have hrl : R.length ≤ l.length := length_le_of_sub R l (List.Pairwise.imp (fun {a b} hab (e : a = b) => by subst e; rw [lt20_irrefl] at hab; cases hab) hR) fun x hx => (hmem x).1 hx
          have HOUT := Lib.hid hout
          have HR := Lib.hid hR
          have HMEM := Lib.hid hmem
          have hlo := fun W => elems_len HOUT.out W
          clear hx7 hout hR hmem
          go_wp2_with fail
          go_loopw [12] (fun i wr => ∃ k : Nat, (k ≤ R.length ∨ k = 1) ∧ 1 ≤ k ∧ i = .int .i64 k ∧ Below w7.heap.size w7 wr) (fun i _ => R.length - (intOf i).toNat)
          case atStart => exact ⟨1, .inr rfl, by omega, rfl, Below.refl _ _⟩
          case round =>
            obtain ⟨w8, rfl⟩ : ∃ w8 : World, w8 = wr := ⟨_, rfl⟩
            obtain ⟨k, hk, hk1, rfl, hx⟩ := hrel
            by_cases hlt : k < R.length
            · obtain ⟨y, hyk⟩ : ∃ y, R[k]? = some y := ⟨_, List.getElem?_eq_getElem hlt⟩
              have hlt0 : k - 1 < R.length := by omega
              obtain ⟨x, hxk⟩ : ∃ x, R[k - 1]? = some x := ⟨_, List.getElem?_eq_getElem hlt0⟩
              have hless : lt20 x y = true := by
                have := List.pairwise_iff_getElem.1 HR.out (k - 1) k hlt0 hlt (by omega)
                rw [List.getElem?_eq_getElem hlt] at hyk
                rw [List.getElem?_eq_getElem hlt0] at hxk
                rwa [Option.some.inj hyk, Option.some.inj hxk] at this
              obtain ⟨q1, hadr1, hld1, _⟩ := elem_at (HOUT.out.below hx) k y hyk
              obtain ⟨q2, hadr2, hld2, _⟩ := elem_at (HOUT.out.below hx) (k - 1) x hxk
              have HL1 := Lib.hid hld1
              have HL2 := Lib.hid hld2
              have HLS := Lib.hid hless
              have hwr := i64_pred k (by omega) (by omega)
              clear hld1 hld2 hxk hyk hless
              have hd1 : decide (k < R.length) = true := by simpa using hlt
              go_wp2_with fail
              try simp only [Act.put, List.setIfInBounds_toArray, List.set_cons_succ, List.set_cons_zero]
              refine Agg.wp_region_later_lit (by kernel_rfl) (by kernel_rfl) ?_
              repeat (first | go_big_quiet_skip | ((first | (with_reducible refine Agg.wpQuiet_loadL HL1.out (by kernel_rfl) _ rfl rfl ?_) | (with_reducible refine Agg.wpQuiet_loadL HL2.out (by kernel_rfl) _ rfl rfl ?_)); simp only [Act.put, List.setIfInBounds_toArray, List.set_cons_succ, List.set_cons_zero]) | go_big_quiet_step ((go_at_call 36; exact Agg.Calls.later (less20 x y _ true HLS.out))))
              refine wpQuiet_nil ?_
              intro _ hw'
              obtain ⟨x2, rfl⟩ := hw'
              go_wp2_with fail
              go_roundw
              case rel => exact ⟨k + 1, .inl (by omega), by omega, by go_num, Agg.belowThen hx (Nat.le_refl _) x2.h⟩
              case measure => simp [intOf]; omega
            · have hd1 : decide (k < R.length) = false := by simp; omega
              have hw8 := hw7.trans (hx.mono hw7.size)
              go_wp2_with fail
              refine (withinP_any v vout l R hlen (by omega) (fun x hx => (HMEM.out x).2 hx) _ (HE.out.below hw8) (HOUT.out.below hx)).mono ?_
              rintro e w9 ⟨rfl, hx9⟩
              have hw9 := hw8.trans (hx9.mono hw8.size)
              go_wp2_with fail
              refine (withinP_any vout v R l (by omega) hlen (fun x hx => (HMEM.out x).1 hx) _ ((HOUT.out.below hx).below hx9) (HE.out.below hw9)).mono ?_
              rintro e w10 ⟨rfl, hx10⟩
              go_wp2_with fail
              go_ret
              exact ⟨rfl, hw9.trans (hx10.mono hw9.size)⟩
        · have hq : ∀ w, (binOp .eql 40 (.agg (pC a.1.1 a.1.2)) (.agg (pC b.1.1 b.1.2))).run Try.prog w = .ok (.bool false) w := fun w => by rw [eql20]; simp [he1]
          have H1 := Lib.hid he1
          clear he1
          have Hab := Lib.hid hab
          have Hba := Lib.hid hba
          clear hab hba
          go_wp2_with fail
          try simp only [Act.put, List.setIfInBounds_toArray, List.set_cons_succ, List.set_cons_zero]
          refine Agg.wp_region_later_lit (by kernel_rfl) (by kernel_rfl) ?_
          repeat (first | go_big_quiet_skip | ((first | (with_reducible refine Agg.wpQuiet_loadL HA5.out (by kernel_rfl) _ rfl rfl ?_) | (with_reducible refine Agg.wpQuiet_loadL HB5.out (by kernel_rfl) _ rfl rfl ?_) | (with_reducible refine Agg.wpQuiet_loadL HC5.out (by kernel_rfl) _ rfl rfl ?_) | (with_reducible refine Agg.wpQuiet_eql (by kernel_rfl) 40 40 _ _ rfl (pC a.1.1 a.1.2) (pC b.1.1 b.1.2) rfl rfl (false) (by kernel_rfl) hq ?_)); simp only [Act.put, List.setIfInBounds_toArray, List.set_cons_succ, List.set_cons_zero]) | go_big_quiet_step ((go_at_call 36; (first | with_reducible exact Agg.Calls.later (less20 a a _ false (lt20_irrefl a)) | with_reducible exact Agg.Calls.later (less20 a b _ false Hab.out) | with_reducible exact Agg.Calls.later (less20 b a _ true Hba.out)))))
          refine wpQuiet_nil ?_
          intro _ hw'
          obtain ⟨x1, rfl⟩ := hw'
          have hw1 := Agg.belowThen hw (Nat.le_refl _) x1.h
          generalize x1.w = w6 at *
          clear hq HA5 HB5 HC5 hd1 hd2 hd3
          go_wp2_with fail
          refine (sorted_any v l hlen w6 (HE.out.below hw1)).mono ?_
          rintro e w7 ⟨vout, R, rfl, hR, hmem, hout, hx7⟩
          have hw7 := hw1.trans (hx7.mono hw1.size)
          have hrl : R.length ≤ l.length := length_le_of_sub R l (List.Pairwise.imp (fun {a b} hab (e : a = b) => by subst e; rw [lt20_irrefl] at hab; cases hab) hR) fun x hx => (hmem x).1 hx
          have HOUT := Lib.hid hout
          have HR := Lib.hid hR
          have HMEM := Lib.hid hmem
          have hlo := fun W => elems_len HOUT.out W
          clear hx7 hout hR hmem
          go_wp2_with fail
          go_loopw [12] (fun i wr => ∃ k : Nat, (k ≤ R.length ∨ k = 1) ∧ 1 ≤ k ∧ i = .int .i64 k ∧ Below w7.heap.size w7 wr) (fun i _ => R.length - (intOf i).toNat)
          case atStart => exact ⟨1, .inr rfl, by omega, rfl, Below.refl _ _⟩
          case round =>
            obtain ⟨w8, rfl⟩ : ∃ w8 : World, w8 = wr := ⟨_, rfl⟩
            obtain ⟨k, hk, hk1, rfl, hx⟩ := hrel
            by_cases hlt : k < R.length
            · obtain ⟨y, hyk⟩ : ∃ y, R[k]? = some y := ⟨_, List.getElem?_eq_getElem hlt⟩
              have hlt0 : k - 1 < R.length := by omega
              obtain ⟨x, hxk⟩ : ∃ x, R[k - 1]? = some x := ⟨_, List.getElem?_eq_getElem hlt0⟩
              have hless : lt20 x y = true := by
                have := List.pairwise_iff_getElem.1 HR.out (k - 1) k hlt0 hlt (by omega)
                rw [List.getElem?_eq_getElem hlt] at hyk
                rw [List.getElem?_eq_getElem hlt0] at hxk
                rwa [Option.some.inj hyk, Option.some.inj hxk] at this
              obtain ⟨q1, hadr1, hld1, _⟩ := elem_at (HOUT.out.below hx) k y hyk
              obtain ⟨q2, hadr2, hld2, _⟩ := elem_at (HOUT.out.below hx) (k - 1) x hxk
              have HL1 := Lib.hid hld1
              have HL2 := Lib.hid hld2
              have HLS := Lib.hid hless
              have hwr := i64_pred k (by omega) (by omega)
              clear hld1 hld2 hxk hyk hless
              have hd1 : decide (k < R.length) = true := by simpa using hlt
              go_wp2_with fail
              try simp only [Act.put, List.setIfInBounds_toArray, List.set_cons_succ, List.set_cons_zero]
              refine Agg.wp_region_later_lit (by kernel_rfl) (by kernel_rfl) ?_
              repeat (first | go_big_quiet_skip | ((first | (with_reducible refine Agg.wpQuiet_loadL HL1.out (by kernel_rfl) _ rfl rfl ?_) | (with_reducible refine Agg.wpQuiet_loadL HL2.out (by kernel_rfl) _ rfl rfl ?_)); simp only [Act.put, List.setIfInBounds_toArray, List.set_cons_succ, List.set_cons_zero]) | go_big_quiet_step ((go_at_call 36; exact Agg.Calls.later (less20 x y _ true HLS.out))))
              refine wpQuiet_nil ?_
              intro _ hw'
              obtain ⟨x2, rfl⟩ := hw'
              go_wp2_with fail
              go_roundw
              case rel => exact ⟨k + 1, .inl (by omega), by omega, by go_num, Agg.belowThen hx (Nat.le_refl _) x2.h⟩
              case measure => simp [intOf]; omega
            · have hd1 : decide (k < R.length) = false := by simp; omega
              have hw8 := hw7.trans (hx.mono hw7.size)
              go_wp2_with fail
              refine (withinP_any v vout l R hlen (by omega) (fun x hx => (HMEM.out x).2 hx) _ (HE.out.below hw8) (HOUT.out.below hx)).mono ?_
              rintro e w9 ⟨rfl, hx9⟩
              have hw9 := hw8.trans (hx9.mono hw8.size)
              go_wp2_with fail
              refine (withinP_any vout v R l (by omega) hlen (fun x hx => (HMEM.out x).1 hx) _ ((HOUT.out.below hx).below hx9) (HE.out.below hw9)).mono ?_
              rintro e w10 ⟨rfl, hx10⟩
              go_wp2_with fail
              go_ret
              exact ⟨rfl, hw9.trans (hx10.mono hw9.size)⟩
      · by_cases h120 : l.length ≤ 120
        · have h2000 : ¬ M ≤ 2000 := fun h => hbig ⟨h, h120⟩
          have hd2 : decide (2000 < (M : Int)) = true := by simp; omega
          have hd4 : decide ((M : Int) ≤ 2000) = false := by simp; omega
          clear hbig hlt hM hx
          by_cases hkl : k < l.length
          · have hd1 : decide (k < l.length) = true := by simpa using hkl
            by_cases hk3 : k < 120
            · have hd3 : decide ((k : Int) < 120) = true := by simp; omega
              go_wp2_with fail
              go_ret
              exact ⟨rfl, hw⟩
            · have hd3 : decide ((k : Int) < 120) = false := by simp; omega
              go_wp2_with fail
              go_ret
              exact ⟨rfl, hw⟩
          · have hd1 : decide (k < l.length) = false := by simpa using hkl
            go_wp2_with fail
            go_ret
            exact ⟨rfl, hw⟩
        · have hd1 : decide (120 < (l.length : Int)) = true := by simp; omega
          have hkl : k < l.length := by omega
          have hd0 : decide (k < l.length) = true := by simpa using hkl
          clear hbig hM hx
          by_cases hk3 : k < 120
          · have hd3 : decide ((k : Int) < 120) = true := by simp; omega
            have hd4 : decide ((M : Int) ≤ 2000) = false := by simp; omega
            have hd5 : decide (2000 < (M : Int)) = true := by simp; omega
            clear hlt
            go_wp2_with fail
            go_ret
            exact ⟨rfl, hw⟩
          · have hd3 : decide ((k : Int) < 120) = false := by simp; omega
            clear hlt
            by_cases h2 : M ≤ 2000
            · have hd5 : decide (2000 < (M : Int)) = false := by simp; omega
              go_wp2_with fail
              go_ret
              exact ⟨rfl, hw⟩
            · have hd5 : decide (2000 < (M : Int)) = true := by simp; omega
              go_wp2_with fail
              go_ret
              exact ⟨rfl, hw⟩
end Go.Proofs.Ytfgjepfmcmppaaa
