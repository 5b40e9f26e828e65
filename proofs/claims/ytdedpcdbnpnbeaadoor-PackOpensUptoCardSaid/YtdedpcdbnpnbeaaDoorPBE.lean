/- .. as a state: contracts without cases; Text. (Several texts in one.) -/
import Derived.Test.YtdedpcdbnpnbeaaDoorPBD
/-! .. Num. -/
namespace Go.Proofs.YtdedpcdbnpnbeaaDoor
open Go.RowKit Pl Go.Agg
/-- what Num answers -/
def ANum (base g most : Nat) (r : List UInt8) (x : Ending) (w' : World) : Prop :=
  (∃ n y v', getN most r = some (n, y) ∧ x = .returned (.int .i64 (n : Int)) ∧ CaV base g w' v' y 0) ∨ (getN most r = none ∧ x = .returned (.int .i64 0) ∧ CaBad base g w')
set_option maxRecDepth 100000 in
set_option maxHeartbeats 8000000 in
theorem acnum_good (base g most : Nat) (v : Value) (r : List UInt8) (w : World) (hr : r.length ≤ 16777216) (_hmo : most ≤ 1099511627776) (hm : CaV base g w v r 0) :
    Calls Tryd.prog 39 #[.pointer (some ⟨g, 0, none⟩), .int .i64 (most : Int)] w fun x w' => ANum base g most r x w' ∧ Only (· = g) w w' := by
  have hlr := fun W => bytes_len hm.rest.slice W
  have HM := Lib.hid hm
  clear hm
  go_enter Tryd.func39, Tryd.ntmps39
  go_wp2_with fail
  go_loopw [5, 6, 7] (fun nn u i wr => ∃ k N : Nat, k ≤ 6 ∧ k ≤ r.length ∧ i = .int .i64 (k : Int) ∧ nn = .int .i64 (N : Int) ∧ u = .int .i64 ((128 ^ k : Nat) : Int) ∧ numGo 0 0 r = numGo k N (r.drop k) ∧ N < 128 ^ k ∧ wr = w) (fun _ _ i _ => 6 - (intOf i).toNat)
  case atStart => exact ⟨0, 0, by omega, by omega, rfl, rfl, rfl, by simp, by simp, rfl⟩
  case round =>
    obtain ⟨k, N, hk, hkl, rfl, rfl, hu, hgo, hN, rfl⟩ := hrel
    have HGO := Lib.hid hgo
    clear hgo
    by_cases hlt : k < 6 ∧ k < r.length
    · obtain ⟨h3, hlt⟩ := hlt
      have hk3 : k = 0 ∨ k = 1 ∨ k = 2 ∨ k = 3 ∨ k = 4 ∨ k = 5 := by omega
      obtain ⟨b, hbk⟩ : ∃ b, r[k]? = some b := ⟨_, List.getElem?_eq_getElem (by omega)⟩
      have hdrop : r.drop k = b :: r.drop (k + 1) := by
        obtain ⟨h1, rfl⟩ := List.getElem?_eq_some_iff.1 hbk
        exact List.drop_eq_getElem_cons h1
      have HGOB := Lib.hid (show numGo 0 0 r = numGo k N (b :: r.drop (k + 1)) by rw [HGO.out, hdrop])
      obtain ⟨x, hx⟩ : ∃ x, b.toNat % 128 = x := ⟨_, rfl⟩
      have hx128 : x < 128 := by omega
      have hxI : (b.toNat : Int) % 128 = (x : Int) := by omega
      obtain ⟨M, hM⟩ : ∃ M, N + x * 128 ^ k = M := ⟨_, rfl⟩
      have HSTEP := Lib.hid (show numGo k N (b :: r.drop (k + 1)) = if b.toNat < 128 then (k + 1, M) else numGo (k + 1) M (r.drop (k + 1)) by
        simp only [numGo]
        rw [if_neg (by omega)]
        split
        · rename_i h
          rw [← hM, ← hx, Nat.mod_eq_of_lt h]
        · rw [hx, hM])
      have HMM := Lib.hid hM
      have HN := Lib.hid hN
      clear hdrop hx hM hN HGO h3
      rcases hk3 with rfl | rfl | rfl | rfl | rfl | rfl
      · obtain ⟨q, hadr0, hld⟩ := byte_at HM.out.rest.slice 0 b hbk
        have hadr : ∀ W, (Instr.indexAt 22 v (.int .i64 0)).run Tryd.prog W = .ok (.pointer (some q)) W := hadr0
        have HL := Lib.hid hld
        have hsum : (N : Int) + (x : Int) = (M : Int) := by have h := HMM.out; simp only [Nat.reducePow, Nat.mul_one] at h; omega
        have hMb : M < 128 := by have h1 := HMM.out; have h2 := HN.out; simp only [Nat.reducePow] at h1 h2; omega
        have hb256 : b.toNat < 256 := b.toNat_lt
        have hlI : (0 : Int) < (r.length : Int) := by omega
        have hu' := hu.trans (rfl : (Value.int .i64 ((128 ^ 0 : Nat) : Int)) = .int .i64 1)
        clear hadr0 hld hbk hu
        subst hu'
        by_cases hb1 : b.toNat < 128
        · have hI : ¬ (128 : Int) ≤ (b.toNat : Int) := by omega
          have HGO2 := Lib.hid (show numGo 0 0 r = (1, M) by
            rw [HGOB.out, HSTEP.out, if_pos hb1])
          go_wp2_with (first | (with_reducible refine Agg.wpList_loadL HM.out.load rfl _ rfl rfl ?_) | (with_reducible refine Agg.wpList_loadL HM.out.err rfl _ rfl rfl ?_) | (with_reducible refine Agg.wpList_loadL HL.out rfl _ rfl rfl ?_))
          refine (refNumber_any M _ (by omega)).mono ?_
          rintro x w2 ⟨u2, rfl, hu2, hx2⟩
          have hlu := fun W => bytes_len hu2.slice W
          have HM2 := Lib.hid (HM.out.below hx2)
          have HX2 := Lib.hid hx2
          clear hu2 hx2 hI hb1 hadr
          obtain ⟨n2, hn2⟩ : ∃ n, (encN M).length = n := ⟨_, rfl⟩
          rw [hn2] at hlu
          have HN2 := Lib.hid hn2
          clear hn2
          by_cases hg : n2 = 1 ∧ M ≤ 1099511627776 ∧ M ≤ most
          · obtain ⟨rfl, hg2, hg3⟩ := hg
            have hlu' : ∀ W, (Builtin.len_ #[22] 3 #[u2]).run Tryd.prog W = .ok (.int .i64 1) W := hlu
            clear hlu
            have hI2 : ¬ (1099511627776 : Int) < (M : Int) := by omega
            have hI3 : ¬ (most : Int) < (M : Int) := by omega
            have HRES := Lib.hid (show getN most r = some (M, r.drop 1) from by rw [getN_go, HGO2.out, if_neg (by rw [HN2.out]; rintro (h | h | h | h) <;> omega)])
            obtain ⟨vy, hsy0, hry, hyc, hy1⟩ := arest_low HM2.out.rest 1 (by omega)
            have hsy : ∀ W, (Instr.sliceAt 22 v (some (.int .i64 1)) none none).run Tryd.prog W = .ok vy W := hsy0
            obtain ⟨w3, hrun, hb3, ho3, hr3⟩ := HM2.out.put (ty := 22) 0 (by omega) vy hyc hy1 (by kernel_rfl)
            have HCU := Lib.hid (show CaV base g w3 vy (r.drop 1) 0 from ⟨hb3, hr3 hry⟩)
            have HON := Lib.hid ((Only.of_below (S := (· = g)) HX2.out).trans ho3 fun _ _ h => h)
            clear hsy0 hry hyc hy1 hb3 ho3 hr3 hg2 hg3
            go_wp2_with (first | (with_reducible refine Agg.wpList_loadL HM2.out.load rfl _ rfl rfl ?_) | (refine Agg.wpList_store rfl rfl 22 _ _ rfl (.pointer (some ⟨g, 0, none⟩)) _ rfl rfl hrun ?_))
            all_goals first
              | (exfalso; omega)
              | (go_ret
                 exact ⟨.inl ⟨M, r.drop 1, vy, HRES.out, rfl, HCU.out⟩, HON.out⟩)
          · have HRES := Lib.hid (show getN most r = none from by rw [getN_go, HGO2.out, if_pos (by rw [HN2.out]; by_cases h1 : n2 = 1; by_cases h2 : M ≤ 1099511627776; exact .inr (.inr (.inr (by omega))); exact .inr (.inr (.inl (by omega))); exact .inr (.inl (fun h => h1 h.symm)))])
            by_cases hg1 : n2 = 1
            · subst hg1
              have hlu' : ∀ W, (Builtin.len_ #[22] 3 #[u2]).run Tryd.prog W = .ok (.int .i64 1) W := hlu
              clear hlu
              by_cases hg2 : M ≤ 1099511627776
              · have hI2 : ¬ (1099511627776 : Int) < (M : Int) := by omega
                have hI3 : (most : Int) < (M : Int) := by omega
                clear hg
                go_wp2_with fail
                all_goals first
                  | (exfalso; omega)
                  | (refine (afail_any base g v r 0 4 _ HM2.out).mono ?_
                     rintro x w9 ⟨⟨rr, rfl⟩, hcu, hon⟩
                     have HCU := Lib.hid hcu
                     have HON := Lib.hid ((Only.of_below (S := (· = g)) HX2.out).trans hon fun _ _ h => h)
                     clear hcu hon
                     go_wp2_with fail
                     go_ret
                     exact ⟨.inr ⟨HRES.out, rfl, 4, by omega, HCU.out⟩, HON.out⟩)
              · have hI2 : (1099511627776 : Int) < (M : Int) := by omega
                clear hg
                go_wp2_with fail
                all_goals first
                  | (exfalso; omega)
                  | (refine (afail_any base g v r 0 4 _ HM2.out).mono ?_
                     rintro x w9 ⟨⟨rr, rfl⟩, hcu, hon⟩
                     have HCU := Lib.hid hcu
                     have HON := Lib.hid ((Only.of_below (S := (· = g)) HX2.out).trans hon fun _ _ h => h)
                     clear hcu hon
                     go_wp2_with fail
                     go_ret
                     exact ⟨.inr ⟨HRES.out, rfl, 4, by omega, HCU.out⟩, HON.out⟩)
            · have hq : ((n2 : Int) != 1) = true := by simp [bne_iff_ne]; omega
              clear hg
              go_wp2_with fail
              all_goals first
                | (exfalso; omega)
                | (refine (afail_any base g v r 0 4 _ HM2.out).mono ?_
                   rintro x w9 ⟨⟨rr, rfl⟩, hcu, hon⟩
                   have HCU := Lib.hid hcu
                   have HON := Lib.hid ((Only.of_below (S := (· = g)) HX2.out).trans hon fun _ _ h => h)
                   clear hcu hon
                   go_wp2_with fail
                   go_ret
                   exact ⟨.inr ⟨HRES.out, rfl, 4, by omega, HCU.out⟩, HON.out⟩)
        · have hI : (128 : Int) ≤ (b.toNat : Int) := by omega
          have HGO2 := Lib.hid (show numGo 0 0 r = numGo 1 M (r.drop 1) by
            rw [HGOB.out, HSTEP.out, if_neg hb1])
          have HMN2 := Lib.hid (show M < 128 ^ 1 by have h1 := HMM.out; have h2 := HN.out; simp only [Nat.reducePow] at h1 h2 ⊢; omega)
          clear hb1
          go_wp2_with (first | (with_reducible refine Agg.wpList_loadL HM.out.load rfl _ rfl rfl ?_) | (with_reducible refine Agg.wpList_loadL HM.out.err rfl _ rfl rfl ?_) | (with_reducible refine Agg.wpList_loadL HL.out rfl _ rfl rfl ?_))
          go_roundw
          case rel => exact ⟨1, M, by omega, by omega, by go_num, by go_num, rfl, HGO2.out, HMN2.out, by first | rfl | trivial⟩
          case measure => simp [intOf]
      · obtain ⟨q, hadr0, hld⟩ := byte_at HM.out.rest.slice 1 b hbk
        have hadr : ∀ W, (Instr.indexAt 22 v (.int .i64 1)).run Tryd.prog W = .ok (.pointer (some q)) W := hadr0
        have HL := Lib.hid hld
        have hsum : (N : Int) + (x : Int) * 128 = (M : Int) := by have h := HMM.out; simp only [Nat.reducePow] at h; omega
        have hMb : M < 16384 := by have h1 := HMM.out; have h2 := HN.out; simp only [Nat.reducePow] at h1 h2; omega
        have hb256 : b.toNat < 256 := b.toNat_lt
        have hlI : (1 : Int) < (r.length : Int) := by omega
        have hu' := hu.trans (rfl : (Value.int .i64 ((128 ^ 1 : Nat) : Int)) = .int .i64 128)
        clear hadr0 hld hbk hu
        subst hu'
        by_cases hb1 : b.toNat < 128
        · have hI : ¬ (128 : Int) ≤ (b.toNat : Int) := by omega
          have HGO2 := Lib.hid (show numGo 0 0 r = (2, M) by
            rw [HGOB.out, HSTEP.out, if_pos hb1])
          go_wp2_with (first | (with_reducible refine Agg.wpList_loadL HM.out.load rfl _ rfl rfl ?_) | (with_reducible refine Agg.wpList_loadL HM.out.err rfl _ rfl rfl ?_) | (with_reducible refine Agg.wpList_loadL HL.out rfl _ rfl rfl ?_))
          refine (refNumber_any M _ (by omega)).mono ?_
          rintro x w2 ⟨u2, rfl, hu2, hx2⟩
          have hlu := fun W => bytes_len hu2.slice W
          have HM2 := Lib.hid (HM.out.below hx2)
          have HX2 := Lib.hid hx2
          clear hu2 hx2 hI hb1 hadr
          obtain ⟨n2, hn2⟩ : ∃ n, (encN M).length = n := ⟨_, rfl⟩
          rw [hn2] at hlu
          have HN2 := Lib.hid hn2
          clear hn2
          by_cases hg : n2 = 2 ∧ M ≤ 1099511627776 ∧ M ≤ most
          · obtain ⟨rfl, hg2, hg3⟩ := hg
            have hlu' : ∀ W, (Builtin.len_ #[22] 3 #[u2]).run Tryd.prog W = .ok (.int .i64 2) W := hlu
            clear hlu
            have hI2 : ¬ (1099511627776 : Int) < (M : Int) := by omega
            have hI3 : ¬ (most : Int) < (M : Int) := by omega
            have HRES := Lib.hid (show getN most r = some (M, r.drop 2) from by rw [getN_go, HGO2.out, if_neg (by rw [HN2.out]; rintro (h | h | h | h) <;> omega)])
            obtain ⟨vy, hsy0, hry, hyc, hy1⟩ := arest_low HM2.out.rest 2 (by omega)
            have hsy : ∀ W, (Instr.sliceAt 22 v (some (.int .i64 2)) none none).run Tryd.prog W = .ok vy W := hsy0
            obtain ⟨w3, hrun, hb3, ho3, hr3⟩ := HM2.out.put (ty := 22) 0 (by omega) vy hyc hy1 (by kernel_rfl)
            have HCU := Lib.hid (show CaV base g w3 vy (r.drop 2) 0 from ⟨hb3, hr3 hry⟩)
            have HON := Lib.hid ((Only.of_below (S := (· = g)) HX2.out).trans ho3 fun _ _ h => h)
            clear hsy0 hry hyc hy1 hb3 ho3 hr3 hg2 hg3
            go_wp2_with (first | (with_reducible refine Agg.wpList_loadL HM2.out.load rfl _ rfl rfl ?_) | (refine Agg.wpList_store rfl rfl 22 _ _ rfl (.pointer (some ⟨g, 0, none⟩)) _ rfl rfl hrun ?_))
            all_goals first
              | (exfalso; omega)
              | (go_ret
                 exact ⟨.inl ⟨M, r.drop 2, vy, HRES.out, rfl, HCU.out⟩, HON.out⟩)
          · have HRES := Lib.hid (show getN most r = none from by rw [getN_go, HGO2.out, if_pos (by rw [HN2.out]; by_cases h1 : n2 = 2; by_cases h2 : M ≤ 1099511627776; exact .inr (.inr (.inr (by omega))); exact .inr (.inr (.inl (by omega))); exact .inr (.inl (fun h => h1 h.symm)))])
            by_cases hg1 : n2 = 2
            · subst hg1
              have hlu' : ∀ W, (Builtin.len_ #[22] 3 #[u2]).run Tryd.prog W = .ok (.int .i64 2) W := hlu
              clear hlu
              by_cases hg2 : M ≤ 1099511627776
              · have hI2 : ¬ (1099511627776 : Int) < (M : Int) := by omega
                have hI3 : (most : Int) < (M : Int) := by omega
                clear hg
                go_wp2_with fail
                all_goals first
                  | (exfalso; omega)
                  | (refine (afail_any base g v r 0 4 _ HM2.out).mono ?_
                     rintro x w9 ⟨⟨rr, rfl⟩, hcu, hon⟩
                     have HCU := Lib.hid hcu
                     have HON := Lib.hid ((Only.of_below (S := (· = g)) HX2.out).trans hon fun _ _ h => h)
                     clear hcu hon
                     go_wp2_with fail
                     go_ret
                     exact ⟨.inr ⟨HRES.out, rfl, 4, by omega, HCU.out⟩, HON.out⟩)
              · have hI2 : (1099511627776 : Int) < (M : Int) := by omega
                clear hg
                go_wp2_with fail
                all_goals first
                  | (exfalso; omega)
                  | (refine (afail_any base g v r 0 4 _ HM2.out).mono ?_
                     rintro x w9 ⟨⟨rr, rfl⟩, hcu, hon⟩
                     have HCU := Lib.hid hcu
                     have HON := Lib.hid ((Only.of_below (S := (· = g)) HX2.out).trans hon fun _ _ h => h)
                     clear hcu hon
                     go_wp2_with fail
                     go_ret
                     exact ⟨.inr ⟨HRES.out, rfl, 4, by omega, HCU.out⟩, HON.out⟩)
            · have hq : ((n2 : Int) != 2) = true := by simp [bne_iff_ne]; omega
              clear hg
              go_wp2_with fail
              all_goals first
                | (exfalso; omega)
                | (refine (afail_any base g v r 0 4 _ HM2.out).mono ?_
                   rintro x w9 ⟨⟨rr, rfl⟩, hcu, hon⟩
                   have HCU := Lib.hid hcu
                   have HON := Lib.hid ((Only.of_below (S := (· = g)) HX2.out).trans hon fun _ _ h => h)
                   clear hcu hon
                   go_wp2_with fail
                   go_ret
                   exact ⟨.inr ⟨HRES.out, rfl, 4, by omega, HCU.out⟩, HON.out⟩)
        · have hI : (128 : Int) ≤ (b.toNat : Int) := by omega
          have HGO2 := Lib.hid (show numGo 0 0 r = numGo 2 M (r.drop 2) by
            rw [HGOB.out, HSTEP.out, if_neg hb1])
          have HMN2 := Lib.hid (show M < 128 ^ 2 by have h1 := HMM.out; have h2 := HN.out; simp only [Nat.reducePow] at h1 h2 ⊢; omega)
          clear hb1
          go_wp2_with (first | (with_reducible refine Agg.wpList_loadL HM.out.load rfl _ rfl rfl ?_) | (with_reducible refine Agg.wpList_loadL HM.out.err rfl _ rfl rfl ?_) | (with_reducible refine Agg.wpList_loadL HL.out rfl _ rfl rfl ?_))
          go_roundw
          case rel => exact ⟨2, M, by omega, by omega, by go_num, by go_num, rfl, HGO2.out, HMN2.out, by first | rfl | trivial⟩
          case measure => simp [intOf]
      · obtain ⟨q, hadr0, hld⟩ := byte_at HM.out.rest.slice 2 b hbk
        have hadr : ∀ W, (Instr.indexAt 22 v (.int .i64 2)).run Tryd.prog W = .ok (.pointer (some q)) W := hadr0
        have HL := Lib.hid hld
        have hsum : (N : Int) + (x : Int) * 16384 = (M : Int) := by have h := HMM.out; simp only [Nat.reducePow] at h; omega
        have hMb : M < 2097152 := by have h1 := HMM.out; have h2 := HN.out; simp only [Nat.reducePow] at h1 h2; omega
        have hb256 : b.toNat < 256 := b.toNat_lt
        have hlI : (2 : Int) < (r.length : Int) := by omega
        have hu' := hu.trans (rfl : (Value.int .i64 ((128 ^ 2 : Nat) : Int)) = .int .i64 16384)
        clear hadr0 hld hbk hu
        subst hu'
        by_cases hb1 : b.toNat < 128
        · have hI : ¬ (128 : Int) ≤ (b.toNat : Int) := by omega
          have HGO2 := Lib.hid (show numGo 0 0 r = (3, M) by
            rw [HGOB.out, HSTEP.out, if_pos hb1])
          go_wp2_with (first | (with_reducible refine Agg.wpList_loadL HM.out.load rfl _ rfl rfl ?_) | (with_reducible refine Agg.wpList_loadL HM.out.err rfl _ rfl rfl ?_) | (with_reducible refine Agg.wpList_loadL HL.out rfl _ rfl rfl ?_))
          refine (refNumber_any M _ (by omega)).mono ?_
          rintro x w2 ⟨u2, rfl, hu2, hx2⟩
          have hlu := fun W => bytes_len hu2.slice W
          have HM2 := Lib.hid (HM.out.below hx2)
          have HX2 := Lib.hid hx2
          clear hu2 hx2 hI hb1 hadr
          obtain ⟨n2, hn2⟩ : ∃ n, (encN M).length = n := ⟨_, rfl⟩
          rw [hn2] at hlu
          have HN2 := Lib.hid hn2
          clear hn2
          by_cases hg : n2 = 3 ∧ M ≤ 1099511627776 ∧ M ≤ most
          · obtain ⟨rfl, hg2, hg3⟩ := hg
            have hlu' : ∀ W, (Builtin.len_ #[22] 3 #[u2]).run Tryd.prog W = .ok (.int .i64 3) W := hlu
            clear hlu
            have hI2 : ¬ (1099511627776 : Int) < (M : Int) := by omega
            have hI3 : ¬ (most : Int) < (M : Int) := by omega
            have HRES := Lib.hid (show getN most r = some (M, r.drop 3) from by rw [getN_go, HGO2.out, if_neg (by rw [HN2.out]; rintro (h | h | h | h) <;> omega)])
            obtain ⟨vy, hsy0, hry, hyc, hy1⟩ := arest_low HM2.out.rest 3 (by omega)
            have hsy : ∀ W, (Instr.sliceAt 22 v (some (.int .i64 3)) none none).run Tryd.prog W = .ok vy W := hsy0
            obtain ⟨w3, hrun, hb3, ho3, hr3⟩ := HM2.out.put (ty := 22) 0 (by omega) vy hyc hy1 (by kernel_rfl)
            have HCU := Lib.hid (show CaV base g w3 vy (r.drop 3) 0 from ⟨hb3, hr3 hry⟩)
            have HON := Lib.hid ((Only.of_below (S := (· = g)) HX2.out).trans ho3 fun _ _ h => h)
            clear hsy0 hry hyc hy1 hb3 ho3 hr3 hg2 hg3
            go_wp2_with (first | (with_reducible refine Agg.wpList_loadL HM2.out.load rfl _ rfl rfl ?_) | (refine Agg.wpList_store rfl rfl 22 _ _ rfl (.pointer (some ⟨g, 0, none⟩)) _ rfl rfl hrun ?_))
            all_goals first
              | (exfalso; omega)
              | (go_ret
                 exact ⟨.inl ⟨M, r.drop 3, vy, HRES.out, rfl, HCU.out⟩, HON.out⟩)
          · have HRES := Lib.hid (show getN most r = none from by rw [getN_go, HGO2.out, if_pos (by rw [HN2.out]; by_cases h1 : n2 = 3; by_cases h2 : M ≤ 1099511627776; exact .inr (.inr (.inr (by omega))); exact .inr (.inr (.inl (by omega))); exact .inr (.inl (fun h => h1 h.symm)))])
            by_cases hg1 : n2 = 3
            · subst hg1
              have hlu' : ∀ W, (Builtin.len_ #[22] 3 #[u2]).run Tryd.prog W = .ok (.int .i64 3) W := hlu
              clear hlu
              by_cases hg2 : M ≤ 1099511627776
              · have hI2 : ¬ (1099511627776 : Int) < (M : Int) := by omega
                have hI3 : (most : Int) < (M : Int) := by omega
                clear hg
                go_wp2_with fail
                all_goals first
                  | (exfalso; omega)
                  | (refine (afail_any base g v r 0 4 _ HM2.out).mono ?_
                     rintro x w9 ⟨⟨rr, rfl⟩, hcu, hon⟩
                     have HCU := Lib.hid hcu
                     have HON := Lib.hid ((Only.of_below (S := (· = g)) HX2.out).trans hon fun _ _ h => h)
                     clear hcu hon
                     go_wp2_with fail
                     go_ret
                     exact ⟨.inr ⟨HRES.out, rfl, 4, by omega, HCU.out⟩, HON.out⟩)
              · have hI2 : (1099511627776 : Int) < (M : Int) := by omega
                clear hg
                go_wp2_with fail
                all_goals first
                  | (exfalso; omega)
                  | (refine (afail_any base g v r 0 4 _ HM2.out).mono ?_
                     rintro x w9 ⟨⟨rr, rfl⟩, hcu, hon⟩
                     have HCU := Lib.hid hcu
                     have HON := Lib.hid ((Only.of_below (S := (· = g)) HX2.out).trans hon fun _ _ h => h)
                     clear hcu hon
                     go_wp2_with fail
                     go_ret
                     exact ⟨.inr ⟨HRES.out, rfl, 4, by omega, HCU.out⟩, HON.out⟩)
            · have hq : ((n2 : Int) != 3) = true := by simp [bne_iff_ne]; omega
              clear hg
              go_wp2_with fail
              all_goals first
                | (exfalso; omega)
                | (refine (afail_any base g v r 0 4 _ HM2.out).mono ?_
                   rintro x w9 ⟨⟨rr, rfl⟩, hcu, hon⟩
                   have HCU := Lib.hid hcu
                   have HON := Lib.hid ((Only.of_below (S := (· = g)) HX2.out).trans hon fun _ _ h => h)
                   clear hcu hon
                   go_wp2_with fail
                   go_ret
                   exact ⟨.inr ⟨HRES.out, rfl, 4, by omega, HCU.out⟩, HON.out⟩)
        · have hI : (128 : Int) ≤ (b.toNat : Int) := by omega
          have HGO2 := Lib.hid (show numGo 0 0 r = numGo 3 M (r.drop 3) by
            rw [HGOB.out, HSTEP.out, if_neg hb1])
          have HMN2 := Lib.hid (show M < 128 ^ 3 by have h1 := HMM.out; have h2 := HN.out; simp only [Nat.reducePow] at h1 h2 ⊢; omega)
          clear hb1
          go_wp2_with (first | (with_reducible refine Agg.wpList_loadL HM.out.load rfl _ rfl rfl ?_) | (with_reducible refine Agg.wpList_loadL HM.out.err rfl _ rfl rfl ?_) | (with_reducible refine Agg.wpList_loadL HL.out rfl _ rfl rfl ?_))
          go_roundw
          case rel => exact ⟨3, M, by omega, by omega, by go_num, by go_num, rfl, HGO2.out, HMN2.out, by first | rfl | trivial⟩
          case measure => simp [intOf]
      · obtain ⟨q, hadr0, hld⟩ := byte_at HM.out.rest.slice 3 b hbk
        have hadr : ∀ W, (Instr.indexAt 22 v (.int .i64 3)).run Tryd.prog W = .ok (.pointer (some q)) W := hadr0
        have HL := Lib.hid hld
        have hsum : (N : Int) + (x : Int) * 2097152 = (M : Int) := by have h := HMM.out; simp only [Nat.reducePow] at h; omega
        have hMb : M < 268435456 := by have h1 := HMM.out; have h2 := HN.out; simp only [Nat.reducePow] at h1 h2; omega
        have hb256 : b.toNat < 256 := b.toNat_lt
        have hlI : (3 : Int) < (r.length : Int) := by omega
        have hu' := hu.trans (rfl : (Value.int .i64 ((128 ^ 3 : Nat) : Int)) = .int .i64 2097152)
        clear hadr0 hld hbk hu
        subst hu'
        by_cases hb1 : b.toNat < 128
        · have hI : ¬ (128 : Int) ≤ (b.toNat : Int) := by omega
          have HGO2 := Lib.hid (show numGo 0 0 r = (4, M) by
            rw [HGOB.out, HSTEP.out, if_pos hb1])
          go_wp2_with (first | (with_reducible refine Agg.wpList_loadL HM.out.load rfl _ rfl rfl ?_) | (with_reducible refine Agg.wpList_loadL HM.out.err rfl _ rfl rfl ?_) | (with_reducible refine Agg.wpList_loadL HL.out rfl _ rfl rfl ?_))
          refine (refNumber_any M _ (by omega)).mono ?_
          rintro x w2 ⟨u2, rfl, hu2, hx2⟩
          have hlu := fun W => bytes_len hu2.slice W
          have HM2 := Lib.hid (HM.out.below hx2)
          have HX2 := Lib.hid hx2
          clear hu2 hx2 hI hb1 hadr
          obtain ⟨n2, hn2⟩ : ∃ n, (encN M).length = n := ⟨_, rfl⟩
          rw [hn2] at hlu
          have HN2 := Lib.hid hn2
          clear hn2
          by_cases hg : n2 = 4 ∧ M ≤ 1099511627776 ∧ M ≤ most
          · obtain ⟨rfl, hg2, hg3⟩ := hg
            have hlu' : ∀ W, (Builtin.len_ #[22] 3 #[u2]).run Tryd.prog W = .ok (.int .i64 4) W := hlu
            clear hlu
            have hI2 : ¬ (1099511627776 : Int) < (M : Int) := by omega
            have hI3 : ¬ (most : Int) < (M : Int) := by omega
            have HRES := Lib.hid (show getN most r = some (M, r.drop 4) from by rw [getN_go, HGO2.out, if_neg (by rw [HN2.out]; rintro (h | h | h | h) <;> omega)])
            obtain ⟨vy, hsy0, hry, hyc, hy1⟩ := arest_low HM2.out.rest 4 (by omega)
            have hsy : ∀ W, (Instr.sliceAt 22 v (some (.int .i64 4)) none none).run Tryd.prog W = .ok vy W := hsy0
            obtain ⟨w3, hrun, hb3, ho3, hr3⟩ := HM2.out.put (ty := 22) 0 (by omega) vy hyc hy1 (by kernel_rfl)
            have HCU := Lib.hid (show CaV base g w3 vy (r.drop 4) 0 from ⟨hb3, hr3 hry⟩)
            have HON := Lib.hid ((Only.of_below (S := (· = g)) HX2.out).trans ho3 fun _ _ h => h)
            clear hsy0 hry hyc hy1 hb3 ho3 hr3 hg2 hg3
            go_wp2_with (first | (with_reducible refine Agg.wpList_loadL HM2.out.load rfl _ rfl rfl ?_) | (refine Agg.wpList_store rfl rfl 22 _ _ rfl (.pointer (some ⟨g, 0, none⟩)) _ rfl rfl hrun ?_))
            all_goals first
              | (exfalso; omega)
              | (go_ret
                 exact ⟨.inl ⟨M, r.drop 4, vy, HRES.out, rfl, HCU.out⟩, HON.out⟩)
          · have HRES := Lib.hid (show getN most r = none from by rw [getN_go, HGO2.out, if_pos (by rw [HN2.out]; by_cases h1 : n2 = 4; by_cases h2 : M ≤ 1099511627776; exact .inr (.inr (.inr (by omega))); exact .inr (.inr (.inl (by omega))); exact .inr (.inl (fun h => h1 h.symm)))])
            by_cases hg1 : n2 = 4
            · subst hg1
              have hlu' : ∀ W, (Builtin.len_ #[22] 3 #[u2]).run Tryd.prog W = .ok (.int .i64 4) W := hlu
              clear hlu
              by_cases hg2 : M ≤ 1099511627776
              · have hI2 : ¬ (1099511627776 : Int) < (M : Int) := by omega
                have hI3 : (most : Int) < (M : Int) := by omega
                clear hg
                go_wp2_with fail
                all_goals first
                  | (exfalso; omega)
                  | (refine (afail_any base g v r 0 4 _ HM2.out).mono ?_
                     rintro x w9 ⟨⟨rr, rfl⟩, hcu, hon⟩
                     have HCU := Lib.hid hcu
                     have HON := Lib.hid ((Only.of_below (S := (· = g)) HX2.out).trans hon fun _ _ h => h)
                     clear hcu hon
                     go_wp2_with fail
                     go_ret
                     exact ⟨.inr ⟨HRES.out, rfl, 4, by omega, HCU.out⟩, HON.out⟩)
              · have hI2 : (1099511627776 : Int) < (M : Int) := by omega
                clear hg
                go_wp2_with fail
                all_goals first
                  | (exfalso; omega)
                  | (refine (afail_any base g v r 0 4 _ HM2.out).mono ?_
                     rintro x w9 ⟨⟨rr, rfl⟩, hcu, hon⟩
                     have HCU := Lib.hid hcu
                     have HON := Lib.hid ((Only.of_below (S := (· = g)) HX2.out).trans hon fun _ _ h => h)
                     clear hcu hon
                     go_wp2_with fail
                     go_ret
                     exact ⟨.inr ⟨HRES.out, rfl, 4, by omega, HCU.out⟩, HON.out⟩)
            · have hq : ((n2 : Int) != 4) = true := by simp [bne_iff_ne]; omega
              clear hg
              go_wp2_with fail
              all_goals first
                | (exfalso; omega)
                | (refine (afail_any base g v r 0 4 _ HM2.out).mono ?_
                   rintro x w9 ⟨⟨rr, rfl⟩, hcu, hon⟩
                   have HCU := Lib.hid hcu
                   have HON := Lib.hid ((Only.of_below (S := (· = g)) HX2.out).trans hon fun _ _ h => h)
                   clear hcu hon
                   go_wp2_with fail
                   go_ret
                   exact ⟨.inr ⟨HRES.out, rfl, 4, by omega, HCU.out⟩, HON.out⟩)
        · have hI : (128 : Int) ≤ (b.toNat : Int) := by omega
          have HGO2 := Lib.hid (show numGo 0 0 r = numGo 4 M (r.drop 4) by
            rw [HGOB.out, HSTEP.out, if_neg hb1])
          have HMN2 := Lib.hid (show M < 128 ^ 4 by have h1 := HMM.out; have h2 := HN.out; simp only [Nat.reducePow] at h1 h2 ⊢; omega)
          clear hb1
          go_wp2_with (first | (with_reducible refine Agg.wpList_loadL HM.out.load rfl _ rfl rfl ?_) | (with_reducible refine Agg.wpList_loadL HM.out.err rfl _ rfl rfl ?_) | (with_reducible refine Agg.wpList_loadL HL.out rfl _ rfl rfl ?_))
          go_roundw
          case rel => exact ⟨4, M, by omega, by omega, by go_num, by go_num, rfl, HGO2.out, HMN2.out, by first | rfl | trivial⟩
          case measure => simp [intOf]
      · obtain ⟨q, hadr0, hld⟩ := byte_at HM.out.rest.slice 4 b hbk
        have hadr : ∀ W, (Instr.indexAt 22 v (.int .i64 4)).run Tryd.prog W = .ok (.pointer (some q)) W := hadr0
        have HL := Lib.hid hld
        have hsum : (N : Int) + (x : Int) * 268435456 = (M : Int) := by have h := HMM.out; simp only [Nat.reducePow] at h; omega
        have hMb : M < 34359738368 := by have h1 := HMM.out; have h2 := HN.out; simp only [Nat.reducePow] at h1 h2; omega
        have hb256 : b.toNat < 256 := b.toNat_lt
        have hlI : (4 : Int) < (r.length : Int) := by omega
        have hu' := hu.trans (rfl : (Value.int .i64 ((128 ^ 4 : Nat) : Int)) = .int .i64 268435456)
        clear hadr0 hld hbk hu
        subst hu'
        by_cases hb1 : b.toNat < 128
        · have hI : ¬ (128 : Int) ≤ (b.toNat : Int) := by omega
          have HGO2 := Lib.hid (show numGo 0 0 r = (5, M) by
            rw [HGOB.out, HSTEP.out, if_pos hb1])
          go_wp2_with (first | (with_reducible refine Agg.wpList_loadL HM.out.load rfl _ rfl rfl ?_) | (with_reducible refine Agg.wpList_loadL HM.out.err rfl _ rfl rfl ?_) | (with_reducible refine Agg.wpList_loadL HL.out rfl _ rfl rfl ?_))
          refine (refNumber_any M _ (by omega)).mono ?_
          rintro x w2 ⟨u2, rfl, hu2, hx2⟩
          have hlu := fun W => bytes_len hu2.slice W
          have HM2 := Lib.hid (HM.out.below hx2)
          have HX2 := Lib.hid hx2
          clear hu2 hx2 hI hb1 hadr
          obtain ⟨n2, hn2⟩ : ∃ n, (encN M).length = n := ⟨_, rfl⟩
          rw [hn2] at hlu
          have HN2 := Lib.hid hn2
          clear hn2
          by_cases hg : n2 = 5 ∧ M ≤ 1099511627776 ∧ M ≤ most
          · obtain ⟨rfl, hg2, hg3⟩ := hg
            have hlu' : ∀ W, (Builtin.len_ #[22] 3 #[u2]).run Tryd.prog W = .ok (.int .i64 5) W := hlu
            clear hlu
            have hI2 : ¬ (1099511627776 : Int) < (M : Int) := by omega
            have hI3 : ¬ (most : Int) < (M : Int) := by omega
            have HRES := Lib.hid (show getN most r = some (M, r.drop 5) from by rw [getN_go, HGO2.out, if_neg (by rw [HN2.out]; rintro (h | h | h | h) <;> omega)])
            obtain ⟨vy, hsy0, hry, hyc, hy1⟩ := arest_low HM2.out.rest 5 (by omega)
            have hsy : ∀ W, (Instr.sliceAt 22 v (some (.int .i64 5)) none none).run Tryd.prog W = .ok vy W := hsy0
            obtain ⟨w3, hrun, hb3, ho3, hr3⟩ := HM2.out.put (ty := 22) 0 (by omega) vy hyc hy1 (by kernel_rfl)
            have HCU := Lib.hid (show CaV base g w3 vy (r.drop 5) 0 from ⟨hb3, hr3 hry⟩)
            have HON := Lib.hid ((Only.of_below (S := (· = g)) HX2.out).trans ho3 fun _ _ h => h)
            clear hsy0 hry hyc hy1 hb3 ho3 hr3 hg2 hg3
            go_wp2_with (first | (with_reducible refine Agg.wpList_loadL HM2.out.load rfl _ rfl rfl ?_) | (refine Agg.wpList_store rfl rfl 22 _ _ rfl (.pointer (some ⟨g, 0, none⟩)) _ rfl rfl hrun ?_))
            all_goals first
              | (exfalso; omega)
              | (go_ret
                 exact ⟨.inl ⟨M, r.drop 5, vy, HRES.out, rfl, HCU.out⟩, HON.out⟩)
          · have HRES := Lib.hid (show getN most r = none from by rw [getN_go, HGO2.out, if_pos (by rw [HN2.out]; by_cases h1 : n2 = 5; by_cases h2 : M ≤ 1099511627776; exact .inr (.inr (.inr (by omega))); exact .inr (.inr (.inl (by omega))); exact .inr (.inl (fun h => h1 h.symm)))])
            by_cases hg1 : n2 = 5
            · subst hg1
              have hlu' : ∀ W, (Builtin.len_ #[22] 3 #[u2]).run Tryd.prog W = .ok (.int .i64 5) W := hlu
              clear hlu
              by_cases hg2 : M ≤ 1099511627776
              · have hI2 : ¬ (1099511627776 : Int) < (M : Int) := by omega
                have hI3 : (most : Int) < (M : Int) := by omega
                clear hg
                go_wp2_with fail
                all_goals first
                  | (exfalso; omega)
                  | (refine (afail_any base g v r 0 4 _ HM2.out).mono ?_
                     rintro x w9 ⟨⟨rr, rfl⟩, hcu, hon⟩
                     have HCU := Lib.hid hcu
                     have HON := Lib.hid ((Only.of_below (S := (· = g)) HX2.out).trans hon fun _ _ h => h)
                     clear hcu hon
                     go_wp2_with fail
                     go_ret
                     exact ⟨.inr ⟨HRES.out, rfl, 4, by omega, HCU.out⟩, HON.out⟩)
              · have hI2 : (1099511627776 : Int) < (M : Int) := by omega
                clear hg
                go_wp2_with fail
                all_goals first
                  | (exfalso; omega)
                  | (refine (afail_any base g v r 0 4 _ HM2.out).mono ?_
                     rintro x w9 ⟨⟨rr, rfl⟩, hcu, hon⟩
                     have HCU := Lib.hid hcu
                     have HON := Lib.hid ((Only.of_below (S := (· = g)) HX2.out).trans hon fun _ _ h => h)
                     clear hcu hon
                     go_wp2_with fail
                     go_ret
                     exact ⟨.inr ⟨HRES.out, rfl, 4, by omega, HCU.out⟩, HON.out⟩)
            · have hq : ((n2 : Int) != 5) = true := by simp [bne_iff_ne]; omega
              clear hg
              go_wp2_with fail
              all_goals first
                | (exfalso; omega)
                | (refine (afail_any base g v r 0 4 _ HM2.out).mono ?_
                   rintro x w9 ⟨⟨rr, rfl⟩, hcu, hon⟩
                   have HCU := Lib.hid hcu
                   have HON := Lib.hid ((Only.of_below (S := (· = g)) HX2.out).trans hon fun _ _ h => h)
                   clear hcu hon
                   go_wp2_with fail
                   go_ret
                   exact ⟨.inr ⟨HRES.out, rfl, 4, by omega, HCU.out⟩, HON.out⟩)
        · have hI : (128 : Int) ≤ (b.toNat : Int) := by omega
          have HGO2 := Lib.hid (show numGo 0 0 r = numGo 5 M (r.drop 5) by
            rw [HGOB.out, HSTEP.out, if_neg hb1])
          have HMN2 := Lib.hid (show M < 128 ^ 5 by have h1 := HMM.out; have h2 := HN.out; simp only [Nat.reducePow] at h1 h2 ⊢; omega)
          clear hb1
          go_wp2_with (first | (with_reducible refine Agg.wpList_loadL HM.out.load rfl _ rfl rfl ?_) | (with_reducible refine Agg.wpList_loadL HM.out.err rfl _ rfl rfl ?_) | (with_reducible refine Agg.wpList_loadL HL.out rfl _ rfl rfl ?_))
          go_roundw
          case rel => exact ⟨5, M, by omega, by omega, by go_num, by go_num, rfl, HGO2.out, HMN2.out, by first | rfl | trivial⟩
          case measure => simp [intOf]
      · obtain ⟨q, hadr0, hld⟩ := byte_at HM.out.rest.slice 5 b hbk
        have hadr : ∀ W, (Instr.indexAt 22 v (.int .i64 5)).run Tryd.prog W = .ok (.pointer (some q)) W := hadr0
        have HL := Lib.hid hld
        have hsum : (N : Int) + (x : Int) * 34359738368 = (M : Int) := by have h := HMM.out; simp only [Nat.reducePow] at h; omega
        have hMb : M < 4398046511104 := by have h1 := HMM.out; have h2 := HN.out; simp only [Nat.reducePow] at h1 h2; omega
        have hb256 : b.toNat < 256 := b.toNat_lt
        have hlI : (5 : Int) < (r.length : Int) := by omega
        have hu' := hu.trans (rfl : (Value.int .i64 ((128 ^ 5 : Nat) : Int)) = .int .i64 34359738368)
        clear hadr0 hld hbk hu
        subst hu'
        by_cases hb1 : b.toNat < 128
        · have hI : ¬ (128 : Int) ≤ (b.toNat : Int) := by omega
          have HGO2 := Lib.hid (show numGo 0 0 r = (6, M) by
            rw [HGOB.out, HSTEP.out, if_pos hb1])
          go_wp2_with (first | (with_reducible refine Agg.wpList_loadL HM.out.load rfl _ rfl rfl ?_) | (with_reducible refine Agg.wpList_loadL HM.out.err rfl _ rfl rfl ?_) | (with_reducible refine Agg.wpList_loadL HL.out rfl _ rfl rfl ?_))
          refine (refNumber_any M _ (by omega)).mono ?_
          rintro x w2 ⟨u2, rfl, hu2, hx2⟩
          have hlu := fun W => bytes_len hu2.slice W
          have HM2 := Lib.hid (HM.out.below hx2)
          have HX2 := Lib.hid hx2
          clear hu2 hx2 hI hb1 hadr
          obtain ⟨n2, hn2⟩ : ∃ n, (encN M).length = n := ⟨_, rfl⟩
          rw [hn2] at hlu
          have HN2 := Lib.hid hn2
          clear hn2
          by_cases hg : n2 = 6 ∧ M ≤ 1099511627776 ∧ M ≤ most
          · obtain ⟨rfl, hg2, hg3⟩ := hg
            have hlu' : ∀ W, (Builtin.len_ #[22] 3 #[u2]).run Tryd.prog W = .ok (.int .i64 6) W := hlu
            clear hlu
            have hI2 : ¬ (1099511627776 : Int) < (M : Int) := by omega
            have hI3 : ¬ (most : Int) < (M : Int) := by omega
            have HRES := Lib.hid (show getN most r = some (M, r.drop 6) from by rw [getN_go, HGO2.out, if_neg (by rw [HN2.out]; rintro (h | h | h | h) <;> omega)])
            obtain ⟨vy, hsy0, hry, hyc, hy1⟩ := arest_low HM2.out.rest 6 (by omega)
            have hsy : ∀ W, (Instr.sliceAt 22 v (some (.int .i64 6)) none none).run Tryd.prog W = .ok vy W := hsy0
            obtain ⟨w3, hrun, hb3, ho3, hr3⟩ := HM2.out.put (ty := 22) 0 (by omega) vy hyc hy1 (by kernel_rfl)
            have HCU := Lib.hid (show CaV base g w3 vy (r.drop 6) 0 from ⟨hb3, hr3 hry⟩)
            have HON := Lib.hid ((Only.of_below (S := (· = g)) HX2.out).trans ho3 fun _ _ h => h)
            clear hsy0 hry hyc hy1 hb3 ho3 hr3 hg2 hg3
            go_wp2_with (first | (with_reducible refine Agg.wpList_loadL HM2.out.load rfl _ rfl rfl ?_) | (refine Agg.wpList_store rfl rfl 22 _ _ rfl (.pointer (some ⟨g, 0, none⟩)) _ rfl rfl hrun ?_))
            all_goals first
              | (exfalso; omega)
              | (go_ret
                 exact ⟨.inl ⟨M, r.drop 6, vy, HRES.out, rfl, HCU.out⟩, HON.out⟩)
          · have HRES := Lib.hid (show getN most r = none from by rw [getN_go, HGO2.out, if_pos (by rw [HN2.out]; by_cases h1 : n2 = 6; by_cases h2 : M ≤ 1099511627776; exact .inr (.inr (.inr (by omega))); exact .inr (.inr (.inl (by omega))); exact .inr (.inl (fun h => h1 h.symm)))])
            by_cases hg1 : n2 = 6
            · subst hg1
              have hlu' : ∀ W, (Builtin.len_ #[22] 3 #[u2]).run Tryd.prog W = .ok (.int .i64 6) W := hlu
              clear hlu
              by_cases hg2 : M ≤ 1099511627776
              · have hI2 : ¬ (1099511627776 : Int) < (M : Int) := by omega
                have hI3 : (most : Int) < (M : Int) := by omega
                clear hg
                go_wp2_with fail
                all_goals first
                  | (exfalso; omega)
                  | (refine (afail_any base g v r 0 4 _ HM2.out).mono ?_
                     rintro x w9 ⟨⟨rr, rfl⟩, hcu, hon⟩
                     have HCU := Lib.hid hcu
                     have HON := Lib.hid ((Only.of_below (S := (· = g)) HX2.out).trans hon fun _ _ h => h)
                     clear hcu hon
                     go_wp2_with fail
                     go_ret
                     exact ⟨.inr ⟨HRES.out, rfl, 4, by omega, HCU.out⟩, HON.out⟩)
              · have hI2 : (1099511627776 : Int) < (M : Int) := by omega
                clear hg
                go_wp2_with fail
                all_goals first
                  | (exfalso; omega)
                  | (refine (afail_any base g v r 0 4 _ HM2.out).mono ?_
                     rintro x w9 ⟨⟨rr, rfl⟩, hcu, hon⟩
                     have HCU := Lib.hid hcu
                     have HON := Lib.hid ((Only.of_below (S := (· = g)) HX2.out).trans hon fun _ _ h => h)
                     clear hcu hon
                     go_wp2_with fail
                     go_ret
                     exact ⟨.inr ⟨HRES.out, rfl, 4, by omega, HCU.out⟩, HON.out⟩)
            · have hq : ((n2 : Int) != 6) = true := by simp [bne_iff_ne]; omega
              clear hg
              go_wp2_with fail
              all_goals first
                | (exfalso; omega)
                | (refine (afail_any base g v r 0 4 _ HM2.out).mono ?_
                   rintro x w9 ⟨⟨rr, rfl⟩, hcu, hon⟩
                   have HCU := Lib.hid hcu
                   have HON := Lib.hid ((Only.of_below (S := (· = g)) HX2.out).trans hon fun _ _ h => h)
                   clear hcu hon
                   go_wp2_with fail
                   go_ret
                   exact ⟨.inr ⟨HRES.out, rfl, 4, by omega, HCU.out⟩, HON.out⟩)
        · have hI : (128 : Int) ≤ (b.toNat : Int) := by omega
          have HGO2 := Lib.hid (show numGo 0 0 r = numGo 6 M (r.drop 6) by
            rw [HGOB.out, HSTEP.out, if_neg hb1])
          have HMN2 := Lib.hid (show M < 128 ^ 6 by have h1 := HMM.out; have h2 := HN.out; simp only [Nat.reducePow] at h1 h2 ⊢; omega)
          clear hb1
          go_wp2_with (first | (with_reducible refine Agg.wpList_loadL HM.out.load rfl _ rfl rfl ?_) | (with_reducible refine Agg.wpList_loadL HM.out.err rfl _ rfl rfl ?_) | (with_reducible refine Agg.wpList_loadL HL.out rfl _ rfl rfl ?_))
          go_roundw
          case rel => exact ⟨6, M, by omega, by omega, by go_num, by go_num, rfl, HGO2.out, HMN2.out, by first | rfl | trivial⟩
          case measure => simp [intOf]
    · have HRES := Lib.hid (show getN most r = none from by
        rw [getN_go, HGO.out]
        by_cases h6 : k < 6
        · rw [List.drop_eq_nil_of_le (by omega)]
          exact if_pos (.inl rfl)
        · obtain rfl : k = 6 := by omega
          have : (numGo 6 N (r.drop 6)).1 = 0 := by cases r.drop 6 <;> simp [numGo]
          rw [if_pos (.inl this)])
      by_cases h6 : k < 6
      · obtain rfl : k = r.length := by omega
        have hlI : ((r.length : Int) < 6) := by omega
        clear hlt hN HGO hu
        go_wp2_with (first | (with_reducible refine Agg.wpList_loadL HM.out.load rfl _ rfl rfl ?_) | (with_reducible refine Agg.wpList_loadL HM.out.err rfl _ rfl rfl ?_))
        refine (afail_any base g v r 0 4 _ HM.out).mono ?_
        rintro x w9 ⟨⟨rr, rfl⟩, hcu, hon⟩
        have HCU := Lib.hid hcu
        have HON := Lib.hid hon
        clear hcu hon
        go_wp2_with fail
        go_ret
        exact ⟨.inr ⟨HRES.out, rfl, 4, by omega, HCU.out⟩, HON.out⟩
      · obtain rfl : k = 6 := by omega
        clear hlt hN HGO hu h6
        go_wp2_with (first | (with_reducible refine Agg.wpList_loadL HM.out.load rfl _ rfl rfl ?_) | (with_reducible refine Agg.wpList_loadL HM.out.err rfl _ rfl rfl ?_))
        refine (afail_any base g v r 0 4 _ HM.out).mono ?_
        rintro x w9 ⟨⟨rr, rfl⟩, hcu, hon⟩
        have HCU := Lib.hid hcu
        have HON := Lib.hid hon
        clear hcu hon
        go_wp2_with fail
        go_ret
        exact ⟨.inr ⟨HRES.out, rfl, 4, by omega, HCU.out⟩, HON.out⟩
end Go.Proofs.YtdedpcdbnpnbeaaDoor
/-! .. as a state: contracts without cases; Text. -/
namespace Go.Proofs.YtdedpcdbnpnbeaaDoor
open Go.RowKit Pl Go.Agg
set_option maxRecDepth 100000 in
set_option maxHeartbeats 1000000 in
theorem acnum_any (base g most : Nat) (s : Option (List UInt8)) (w : World) (hl : stLen s ≤ 16777216) (hmo : most ≤ 1099511627776) (h : CaS base g w s) :
    Calls Tryd.prog 39 #[.pointer (some ⟨g, 0, none⟩), .int .i64 (most : Int)] w fun x w' => x = .returned (.int .i64 ((sNum most s).1 : Int)) ∧ CaS base g w' (sNum most s).2 ∧ Only (· = g) w w' := by
  obtain ⟨v, r, e, hv, hbad, rfl⟩ := h
  by_cases h0 : e = 0
  · subst h0
    refine (acnum_good base g most v r w (by simpa [stLen] using hl) hmo hv).mono ?_
    rintro x w' ⟨hc, ho⟩
    rcases hc with ⟨n, y, v', hg, rfl, hcu⟩ | ⟨hg, rfl, hcu⟩
    · simp only [if_true, sNum, hg]
      exact ⟨trivial, CaS.good hcu, ho⟩
    · simp only [if_true, sNum, hg]
      exact ⟨rfl, CaS.bad hcu, ho⟩
  · obtain ⟨rfl, rfl⟩ := hbad h0
    simp only [if_neg h0, sNum]
    have hq : ((e : Int) == 0) = false := by simp [h0]
    have H0 := Lib.hid h0
    have HM := Lib.hid hv
    have hlr := fun W => bytes_len hv.rest.slice W
    clear h0 hv hbad hl
    go_enter Tryd.func39, Tryd.ntmps39
    go_wp2_with fail
    go_loopw [5, 6, 7] (fun nn u i wr => i = .int .i64 0 ∧ wr = w) (fun _ _ i _ => 0)
    case atStart => exact ⟨rfl, rfl⟩
    case round =>
      obtain ⟨rfl, rfl⟩ := hrel
      go_wp2_with (first | (with_reducible refine Agg.wpList_loadL HM.out.load rfl _ rfl rfl ?_) | (with_reducible refine Agg.wpList_loadL HM.out.err rfl _ rfl rfl ?_))
      refine (afail_any base g (.slice none 0 0) [] e 4 _ HM.out).mono ?_
      rintro x w9 ⟨⟨rr, rfl⟩, hcu, hon⟩
      rw [if_neg H0.out] at hcu
      have HCU := Lib.hid hcu
      have HON := Lib.hid hon
      clear hcu hon
      go_wp2_with fail
      go_ret
      exact ⟨rfl, CaS.bad ⟨e, H0.out, HCU.out⟩, HON.out⟩
set_option maxRecDepth 100000 in
set_option maxHeartbeats 1000000 in
theorem acraw_any (base g many : Nat) (s : Option (List UInt8)) (w : World) (hl : stLen s ≤ 16777216) (hmo : many ≤ 1099511627776) (h : CaS base g w s) :
    Calls Tryd.prog 64 #[.pointer (some ⟨g, 0, none⟩), .int .i64 (many : Int)] w fun x w' => ∃ u, x = .returned u ∧ Own EB w.heap.size w' u (sRaw many s).1 ∧ CaS base g w' (sRaw many s).2 ∧ Only (· = g) w w' := by
  obtain ⟨v, r, e, hv, hbad, rfl⟩ := h
  by_cases h0 : e = 0
  · subst h0
    by_cases hle : many ≤ r.length
    · refine (acraw_good base g many v r w (by simpa [stLen] using hl) hle hv).mono ?_
      rintro x w' ⟨u, v', rfl, hu, hcu, ho⟩
      simp only [if_true, sRaw, if_pos hle]
      exact ⟨u, rfl, hu, CaS.good hcu, ho⟩
    · simp only [if_true, sRaw, if_neg hle]
      have hI : (r.length : Int) < (many : Int) := by omega
      have hI0 : ¬ (many : Int) < 0 := by omega
      have HM := Lib.hid hv
      have hlr := fun W => bytes_len hv.rest.slice W
      clear hv hbad hl hle
      go_enter Tryd.func64, Tryd.ntmps64
      go_wp2_with (first | (with_reducible refine Agg.wpList_loadL HM.out.load rfl _ rfl rfl ?_) | (with_reducible refine Agg.wpList_loadL HM.out.err rfl _ rfl rfl ?_))
      refine (afail_any base g v r 0 4 _ HM.out).mono ?_
      rintro x w9 ⟨⟨rr, rfl⟩, hcu, hon⟩
      have HCU := Lib.hid hcu
      have HON := Lib.hid hon
      clear hcu hon
      go_wp2_with fail
      go_ret
      exact ⟨_, rfl, Own.nil _ _ _, CaS.bad ⟨4, by omega, HCU.out⟩, HON.out⟩
  · obtain ⟨rfl, rfl⟩ := hbad h0
    simp only [if_neg h0, sRaw]
    have hq : ((e : Int) != 0) = true := by simp [h0]
    have H0 := Lib.hid h0
    have HM := Lib.hid hv
    clear h0 hv hbad hl
    go_enter Tryd.func64, Tryd.ntmps64
    go_wp2_with (first | (with_reducible refine Agg.wpList_loadL HM.out.load rfl _ rfl rfl ?_) | (with_reducible refine Agg.wpList_loadL HM.out.err rfl _ rfl rfl ?_))
    refine (afail_any base g (.slice none 0 0) [] e 4 _ HM.out).mono ?_
    rintro x w9 ⟨⟨rr, rfl⟩, hcu, hon⟩
    rw [if_neg H0.out] at hcu
    have HCU := Lib.hid hcu
    have HON := Lib.hid hon
    clear hcu hon
    go_wp2_with fail
    go_ret
    exact ⟨_, rfl, Own.nil _ _ _, CaS.bad ⟨e, H0.out, HCU.out⟩, HON.out⟩
theorem acnum_40 (base g : Nat) (s : Option (List UInt8)) (w : World) (hl : stLen s ≤ 16777216) (h : CaS base g w s) :
    Calls Tryd.prog 39 #[.pointer (some ⟨g, 0, none⟩), .int .i64 1099511627776] w fun x w' => x = .returned (.int .i64 ((sNum 1099511627776 s).1 : Int)) ∧ CaS base g w' (sNum 1099511627776 s).2 ∧ Only (· = g) w w' := by
  have h1 := acnum_any base g 1099511627776 s w hl (Nat.le_refl _) h
  rw [show ((1099511627776 : Nat) : Int) = (1099511627776 : Int) from by simp] at h1
  exact h1
set_option maxRecDepth 100000 in
set_option maxHeartbeats 2000000 in
theorem actext_any (base g most : Nat) (s : Option (List UInt8)) (w : World) (hl : stLen s ≤ 16777216) (h : CaS base g w s) :
    Calls Tryd.prog 40 #[.pointer (some ⟨g, 0, none⟩), .int .i64 (most : Int)] w fun x w' => ∃ u, x = .returned u ∧ Own EB w.heap.size w' u (sText most s).1 ∧ CaS base g w' (sText most s).2 ∧ Only (· = g) w w' := by
  rw [sText_num]
  have hle := sNum_len 1099511627776 s
  have hn40 : (sNum 1099511627776 s).1 ≤ 1099511627776 := by
    cases s with
    | none => simp [sNum]
    | some r =>
      simp only [sNum]
      cases hg : getN 1099511627776 r with
      | none => simp
      | some p => obtain ⟨n, y⟩ := p; exact (getN_some hg).2.1
  have HC := Lib.hid (acnum_40 base g s w hl h)
  obtain ⟨n, s', hns⟩ : ∃ n s', sNum 1099511627776 s = (n, s') := ⟨_, _, rfl⟩
  rw [hns] at hle hn40
  simp only [hns]
  have HNS := Lib.hid hns
  clear h hns
  go_enter Tryd.func40, Tryd.ntmps40
  go_wp2_with fail
  refine HC.out.mono ?_
  rintro x w1 ⟨rfl, hc, ho⟩
  rw [HNS.out] at hc ⊢
  obtain ⟨v1, r1, e1, hv1, hbad, hs'⟩ := hc
  have HO := Lib.hid ho
  have HM := Lib.hid hv1
  have hlr := fun W => bytes_len hv1.rest.slice W
  have hsz := ho.size
  clear ho hv1 HC
  by_cases h0 : e1 = 0
  · subst h0
    rw [if_pos rfl] at hs'
    have hs' : s' = some r1 := hs'
    subst hs'
    by_cases hm : n ≤ most
    · have hI : ¬ (most : Int) < (n : Int) := by omega
      have HMO := Lib.hid hm
      clear hbad hm
      go_wp2_with (first | (with_reducible refine Agg.wpList_loadL HM.out.err rfl _ rfl rfl ?_))
      refine (acraw_any base g n (some r1) _ (Nat.le_trans hle hl) hn40 (CaS.good HM.out)).mono ?_
      rintro x w2 ⟨u, rfl, hu, hcu, ho2⟩
      have HU := Lib.hid (hu.lower hsz)
      have HCU := Lib.hid hcu
      have HON := Lib.hid (HO.out.trans ho2 fun _ _ h => h)
      clear hu hcu ho2
      go_wp2_with fail
      go_ret
      all_goals first
        | exact ⟨_, rfl, HU.out, HCU.out, HON.out⟩
        | (exfalso; have := HMO.out; omega)
    · have hI : (most : Int) < (n : Int) := by omega
      have HMO := Lib.hid hm
      clear hbad hm
      go_wp2_with (first | (with_reducible refine Agg.wpList_loadL HM.out.err rfl _ rfl rfl ?_))
      refine (afail_any base g v1 r1 0 3 _ HM.out).mono ?_
      rintro x w9 ⟨⟨rr, rfl⟩, hcu, hon⟩
      have HCU := Lib.hid hcu
      have HON := Lib.hid (HO.out.trans hon fun _ _ h => h)
      clear hcu hon
      go_wp2_with (first | (with_reducible refine Agg.wpList_loadL HCU.out.err rfl _ rfl rfl ?_))
      go_ret
      all_goals first
        | exact ⟨_, rfl, Own.nil _ _ _, CaS.bad ⟨3, by omega, HCU.out⟩, HON.out⟩
        | (exfalso; have := HMO.out; omega)
  · rw [if_neg h0] at hs'
    have hs' : s' = none := hs'
    subst hs'
    obtain ⟨rfl, rfl⟩ := hbad h0
    have hq : ((e1 : Int) == 0) = false := by simp [h0]
    have hq2 : ((e1 : Int) != 0) = true := by simp [h0]
    have H0 := Lib.hid h0
    clear h0 hbad
    go_wp2_with (first | (with_reducible refine Agg.wpList_loadL HM.out.err rfl _ rfl rfl ?_))
    go_ret
    exact ⟨_, rfl, Own.nil _ _ _, CaS.bad ⟨e1, H0.out, HM.out⟩, HO.out⟩
end Go.Proofs.YtdedpcdbnpnbeaaDoor
