/- spenceref01.Cursor: Num, Text. -/
import Derived.Test.YtpnolgliklmnmaaGreatQAL
namespace Go.Proofs.YtpnolgliklmnmaaGreat
open Go.RowKit Pl Go.Agg
theorem getN_go (most : Nat) (b : List UInt8) : getN most b = if (numGo 0 0 b).1 = 0 ∨ (numGo 0 0 b).1 ≠ (encN (numGo 0 0 b).2).length ∨ 1099511627776 < (numGo 0 0 b).2 ∨ most < (numGo 0 0 b).2 then none else some ((numGo 0 0 b).2, b.drop (numGo 0 0 b).1) := by
  have h := numGo_dec b 0 0 (by omega)
  unfold getN
  by_cases h0 : (dec 6 b).1 = 0
  · rw [if_pos (show (dec (6 - 0) b).1 = 0 from h0)] at h
    rw [if_pos (.inl h0), if_pos (.inl h)]
  · rw [if_neg (show ¬ (dec (6 - 0) b).1 = 0 from h0)] at h
    have e : numGo 0 0 b = ((dec 6 b).1, (dec 6 b).2) := by rw [h]; simp
    rw [e]
/-- what Num answers -/
def RNum (base g most : Nat) (r : List UInt8) (x : Ending) (w' : World) : Prop :=
  (∃ n y v', getN most r = some (n, y) ∧ x = .returned (.int .i64 (n : Int)) ∧ CrV base g w' v' y 0) ∨ (getN most r = none ∧ x = .returned (.int .i64 0) ∧ CrBad base g w')
set_option maxRecDepth 100000 in
set_option maxHeartbeats 8000000 in
theorem rcnum_good (base g most : Nat) (v : Value) (r : List UInt8) (w : World) (hr : r.length ≤ 16777216) (_hmo : most ≤ 1099511627776) (hm : CrV base g w v r 0) :
    Calls Tryz.prog 59 #[.pointer (some ⟨g, 0, none⟩), .int .i64 (most : Int)] w fun x w' => RNum base g most r x w' ∧ Only (· = g) w w' := by
  have hlr := fun W => bytes_len hm.rest.slice W
  have HM := Lib.hid hm
  clear hm
  go_enter Tryz.func59, Tryz.ntmps59
  go_wp2_with fail
  go_loopw [5, 6, 7] (fun nn u i wr => ∃ k N : Nat, k ≤ 6 ∧ k ≤ r.length ∧ i = .int .i64 (k : Int) ∧ nn = .int .i64 (N : Int) ∧ u = .int .i64 ((128 ^ k : Nat) : Int) ∧ numGo 0 0 r = numGo k N (r.drop k) ∧ N < 128 ^ k ∧ wr = w) (fun _ _ i _ => 6 - (intOf i).toNat)
  case atStart => exact ⟨0, 0, by omega, by omega, rfl, rfl, rfl, by simp, by simp, rfl⟩
  case round =>
    obtain ⟨k, N, hk, hkl, rfl, rfl, hu, hgo, hN, rfl⟩ := hrel
    have HGO := Lib.hid hgo
    clear hgo
    by_cases hlt : k < 6 ∧ k < r.length
    · obtain ⟨h3, hlt⟩ := hlt
      have hk3 : k = 0 ∨ k = 1 ∨ k = 2 ∨ k = 3 ∨ k = 4 ∨ k = 5 := by omega
      obtain ⟨b, hbk⟩ : ∃ b, r[k]? = some b := ⟨_, List.getElem?_eq_getElem (by omega)⟩
      have hdrop : r.drop k = b :: r.drop (k + 1) := by
        obtain ⟨h1, rfl⟩ := List.getElem?_eq_some_iff.1 hbk
        exact List.drop_eq_getElem_cons h1
      have HGOB := Lib.hid (show numGo 0 0 r = numGo k N (b :: r.drop (k + 1)) by rw [HGO.out, hdrop])
      obtain ⟨x, hx⟩ : ∃ x, b.toNat % 128 = x := ⟨_, rfl⟩
      have hx128 : x < 128 := by omega
      have hxI : (b.toNat : Int) % 128 = (x : Int) := by omega
      obtain ⟨M, hM⟩ : ∃ M, N + x * 128 ^ k = M := ⟨_, rfl⟩
      have HSTEP := Lib.hid (show numGo k N (b :: r.drop (k + 1)) = if b.toNat < 128 then (k + 1, M) else numGo (k + 1) M (r.drop (k + 1)) by
        simp only [numGo]
        rw [if_neg (by omega)]
        split
        · rename_i h
          rw [← hM, ← hx, Nat.mod_eq_of_lt h]
        · rw [hx, hM])
      have HMM := Lib.hid hM
      have HN := Lib.hid hN
      clear hdrop hx hM hN HGO h3
      rcases hk3 with rfl | rfl | rfl | rfl | rfl | rfl
      · obtain ⟨q, hadr0, hld⟩ := byte_at HM.out.rest.slice 0 b hbk
        have hadr : ∀ W, (Instr.indexAt 23 v (.int .i64 0)).run Tryz.prog W = .ok (.pointer (some q)) W := hadr0
        have HL := Lib.hid hld
        have hsum : (N : Int) + (x : Int) = (M : Int) := by have h := HMM.out; simp only [Nat.reducePow, Nat.mul_one] at h; omega
        have hMb : M < 128 := by have h1 := HMM.out; have h2 := HN.out; simp only [Nat.reducePow] at h1 h2; omega
        have hb256 : b.toNat < 256 := b.toNat_lt
        have hlI : (0 : Int) < (r.length : Int) := by omega
        have hu' := hu.trans (rfl : (Value.int .i64 ((128 ^ 0 : Nat) : Int)) = .int .i64 1)
        clear hadr0 hld hbk hu
        subst hu'
        by_cases hb1 : b.toNat < 128
        · have hI : ¬ (128 : Int) ≤ (b.toNat : Int) := by omega
          have HGO2 := Lib.hid (show numGo 0 0 r = (1, M) by
            rw [HGOB.out, HSTEP.out, if_pos hb1])
          go_wp2_with (first | (with_reducible refine Agg.wpList_loadL HM.out.load rfl _ rfl rfl ?_) | (with_reducible refine Agg.wpList_loadL HM.out.err rfl _ rfl rfl ?_) | (with_reducible refine Agg.wpList_loadL HL.out rfl _ rfl rfl ?_))
          refine (refNumber_any M _ (by omega)).mono ?_
          rintro x w2 ⟨u2, rfl, hu2, hx2⟩
          have hlu := fun W => bytes_len hu2.slice W
          have HM2 := Lib.hid (HM.out.below hx2)
          have HX2 := Lib.hid hx2
          clear hu2 hx2 hI hb1 hadr
          obtain ⟨n2, hn2⟩ : ∃ n, (encN M).length = n := ⟨_, rfl⟩
          rw [hn2] at hlu
          have HN2 := Lib.hid hn2
          clear hn2
          by_cases hg : n2 = 1 ∧ M ≤ 1099511627776 ∧ M ≤ most
          · obtain ⟨rfl, hg2, hg3⟩ := hg
            have hlu' : ∀ W, (Builtin.len_ #[23] 3 #[u2]).run Tryz.prog W = .ok (.int .i64 1) W := hlu
            clear hlu
            have hI2 : ¬ (1099511627776 : Int) < (M : Int) := by omega
            have hI3 : ¬ (most : Int) < (M : Int) := by omega
            have HRES := Lib.hid (show getN most r = some (M, r.drop 1) from by rw [getN_go, HGO2.out, if_neg (by rw [HN2.out]; rintro (h | h | h | h) <;> omega)])
            obtain ⟨vy, hsy0, hry, hyc, hy1⟩ := rest_low HM2.out.rest 1 (by omega)
            have hsy : ∀ W, (Instr.sliceAt 23 v (some (.int .i64 1)) none none).run Tryz.prog W = .ok vy W := hsy0
            obtain ⟨w3, hrun, hb3, ho3, hr3⟩ := HM2.out.put (ty := 23) 0 (by omega) vy hyc hy1 (by kernel_rfl)
            have HCU := Lib.hid (show CrV base g w3 vy (r.drop 1) 0 from ⟨hb3, hr3 hry⟩)
            have HON := Lib.hid ((Only.of_below (S := (· = g)) HX2.out).trans ho3 fun _ _ h => h)
            clear hsy0 hry hyc hy1 hb3 ho3 hr3 hg2 hg3
            go_wp2_with (first | (with_reducible refine Agg.wpList_loadL HM2.out.load rfl _ rfl rfl ?_) | (refine Agg.wpList_store rfl rfl 23 _ _ rfl (.pointer (some ⟨g, 0, none⟩)) _ rfl rfl hrun ?_))
            all_goals first
              | (exfalso; omega)
              | (go_ret
                 exact ⟨.inl ⟨M, r.drop 1, vy, HRES.out, rfl, HCU.out⟩, HON.out⟩)
          · have HRES := Lib.hid (show getN most r = none from by rw [getN_go, HGO2.out, if_pos (by rw [HN2.out]; by_cases h1 : n2 = 1; by_cases h2 : M ≤ 1099511627776; exact .inr (.inr (.inr (by omega))); exact .inr (.inr (.inl (by omega))); exact .inr (.inl (fun h => h1 h.symm)))])
            by_cases hg1 : n2 = 1
            · subst hg1
              have hlu' : ∀ W, (Builtin.len_ #[23] 3 #[u2]).run Tryz.prog W = .ok (.int .i64 1) W := hlu
              clear hlu
              by_cases hg2 : M ≤ 1099511627776
              · have hI2 : ¬ (1099511627776 : Int) < (M : Int) := by omega
                have hI3 : (most : Int) < (M : Int) := by omega
                clear hg
                go_wp2_with fail
                all_goals first
                  | (exfalso; omega)
                  | (refine (rfail_any base g v r 0 4 _ HM2.out).mono ?_
                     rintro x w9 ⟨⟨rr, rfl⟩, hcu, hon⟩
                     have HCU := Lib.hid hcu
                     have HON := Lib.hid ((Only.of_below (S := (· = g)) HX2.out).trans hon fun _ _ h => h)
                     clear hcu hon
                     go_wp2_with fail
                     go_ret
                     exact ⟨.inr ⟨HRES.out, rfl, 4, by omega, HCU.out⟩, HON.out⟩)
              · have hI2 : (1099511627776 : Int) < (M : Int) := by omega
                clear hg
                go_wp2_with fail
                all_goals first
                  | (exfalso; omega)
                  | (refine (rfail_any base g v r 0 4 _ HM2.out).mono ?_
                     rintro x w9 ⟨⟨rr, rfl⟩, hcu, hon⟩
                     have HCU := Lib.hid hcu
                     have HON := Lib.hid ((Only.of_below (S := (· = g)) HX2.out).trans hon fun _ _ h => h)
                     clear hcu hon
                     go_wp2_with fail
                     go_ret
                     exact ⟨.inr ⟨HRES.out, rfl, 4, by omega, HCU.out⟩, HON.out⟩)
            · have hq : ((n2 : Int) != 1) = true := by simp [bne_iff_ne]; omega
              clear hg
              go_wp2_with fail
              all_goals first
                | (exfalso; omega)
                | (refine (rfail_any base g v r 0 4 _ HM2.out).mono ?_
                   rintro x w9 ⟨⟨rr, rfl⟩, hcu, hon⟩
                   have HCU := Lib.hid hcu
                   have HON := Lib.hid ((Only.of_below (S := (· = g)) HX2.out).trans hon fun _ _ h => h)
                   clear hcu hon
                   go_wp2_with fail
                   go_ret
                   exact ⟨.inr ⟨HRES.out, rfl, 4, by omega, HCU.out⟩, HON.out⟩)
        · have hI : (128 : Int) ≤ (b.toNat : Int) := by omega
          have HGO2 := Lib.hid (show numGo 0 0 r = numGo 1 M (r.drop 1) by
            rw [HGOB.out, HSTEP.out, if_neg hb1])
          have HMN2 := Lib.hid (show M < 128 ^ 1 by have h1 := HMM.out; have h2 := HN.out; simp only [Nat.reducePow] at h1 h2 ⊢; omega)
          clear hb1
          go_wp2_with (first | (with_reducible refine Agg.wpList_loadL HM.out.load rfl _ rfl rfl ?_) | (with_reducible refine Agg.wpList_loadL HM.out.err rfl _ rfl rfl ?_) | (with_reducible refine Agg.wpList_loadL HL.out rfl _ rfl rfl ?_))
          go_roundw
          case rel => exact ⟨1, M, by omega, by omega, by go_num, by go_num, rfl, HGO2.out, HMN2.out, by first | rfl | trivial⟩
          case measure => simp [intOf]
      · obtain ⟨q, hadr0, hld⟩ := byte_at HM.out.rest.slice 1 b hbk
        have hadr : ∀ W, (Instr.indexAt 23 v (.int .i64 1)).run Tryz.prog W = .ok (.pointer (some q)) W := hadr0
        have HL := Lib.hid hld
        have hsum : (N : Int) + (x : Int) * 128 = (M : Int) := by have h := HMM.out; simp only [Nat.reducePow] at h; omega
        have hMb : M < 16384 := by have h1 := HMM.out; have h2 := HN.out; simp only [Nat.reducePow] at h1 h2; omega
        have hb256 : b.toNat < 256 := b.toNat_lt
        have hlI : (1 : Int) < (r.length : Int) := by omega
        have hu' := hu.trans (rfl : (Value.int .i64 ((128 ^ 1 : Nat) : Int)) = .int .i64 128)
        clear hadr0 hld hbk hu
        subst hu'
        by_cases hb1 : b.toNat < 128
        · have hI : ¬ (128 : Int) ≤ (b.toNat : Int) := by omega
          have HGO2 := Lib.hid (show numGo 0 0 r = (2, M) by
            rw [HGOB.out, HSTEP.out, if_pos hb1])
          go_wp2_with (first | (with_reducible refine Agg.wpList_loadL HM.out.load rfl _ rfl rfl ?_) | (with_reducible refine Agg.wpList_loadL HM.out.err rfl _ rfl rfl ?_) | (with_reducible refine Agg.wpList_loadL HL.out rfl _ rfl rfl ?_))
          refine (refNumber_any M _ (by omega)).mono ?_
          rintro x w2 ⟨u2, rfl, hu2, hx2⟩
          have hlu := fun W => bytes_len hu2.slice W
          have HM2 := Lib.hid (HM.out.below hx2)
          have HX2 := Lib.hid hx2
          clear hu2 hx2 hI hb1 hadr
          obtain ⟨n2, hn2⟩ : ∃ n, (encN M).length = n := ⟨_, rfl⟩
          rw [hn2] at hlu
          have HN2 := Lib.hid hn2
          clear hn2
          by_cases hg : n2 = 2 ∧ M ≤ 1099511627776 ∧ M ≤ most
          · obtain ⟨rfl, hg2, hg3⟩ := hg
            have hlu' : ∀ W, (Builtin.len_ #[23] 3 #[u2]).run Tryz.prog W = .ok (.int .i64 2) W := hlu
            clear hlu
            have hI2 : ¬ (1099511627776 : Int) < (M : Int) := by omega
            have hI3 : ¬ (most : Int) < (M : Int) := by omega
            have HRES := Lib.hid (show getN most r = some (M, r.drop 2) from by rw [getN_go, HGO2.out, if_neg (by rw [HN2.out]; rintro (h | h | h | h) <;> omega)])
            obtain ⟨vy, hsy0, hry, hyc, hy1⟩ := rest_low HM2.out.rest 2 (by omega)
            have hsy : ∀ W, (Instr.sliceAt 23 v (some (.int .i64 2)) none none).run Tryz.prog W = .ok vy W := hsy0
            obtain ⟨w3, hrun, hb3, ho3, hr3⟩ := HM2.out.put (ty := 23) 0 (by omega) vy hyc hy1 (by kernel_rfl)
            have HCU := Lib.hid (show CrV base g w3 vy (r.drop 2) 0 from ⟨hb3, hr3 hry⟩)
            have HON := Lib.hid ((Only.of_below (S := (· = g)) HX2.out).trans ho3 fun _ _ h => h)
            clear hsy0 hry hyc hy1 hb3 ho3 hr3 hg2 hg3
            go_wp2_with (first | (with_reducible refine Agg.wpList_loadL HM2.out.load rfl _ rfl rfl ?_) | (refine Agg.wpList_store rfl rfl 23 _ _ rfl (.pointer (some ⟨g, 0, none⟩)) _ rfl rfl hrun ?_))
            all_goals first
              | (exfalso; omega)
              | (go_ret
                 exact ⟨.inl ⟨M, r.drop 2, vy, HRES.out, rfl, HCU.out⟩, HON.out⟩)
          · have HRES := Lib.hid (show getN most r = none from by rw [getN_go, HGO2.out, if_pos (by rw [HN2.out]; by_cases h1 : n2 = 2; by_cases h2 : M ≤ 1099511627776; exact .inr (.inr (.inr (by omega))); exact .inr (.inr (.inl (by omega))); exact .inr (.inl (fun h => h1 h.symm)))])
            by_cases hg1 : n2 = 2
            · subst hg1
              have hlu' : ∀ W, (Builtin.len_ #[23] 3 #[u2]).run Tryz.prog W = .ok (.int .i64 2) W := hlu
              clear hlu
              by_cases hg2 : M ≤ 1099511627776
              · have hI2 : ¬ (1099511627776 : Int) < (M : Int) := by omega
                have hI3 : (most : Int) < (M : Int) := by omega
                clear hg
                go_wp2_with fail
                all_goals first
                  | (exfalso; omega)
                  | (refine (rfail_any base g v r 0 4 _ HM2.out).mono ?_
                     rintro x w9 ⟨⟨rr, rfl⟩, hcu, hon⟩
                     have HCU := Lib.hid hcu
                     have HON := Lib.hid ((Only.of_below (S := (· = g)) HX2.out).trans hon fun _ _ h => h)
                     clear hcu hon
                     go_wp2_with fail
                     go_ret
                     exact ⟨.inr ⟨HRES.out, rfl, 4, by omega, HCU.out⟩, HON.out⟩)
              · have hI2 : (1099511627776 : Int) < (M : Int) := by omega
                clear hg
                go_wp2_with fail
                all_goals first
                  | (exfalso; omega)
                  | (refine (rfail_any base g v r 0 4 _ HM2.out).mono ?_
                     rintro x w9 ⟨⟨rr, rfl⟩, hcu, hon⟩
                     have HCU := Lib.hid hcu
                     have HON := Lib.hid ((Only.of_below (S := (· = g)) HX2.out).trans hon fun _ _ h => h)
                     clear hcu hon
                     go_wp2_with fail
                     go_ret
                     exact ⟨.inr ⟨HRES.out, rfl, 4, by omega, HCU.out⟩, HON.out⟩)
            · have hq : ((n2 : Int) != 2) = true := by simp [bne_iff_ne]; omega
              clear hg
              go_wp2_with fail
              all_goals first
                | (exfalso; omega)
                | (refine (rfail_any base g v r 0 4 _ HM2.out).mono ?_
                   rintro x w9 ⟨⟨rr, rfl⟩, hcu, hon⟩
                   have HCU := Lib.hid hcu
                   have HON := Lib.hid ((Only.of_below (S := (· = g)) HX2.out).trans hon fun _ _ h => h)
                   clear hcu hon
                   go_wp2_with fail
                   go_ret
                   exact ⟨.inr ⟨HRES.out, rfl, 4, by omega, HCU.out⟩, HON.out⟩)
        · have hI : (128 : Int) ≤ (b.toNat : Int) := by omega
          have HGO2 := Lib.hid (show numGo 0 0 r = numGo 2 M (r.drop 2) by
            rw [HGOB.out, HSTEP.out, if_neg hb1])
          have HMN2 := Lib.hid (show M < 128 ^ 2 by have h1 := HMM.out; have h2 := HN.out; simp only [Nat.reducePow] at h1 h2 ⊢; omega)
          clear hb1
          go_wp2_with (first | (with_reducible refine Agg.wpList_loadL HM.out.load rfl _ rfl rfl ?_) | (with_reducible refine Agg.wpList_loadL HM.out.err rfl _ rfl rfl ?_) | (with_reducible refine Agg.wpList_loadL HL.out rfl _ rfl rfl ?_))
          go_roundw
          case rel => exact ⟨2, M, by omega, by omega, by go_num, by go_num, rfl, HGO2.out, HMN2.out, by first | rfl | trivial⟩
          case measure => simp [intOf]
      · obtain ⟨q, hadr0, hld⟩ := byte_at HM.out.rest.slice 2 b hbk
        have hadr : ∀ W, (Instr.indexAt 23 v (.int .i64 2)).run Tryz.prog W = .ok (.pointer (some q)) W := hadr0
        have HL := Lib.hid hld
        have hsum : (N : Int) + (x : Int) * 16384 = (M : Int) := by have h := HMM.out; simp only [Nat.reducePow] at h; omega
        have hMb : M < 2097152 := by have h1 := HMM.out; have h2 := HN.out; simp only [Nat.reducePow] at h1 h2; omega
        have hb256 : b.toNat < 256 := b.toNat_lt
        have hlI : (2 : Int) < (r.length : Int) := by omega
        have hu' := hu.trans (rfl : (Value.int .i64 ((128 ^ 2 : Nat) : Int)) = .int .i64 16384)
        clear hadr0 hld hbk hu
        subst hu'
        by_cases hb1 : b.toNat < 128
        · have hI : ¬ (128 : Int) ≤ (b.toNat : Int) := by omega
          have HGO2 := Lib.hid (show numGo 0 0 r = (3, M) by
            rw [HGOB.out, HSTEP.out, if_pos hb1])
          go_wp2_with (first | (with_reducible refine Agg.wpList_loadL HM.out.load rfl _ rfl rfl ?_) | (with_reducible refine Agg.wpList_loadL HM.out.err rfl _ rfl rfl ?_) | (with_reducible refine Agg.wpList_loadL HL.out rfl _ rfl rfl ?_))
          refine (refNumber_any M _ (by omega)).mono ?_
          rintro x w2 ⟨u2, rfl, hu2, hx2⟩
          have hlu := fun W => bytes_len hu2.slice W
          have HM2 := Lib.hid (HM.out.below hx2)
          have HX2 := Lib.hid hx2
          clear hu2 hx2 hI hb1 hadr
          obtain ⟨n2, hn2⟩ : ∃ n, (encN M).length = n := ⟨_, rfl⟩
          rw [hn2] at hlu
          have HN2 := Lib.hid hn2
          clear hn2
          by_cases hg : n2 = 3 ∧ M ≤ 1099511627776 ∧ M ≤ most
          · obtain ⟨rfl, hg2, hg3⟩ := hg
            have hlu' : ∀ W, (Builtin.len_ #[23] 3 #[u2]).run Tryz.prog W = .ok (.int .i64 3) W := hlu
            clear hlu
            have hI2 : ¬ (1099511627776 : Int) < (M : Int) := by omega
            have hI3 : ¬ (most : Int) < (M : Int) := by omega
            have HRES := Lib.hid (show getN most r = some (M, r.drop 3) from by rw [getN_go, HGO2.out, if_neg (by rw [HN2.out]; rintro (h | h | h | h) <;> omega)])
            obtain ⟨vy, hsy0, hry, hyc, hy1⟩ := rest_low HM2.out.rest 3 (by omega)
            have hsy : ∀ W, (Instr.sliceAt 23 v (some (.int .i64 3)) none none).run Tryz.prog W = .ok vy W := hsy0
            obtain ⟨w3, hrun, hb3, ho3, hr3⟩ := HM2.out.put (ty := 23) 0 (by omega) vy hyc hy1 (by kernel_rfl)
            have HCU := Lib.hid (show CrV base g w3 vy (r.drop 3) 0 from ⟨hb3, hr3 hry⟩)
            have HON := Lib.hid ((Only.of_below (S := (· = g)) HX2.out).trans ho3 fun _ _ h => h)
            clear hsy0 hry hyc hy1 hb3 ho3 hr3 hg2 hg3
            go_wp2_with (first | (with_reducible refine Agg.wpList_loadL HM2.out.load rfl _ rfl rfl ?_) | (refine Agg.wpList_store rfl rfl 23 _ _ rfl (.pointer (some ⟨g, 0, none⟩)) _ rfl rfl hrun ?_))
            all_goals first
              | (exfalso; omega)
              | (go_ret
                 exact ⟨.inl ⟨M, r.drop 3, vy, HRES.out, rfl, HCU.out⟩, HON.out⟩)
          · have HRES := Lib.hid (show getN most r = none from by rw [getN_go, HGO2.out, if_pos (by rw [HN2.out]; by_cases h1 : n2 = 3; by_cases h2 : M ≤ 1099511627776; exact .inr (.inr (.inr (by omega))); exact .inr (.inr (.inl (by omega))); exact .inr (.inl (fun h => h1 h.symm)))])
            by_cases hg1 : n2 = 3
            · subst hg1
              have hlu' : ∀ W, (Builtin.len_ #[23] 3 #[u2]).run Tryz.prog W = .ok (.int .i64 3) W := hlu
              clear hlu
              by_cases hg2 : M ≤ 1099511627776
              · have hI2 : ¬ (1099511627776 : Int) < (M : Int) := by omega
                have hI3 : (most : Int) < (M : Int) := by omega
                clear hg
                go_wp2_with fail
                all_goals first
                  | (exfalso; omega)
                  | (refine (rfail_any base g v r 0 4 _ HM2.out).mono ?_
                     rintro x w9 ⟨⟨rr, rfl⟩, hcu, hon⟩
                     have HCU := Lib.hid hcu
                     have HON := Lib.hid ((Only.of_below (S := (· = g)) HX2.out).trans hon fun _ _ h => h)
                     clear hcu hon
                     go_wp2_with fail
                     go_ret
                     exact ⟨.inr ⟨HRES.out, rfl, 4, by omega, HCU.out⟩, HON.out⟩)
              · have hI2 : (1099511627776 : Int) < (M : Int) := by omega
                clear hg
                go_wp2_with fail
                all_goals first
                  | (exfalso; omega)
                  | (refine (rfail_any base g v r 0 4 _ HM2.out).mono ?_
                     rintro x w9 ⟨⟨rr, rfl⟩, hcu, hon⟩
                     have HCU := Lib.hid hcu
                     have HON := Lib.hid ((Only.of_below (S := (· = g)) HX2.out).trans hon fun _ _ h => h)
                     clear hcu hon
                     go_wp2_with fail
                     go_ret
                     exact ⟨.inr ⟨HRES.out, rfl, 4, by omega, HCU.out⟩, HON.out⟩)
            · have hq : ((n2 : Int) != 3) = true := by simp [bne_iff_ne]; omega
              clear hg
              go_wp2_with fail
              all_goals first
                | (exfalso; omega)
                | (refine (rfail_any base g v r 0 4 _ HM2.out).mono ?_
                   rintro x w9 ⟨⟨rr, rfl⟩, hcu, hon⟩
                   have HCU := Lib.hid hcu
                   have HON := Lib.hid ((Only.of_below (S := (· = g)) HX2.out).trans hon fun _ _ h => h)
                   clear hcu hon
                   go_wp2_with fail
                   go_ret
                   exact ⟨.inr ⟨HRES.out, rfl, 4, by omega, HCU.out⟩, HON.out⟩)
        · have hI : (128 : Int) ≤ (b.toNat : Int) := by omega
          have HGO2 := Lib.hid (show numGo 0 0 r = numGo 3 M (r.drop 3) by
            rw [HGOB.out, HSTEP.out, if_neg hb1])
          have HMN2 := Lib.hid (show M < 128 ^ 3 by have h1 := HMM.out; have h2 := HN.out; simp only [Nat.reducePow] at h1 h2 ⊢; omega)
          clear hb1
          go_wp2_with (first | (with_reducible refine Agg.wpList_loadL HM.out.load rfl _ rfl rfl ?_) | (with_reducible refine Agg.wpList_loadL HM.out.err rfl _ rfl rfl ?_) | (with_reducible refine Agg.wpList_loadL HL.out rfl _ rfl rfl ?_))
          go_roundw
          case rel => exact ⟨3, M, by omega, by omega, by go_num, by go_num, rfl, HGO2.out, HMN2.out, by first | rfl | trivial⟩
          case measure => simp [intOf]
      · obtain ⟨q, hadr0, hld⟩ := byte_at HM.out.rest.slice 3 b hbk
        have hadr : ∀ W, (Instr.indexAt 23 v (.int .i64 3)).run Tryz.prog W = .ok (.pointer (some q)) W := hadr0
        have HL := Lib.hid hld
        have hsum : (N : Int) + (x : Int) * 2097152 = (M : Int) := by have h := HMM.out; simp only [Nat.reducePow] at h; omega
        have hMb : M < 268435456 := by have h1 := HMM.out; have h2 := HN.out; simp only [Nat.reducePow] at h1 h2; omega
        have hb256 : b.toNat < 256 := b.toNat_lt
        have hlI : (3 : Int) < (r.length : Int) := by omega
        have hu' := hu.trans (rfl : (Value.int .i64 ((128 ^ 3 : Nat) : Int)) = .int .i64 2097152)
        clear hadr0 hld hbk hu
        subst hu'
        by_cases hb1 : b.toNat < 128
        · have hI : ¬ (128 : Int) ≤ (b.toNat : Int) := by omega
          have HGO2 := Lib.hid (show numGo 0 0 r = (4, M) by
            rw [HGOB.out, HSTEP.out, if_pos hb1])
          go_wp2_with (first | (with_reducible refine Agg.wpList_loadL HM.out.load rfl _ rfl rfl ?_) | (with_reducible refine Agg.wpList_loadL HM.out.err rfl _ rfl rfl ?_) | (with_reducible refine Agg.wpList_loadL HL.out rfl _ rfl rfl ?_))
          refine (refNumber_any M _ (by omega)).mono ?_
          rintro x w2 ⟨u2, rfl, hu2, hx2⟩
          have hlu := fun W => bytes_len hu2.slice W
          have HM2 := Lib.hid (HM.out.below hx2)
          have HX2 := Lib.hid hx2
          clear hu2 hx2 hI hb1 hadr
          obtain ⟨n2, hn2⟩ : ∃ n, (encN M).length = n := ⟨_, rfl⟩
          rw [hn2] at hlu
          have HN2 := Lib.hid hn2
          clear hn2
          by_cases hg : n2 = 4 ∧ M ≤ 1099511627776 ∧ M ≤ most
          · obtain ⟨rfl, hg2, hg3⟩ := hg
            have hlu' : ∀ W, (Builtin.len_ #[23] 3 #[u2]).run Tryz.prog W = .ok (.int .i64 4) W := hlu
            clear hlu
            have hI2 : ¬ (1099511627776 : Int) < (M : Int) := by omega
            have hI3 : ¬ (most : Int) < (M : Int) := by omega
            have HRES := Lib.hid (show getN most r = some (M, r.drop 4) from by rw [getN_go, HGO2.out, if_neg (by rw [HN2.out]; rintro (h | h | h | h) <;> omega)])
            obtain ⟨vy, hsy0, hry, hyc, hy1⟩ := rest_low HM2.out.rest 4 (by omega)
            have hsy : ∀ W, (Instr.sliceAt 23 v (some (.int .i64 4)) none none).run Tryz.prog W = .ok vy W := hsy0
            obtain ⟨w3, hrun, hb3, ho3, hr3⟩ := HM2.out.put (ty := 23) 0 (by omega) vy hyc hy1 (by kernel_rfl)
            have HCU := Lib.hid (show CrV base g w3 vy (r.drop 4) 0 from ⟨hb3, hr3 hry⟩)
            have HON := Lib.hid ((Only.of_below (S := (· = g)) HX2.out).trans ho3 fun _ _ h => h)
            clear hsy0 hry hyc hy1 hb3 ho3 hr3 hg2 hg3
            go_wp2_with (first | (with_reducible refine Agg.wpList_loadL HM2.out.load rfl _ rfl rfl ?_) | (refine Agg.wpList_store rfl rfl 23 _ _ rfl (.pointer (some ⟨g, 0, none⟩)) _ rfl rfl hrun ?_))
            all_goals first
              | (exfalso; omega)
              | (go_ret
                 exact ⟨.inl ⟨M, r.drop 4, vy, HRES.out, rfl, HCU.out⟩, HON.out⟩)
          · have HRES := Lib.hid (show getN most r = none from by rw [getN_go, HGO2.out, if_pos (by rw [HN2.out]; by_cases h1 : n2 = 4; by_cases h2 : M ≤ 1099511627776; exact .inr (.inr (.inr (by omega))); exact .inr (.inr (.inl (by omega))); exact .inr (.inl (fun h => h1 h.symm)))])
            by_cases hg1 : n2 = 4
            · subst hg1
              have hlu' : ∀ W, (Builtin.len_ #[23] 3 #[u2]).run Tryz.prog W = .ok (.int .i64 4) W := hlu
              clear hlu
              by_cases hg2 : M ≤ 1099511627776
              · have hI2 : ¬ (1099511627776 : Int) < (M : Int) := by omega
                have hI3 : (most : Int) < (M : Int) := by omega
                clear hg
                go_wp2_with fail
                all_goals first
                  | (exfalso; omega)
                  | (refine (rfail_any base g v r 0 4 _ HM2.out).mono ?_
                     rintro x w9 ⟨⟨rr, rfl⟩, hcu, hon⟩
                     have HCU := Lib.hid hcu
                     have HON := Lib.hid ((Only.of_below (S := (· = g)) HX2.out).trans hon fun _ _ h => h)
                     clear hcu hon
                     go_wp2_with fail
                     go_ret
                     exact ⟨.inr ⟨HRES.out, rfl, 4, by omega, HCU.out⟩, HON.out⟩)
              · have hI2 : (1099511627776 : Int) < (M : Int) := by omega
                clear hg
                go_wp2_with fail
                all_goals first
                  | (exfalso; omega)
                  | (refine (rfail_any base g v r 0 4 _ HM2.out).mono ?_
                     rintro x w9 ⟨⟨rr, rfl⟩, hcu, hon⟩
                     have HCU := Lib.hid hcu
                     have HON := Lib.hid ((Only.of_below (S := (· = g)) HX2.out).trans hon fun _ _ h => h)
                     clear hcu hon
                     go_wp2_with fail
                     go_ret
                     exact ⟨.inr ⟨HRES.out, rfl, 4, by omega, HCU.out⟩, HON.out⟩)
            · have hq : ((n2 : Int) != 4) = true := by simp [bne_iff_ne]; omega
              clear hg
              go_wp2_with fail
              all_goals first
                | (exfalso; omega)
                | (refine (rfail_any base g v r 0 4 _ HM2.out).mono ?_
                   rintro x w9 ⟨⟨rr, rfl⟩, hcu, hon⟩
                   have HCU := Lib.hid hcu
                   have HON := Lib.hid ((Only.of_below (S := (· = g)) HX2.out).trans hon fun _ _ h => h)
                   clear hcu hon
                   go_wp2_with fail
                   go_ret
                   exact ⟨.inr ⟨HRES.out, rfl, 4, by omega, HCU.out⟩, HON.out⟩)
        · have hI : (128 : Int) ≤ (b.toNat : Int) := by omega
          have HGO2 := Lib.hid (show numGo 0 0 r = numGo 4 M (r.drop 4) by
            rw [HGOB.out, HSTEP.out, if_neg hb1])
          have HMN2 := Lib.hid (show M < 128 ^ 4 by have h1 := HMM.out; have h2 := HN.out; simp only [Nat.reducePow] at h1 h2 ⊢; omega)
          clear hb1
          go_wp2_with (first | (with_reducible refine Agg.wpList_loadL HM.out.load rfl _ rfl rfl ?_) | (with_reducible refine Agg.wpList_loadL HM.out.err rfl _ rfl rfl ?_) | (with_reducible refine Agg.wpList_loadL HL.out rfl _ rfl rfl ?_))
          go_roundw
          case rel => exact ⟨4, M, by omega, by omega, by go_num, by go_num, rfl, HGO2.out, HMN2.out, by first | rfl | trivial⟩
          case measure => simp [intOf]
      · obtain ⟨q, hadr0, hld⟩ := byte_at HM.out.rest.slice 4 b hbk
        have hadr : ∀ W, (Instr.indexAt 23 v (.int .i64 4)).run Tryz.prog W = .ok (.pointer (some q)) W := hadr0
        have HL := Lib.hid hld
        have hsum : (N : Int) + (x : Int) * 268435456 = (M : Int) := by have h := HMM.out; simp only [Nat.reducePow] at h; omega
        have hMb : M < 34359738368 := by have h1 := HMM.out; have h2 := HN.out; simp only [Nat.reducePow] at h1 h2; omega
        have hb256 : b.toNat < 256 := b.toNat_lt
        have hlI : (4 : Int) < (r.length : Int) := by omega
        have hu' := hu.trans (rfl : (Value.int .i64 ((128 ^ 4 : Nat) : Int)) = .int .i64 268435456)
        clear hadr0 hld hbk hu
        subst hu'
        by_cases hb1 : b.toNat < 128
        · have hI : ¬ (128 : Int) ≤ (b.toNat : Int) := by omega
          have HGO2 := Lib.hid (show numGo 0 0 r = (5, M) by
            rw [HGOB.out, HSTEP.out, if_pos hb1])
          go_wp2_with (first | (with_reducible refine Agg.wpList_loadL HM.out.load rfl _ rfl rfl ?_) | (with_reducible refine Agg.wpList_loadL HM.out.err rfl _ rfl rfl ?_) | (with_reducible refine Agg.wpList_loadL HL.out rfl _ rfl rfl ?_))
          refine (refNumber_any M _ (by omega)).mono ?_
          rintro x w2 ⟨u2, rfl, hu2, hx2⟩
          have hlu := fun W => bytes_len hu2.slice W
          have HM2 := Lib.hid (HM.out.below hx2)
          have HX2 := Lib.hid hx2
          clear hu2 hx2 hI hb1 hadr
          obtain ⟨n2, hn2⟩ : ∃ n, (encN M).length = n := ⟨_, rfl⟩
          rw [hn2] at hlu
          have HN2 := Lib.hid hn2
          clear hn2
          by_cases hg : n2 = 5 ∧ M ≤ 1099511627776 ∧ M ≤ most
          · obtain ⟨rfl, hg2, hg3⟩ := hg
            have hlu' : ∀ W, (Builtin.len_ #[23] 3 #[u2]).run Tryz.prog W = .ok (.int .i64 5) W := hlu
            clear hlu
            have hI2 : ¬ (1099511627776 : Int) < (M : Int) := by omega
            have hI3 : ¬ (most : Int) < (M : Int) := by omega
            have HRES := Lib.hid (show getN most r = some (M, r.drop 5) from by rw [getN_go, HGO2.out, if_neg (by rw [HN2.out]; rintro (h | h | h | h) <;> omega)])
            obtain ⟨vy, hsy0, hry, hyc, hy1⟩ := rest_low HM2.out.rest 5 (by omega)
            have hsy : ∀ W, (Instr.sliceAt 23 v (some (.int .i64 5)) none none).run Tryz.prog W = .ok vy W := hsy0
            obtain ⟨w3, hrun, hb3, ho3, hr3⟩ := HM2.out.put (ty := 23) 0 (by omega) vy hyc hy1 (by kernel_rfl)
            have HCU := Lib.hid (show CrV base g w3 vy (r.drop 5) 0 from ⟨hb3, hr3 hry⟩)
            have HON := Lib.hid ((Only.of_below (S := (· = g)) HX2.out).trans ho3 fun _ _ h => h)
            clear hsy0 hry hyc hy1 hb3 ho3 hr3 hg2 hg3
            go_wp2_with (first | (with_reducible refine Agg.wpList_loadL HM2.out.load rfl _ rfl rfl ?_) | (refine Agg.wpList_store rfl rfl 23 _ _ rfl (.pointer (some ⟨g, 0, none⟩)) _ rfl rfl hrun ?_))
            all_goals first
              | (exfalso; omega)
              | (go_ret
                 exact ⟨.inl ⟨M, r.drop 5, vy, HRES.out, rfl, HCU.out⟩, HON.out⟩)
          · have HRES := Lib.hid (show getN most r = none from by rw [getN_go, HGO2.out, if_pos (by rw [HN2.out]; by_cases h1 : n2 = 5; by_cases h2 : M ≤ 1099511627776; exact .inr (.inr (.inr (by omega))); exact .inr (.inr (.inl (by omega))); exact .inr (.inl (fun h => h1 h.symm)))])
            by_cases hg1 : n2 = 5
            · subst hg1
              have hlu' : ∀ W, (Builtin.len_ #[23] 3 #[u2]).run Tryz.prog W = .ok (.int .i64 5) W := hlu
              clear hlu
              by_cases hg2 : M ≤ 1099511627776
              · have hI2 : ¬ (1099511627776 : Int) < (M : Int) := by omega
                have hI3 : (most : Int) < (M : Int) := by omega
                clear hg
                go_wp2_with fail
                all_goals first
                  | (exfalso; omega)
                  | (refine (rfail_any base g v r 0 4 _ HM2.out).mono ?_
                     rintro x w9 ⟨⟨rr, rfl⟩, hcu, hon⟩
                     have HCU := Lib.hid hcu
                     have HON := Lib.hid ((Only.of_below (S := (· = g)) HX2.out).trans hon fun _ _ h => h)
                     clear hcu hon
                     go_wp2_with fail
                     go_ret
                     exact ⟨.inr ⟨HRES.out, rfl, 4, by omega, HCU.out⟩, HON.out⟩)
              · have hI2 : (1099511627776 : Int) < (M : Int) := by omega
                clear hg
                go_wp2_with fail
                all_goals first
                  | (exfalso; omega)
                  | (refine (rfail_any base g v r 0 4 _ HM2.out).mono ?_
                     rintro x w9 ⟨⟨rr, rfl⟩, hcu, hon⟩
                     have HCU := Lib.hid hcu
                     have HON := Lib.hid ((Only.of_below (S := (· = g)) HX2.out).trans hon fun _ _ h => h)
                     clear hcu hon
                     go_wp2_with fail
                     go_ret
                     exact ⟨.inr ⟨HRES.out, rfl, 4, by omega, HCU.out⟩, HON.out⟩)
            · have hq : ((n2 : Int) != 5) = true := by simp [bne_iff_ne]; omega
              clear hg
              go_wp2_with fail
              all_goals first
                | (exfalso; omega)
                | (refine (rfail_any base g v r 0 4 _ HM2.out).mono ?_
                   rintro x w9 ⟨⟨rr, rfl⟩, hcu, hon⟩
                   have HCU := Lib.hid hcu
                   have HON := Lib.hid ((Only.of_below (S := (· = g)) HX2.out).trans hon fun _ _ h => h)
                   clear hcu hon
                   go_wp2_with fail
                   go_ret
                   exact ⟨.inr ⟨HRES.out, rfl, 4, by omega, HCU.out⟩, HON.out⟩)
        · have hI : (128 : Int) ≤ (b.toNat : Int) := by omega
          have HGO2 := Lib.hid (show numGo 0 0 r = numGo 5 M (r.drop 5) by
            rw [HGOB.out, HSTEP.out, if_neg hb1])
          have HMN2 := Lib.hid (show M < 128 ^ 5 by have h1 := HMM.out; have h2 := HN.out; simp only [Nat.reducePow] at h1 h2 ⊢; omega)
          clear hb1
          go_wp2_with (first | (with_reducible refine Agg.wpList_loadL HM.out.load rfl _ rfl rfl ?_) | (with_reducible refine Agg.wpList_loadL HM.out.err rfl _ rfl rfl ?_) | (with_reducible refine Agg.wpList_loadL HL.out rfl _ rfl rfl ?_))
          go_roundw
          case rel => exact ⟨5, M, by omega, by omega, by go_num, by go_num, rfl, HGO2.out, HMN2.out, by first | rfl | trivial⟩
          case measure => simp [intOf]
      · obtain ⟨q, hadr0, hld⟩ := byte_at HM.out.rest.slice 5 b hbk
        have hadr : ∀ W, (Instr.indexAt 23 v (.int .i64 5)).run Tryz.prog W = .ok (.pointer (some q)) W := hadr0
        have HL := Lib.hid hld
        have hsum : (N : Int) + (x : Int) * 34359738368 = (M : Int) := by have h := HMM.out; simp only [Nat.reducePow] at h; omega
        have hMb : M < 4398046511104 := by have h1 := HMM.out; have h2 := HN.out; simp only [Nat.reducePow] at h1 h2; omega
        have hb256 : b.toNat < 256 := b.toNat_lt
        have hlI : (5 : Int) < (r.length : Int) := by omega
        have hu' := hu.trans (rfl : (Value.int .i64 ((128 ^ 5 : Nat) : Int)) = .int .i64 34359738368)
        clear hadr0 hld hbk hu
        subst hu'
        by_cases hb1 : b.toNat < 128
        · have hI : ¬ (128 : Int) ≤ (b.toNat : Int) := by omega
          have HGO2 := Lib.hid (show numGo 0 0 r = (6, M) by
            rw [HGOB.out, HSTEP.out, if_pos hb1])
          go_wp2_with (first | (with_reducible refine Agg.wpList_loadL HM.out.load rfl _ rfl rfl ?_) | (with_reducible refine Agg.wpList_loadL HM.out.err rfl _ rfl rfl ?_) | (with_reducible refine Agg.wpList_loadL HL.out rfl _ rfl rfl ?_))
          refine (refNumber_any M _ (by omega)).mono ?_
          rintro x w2 ⟨u2, rfl, hu2, hx2⟩
          have hlu := fun W => bytes_len hu2.slice W
          have HM2 := Lib.hid (HM.out.below hx2)
          have HX2 := Lib.hid hx2
          clear hu2 hx2 hI hb1 hadr
          obtain ⟨n2, hn2⟩ : ∃ n, (encN M).length = n := ⟨_, rfl⟩
          rw [hn2] at hlu
          have HN2 := Lib.hid hn2
          clear hn2
          by_cases hg : n2 = 6 ∧ M ≤ 1099511627776 ∧ M ≤ most
          · obtain ⟨rfl, hg2, hg3⟩ := hg
            have hlu' : ∀ W, (Builtin.len_ #[23] 3 #[u2]).run Tryz.prog W = .ok (.int .i64 6) W := hlu
            clear hlu
            have hI2 : ¬ (1099511627776 : Int) < (M : Int) := by omega
            have hI3 : ¬ (most : Int) < (M : Int) := by omega
            have HRES := Lib.hid (show getN most r = some (M, r.drop 6) from by rw [getN_go, HGO2.out, if_neg (by rw [HN2.out]; rintro (h | h | h | h) <;> omega)])
            obtain ⟨vy, hsy0, hry, hyc, hy1⟩ := rest_low HM2.out.rest 6 (by omega)
            have hsy : ∀ W, (Instr.sliceAt 23 v (some (.int .i64 6)) none none).run Tryz.prog W = .ok vy W := hsy0
            obtain ⟨w3, hrun, hb3, ho3, hr3⟩ := HM2.out.put (ty := 23) 0 (by omega) vy hyc hy1 (by kernel_rfl)
            have HCU := Lib.hid (show CrV base g w3 vy (r.drop 6) 0 from ⟨hb3, hr3 hry⟩)
            have HON := Lib.hid ((Only.of_below (S := (· = g)) HX2.out).trans ho3 fun _ _ h => h)
            clear hsy0 hry hyc hy1 hb3 ho3 hr3 hg2 hg3
            go_wp2_with (first | (with_reducible refine Agg.wpList_loadL HM2.out.load rfl _ rfl rfl ?_) | (refine Agg.wpList_store rfl rfl 23 _ _ rfl (.pointer (some ⟨g, 0, none⟩)) _ rfl rfl hrun ?_))
            all_goals first
              | (exfalso; omega)
              | (go_ret
                 exact ⟨.inl ⟨M, r.drop 6, vy, HRES.out, rfl, HCU.out⟩, HON.out⟩)
          · have HRES := Lib.hid (show getN most r = none from by rw [getN_go, HGO2.out, if_pos (by rw [HN2.out]; by_cases h1 : n2 = 6; by_cases h2 : M ≤ 1099511627776; exact .inr (.inr (.inr (by omega))); exact .inr (.inr (.inl (by omega))); exact .inr (.inl (fun h => h1 h.symm)))])
            by_cases hg1 : n2 = 6
            · subst hg1
              have hlu' : ∀ W, (Builtin.len_ #[23] 3 #[u2]).run Tryz.prog W = .ok (.int .i64 6) W := hlu
              clear hlu
              by_cases hg2 : M ≤ 1099511627776
              · have hI2 : ¬ (1099511627776 : Int) < (M : Int) := by omega
                have hI3 : (most : Int) < (M : Int) := by omega
                clear hg
                go_wp2_with fail
                all_goals first
                  | (exfalso; omega)
                  | (refine (rfail_any base g v r 0 4 _ HM2.out).mono ?_
                     rintro x w9 ⟨⟨rr, rfl⟩, hcu, hon⟩
                     have HCU := Lib.hid hcu
                     have HON := Lib.hid ((Only.of_below (S := (· = g)) HX2.out).trans hon fun _ _ h => h)
                     clear hcu hon
                     go_wp2_with fail
                     go_ret
                     exact ⟨.inr ⟨HRES.out, rfl, 4, by omega, HCU.out⟩, HON.out⟩)
              · have hI2 : (1099511627776 : Int) < (M : Int) := by omega
                clear hg
                go_wp2_with fail
                all_goals first
                  | (exfalso; omega)
                  | (refine (rfail_any base g v r 0 4 _ HM2.out).mono ?_
                     rintro x w9 ⟨⟨rr, rfl⟩, hcu, hon⟩
                     have HCU := Lib.hid hcu
                     have HON := Lib.hid ((Only.of_below (S := (· = g)) HX2.out).trans hon fun _ _ h => h)
                     clear hcu hon
                     go_wp2_with fail
                     go_ret
                     exact ⟨.inr ⟨HRES.out, rfl, 4, by omega, HCU.out⟩, HON.out⟩)
            · have hq : ((n2 : Int) != 6) = true := by simp [bne_iff_ne]; omega
              clear hg
              go_wp2_with fail
              all_goals first
                | (exfalso; omega)
                | (refine (rfail_any base g v r 0 4 _ HM2.out).mono ?_
                   rintro x w9 ⟨⟨rr, rfl⟩, hcu, hon⟩
                   have HCU := Lib.hid hcu
                   have HON := Lib.hid ((Only.of_below (S := (· = g)) HX2.out).trans hon fun _ _ h => h)
                   clear hcu hon
                   go_wp2_with fail
                   go_ret
                   exact ⟨.inr ⟨HRES.out, rfl, 4, by omega, HCU.out⟩, HON.out⟩)
        · have hI : (128 : Int) ≤ (b.toNat : Int) := by omega
          have HGO2 := Lib.hid (show numGo 0 0 r = numGo 6 M (r.drop 6) by
            rw [HGOB.out, HSTEP.out, if_neg hb1])
          have HMN2 := Lib.hid (show M < 128 ^ 6 by have h1 := HMM.out; have h2 := HN.out; simp only [Nat.reducePow] at h1 h2 ⊢; omega)
          clear hb1
          go_wp2_with (first | (with_reducible refine Agg.wpList_loadL HM.out.load rfl _ rfl rfl ?_) | (with_reducible refine Agg.wpList_loadL HM.out.err rfl _ rfl rfl ?_) | (with_reducible refine Agg.wpList_loadL HL.out rfl _ rfl rfl ?_))
          go_roundw
          case rel => exact ⟨6, M, by omega, by omega, by go_num, by go_num, rfl, HGO2.out, HMN2.out, by first | rfl | trivial⟩
          case measure => simp [intOf]
    · have HRES := Lib.hid (show getN most r = none from by
        rw [getN_go, HGO.out]
        by_cases h6 : k < 6
        · rw [List.drop_eq_nil_of_le (by omega)]
          exact if_pos (.inl rfl)
        · obtain rfl : k = 6 := by omega
          have : (numGo 6 N (r.drop 6)).1 = 0 := by cases r.drop 6 <;> simp [numGo]
          rw [if_pos (.inl this)])
      by_cases h6 : k < 6
      · obtain rfl : k = r.length := by omega
        have hlI : ((r.length : Int) < 6) := by omega
        clear hlt hN HGO hu
        go_wp2_with (first | (with_reducible refine Agg.wpList_loadL HM.out.load rfl _ rfl rfl ?_) | (with_reducible refine Agg.wpList_loadL HM.out.err rfl _ rfl rfl ?_))
        refine (rfail_any base g v r 0 4 _ HM.out).mono ?_
        rintro x w9 ⟨⟨rr, rfl⟩, hcu, hon⟩
        have HCU := Lib.hid hcu
        have HON := Lib.hid hon
        clear hcu hon
        go_wp2_with fail
        go_ret
        exact ⟨.inr ⟨HRES.out, rfl, 4, by omega, HCU.out⟩, HON.out⟩
      · obtain rfl : k = 6 := by omega
        clear hlt hN HGO hu h6
        go_wp2_with (first | (with_reducible refine Agg.wpList_loadL HM.out.load rfl _ rfl rfl ?_) | (with_reducible refine Agg.wpList_loadL HM.out.err rfl _ rfl rfl ?_))
        refine (rfail_any base g v r 0 4 _ HM.out).mono ?_
        rintro x w9 ⟨⟨rr, rfl⟩, hcu, hon⟩
        have HCU := Lib.hid hcu
        have HON := Lib.hid hon
        clear hcu hon
        go_wp2_with fail
        go_ret
        exact ⟨.inr ⟨HRES.out, rfl, 4, by omega, HCU.out⟩, HON.out⟩
end Go.Proofs.YtpnolgliklmnmaaGreat
