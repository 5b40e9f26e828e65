/- hash.take: bytes taken by a sponge. (Several texts in one.) -/
import Derived.Test.YtgekpghjlhcpkaaDAS
/-! hash.block: the words turned by a block. -/
namespace Go.Proofs.Ytgekpghjlhcpkaa
open Go.RowKit Pl Go.Agg Go.Sha
set_option maxRecDepth 100000 in
set_option maxHeartbeats 32000000 in
theorem block_any (g : Nat) (st : St) (bs : List UInt8) (hbs : bs.length = 64) (m : Nat) (w : World) (hb : Blk w g 143 (spL st.list bs m)) :
    Calls Try.prog 81 #[.pointer (some ⟨g, 0, none⟩), .pointer (some ⟨g, 8, none⟩)] w fun e w' => (∃ r, e = .returned r) ∧ Blk w' g 143 (spL (block st bs).list bs m) ∧ Only (· = g) w w' := by
  have HEM := Lib.hid (enters_of Try.func84 (by kernel_rfl) rfl : ∀ args w, (callFunc 84 args).run Try.prog w = .ok (.enter 84 args) w)
  have HB0 := Lib.hid hb
  obtain ⟨ws, hws⟩ : ∃ l, words bs 64 = l := ⟨_, rfl⟩
  obtain ⟨kl, hkl⟩ : ∃ l, ks = l := ⟨_, rfl⟩
  have hwl : ws.length = 64 := by rw [← hws]; exact words_length _ _
  have hkll : kl.length = 64 := by rw [← hkl]; exact ks_length
  have HRD := Lib.hid (fun u => (show Calls Try.prog 82 #[] u fun e w' => e = .returned (.agg (wC kl)) ∧ Below u.heap.size u w' by have := rounds_any u; rwa [hkl] at this))
  have HSP := Lib.hid (fun u (h : BytesIn u g 8 bs) => (show Calls Try.prog 83 #[.pointer (some ⟨g, 8, none⟩)] u fun e w' => e = .returned (.agg (wC ws)) ∧ Below u.heap.size u w' by have := spread_any g 8 bs hbs u h; rwa [hws] at this))
  have HWS := Lib.hid hws
  have HKL := Lib.hid hkl
  clear hws hkl
  have hgw := hb.lt
  clear hb
  go_enter Try.func81, Try.ntmps81
  go_wp2_with fail
  refine (HRD.out w).mono ?_
  rintro e w1 ⟨rfl, hx1⟩
  have HX1 := Lib.hid hx1
  have HB1 := Lib.hid (HB0.out.below hx1)
  clear hx1
  go_wp2_with fail
  refine (HSP.out w1 (spL_bytes HB1.out rfl)).mono ?_
  rintro e w2 ⟨rfl, hx2⟩
  have HX2 := Lib.hid (Agg.belowThen HX1.out (Nat.le_refl _) hx2)
  have HB2 := Lib.hid (HB1.out.below hx2)
  clear hx2
  go_wp2_with (first | ((fail_if_success (have := HA3)); with_reducible refine wpList_zero rfl 148 rfl (wC (List.replicate 64 0)) w64_zero ?_; intro g4 w3 hb hx hg; have HA3 := Lib.hid hb; have HB3 := Lib.hid (HB2.out.below hx); have HX3 := Lib.hid (Agg.belowThen HX2.out (Nat.le_refl _) hx); have HG4 := Lib.hid (Nat.le_trans HX2.out.size hg); clear hb hx hg) | (with_reducible refine wpList_zero rfl 148 rfl (wC (List.replicate 64 0)) w64_zero ?_; intro g5 w4 hb hx hg; have HC4 := Lib.hid hb; have HA4 := Lib.hid (HA3.out.below hx); have HB4 := Lib.hid (HB3.out.below hx); have HX4 := Lib.hid (Agg.belowThen HX3.out (Nat.le_refl _) hx); have HG5 := Lib.hid (Nat.le_trans HX3.out.size hg); have HN45 := Lib.hid (show g4 ≠ g5 from fun e => by have := HA3.out.lt; omega); have HNG4 := Lib.hid (show g ≠ g4 from fun e => by have := HG4.out; omega); have HNG5 := Lib.hid (show g ≠ g5 from fun e => by have := HG5.out; omega); clear hb hx hg) | ((with_reducible refine wpList_put rfl rfl 148 _ _ rfl g4 (wC kl) (wC (List.replicate 64 0)) rfl rfl HA4.out (w64_info _ hkll) (by rw [wC_size, wC_size, hkll, List.length_replicate]) (wC_one _) ?_); intro w5 hb hx hs hk; have HA5 := Lib.hid hb; have HC5 := Lib.hid (Blk.other HC4.out hk (Ne.symm HN45.out)); have HB5 := Lib.hid (Blk.other HB4.out hk HNG4.out); have HX5 := Lib.hid (HX4.out.trans (hx.mono HG4.out)); clear hb hx hs hk) | ((with_reducible refine wpList_put rfl rfl 148 _ _ rfl g5 (wC ws) (wC (List.replicate 64 0)) rfl rfl HC5.out (w64_info _ hwl) (by rw [wC_size, wC_size, hwl, List.length_replicate]) (wC_one _) ?_); intro w6 hb hx hs hk; have HC6 := Lib.hid hb; have HA6 := Lib.hid (Blk.other HA5.out hk HN45.out); have HB6 := Lib.hid (Blk.other HB5.out hk HNG5.out); have HX6 := Lib.hid (HX5.out.trans (hx.mono HG5.out)); have HLS := Lib.hid (spL_state HB6.out rfl); clear hb hx hs hk) | (with_reducible refine wpList_loadL HLS.out rfl _ rfl rfl ?_) | (with_reducible refine wpList_zero rfl 139 rfl (wC (List.replicate 8 0)) w8_zero ?_; intro g6 w7 hb hx hg; have HS7 := Lib.hid hb; have HA7 := Lib.hid (HA6.out.below hx); have HC7 := Lib.hid (HC6.out.below hx); have HB7 := Lib.hid (HB6.out.below hx); have HX7 := Lib.hid (Agg.belowThen HX6.out (Nat.le_refl _) hx); have HG6 := Lib.hid (Nat.le_trans HX6.out.size hg); have HN46 := Lib.hid (show g4 ≠ g6 from fun e => by have := HA6.out.lt; omega); have HN56 := Lib.hid (show g5 ≠ g6 from fun e => by have := HC6.out.lt; omega); have HNG6 := Lib.hid (show g ≠ g6 from fun e => by have := HB6.out.lt; omega); clear hb hx hg) | ((with_reducible refine wpList_put rfl rfl 139 _ _ rfl g6 (wC st.list) (wC (List.replicate 8 0)) rfl rfl HS7.out (w8_info _ rfl) rfl (wC_one _) ?_); intro w8 hb hx hs hk; have HS8 := Lib.hid hb; have HA8 := Lib.hid (Blk.other HA7.out hk HN46.out); have HC8 := Lib.hid (Blk.other HC7.out hk HN56.out); have HB8 := Lib.hid (Blk.other HB7.out hk HNG6.out); have HX8 := Lib.hid (HX7.out.trans (hx.mono HG6.out)); clear hb hx hs hk))
  have HI8 := Lib.hid (fun (i : Nat) (h : i < 8) W => (show (Instr.indexAt 139 (.pointer (some ⟨g6, 0, none⟩)) (.int .i64 (i : Int))).run Try.prog W = .ok (.pointer (some ⟨g6, i, none⟩)) W by have := run_idxArr (P := Try.prog) (t := 139) (e := 137) (w := W) Try.underlying139 (by kernel_rfl) g6 0 i h; rwa [Nat.zero_add] at this))
  have HIG := Lib.hid (fun (i : Nat) (h : i < 8) W => (show (Instr.indexAt 139 (.pointer (some ⟨g, 0, none⟩)) (.int .i64 (i : Int))).run Try.prog W = .ok (.pointer (some ⟨g, i, none⟩)) W by have := run_idxArr (P := Try.prog) (t := 139) (e := 137) (w := W) Try.underlying139 (by kernel_rfl) g 0 i h; rwa [Nat.zero_add] at this))
  have HI4 := Lib.hid (fun (i : Nat) (h : i < 64) W => (show (Instr.indexAt 148 (.pointer (some ⟨g4, 0, none⟩)) (.int .i64 (i : Int))).run Try.prog W = .ok (.pointer (some ⟨g4, i, none⟩)) W by have := run_idxArr (P := Try.prog) (t := 148) (e := 137) (w := W) Try.underlying148 (by kernel_rfl) g4 0 i h; rwa [Nat.zero_add] at this))
  have HI5 := Lib.hid (fun (i : Nat) (h : i < 64) W => (show (Instr.indexAt 148 (.pointer (some ⟨g5, 0, none⟩)) (.int .i64 (i : Int))).run Try.prog W = .ok (.pointer (some ⟨g5, i, none⟩)) W by have := run_idxArr (P := Try.prog) (t := 148) (e := 137) (w := W) Try.underlying148 (by kernel_rfl) g5 0 i h; rwa [Nat.zero_add] at this))
  go_loopw [20] (fun i wr => ∃ k : Nat, k ≤ 64 ∧ i = .int .i64 (k : Int) ∧ Blk wr g6 139 (wC (rounds bs k st).list) ∧ Blk wr g4 148 (wC kl) ∧ Blk wr g5 148 (wC ws) ∧ Blk wr g 143 (spL st.list bs m) ∧ Below w.heap.size w wr) (fun i _ => 64 - (intOf i).toNat)
  case atStart => exact ⟨0, by omega, rfl, HS8.out, HA8.out, HC8.out, HB8.out, HX8.out⟩
  case round =>
    obtain ⟨wr1, rfl⟩ : ∃ y : World, y = wr := ⟨_, rfl⟩
    obtain ⟨k, hk, rfl, hxs, hks, hws, hbk, hw⟩ := hrel
    have HB := Lib.hid hbk
    have HW := Lib.hid hw
    clear hbk hw
    obtain ⟨x, hx⟩ : ∃ x, rounds bs k st = x := ⟨_, rfl⟩
    rw [hx] at hxs
    by_cases hlt : k < 64
    · have hd1 : decide ((k : Int) < 64) = true := by simp; omega
      obtain ⟨xa, xb, xc, xd, xe, xf, xg, xh⟩ := x
      obtain ⟨kk, hkk⟩ : ∃ y, kl[k]? = some y := ⟨_, List.getElem?_eq_getElem (by rw [hkll]; exact hlt)⟩
      obtain ⟨ww, hww⟩ : ∃ y, ws[k]? = some y := ⟨_, List.getElem?_eq_getElem (by rw [hwl]; exact hlt)⟩
      have HS := Lib.hid (⟨hxs, hks, hws⟩ : RndS g4 g5 g6 kl ws [xa, xb, xc, xd, xe, xf, xg, xh] wr1)
      have HKK := Lib.hid hkk
      have HWW := Lib.hid hww
      have HRN := Lib.hid (show rounds bs (k + 1) st = ⟨((((xh + mixP xe [6, 11, 25]) + (xg ^^^ (xe &&& (xf ^^^ xg)))) + kk) + ww) + (mixP xa [2, 13, 22] + ((xa &&& (xb ||| xc)) ||| (xb &&& xc))), xa, xb, xc, xd + ((((xh + mixP xe [6, 11, 25]) + (xg ^^^ (xe &&& (xf ^^^ xg)))) + kk) + ww), xe, xf, xg⟩ by rw [rounds, hx, HWS.out, HKL.out]; simp only [Sha.round, mix_s0, mix_s1, List.getD, hkk, hww, Option.getD_some, ch, maj])
      clear hxs hks hws hkk hww hx
      have H0 := Lib.hid (HS.out.x 0 _ rfl)
      have H1 := Lib.hid (HS.out.x 1 _ rfl)
      have H2 := Lib.hid (HS.out.x 2 _ rfl)
      have H3 := Lib.hid (HS.out.x 3 _ rfl)
      have H4 := Lib.hid (HS.out.x 4 _ rfl)
      have H5 := Lib.hid (HS.out.x 5 _ rfl)
      have H6 := Lib.hid (HS.out.x 6 _ rfl)
      have H7 := Lib.hid (HS.out.x 7 _ rfl)
      go_wp2_with (first | (with_reducible refine wpList_loadL H0.out rfl _ rfl rfl ?_) | (with_reducible refine wpList_loadL H1.out rfl _ rfl rfl ?_) | (with_reducible refine wpList_loadL H2.out rfl _ rfl rfl ?_) | (with_reducible refine wpList_loadL H3.out rfl _ rfl rfl ?_) | (with_reducible refine wpList_loadL H4.out rfl _ rfl rfl ?_) | (with_reducible refine wpList_loadL H5.out rfl _ rfl rfl ?_) | (with_reducible refine wpList_loadL H6.out rfl _ rfl rfl ?_) | (with_reducible refine wpList_loadL H7.out rfl _ rfl rfl ?_) | (refine wpList_valw rfl (exec_xorW rfl rfl rfl) ?_) | (refine wpList_valw rfl (exec_andW rfl rfl rfl) ?_) | (refine wpList_valw rfl (exec_orW rfl rfl rfl) ?_))
      try simp only [List.append_eq, List.cons_append, List.nil_append]
      try simp only [Act.put, List.setIfInBounds_toArray, List.set_cons_succ, List.set_cons_zero]
      obtain ⟨w_d, hwd⟩ : ∃ W, W = wr1.drew := ⟨_, rfl⟩
      have hd : Below wr1.heap.size wr1 w_d := by rw [hwd]; exact (Below.refl _ _).drew
      have K_d := Lib.hid (Agg.belowThen HW.out (Nat.le_refl _) hd)
      have S_d := Lib.hid (HS.out.below hd)
      have B_d := Lib.hid (HB.out.below hd)
      refine wp_region_held_drew (S := RndS g4 g5 g6 kl ws [xa, xb, xc, xd, xe, xf, xg, xh]) (by kernel_rfl) (by rw [← hwd]; exact S_d.out) (fun hHeld => ?_)
      rw [← hwd] at hHeld ⊢
      clear hwd hd hHeld
      refine Agg.held_take 0 (.pointer (some ⟨g6, 7, none⟩)) rfl (by kernel_rfl) (fun _ _ _ h => h) rfl (fun W _ => exec_idx rfl rfl rfl (HI8.out 7 (by decide) W)) (by assumption) ?_
      try simp only [Act.put, List.setIfInBounds_toArray, List.set_cons_succ, List.set_cons_zero]
      refine Agg.held_take 1 (vW xh) rfl (by kernel_rfl) (fun _ _ _ h => h) rfl (fun u hS => exec_loadB rfl rfl (hS.x 7 _ rfl).now) (by assumption) ?_
      try simp only [Act.put, List.setIfInBounds_toArray, List.set_cons_succ, List.set_cons_zero]
      refine Agg.held_take 2 (.pointer (some ⟨g6, 4, none⟩)) rfl (by kernel_rfl) (fun _ _ _ h => h) rfl (fun W _ => exec_idx rfl rfl rfl (HI8.out 4 (by decide) W)) (by assumption) ?_
      try simp only [Act.put, List.setIfInBounds_toArray, List.set_cons_succ, List.set_cons_zero]
      refine Agg.held_take 3 (vW xe) rfl (by kernel_rfl) (fun _ _ _ h => h) rfl (fun u hS => exec_loadB rfl rfl (hS.x 4 _ rfl).now) (by assumption) ?_
      try simp only [Act.put, List.setIfInBounds_toArray, List.set_cons_succ, List.set_cons_zero]
      refine Agg.held_take 7 (vW (xg ^^^ (xe &&& (xf ^^^ xg)))) rfl (by kernel_rfl) (fun _ _ _ h => h) rfl (fun W _ => by kernel_rfl) (by assumption) ?_
      try simp only [Act.put, List.setIfInBounds_toArray, List.set_cons_succ, List.set_cons_zero]
      refine Agg.held_take 9 (.int .i64 ((k : Nat) : Int)) rfl (by kernel_rfl) (fun _ _ _ h => h) rfl (fun W _ => by kernel_rfl) (by assumption) ?_
      try simp only [Act.put, List.setIfInBounds_toArray, List.set_cons_succ, List.set_cons_zero]
      refine Agg.held_take 10 (.pointer (some ⟨g4, k, none⟩)) rfl (by kernel_rfl) (fun _ _ _ h => h) rfl (fun W _ => exec_idx rfl rfl rfl (HI4.out k (by omega) W)) (by assumption) ?_
      try simp only [Act.put, List.setIfInBounds_toArray, List.set_cons_succ, List.set_cons_zero]
      refine Agg.held_take 11 (vW kk) rfl (by kernel_rfl) (fun _ _ _ h => h) rfl (fun u hS => exec_loadB rfl rfl (hS.k k _ HKK.out).now) (by assumption) ?_
      try simp only [Act.put, List.setIfInBounds_toArray, List.set_cons_succ, List.set_cons_zero]
      refine Agg.held_take 13 (.int .i64 ((k : Nat) : Int)) rfl (by kernel_rfl) (fun _ _ _ h => h) rfl (fun W _ => by kernel_rfl) (by assumption) ?_
      try simp only [Act.put, List.setIfInBounds_toArray, List.set_cons_succ, List.set_cons_zero]
      refine Agg.held_take 14 (.pointer (some ⟨g5, k, none⟩)) rfl (by kernel_rfl) (fun _ _ _ h => h) rfl (fun W _ => exec_idx rfl rfl rfl (HI5.out k (by omega) W)) (by assumption) ?_
      try simp only [Act.put, List.setIfInBounds_toArray, List.set_cons_succ, List.set_cons_zero]
      refine Agg.held_take 15 (vW ww) rfl (by kernel_rfl) (fun _ _ _ h => h) rfl (fun u hS => exec_loadB rfl rfl (hS.w k _ HWW.out).now) (by assumption) ?_
      try simp only [Act.put, List.setIfInBounds_toArray, List.set_cons_succ, List.set_cons_zero]
      refine Agg.held_ready [4] (by kernel_rfl) (by simp) ?_
      refine Agg.held_cons rfl ?_ ?_
      · refine Agg.step_ints3 rfl _ _ _ rfl 6 11 25 rfl rfl rfl ?_
        intro va w_d_4 hs hx
        have V_d_4 := Lib.hid hs
        have K_d_4 := Lib.hid (Agg.belowThen K_d.out (Nat.le_refl _) hx)
        have S_d_4 := Lib.hid (S_d.out.below hx)
        have B_d_4 := Lib.hid (B_d.out.below hx)
        clear hs hx
        refine ⟨S_d_4.out, ?_⟩
        try simp only [Act.put, List.setIfInBounds_toArray, List.set_cons_succ, List.set_cons_zero]
        refine Agg.held_ready [5] (by kernel_rfl) (by simp) ?_
        refine Agg.held_cons rfl ?_ ?_
        · refine Agg.step_call rfl 84 _ _ rfl #[vW xe, va] (by simp only [List.map_toArray, List.map_cons, List.map_nil]; rfl) (fun W => HEM.out _ W) ?_
          refine (mixed_any xe va [6, 11, 25] (by decide) (by decide) w_d_4 V_d_4.out).mono ?_
          rintro e w_d_4_5 ⟨rfl, hx⟩
          have K_d_4_5 := Lib.hid (Agg.belowThen K_d_4.out (Nat.le_refl _) hx)
          have S_d_4_5 := Lib.hid (S_d_4.out.below hx)
          have B_d_4_5 := Lib.hid (B_d_4.out.below hx)
          clear hx
          refine ⟨_, rfl, S_d_4_5.out, ?_⟩
          try simp only [Act.put, List.setIfInBounds_toArray, List.set_cons_succ, List.set_cons_zero]
          refine Agg.held_take 6 (vW (xh + mixP xe [6, 11, 25])) rfl (by kernel_rfl) (fun _ _ _ h => h) rfl (fun W _ => exec_addW rfl rfl rfl) (by assumption) ?_
          try simp only [Act.put, List.setIfInBounds_toArray, List.set_cons_succ, List.set_cons_zero]
          refine Agg.held_take 8 (vW ((xh + mixP xe [6, 11, 25]) + (xg ^^^ (xe &&& (xf ^^^ xg))))) rfl (by kernel_rfl) (fun _ _ _ h => h) rfl (fun W _ => exec_addW rfl rfl rfl) (by assumption) ?_
          try simp only [Act.put, List.setIfInBounds_toArray, List.set_cons_succ, List.set_cons_zero]
          refine Agg.held_take 12 (vW (((xh + mixP xe [6, 11, 25]) + (xg ^^^ (xe &&& (xf ^^^ xg)))) + kk)) rfl (by kernel_rfl) (fun _ _ _ h => h) rfl (fun W _ => exec_addW rfl rfl rfl) (by assumption) ?_
          try simp only [Act.put, List.setIfInBounds_toArray, List.set_cons_succ, List.set_cons_zero]
          refine Agg.held_take 16 (vW ((((xh + mixP xe [6, 11, 25]) + (xg ^^^ (xe &&& (xf ^^^ xg)))) + kk) + ww)) rfl (by kernel_rfl) (fun _ _ _ h => h) rfl (fun W _ => exec_addW rfl rfl rfl) (by assumption) ?_
          try simp only [Act.put, List.setIfInBounds_toArray, List.set_cons_succ, List.set_cons_zero]
          refine Agg.held_take 17 (vW ((((xh + mixP xe [6, 11, 25]) + (xg ^^^ (xe &&& (xf ^^^ xg)))) + kk) + ww)) rfl (by kernel_rfl) (fun _ _ _ h => h) rfl (fun W _ => by kernel_rfl) (by assumption) ?_
          try simp only [Act.put, List.setIfInBounds_toArray, List.set_cons_succ, List.set_cons_zero]
          refine Agg.held_end (by kernel_rfl) ?_
          have H80 := Lib.hid (S_d_4_5.out.x 0 _ rfl)
          go_wp2_with (first | (with_reducible refine wpList_loadL H80.out rfl _ rfl rfl ?_) | (refine wpList_ints3 rfl _ _ _ rfl 2 13 22 rfl rfl rfl ?_; intro vb w8 hs hx; have V8 := Lib.hid hs; have K8 := Lib.hid (Agg.belowThen K_d_4_5.out (Nat.le_refl _) hx); have S8 := Lib.hid (S_d_4_5.out.below hx); have B8 := Lib.hid (B_d_4_5.out.below hx); clear hs hx))
          refine (mixed_any xa vb [2, 13, 22] (by decide) (by decide) w8 V8.out).mono ?_
          rintro e w9 ⟨rfl, hx⟩
          have K9 := Lib.hid (Agg.belowThen K8.out (Nat.le_refl _) hx)
          have S9 := Lib.hid (S8.out.below hx)
          have B9 := Lib.hid (B8.out.below hx)
          clear hx
          go_wp2_with (first | (refine wpList_valw rfl (exec_addW rfl rfl rfl) ?_))
          try simp only [List.append_eq, List.cons_append, List.nil_append]
          try simp only [Act.put, List.setIfInBounds_toArray, List.set_cons_succ, List.set_cons_zero]
          obtain ⟨w_e, hwd⟩ : ∃ W, W = w9.drew := ⟨_, rfl⟩
          have hd : Below w9.heap.size w9 w_e := by rw [hwd]; exact (Below.refl _ _).drew
          have K_e := Lib.hid (Agg.belowThen K9.out (Nat.le_refl _) hd)
          have S_e := Lib.hid (S9.out.below hd)
          have B_e := Lib.hid (B9.out.below hd)
          have hT : True := trivial
          refine wp_region_held_drew (S := fun _ => True) (by kernel_rfl) (by trivial) (fun hHeld => ?_)
          rw [← hwd]
          clear hwd hd
          refine Agg.held_take 0 (.slice (some ⟨g6, 1, none⟩) 7 7) rfl (by kernel_rfl) (fun _ _ _ h => h) rfl (fun W _ => by kernel_rfl) (by assumption) ?_
          try simp only [Act.put, List.setIfInBounds_toArray, List.set_cons_succ, List.set_cons_zero]
          refine Agg.held_take 1 (.slice (some ⟨g6, 0, none⟩) 7 8) rfl (by kernel_rfl) (fun _ _ _ h => h) rfl (fun W _ => by kernel_rfl) (by assumption) ?_
          try simp only [Act.put, List.setIfInBounds_toArray, List.set_cons_succ, List.set_cons_zero]
          refine Agg.held_ready [2] (by kernel_rfl) (by simp) ?_
          refine Agg.held_cons rfl ?_ ?_
          · obtain ⟨w10, hrun, hb10, ho10, hz10⟩ := run_copyMid (P := Try.prog) 152 152 _ 137 g6 1 7 7 ⟨g6, 0, none⟩ 7 8 ([xa, xb, xc, xd, xe, xf, xg, xh].map vW) 139 ([xa, xb, xc, xd, xe, xf, xg].map vW) (by kernel_rfl) (by kernel_rfl) S_e.out.bx (by rfl) (fun j v hj => S_e.out.cells j v hj) (by simp) (fun v hv => by obtain ⟨x, _, rfl⟩ := List.mem_map.1 hv; rfl)
            refine Agg.step_copyV rfl _ _ rfl _ _ rfl rfl hrun ?_
            have K_f := Lib.hid (K_e.out.trans (ho10.below (B := w.heap.size) K_e.out.size (fun i hi => by subst hi; exact HG6.out)))
            have X_f := Lib.hid (show Blk w10 g6 139 (wC [xa, xa, xb, xc, xd, xe, xf, xg]) from hb10)
            have A_f := Lib.hid (S_e.out.bk.onlyP ho10 HN46.out)
            have C_f := Lib.hid (S_e.out.bw.onlyP ho10 HN56.out)
            have B_f := Lib.hid (B_e.out.onlyP ho10 HNG6.out)
            clear hrun hb10 ho10 hz10
            refine ⟨trivial, ?_⟩
            try simp only [Act.put, List.setIfInBounds_toArray, List.set_cons_succ, List.set_cons_zero]
            refine Agg.held_end (by kernel_rfl) ?_
            obtain ⟨w11, hr11, hb11, ho11⟩ := Blk.run_one (P := Try.prog) (ty := 137) X_f.out 0 (by rw [wC_size]; simp) (vW (((((xh + mixP xe [6, 11, 25]) + (xg ^^^ (xe &&& (xf ^^^ xg)))) + kk) + ww) + (mixP xa [2, 13, 22] + ((xa &&& (xb ||| xc)) ||| (xb &&& xc))))) rfl rfl (by kernel_rfl) (wC [((((xh + mixP xe [6, 11, 25]) + (xg ^^^ (xe &&& (xf ^^^ xg)))) + kk) + ww) + (mixP xa [2, 13, 22] + ((xa &&& (xb ||| xc)) ||| (xb &&& xc))), xa, xb, xc, xd, xe, xf, xg]) (by rw [wC_set]; rfl)
            have H11 := Lib.hid (hb11.one (P := Try.prog) (ty := 137) 4 (wC_get _ 4 xd rfl) Try.underlying137 rfl)
            obtain ⟨w12, hr12, hb12, ho12⟩ := Blk.run_one (P := Try.prog) (ty := 137) hb11 4 (by rw [wC_size]; simp) (vW (xd + ((((xh + mixP xe [6, 11, 25]) + (xg ^^^ (xe &&& (xf ^^^ xg)))) + kk) + ww))) rfl rfl (by kernel_rfl) (wC [((((xh + mixP xe [6, 11, 25]) + (xg ^^^ (xe &&& (xf ^^^ xg)))) + kk) + ww) + (mixP xa [2, 13, 22] + ((xa &&& (xb ||| xc)) ||| (xb &&& xc))), xa, xb, xc, xd + ((((xh + mixP xe [6, 11, 25]) + (xg ^^^ (xe &&& (xf ^^^ xg)))) + kk) + ww), xe, xf, xg]) (by rw [wC_set]; rfl)
            have HR11 := Lib.hid hr11
            have HR12 := Lib.hid hr12
            have ho := ho11.trans ho12 (fun _ _ h => h)
            have K_g := Lib.hid (K_f.out.trans (ho.below (B := w.heap.size) K_f.out.size (fun i hi => by subst hi; exact HG6.out)))
            have X_g := Lib.hid hb12
            have A_g := Lib.hid (A_f.out.onlyP ho HN46.out)
            have C_g := Lib.hid (C_f.out.onlyP ho HN56.out)
            have B_g := Lib.hid (B_f.out.onlyP ho HNG6.out)
            clear hr11 hb11 ho11 hr12 hb12 ho12 ho
            go_wp2_with (first | (refine wpList_valw rfl (exec_addW rfl rfl rfl) ?_) | (with_reducible refine wpList_loadL H11.out rfl _ rfl rfl ?_) | (refine wpList_store rfl rfl 137 _ _ rfl (.pointer (some ⟨g6, 0, none⟩)) (vW (((((xh + mixP xe [6, 11, 25]) + (xg ^^^ (xe &&& (xf ^^^ xg)))) + kk) + ww) + (mixP xa [2, 13, 22] + ((xa &&& (xb ||| xc)) ||| (xb &&& xc))))) rfl rfl HR11.out ?_) | (refine wpList_store rfl rfl 137 _ _ rfl (.pointer (some ⟨g6, 4, none⟩)) (vW (xd + ((((xh + mixP xe [6, 11, 25]) + (xg ^^^ (xe &&& (xf ^^^ xg)))) + kk) + ww))) rfl rfl HR12.out ?_))
            go_roundw
            case rel => exact ⟨k + 1, by omega, by go_num, by rw [HRN.out]; exact X_g.out, A_g.out, C_g.out, B_g.out, K_g.out⟩
            case measure => simp [intOf]; omega
          exact AllReadyH.nil
        exact AllReadyH.nil
      exact AllReadyH.nil
    · obtain rfl : k = 64 := by omega
      have HLX := Lib.hid (hxs.loads (P := Try.prog) Try.underlying139 rfl (w8_info _ rfl))
      have HAD := Lib.hid (show addU st.list x.list 8 = (block st bs).list by rw [addU_all, block, hx])
      obtain ⟨xl, hxl⟩ : ∃ l, x.list = l := ⟨_, rfl⟩
      have hl8 : xl.length = 8 := by rw [← hxl]; rfl
      rw [hxl] at HLX HAD
      clear hxs hks hws hx hxl
      go_wp2_with (first | (with_reducible refine wpList_loadL HLX.out rfl _ rfl rfl ?_))
      go_loopw [85] (fun i wr => ∃ j : Nat, j ≤ 8 ∧ i = .int .i64 (j : Int) ∧ Blk wr g 143 (spL (addU st.list xl j) bs m) ∧ Only (· = g) w wr) (fun i _ => 8 - (intOf i).toNat)
      case atStart => exact ⟨0, by omega, rfl, by rw [addU_zero]; exact HB.out, Only.of_below HW.out⟩
      case round =>
        obtain ⟨wr1, rfl⟩ : ∃ y : World, y = wr := ⟨_, rfl⟩
        obtain ⟨j, hj, rfl, hb2, ho2⟩ := hrel
        have HB2 := Lib.hid hb2
        have HO := Lib.hid ho2
        clear hb2 ho2
        by_cases hj8 : j < 8
        · have hd2 : decide ((j : Int) < 8) = true := by simp; omega
          obtain ⟨xj, hxj⟩ : ∃ y, xl[j]? = some y := ⟨_, List.getElem?_eq_getElem (by omega)⟩
          obtain ⟨sj, hsj⟩ : ∃ y, st.list[j]? = some y := ⟨_, List.getElem?_eq_getElem (by simp [St.list]; omega)⟩
          have HXJ := Lib.hid hxj
          have HSJ0 := Lib.hid hsj
          have HSJ := Lib.hid (show (addU st.list xl j)[j]? = some sj from addU_at hsj hj8)
          have HIX := Lib.hid (fun W => run_index_agg (P := Try.prog) (t := 139) (e := 137) (n := 8) (cs := xl.map vW) (k := .i64) (i := j) (v := vW xj) W Try.underlying139 (by kernel_rfl) (fun _ => by kernel_rfl) hj8 (by rw [List.getElem?_map, hxj]; rfl))
          clear hxj hsj
          go_wp2_with (first | (refine wpList_valw rfl (exec_index rfl rfl rfl (HIX.out _)) ?_))
          try simp only [List.append_eq, List.cons_append, List.nil_append]
          try simp only [Act.put, List.setIfInBounds_toArray, List.set_cons_succ, List.set_cons_zero]
          obtain ⟨w_d, hwd⟩ : ∃ W, W = wr1.drew := ⟨_, rfl⟩
          have hd : Below wr1.heap.size wr1 w_d := by rw [hwd]; exact (Below.refl _ _).drew
          have HB_d := Lib.hid (HB2.out.below hd)
          have HO_d := Lib.hid (HO.out.trans (Only.of_below (S := (· = g)) hd) (fun _ _ h => h))
          have HLJ := Lib.hid (spL_word HB_d.out HSJ.out)
          obtain ⟨w_s, hrj, hbj, hoj⟩ := Blk.run_one (P := Try.prog) (ty := 137) HB_d.out j (by rw [spL_size _ _ _ (addU_length _ _ _) hbs]; omega) (vW (sj + xj)) rfl rfl (by kernel_rfl) (spL (addU st.list xl (j + 1)) bs m) (by rw [spL_set _ _ _ _ _ (by rw [addU_length]; omega), addU_next HSJ0.out HXJ.out hj8])
          have HRJ := Lib.hid hrj
          have HBJ := Lib.hid hbj
          have HOJ := Lib.hid (HO_d.out.trans hoj (fun _ _ h => h))
          clear hrj hbj hoj
          have hT : True := trivial
          refine wp_region_held_drew (S := fun _ => True) (by kernel_rfl) (by trivial) (fun hHeld => ?_)
          rw [← hwd]
          clear hwd hd
          refine Agg.held_take 0 (.pointer (some ⟨g, 0, none⟩)) rfl (by kernel_rfl) (fun _ _ _ h => h) rfl (fun W _ => by kernel_rfl) (by assumption) ?_
          try simp only [Act.put, List.setIfInBounds_toArray, List.set_cons_succ, List.set_cons_zero]
          refine Agg.held_take 1 (.int .i64 ((j : Nat) : Int)) rfl (by kernel_rfl) (fun _ _ _ h => h) rfl (fun W _ => by kernel_rfl) (by assumption) ?_
          try simp only [Act.put, List.setIfInBounds_toArray, List.set_cons_succ, List.set_cons_zero]
          refine Agg.held_take 2 (.pointer (some ⟨g, 0, none⟩)) rfl (by kernel_rfl) (fun _ _ _ h => h) rfl (fun W _ => by kernel_rfl) (by assumption) ?_
          try simp only [Act.put, List.setIfInBounds_toArray, List.set_cons_succ, List.set_cons_zero]
          refine Agg.held_take 3 (.pointer (some ⟨g, j, none⟩)) rfl (by kernel_rfl) (fun _ _ _ h => h) rfl (fun W _ => exec_idx rfl rfl rfl (HIG.out j (by omega) W)) (by assumption) ?_
          try simp only [Act.put, List.setIfInBounds_toArray, List.set_cons_succ, List.set_cons_zero]
          refine Agg.held_take 5 (vW xj) rfl (by kernel_rfl) (fun _ _ _ h => h) rfl (fun W _ => by kernel_rfl) (by assumption) ?_
          try simp only [Act.put, List.setIfInBounds_toArray, List.set_cons_succ, List.set_cons_zero]
          refine Agg.held_take 7 (.pointer (some ⟨g, 0, none⟩)) rfl (by kernel_rfl) (fun _ _ _ h => h) rfl (fun W _ => by kernel_rfl) (by assumption) ?_
          try simp only [Act.put, List.setIfInBounds_toArray, List.set_cons_succ, List.set_cons_zero]
          refine Agg.held_ready [4] (by kernel_rfl) (by simp) ?_
          refine Agg.held_cons rfl ?_ ?_
          · refine Agg.step_load rfl 137 _ rfl _ (vW sj) rfl HLJ.out.now ?_
            refine ⟨trivial, ?_⟩
            try simp only [Act.put, List.setIfInBounds_toArray, List.set_cons_succ, List.set_cons_zero]
            refine Agg.held_take 6 (vW (sj + xj)) rfl (by kernel_rfl) (fun _ _ _ h => h) rfl (fun W _ => exec_addW rfl rfl rfl) (by assumption) ?_
            try simp only [Act.put, List.setIfInBounds_toArray, List.set_cons_succ, List.set_cons_zero]
            refine Agg.held_take 8 (.pointer (some ⟨g, j, none⟩)) rfl (by kernel_rfl) (fun _ _ _ h => h) rfl (fun W _ => exec_idx rfl rfl rfl (HIG.out j (by omega) W)) (by assumption) ?_
            try simp only [Act.put, List.setIfInBounds_toArray, List.set_cons_succ, List.set_cons_zero]
            refine Agg.held_ready [9] (by kernel_rfl) (by simp) ?_
            refine Agg.held_cons rfl ?_ ?_
            · refine Agg.step_store rfl rfl 137 _ _ rfl (.pointer (some ⟨g, j, none⟩)) (vW (sj + xj)) rfl rfl HRJ.out ?_
              refine ⟨trivial, ?_⟩
              try simp only [Act.put, List.setIfInBounds_toArray, List.set_cons_succ, List.set_cons_zero]
              refine Agg.held_end (by kernel_rfl) ?_
              go_wp2_with fail
              go_roundw
              case rel => exact ⟨j + 1, by omega, by go_num, HBJ.out, HOJ.out⟩
              case measure => simp [intOf]; omega
            exact AllReadyH.nil
          exact AllReadyH.nil
        · obtain rfl : j = 8 := by omega
          go_wp2_with fail
          refine bodyPost_end (results_none rfl _ _ _) rfl ?_
          exact ⟨⟨_, rfl⟩, by rw [← HAD.out]; exact HB2.out, HO.out⟩
end Go.Proofs.Ytgekpghjlhcpkaa
/-! What hash.take needs: slices of arrays and of bytes, numbers of 64 bits, bytes copied into a sponge. -/
namespace Go.Agg
open Go.RowKit
variable {P : Program}
theorem run_sliceArr {e t : TypeId} {k : Nat} {w : World} (ht : P.underlying t = some (.array k e)) (hs : (P.info? e).map (·.size) = some 1) (g b l : Nat) (h : l < k) : (Instr.sliceAt t (.pointer (some ⟨g, b, none⟩)) (some (.int .i64 (l : Int))) none none).run P w = .ok (.slice (some ⟨g, b + l, none⟩) (k - l) (k - l)) w := by
  have hl : P.arrayLen t = k := by simp [Program.arrayLen, ht]
  have he : P.elem t = e := by simp [Program.elem, ht]
  cases hq : P.info? e with
  | none => simp [hq] at hs
  | some j =>
    have hj : j.size = 1 := by simpa [hq] using hs
    rw [run_sliceAt_array_l w t _ (by rw [hl, he]; exact ht) .i64 (l : Int) (by omega) (by rw [hl]; omega)]
    rw [hl, he]
    have hne : ¬ k = l := by omega
    simp [sizeOf, typeInfo, hq, hj, slicedAt, hne]
    first | rfl | simp [Addr.add]
theorem wpList_copyV {ops : Array Oper} {rest : List Oper} {o : Oper} {a : Act} {w w' : World} {Q : Exit → Act → World → Prop} {dT sT : TypeId} (hg : Region.wanted o (yielded ops a.tmps) = true) (d s : Operand) (ho : o.op = .call { callee := .builtin .copy, args := #[d, s], argTypes := #[dT, sT] }) (vd vs : Value) (hd : a.eval d = vd) (hs : a.eval s = vs) {v : Value}
    (hrun : (Builtin.copy_ #[dT, sT] o.type #[vd, vs]).run P w = .ok v w') (h : wpList P ops Q rest (a.put o.dst v) w') : wpList P ops Q (o :: rest) a w :=
  wpList_valw hg (by simp [execOp, ho, resolve, invoke, builtin, hd, hs, hrun]) h
theorem exec_slice {o : Oper} {a : Act} {w : World} {t : TypeId} {x y : Operand} {vx vy v : Value} (ho : o.op = .slice t x (some y) none none) (hx : a.eval x = vx) (hy : a.eval y = vy) (hr : (Instr.sliceAt t vx (some vy) none none).run P w = .ok v w) : (execOp a.eval o).run P w = .ok (.value v) w := by simp [execOp, ho, hx, hy, hr]
section
variable {o : Oper} {a : Act} {w : World} {t u : TypeId} {x y : Operand} {m n : Nat}
theorem wrap_u64N (n : Nat) (h : n < 18446744073709551616) : IntKind.u64.wrap (n : Int) = (n : Int) := by
  simp only [IntKind.wrap, IntKind.signed, IntKind.bits, Bool.false_and, Bool.false_eq_true, if_false]
  omega
theorem exec_addQ (h : m + n < 18446744073709551616) (ho : o.op = .binOp .add t x y u) (hx : a.eval x = .int .u64 (m : Int)) (hy : a.eval y = .int .u64 (n : Int)) : (execOp a.eval o).run P w = .ok (.value (.int .u64 ((m + n : Nat) : Int))) w := by
  have hc : (binOp .add t (.int .u64 (m : Int)) (.int .u64 (n : Int))).run P w = .ok (.int .u64 ((m + n : Nat) : Int)) w := by
    simp only [binOp, Op.intArith]
    refine congrArg (fun n => Result.ok (Value.int .u64 n) w) ?_
    rw [← Int.natCast_add]
    exact wrap_u64N _ h
  simp only [execOp, ho, hx, hy]
  simp [eqGuard, hc]
theorem exec_remQ (hn : 0 < n) (hm : m < 18446744073709551616) (ho : o.op = .binOp .rem t x y u) (hx : a.eval x = .int .u64 (m : Int)) (hy : a.eval y = .int .u64 (n : Int)) : (execOp a.eval o).run P w = .ok (.value (.int .u64 ((m % n : Nat) : Int))) w := by
  have hc : (binOp .rem t (.int .u64 (m : Int)) (.int .u64 (n : Int))).run P w = .ok (.int .u64 ((m % n : Nat) : Int)) w := by
    have hlt := Nat.mod_lt m hn
    have hne : ¬ (n : Int) = 0 := by omega
    have e : ((m : Int).tmod (n : Int)) = ((m % n : Nat) : Int) := by
      rw [Int.tmod_eq_emod_of_nonneg (by omega)]
      first | exact (Int.natCast_emod m n).symm | exact (Int.ofNat_emod m n).symm | (push_cast; rfl)
    simp only [binOp, Op.intDiv, if_neg hne]
    first
      | exact congrArg (fun n => Result.ok (Value.int .u64 n) w) (by rw [e]; exact wrap_u64N _ (by omega))
      | exact congrArg (fun n => Result.ok (Value.int .u64 n) w) e
      | simp [e, wrap_u64N _ (show m % n < 18446744073709551616 by omega), hne]
  simp only [execOp, ho, hx, hy]
  simp [eqGuard, hc]
end
end Go.Agg
namespace Go.Proofs.Ytgekpghjlhcpkaa
open Go.RowKit Pl Go.Agg Go.Sha
section
variable {o : Oper} {a : Act} {w : World} {x : Operand} {n : Nat}
theorem exec_cvQI (h : n < 9223372036854775808) (ho : o.op = .convert 117 3 x) (hx : a.eval x = .int .u64 (n : Int)) : (execOp a.eval o).run Try.prog w = .ok (.value (.int .i64 (n : Int))) w := by
  have hc : (convert 117 3 (.int .u64 (n : Int))).run Try.prog w = .ok (.int .i64 (n : Int)) w := by
    simp [convert]
    simp only [Conv.intToInt]
    exact congrArg (fun n => Result.ok (Value.int .i64 n) w) (wrap_i64N _ h)
  simp [execOp, ho, hx, hc]
theorem exec_cvIQ (h : n < 9223372036854775808) (ho : o.op = .convert 3 117 x) (hx : a.eval x = .int .i64 (n : Int)) : (execOp a.eval o).run Try.prog w = .ok (.value (.int .u64 (n : Int))) w := by
  have hc : (convert 3 117 (.int .i64 (n : Int))).run Try.prog w = .ok (.int .u64 (n : Int)) w := by
    simp [convert]
    simp only [Conv.intToInt]
    exact congrArg (fun n => Result.ok (Value.int .u64 n) w) (wrap_u64N _ (by omega))
  simp [execOp, ho, hx, hc]
end
/-- bytes from a place on -/
theorem sliceOf_from {w : World} {u : Value} {l : List UInt8} (h : SliceOf EB w u l) (hc : ∀ p n c, u = .slice p n c → n ≤ c) (k : Nat) (hk : k ≤ l.length) :
    ∃ u', (∀ W, (Instr.sliceAt 23 u (some (.int .i64 (k : Int))) none none).run Try.prog W = .ok u' W) ∧ SliceOf EB w u' (l.drop k) ∧ (∀ b, u'.ownBlock = some b → u.ownBlock = some b) ∧ ∀ p n c, u' = .slice p n c → n ≤ c := by
  obtain ⟨p, c, hf⟩ := h.form
  have hle := hc _ _ _ hf
  have hund : Try.prog.underlying 23 = some (.slice (Try.prog.elem 23)) := by kernel_rfl
  have hsz : (Try.prog.info? (Try.prog.elem 23)).map (·.size) = some 1 := by kernel_rfl
  have hrun : ∀ W, (Instr.sliceAt 23 u (some (.int .i64 (k : Int))) none none).run Try.prog W = .ok (.slice (if c = k then p else p.map (·.add (k * 1))) (l.length - k) (c - k)) W := by
    intro W
    subst hf
    cases hq : Try.prog.info? (Try.prog.elem 23) with
    | none => simp [hq] at hsz
    | some j =>
      have hj : j.size = 1 := by simpa [hq] using hsz
      rw [run_sliceAt_slice W 23 _ _ _ _ hund, run_slice_l W 23 p l.length c hund .i64 (k : Int) (by omega) (by omega)]
      simp [sizeOf, typeInfo, hq, hj, sliced]
  refine ⟨_, hrun, ?_, ?_, ?_⟩
  · rcases h with ⟨p', c', rfl, hl⟩ | ⟨q, c', rfl, hq, hcell⟩
    · subst hl
      simp only [List.length_nil, Nat.le_zero] at hk
      subst hk
      injection hf with h1 h2 h3
      subst h1 h3
      exact .inl ⟨_, _, rfl, by simp⟩
    · injection hf with h1 h2 h3
      subst h1 h3
      by_cases e : c' = k
      · have : l.drop k = [] := List.drop_eq_nil_of_le (by omega)
        rw [this]
        exact .inl ⟨_, _, by rw [show l.length - k = 0 by omega], rfl⟩
      · rw [if_neg e]
        refine .inr ⟨q.add k, c' - k, by simp, by rw [add_block]; exact hq, fun j v hj => ?_⟩
        rw [add_add]
        refine hcell _ _ ?_
        rw [flat_bytes] at hj ⊢
        simp only [Lib.byteCells, List.map_drop, List.getElem?_drop] at hj
        exact hj
  · intro b hb
    subst hf
    cases p with
    | none => simp [Value.ownBlock] at hb
    | some q =>
      split at hb
      · exact hb
      · simpa [Value.ownBlock, add_block] using hb
  · intro p' n' c'' e
    injection e with _ h2 h3
    omega
end Go.Proofs.Ytgekpghjlhcpkaa
/-! hash.take: bytes taken by a sponge. -/
namespace Go.Proofs.Ytgekpghjlhcpkaa
open Go.RowKit Pl Go.Agg Go.Sha
/-- a sponge that has taken these bytes -/
def SpV (g : Nat) (w : World) (l : List UInt8) : Prop := ∃ r : List UInt8, r.length = 64 ∧ r.take (l.length % 64) = rst l ∧ Blk w g 143 (spL (sp l).list r l.length)
theorem bc_append (a b : List UInt8) : Lib.byteCells (a ++ b) = Lib.byteCells a ++ Lib.byteCells b := by simp [Lib.byteCells]
theorem spL_setm (l : List W) (bs : List UInt8) (m m' : Nat) (hl : l.length = 8) (hbs : bs.length = 64) : (spL l bs m).setIfInBounds 72 (.int .u64 (m' : Int)) = spL l bs m' := by
  simp only [spL, List.setIfInBounds_toArray]
  rw [List.set_append_right _ _ (by rw [List.length_map, hl]; omega), List.length_map, hl, List.set_append_right _ _ (by rw [bc_length, hbs]; omega), bc_length, hbs]
  rfl
theorem spL_copy (l : List W) (r x : List UInt8) (m i n : Nat) (hl : l.length = 8) (hr : r.length = 64) (hx : x.length = n) (hn : i + n ≤ 64) :
    ((l.map vW ++ (Lib.byteCells r ++ [Value.int .u64 (m : Int)])).take (8 + i) ++ Lib.byteCells x ++ (l.map vW ++ (Lib.byteCells r ++ [Value.int .u64 (m : Int)])).drop (8 + i + n)).toArray = spL l (r.take i ++ x ++ r.drop (i + n)) m := by
  have e : l.map vW ++ (Lib.byteCells r ++ [Value.int .u64 (m : Int)]) = (l.map vW ++ Lib.byteCells (r.take i)) ++ (Lib.byteCells ((r.drop i).take n) ++ (Lib.byteCells (r.drop (i + n)) ++ [Value.int .u64 (m : Int)])) := by
    have h : r = r.take i ++ ((r.drop i).take n ++ r.drop (i + n)) := by rw [← List.drop_drop, List.take_append_drop, List.take_append_drop]
    conv => lhs; rw [h]
    simp only [bc_append, List.append_assoc]
  rw [e]
  have h1 : (l.map vW ++ Lib.byteCells (r.take i)).length = 8 + i := by rw [List.length_append, List.length_map, bc_length, hl, List.length_take]; omega
  have h2 : ((l.map vW ++ Lib.byteCells (r.take i)) ++ Lib.byteCells ((r.drop i).take n)).length = 8 + i + n := by rw [List.length_append, h1, bc_length, List.length_take, List.length_drop]; omega
  rw [List.take_left' h1, ← List.append_assoc (l.map vW ++ Lib.byteCells (r.take i)), List.drop_left' h2]
  simp only [spL, bc_append, List.append_assoc]
section
variable {g : Nat} {w : World} {L r2 x : List UInt8} {n : Nat}
theorem SpV.short (hr : r2.take (L.length % 64 + n) = rst L ++ x) (h2 : r2.length = 64) (hlt : L.length % 64 + n < 64) (hx : x.length = n) (hb : Blk w g 143 (spL (sp L).list r2 (L.length + n))) : SpV g w (L ++ x) := by
  obtain ⟨e1, e2⟩ := sp_short (l := L) (b := x) (by omega)
  have el : (L ++ x).length = L.length + n := by rw [List.length_append, hx]
  refine ⟨r2, h2, ?_, by rw [e1, el]; exact hb⟩
  rw [el, e2, ← hr]
  congr 1
  omega
theorem SpV.full (hr : r2.take (L.length % 64 + n) = rst L ++ x) (h2 : r2.length = 64) (hlt : L.length % 64 + n = 64) (hx : x.length = n) (hb : Blk w g 143 (spL (Sha.block (sp L) r2).list r2 (L.length + n))) : SpV g w (L ++ x) := by
  obtain ⟨e1, e2⟩ := sp_full (l := L) (b := x) (by omega)
  have el : (L ++ x).length = L.length + n := by rw [List.length_append, hx]
  have e3 : r2 = rst L ++ x := by rw [← hr, List.take_of_length_le (by omega)]
  refine ⟨r2, h2, ?_, by rw [e1, el, ← e3]; exact hb⟩
  rw [el, e2, show (L.length + n) % 64 = 0 by omega]
  rfl
end
def lenV : Value → Nat
  | .slice _ n _ => n
  | _ => 0
set_option maxRecDepth 100000 in
set_option maxHeartbeats 32000000 in
theorem take_any (g : Nat) (v : Value) (l b : List UInt8) (hlen : l.length + b.length < 1000000000000) (w : World) (hs : SpV g w l) (hb : SliceOf EB w v b) (hne : b = [] ∨ v.ownBlock ≠ some g) (hc : ∀ p n c, v = .slice p n c → n ≤ c) :
    Calls Try.prog 78 #[.pointer (some ⟨g, 0, none⟩), v] w fun e w' => (∃ r, e = .returned r) ∧ SpV g w' (l ++ b) ∧ Only (· = g) w w' := by
  have HS := Lib.hid hs
  have HB := Lib.hid hb
  clear hs hb
  go_enter Try.func78, Try.ntmps78
  go_wp2_with fail
  go_loopw [1] (fun sl wr => ∃ (k : Nat) (bv : Value), k ≤ b.length ∧ bv = sl ∧ SliceOf EB wr bv (b.drop k) ∧ (b.drop k = [] ∨ bv.ownBlock ≠ some g) ∧ (∀ p n c, bv = .slice p n c → n ≤ c) ∧ SpV g wr (l ++ b.take k) ∧ Only (· = g) w wr) (fun sl _ => lenV sl)
  case atStart => exact ⟨0, v, by omega, rfl, by rw [List.drop_zero]; exact HB.out, hne, hc, by rw [List.take_zero, List.append_nil]; exact HS.out, Only.refl _ _⟩
  case round =>
    obtain ⟨wr1, rfl⟩ : ∃ y : World, y = wr := ⟨_, rfl⟩
    obtain ⟨k, bv, hk, rfl, hu, hun, hcu, hsp, ho⟩ := hrel
    have hlv := fun W => bytes_len hu W
    obtain ⟨L, hL⟩ : ∃ L, l ++ b.take k = L := ⟨_, rfl⟩
    obtain ⟨cur, hcur⟩ : ∃ c, b.drop k = c := ⟨_, rfl⟩
    have hll : L.length + cur.length < 1000000000000 := by rw [← hL, ← hcur, List.length_append, List.length_take, List.length_drop]; omega
    have hkc : k + cur.length = b.length := by rw [← hcur, List.length_drop]; omega
    have HTK0 := Lib.hid (fun n => (show l ++ b.take (k + n) = L ++ cur.take n by rw [← hL, ← hcur, List.take_add, List.append_assoc]))
    have HDR0 := Lib.hid (fun n => (show b.drop (k + n) = cur.drop n by rw [← hcur, List.drop_drop]))
    rw [hcur] at hu hlv hun
    rw [hL] at hsp
    have HL := Lib.hid hL
    have HCUR := Lib.hid hcur
    clear hL hcur
    by_cases h0 : cur.length = 0
    · have hd : decide ((0 : Int) < (cur.length : Int)) = false := by rw [h0]; rfl
      have hdN : decide (0 < cur.length) = false := by rw [h0]; rfl
      have HEND := Lib.hid (show L = l ++ b by rw [← HL.out, List.take_of_length_le (by omega)])
      have HSPV := Lib.hid hsp
      have HO := Lib.hid ho
      clear hu hun hcu hsp ho h0
      go_wp2_with fail
      refine bodyPost_end (results_none rfl _ _ _) rfl ?_
      exact ⟨⟨_, rfl⟩, by rw [← HEND.out]; exact HSPV.out, HO.out⟩
    · have hun := hun.resolve_left (fun e => h0 (by rw [e]; rfl))
      have hd : decide ((0 : Int) < (cur.length : Int)) = true := decide_eq_true (by omega)
      have hdN : decide (0 < cur.length) = true := decide_eq_true (by omega)
      obtain ⟨r, hr, hrt, hbk⟩ := hsp
      obtain ⟨n, hn⟩ : ∃ n, min cur.length (64 - L.length % 64) = n := ⟨_, rfl⟩
      have hn1 : 1 ≤ n := by omega
      have hn2 : n ≤ cur.length := by omega
      have hn3 : L.length % 64 + n ≤ 64 := by omega
      have hxn : (cur.take n).length = n := by rw [List.length_take]; omega
      have hx64 : cur.take (64 - L.length % 64) = cur.take n := by
        rw [← hn]
        by_cases hh : cur.length ≤ 64 - L.length % 64
        · rw [List.take_of_length_le hh, Nat.min_eq_left hh, List.take_length]
        · rw [Nat.min_eq_right (by omega)]
      have HLM := Lib.hid (hbk.one (P := Try.prog) 72 (spL_many _ _ _ rfl hr) Try.underlying117 rfl)
      obtain ⟨w2, hrun2, hb2, ho2, _⟩ := run_copyAt (o := 8 + L.length % 64) (n := 64 - L.length % 64) (dc := 64 - L.length % 64) 3 hu hbk (by simp [bc_length, hr, St.list]; omega)
      rw [hn, hx64, spL_copy _ _ _ _ _ _ rfl hr hxn hn3] at hb2
      rw [hn] at hrun2
      obtain ⟨r2, hr2⟩ : ∃ q, r.take (L.length % 64) ++ cur.take n ++ r.drop (L.length % 64 + n) = q := ⟨_, rfl⟩
      rw [hr2] at hb2
      have HR2 := Lib.hid (show r2.length = 64 by rw [← hr2]; simp only [List.length_append, List.length_take, List.length_drop]; omega)
      have HRT := Lib.hid (show r2.take (L.length % 64 + n) = rst L ++ cur.take n by rw [← hr2, hrt, List.take_left' (by rw [List.length_append, rst_length, hxn])])
      have HB2 := Lib.hid hb2
      have HO2 := Lib.hid (ho.trans ho2 (fun _ _ h => h))
      have hu2 := hu.onlyS ho2 (fun b hb e => hun (by rw [hb, e]))
      obtain ⟨bu, hsf, hu3, hun3, hcu2⟩ := sliceOf_from hu2 hcu n hn2
      have hun2 : bu.ownBlock ≠ some g := fun e => hun (hun3 g e)
      have HSF := Lib.hid hsf
      have HU2 := Lib.hid hu3
      have HRUN2 := Lib.hid hrun2
      have HSL := Lib.hid (fun W => run_sliceArr (P := Try.prog) (t := 141) (e := 5) (w := W) Try.underlying141 (by kernel_rfl) g 8 (L.length % 64) (by omega))
      have HTK := Lib.hid (HTK0.out n)
      have HDR := Lib.hid (HDR0.out n)
      have HME := Lib.hid (show lenV bu < lenV bv by
        obtain ⟨p1, c1, e1⟩ := hu3.form
        obtain ⟨p2, c2, e2⟩ := hu.form
        rw [e1, e2]
        simp only [lenV, List.length_drop]
        omega)
      clear hbk hrun2 hb2 ho2 hrt hr2 hsf hu3 hu2 hn hx64 ho hu HTK0 HDR0
      go_wp2_with (first | (with_reducible refine wpList_loadL HLM.out rfl _ rfl rfl ?_) | (refine wpList_valw rfl (exec_remQ (m := L.length) (n := 64) (by decide) (by omega) rfl rfl rfl) ?_) | (refine wpList_valw rfl (exec_cvQI (n := L.length % 64) (by omega) rfl rfl) ?_) | (refine wpList_valw rfl (exec_slice rfl rfl rfl (HSL.out _)) ?_) | (refine wpList_copyV rfl _ _ rfl _ _ rfl rfl HRUN2.out ?_))
      try simp only [List.append_eq, List.cons_append, List.nil_append]
      try simp only [Act.put, List.setIfInBounds_toArray, List.set_cons_succ, List.set_cons_zero]
      obtain ⟨w_d, hwd⟩ : ∃ W, W = w2.drew := ⟨_, rfl⟩
      have hd : Below w2.heap.size w2 w_d := by rw [hwd]; exact (Below.refl _ _).drew
      have HB_d := Lib.hid (HB2.out.below hd)
      have HO_d := Lib.hid (HO2.out.trans (Only.of_below (S := (· = g)) hd) (fun _ _ h => h))
      have HU_d := Lib.hid (SliceOf.below HU2.out hd)
      have HLD := Lib.hid (HB_d.out.one (P := Try.prog) 72 (spL_many _ _ _ rfl HR2.out) Try.underlying117 rfl)
      obtain ⟨w_s, hrs, hbs, hos⟩ := Blk.run_one (P := Try.prog) (ty := 117) HB_d.out 72 (by rw [spL_size _ _ _ rfl HR2.out]; decide) (.int .u64 ((L.length + n : Nat) : Int)) rfl rfl (by kernel_rfl) (spL (sp L).list r2 (L.length + n)) (spL_setm _ _ _ _ rfl HR2.out)
      have HRS := Lib.hid hrs
      have HBS := Lib.hid hbs
      have HOS := Lib.hid (HO_d.out.trans hos (fun _ _ h => h))
      have HUS := Lib.hid (HU_d.out.onlyS hos (fun b hb e => hun2 (by rw [hb, e])))
      clear hrs hbs hos
      have hT : True := trivial
      refine wp_region_held_drew (S := fun _ => True) (by kernel_rfl) (by trivial) (fun hHeld => ?_)
      rw [← hwd]
      clear hwd hd
      refine Agg.held_take 0 (.pointer (some ⟨g, 0, none⟩)) rfl (by kernel_rfl) (fun _ _ _ h => h) rfl (fun W _ => by kernel_rfl) (by assumption) ?_
      try simp only [Act.put, List.setIfInBounds_toArray, List.set_cons_succ, List.set_cons_zero]
      refine Agg.held_take 1 (bv) rfl (by kernel_rfl) (fun _ _ _ h => h) rfl (fun W _ => by kernel_rfl) (by assumption) ?_
      try simp only [Act.put, List.setIfInBounds_toArray, List.set_cons_succ, List.set_cons_zero]
      refine Agg.held_take 2 (.int .i64 ((n : Nat) : Int)) rfl (by kernel_rfl) (fun _ _ _ h => h) rfl (fun W _ => by kernel_rfl) (by assumption) ?_
      try simp only [Act.put, List.setIfInBounds_toArray, List.set_cons_succ, List.set_cons_zero]
      refine Agg.held_take 3 (bu) rfl (by kernel_rfl) (fun _ _ _ h => h) rfl (fun W _ => exec_slice rfl rfl rfl (HSF.out W)) (by assumption) ?_
      try simp only [Act.put, List.setIfInBounds_toArray, List.set_cons_succ, List.set_cons_zero]
      refine Agg.held_take 4 (.pointer (some ⟨g, 0, none⟩)) rfl (by kernel_rfl) (fun _ _ _ h => h) rfl (fun W _ => by kernel_rfl) (by assumption) ?_
      try simp only [Act.put, List.setIfInBounds_toArray, List.set_cons_succ, List.set_cons_zero]
      refine Agg.held_take 5 (.pointer (some ⟨g, 0, none⟩)) rfl (by kernel_rfl) (fun _ _ _ h => h) rfl (fun W _ => by kernel_rfl) (by assumption) ?_
      try simp only [Act.put, List.setIfInBounds_toArray, List.set_cons_succ, List.set_cons_zero]
      refine Agg.held_take 6 (.pointer (some ⟨g, 72, none⟩)) rfl (by kernel_rfl) (fun _ _ _ h => h) rfl (fun W _ => by kernel_rfl) (by assumption) ?_
      try simp only [Act.put, List.setIfInBounds_toArray, List.set_cons_succ, List.set_cons_zero]
      refine Agg.held_take 8 (.int .i64 ((n : Nat) : Int)) rfl (by kernel_rfl) (fun _ _ _ h => h) rfl (fun W _ => by kernel_rfl) (by assumption) ?_
      try simp only [Act.put, List.setIfInBounds_toArray, List.set_cons_succ, List.set_cons_zero]
      refine Agg.held_take 9 (.int .u64 ((n : Nat) : Int)) rfl (by kernel_rfl) (fun _ _ _ h => h) rfl (fun W _ => exec_cvIQ (n := n) (by omega) rfl rfl) (by assumption) ?_
      try simp only [Act.put, List.setIfInBounds_toArray, List.set_cons_succ, List.set_cons_zero]
      refine Agg.held_take 11 (bu) rfl (by kernel_rfl) (fun _ _ _ h => h) rfl (fun W _ => by kernel_rfl) (by assumption) ?_
      try simp only [Act.put, List.setIfInBounds_toArray, List.set_cons_succ, List.set_cons_zero]
      refine Agg.held_ready [7] (by kernel_rfl) (by simp) ?_
      refine Agg.held_cons rfl ?_ ?_
      · refine Agg.step_load rfl 117 _ rfl _ (.int .u64 (L.length : Int)) rfl HLD.out.now ?_
        refine ⟨trivial, ?_⟩
        try simp only [Act.put, List.setIfInBounds_toArray, List.set_cons_succ, List.set_cons_zero]
        refine Agg.held_take 10 (.int .u64 ((L.length + n : Nat) : Int)) rfl (by kernel_rfl) (fun _ _ _ h => h) rfl (fun W _ => exec_addQ (m := L.length) (n := n) (by omega) rfl rfl rfl) (by assumption) ?_
        try simp only [Act.put, List.setIfInBounds_toArray, List.set_cons_succ, List.set_cons_zero]
        refine Agg.held_take 12 (.pointer (some ⟨g, 0, none⟩)) rfl (by kernel_rfl) (fun _ _ _ h => h) rfl (fun W _ => by kernel_rfl) (by assumption) ?_
        try simp only [Act.put, List.setIfInBounds_toArray, List.set_cons_succ, List.set_cons_zero]
        refine Agg.held_take 13 (.pointer (some ⟨g, 72, none⟩)) rfl (by kernel_rfl) (fun _ _ _ h => h) rfl (fun W _ => by kernel_rfl) (by assumption) ?_
        try simp only [Act.put, List.setIfInBounds_toArray, List.set_cons_succ, List.set_cons_zero]
        refine Agg.held_ready [14] (by kernel_rfl) (by simp) ?_
        refine Agg.held_cons rfl ?_ ?_
        · refine Agg.step_store rfl rfl 117 _ _ rfl (.pointer (some ⟨g, 72, none⟩)) (.int .u64 ((L.length + n : Nat) : Int)) rfl rfl HRS.out ?_
          refine ⟨trivial, ?_⟩
          try simp only [Act.put, List.setIfInBounds_toArray, List.set_cons_succ, List.set_cons_zero]
          refine Agg.held_end (by kernel_rfl) ?_
          by_cases h64 : L.length % 64 + n = 64
          · have hq1 : (((L.length % 64 + n : Nat) : Int) == 64) = true := by rw [h64]; rfl
            have hq2 : decide (((L.length % 64 + n : Nat) : Int) = 64) = true := decide_eq_true (by omega)
            have hq3 : decide (L.length % 64 + n = 64) = true := decide_eq_true h64
            have HEB := Lib.hid (enters_of Try.func81 (by kernel_rfl) rfl : ∀ args w, (callFunc 81 args).run Try.prog w = .ok (.enter 81 args) w)
            go_wp2_with (first | (refine wpList_valw rfl (exec_addI (m := L.length % 64) (n := n) (by omega) rfl rfl rfl) ?_))
            try simp only [List.append_eq, List.cons_append, List.nil_append]
            try simp only [Act.put, List.setIfInBounds_toArray, List.set_cons_succ, List.set_cons_zero]
            obtain ⟨w_e, hwd⟩ : ∃ W, W = w_s.drew := ⟨_, rfl⟩
            have hd : Below w_s.heap.size w_s w_e := by rw [hwd]; exact (Below.refl _ _).drew
            have HB_e := Lib.hid (HBS.out.below hd)
            have HO_e := Lib.hid (HOS.out.trans (Only.of_below (S := (· = g)) hd) (fun _ _ h => h))
            have HU_e := Lib.hid (SliceOf.below HUS.out hd)
            refine wp_region_held_drew (S := fun _ => True) (by kernel_rfl) (by trivial) (fun hHeld => ?_)
            rw [← hwd]
            clear hwd hd
            refine Agg.held_take 0 (.pointer (some ⟨g, 0, none⟩)) rfl (by kernel_rfl) (fun _ _ _ h => h) rfl (fun W _ => by kernel_rfl) (by assumption) ?_
            try simp only [Act.put, List.setIfInBounds_toArray, List.set_cons_succ, List.set_cons_zero]
            refine Agg.held_take 1 (.pointer (some ⟨g, 0, none⟩)) rfl (by kernel_rfl) (fun _ _ _ h => h) rfl (fun W _ => by kernel_rfl) (by assumption) ?_
            try simp only [Act.put, List.setIfInBounds_toArray, List.set_cons_succ, List.set_cons_zero]
            refine Agg.held_take 2 (.pointer (some ⟨g, 0, none⟩)) rfl (by kernel_rfl) (fun _ _ _ h => h) rfl (fun W _ => by kernel_rfl) (by assumption) ?_
            try simp only [Act.put, List.setIfInBounds_toArray, List.set_cons_succ, List.set_cons_zero]
            refine Agg.held_take 3 (.pointer (some ⟨g, 0, none⟩)) rfl (by kernel_rfl) (fun _ _ _ h => h) rfl (fun W _ => by kernel_rfl) (by assumption) ?_
            try simp only [Act.put, List.setIfInBounds_toArray, List.set_cons_succ, List.set_cons_zero]
            refine Agg.held_take 4 (.pointer (some ⟨g, 0, none⟩)) rfl (by kernel_rfl) (fun _ _ _ h => h) rfl (fun W _ => by kernel_rfl) (by assumption) ?_
            try simp only [Act.put, List.setIfInBounds_toArray, List.set_cons_succ, List.set_cons_zero]
            refine Agg.held_take 5 (.pointer (some ⟨g, 8, none⟩)) rfl (by kernel_rfl) (fun _ _ _ h => h) rfl (fun W _ => by kernel_rfl) (by assumption) ?_
            try simp only [Act.put, List.setIfInBounds_toArray, List.set_cons_succ, List.set_cons_zero]
            refine Agg.held_ready [6] (by kernel_rfl) (by simp) ?_
            refine Agg.held_cons rfl ?_ ?_
            · refine Agg.step_call rfl 81 _ _ rfl #[.pointer (some ⟨g, 0, none⟩), .pointer (some ⟨g, 8, none⟩)] (by simp only [List.map_toArray, List.map_cons, List.map_nil]; rfl) (fun W => HEB.out _ W) ?_
              refine (block_any g (sp L) r2 HR2.out (L.length + n) w_e HB_e.out).mono ?_
              rintro e w_f ⟨⟨rr, rfl⟩, hb, ho⟩
              have HSV := Lib.hid (SpV.full HRT.out HR2.out h64 hxn hb)
              have HO_f := Lib.hid (HO_e.out.trans ho (fun _ _ h => h))
              have HU_f := Lib.hid (HU_e.out.onlyS ho (fun b hb e => hun2 (by rw [hb, e])))
              clear hb ho
              refine ⟨_, rfl, trivial, ?_⟩
              try simp only [Act.put, List.setIfInBounds_toArray, List.set_cons_succ, List.set_cons_zero]
              refine Agg.held_end (by kernel_rfl) ?_
              go_wp2_with fail
              go_roundw
              case rel => exact ⟨k + n, bu, by omega, rfl, by rw [HDR.out]; exact HU_f.out, .inr hun2, hcu2, by rw [HTK.out]; exact HSV.out, HO_f.out⟩
              case measure => first | exact HME.out | simpa using HME.out
            exact AllReadyH.nil
          · have hq1 : (((L.length % 64 + n : Nat) : Int) == 64) = false := by rw [beq_eq_false_iff_ne]; omega
            have hq2 : decide (((L.length % 64 + n : Nat) : Int) = 64) = false := decide_eq_false (by omega)
            have hq3 : decide (L.length % 64 + n = 64) = false := decide_eq_false h64
            have HSV := Lib.hid (SpV.short HRT.out HR2.out (by omega) hxn HBS.out)
            go_wp2_with (first | (refine wpList_valw rfl (exec_addI (m := L.length % 64) (n := n) (by omega) rfl rfl rfl) ?_))
            go_roundw
            case rel => exact ⟨k + n, bu, by omega, rfl, by rw [HDR.out]; exact HUS.out, .inr hun2, hcu2, by rw [HTK.out]; exact HSV.out, HOS.out⟩
            case measure => first | exact HME.out | simpa using HME.out
        exact AllReadyH.nil
      exact AllReadyH.nil
end Go.Proofs.Ytgekpghjlhcpkaa
