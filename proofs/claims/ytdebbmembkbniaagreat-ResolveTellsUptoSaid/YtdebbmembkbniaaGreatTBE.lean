/- spenceref02.block. -/
import Derived.Test.YtdebbmembkbniaaGreatTBD
import Derived.Test.YtdebbmembkbniaaGreatTAD
import Derived.Test.YtdebbmembkbniaaGreatTAY
namespace Go.Sha
theorem word_from (b : List UInt8) (k : Nat) : word (b.drop k) 0 = word b k := by
 unfold word
 have e : ∀ i, (b.drop k).getD i 0 = b.getD (k + i) 0 := fun i => by simp only [List.getD, List.getElem?_drop]
 rw [e 0, e (0 + 1), e (0 + 2), e (0 + 3)]
 rfl
end Go.Sha
namespace Go.Proofs.YtdebbmembkbniaaGreat
open Go.RowKit Pl Go.Agg Go.Sha
set_option maxRecDepth 100000 in
set_option maxHeartbeats 16000000 in
theorem refBlock_any (v : Value) (st : St) (bs : List UInt8) (hbs : bs.length = 64) (hc : ∀ p n c, v = .slice p n c → n ≤ c) (w : World) (h : BytesAt w v bs) :
  Calls Tryz.prog 125 #[.agg (wC st.list), v] w fun e w' => e = .returned (.agg (wC (block st bs).list)) ∧ Below w.heap.size w w' := by
 have HV := Lib.hid h
 have HC := Lib.hid hc
 clear h hc
 go_enter Tryz.func125, Tryz.ntmps125
 go_wp2_with (first | (with_reducible refine wpList_box rfl 205 _ rfl (wC st.list) rfl ?_; intro g2 w1 hb hx1 hg; have B2_1 := Lib.hid hb; have X_1 := Lib.hid hx1; clear hb hx1 hg) | (with_reducible refine wpList_zero rfl 205 rfl (wC (List.replicate 8 0)) w8u_zero ?_; intro g4 w2 hb hx hg; have B4_2 := Lib.hid hb; have B2_2 := Lib.hid (B2_1.out.below hx); have X_2 := Lib.hid (belowThen X_1.out (Nat.le_refl _) hx); have HG4 := Lib.hid (Nat.le_trans X_1.out.size hg); clear hb hx hg) | (with_reducible refine wpList_zero rfl 279 rfl (wC (List.replicate 64 0)) w64_zero ?_; intro g5 w3 hb hx hg; have B5_3 := Lib.hid hb; have B4_3 := Lib.hid (B4_2.out.below hx); have B2_3 := Lib.hid (B2_2.out.below hx); have X_3 := Lib.hid (belowThen X_2.out (Nat.le_refl _) hx); have HG5 := Lib.hid (Nat.le_trans X_2.out.size hg); have HN25 := Lib.hid (show ¬ g2 = g5 from fun e => by have := B2_2.out.lt; omega); have HN45 := Lib.hid (show ¬ g4 = g5 from fun e => by have := B4_2.out.lt; omega); clear hb hx hg))
 have HIG := Lib.hid (idx64 g5)
 clear B2_1 X_1 B4_2 B2_2 X_2
 go_loopw [6] (fun i wr => ∃ k : Nat, k ≤ 16 ∧ i = .int .i64 (k : Int) ∧ Blk wr g5 279 (wC (words bs k ++ List.replicate (64 - k) 0)) ∧ Below w.heap.size w wr ∧ Only (· = g5) w3 wr) (fun i _ => 16 - (intOf i).toNat)
 case atStart => exact ⟨0, by omega, rfl, B5_3.out, X_3.out, Only.refl _ _⟩
 case round =>
  obtain ⟨w5, rfl⟩ : ∃ y : World, y = wr := ⟨_, rfl⟩
  obtain ⟨k, hk, rfl, hb, hx, ho⟩ := hrel
  have B5_5 := Lib.hid hb
  have X_5 := Lib.hid hx
  have O_5 := Lib.hid ho
  clear hb hx ho
  by_cases hlt : k < 16
  ·have hd1 : decide ((k : Int) < 16) = true := by simp; omega
   have HNX := Lib.hid (words_set bs k (by omega) _ (words_lo hlt))
   obtain ⟨u, hsl, hu, _, _⟩ := sliceOf_from (SliceOf.below HV.out X_5.out) HC.out (4 * k) (by omega)
   have HU := Lib.hid hu
   have HSL := Lib.hid hsl
   clear hu
   go_wp2_with (first | (refine wpList_valw rfl (exec_mulI (m := 4) (n := k) (by omega) rfl rfl rfl) ?_) | (refine wpList_valw rfl (exec_slice rfl rfl rfl (HSL.out _)) ?_))
   refine (refWord_any u (bs.drop (4 * k)) (by rw [List.length_drop]; omega) _ HU.out).mono ?_
   rintro e w6 ⟨rfl, hx⟩
   rw [word_from]
   have B5_6 := Lib.hid (B5_5.out.below hx)
   have X_6 := Lib.hid (belowThen X_5.out (Nat.le_refl _) hx)
   have O_6 := Lib.hid (O_5.out.trans (Only.of_below (S := (· = g5)) hx) (fun _ _ h => h))
   obtain ⟨w7, hr, hb, ho⟩ := Blk.run_one (P := Tryz.prog) (ty := 204) B5_6.out k (by rw [wC_size]; simp [words_length]; omega) (vW (word bs (4 * k))) rfl rfl (by kernel_rfl) (wC (words bs (k + 1) ++ List.replicate (64 - (k + 1)) 0)) (by rw [wC_set, HNX.out])
   have HR := Lib.hid hr
   have B5_7 := Lib.hid hb
   have X_7 := Lib.hid (X_6.out.trans (ho.below (B := w.heap.size) X_6.out.size (fun i hi => by subst hi; exact HG5.out)))
   have O_7 := Lib.hid (O_6.out.trans ho (fun _ _ h => h))
   clear hx hr hb ho hsl
   go_wp2_with (first | (refine wpList_valw rfl (exec_idx rfl rfl rfl (HIG.out k (by omega) _)) ?_) | (refine wpList_store rfl rfl 204 _ _ rfl (.pointer (some ⟨g5, k, none⟩)) (vW (word bs (4 * k))) rfl rfl HR.out ?_))
   go_roundw
   case rel => exact ⟨k + 1, by omega, by go_num, B5_7.out, X_7.out, O_7.out⟩
   case measure => simp [intOf]; omega
  obtain rfl : k = 16 := by omega
  go_wp2_with fail
  go_loopw [7] (fun i wr => ∃ k : Nat, 16 ≤ k ∧ k ≤ 64 ∧ i = .int .i64 (k : Int) ∧ Blk wr g5 279 (wC (words bs k ++ List.replicate (64 - k) 0)) ∧ Below w.heap.size w wr ∧ Only (· = g5) w3 wr) (fun i _ => 64 - (intOf i).toNat)
  case atStart => exact ⟨16, by omega, by omega, rfl, B5_5.out, X_5.out, O_5.out⟩
  case round =>
   clear B5_5 X_5 O_5
   obtain ⟨w20, rfl⟩ : ∃ y : World, y = wr := ⟨_, rfl⟩
   obtain ⟨k, hk16, hk, rfl, hb, hx, ho⟩ := hrel
   have B5_20 := Lib.hid hb
   have X_20 := Lib.hid hx
   have O_20 := Lib.hid ho
   clear hb hx ho
   by_cases hlt : k < 64
   ·have hd1 : decide ((k : Int) < 64) = true := by simp; omega
    obtain ⟨w2, hw2⟩ : ∃ x, (words bs k).getD (k - 2) 0 = x := ⟨_, rfl⟩
    obtain ⟨w7, hw7⟩ : ∃ x, (words bs k).getD (k - 7) 0 = x := ⟨_, rfl⟩
    obtain ⟨w15, hw15⟩ : ∃ x, (words bs k).getD (k - 15) 0 = x := ⟨_, rfl⟩
    obtain ⟨w16, hw16⟩ : ∃ x, (words bs k).getD (k - 16) 0 = x := ⟨_, rfl⟩
    have Hw2 := Lib.hid (show (words bs k ++ List.replicate (64 - k) 0)[k - 2]? = some w2 by rw [words_at hk (by omega), hw2])
    have Hw7 := Lib.hid (show (words bs k ++ List.replicate (64 - k) 0)[k - 7]? = some w7 by rw [words_at hk (by omega), hw7])
    have Hw15 := Lib.hid (show (words bs k ++ List.replicate (64 - k) 0)[k - 15]? = some w15 by rw [words_at hk (by omega), hw15])
    have Hw16 := Lib.hid (show (words bs k ++ List.replicate (64 - k) 0)[k - 16]? = some w16 by rw [words_at hk (by omega), hw16])
    have HNW := Lib.hid (show ((t1 w2 + w7) + t0 w15) + w16 = nextW (words bs k) by rw [nextW, words_length, hw2, hw7, hw15, hw16])
    have HNX := Lib.hid (words_set bs k hlt _ (words_hi (by omega)))
    have HT0 := Lib.hid (ref_t0 w15)
    have HT1 := Lib.hid (ref_t1 w2)
    clear hw2 hw7 hw15 hw16
    go_wp2_with fail
    try simp only [Act.put, List.setIfInBounds_toArray, List.set_cons_succ, List.set_cons_zero]
    refine wp_region_later_lit (by kernel_rfl) (by kernel_rfl) ?_
    refine wpQuiet_val rfl (.int .i64 ((k : Nat) : Int)) (fun W _ => by kernel_rfl) ?_
    try simp only [Act.put, List.setIfInBounds_toArray, List.set_cons_succ, List.set_cons_zero]
    refine wpQuiet_val rfl (.int .i64 ((k - 15 : Nat) : Int)) (fun W _ => exec_subI (m := k) (n := 15) (by omega) (by omega) rfl rfl rfl) ?_
    try simp only [Act.put, List.setIfInBounds_toArray, List.set_cons_succ, List.set_cons_zero]
    refine wpQuiet_val rfl (.pointer (some ⟨g5, k - 15, none⟩)) (fun W _ => exec_idx rfl rfl rfl (HIG.out (k - 15) (by omega) W)) ?_
    try simp only [Act.put, List.setIfInBounds_toArray, List.set_cons_succ, List.set_cons_zero]
    refine wpQuiet_loadL (Agg.Blk.one (P := Tryz.prog) (ty := 204) B5_20.out (k - 15) (wC_get _ _ _ Hw15.out) Tryz.underlying204 rfl) rfl _ rfl rfl ?_
    try simp only [Act.put, List.setIfInBounds_toArray, List.set_cons_succ, List.set_cons_zero]
    go_big_quiet_step ((go_at_call 159; exact Calls.later (turn_any _ 7 (by decide) (by decide) _)))
    try simp only [Act.put, List.setIfInBounds_toArray, List.set_cons_succ, List.set_cons_zero]
    refine wpQuiet_val rfl (.int .i64 ((k : Nat) : Int)) (fun W _ => by kernel_rfl) ?_
    try simp only [Act.put, List.setIfInBounds_toArray, List.set_cons_succ, List.set_cons_zero]
    refine wpQuiet_val rfl (.int .i64 ((k - 15 : Nat) : Int)) (fun W _ => exec_subI (m := k) (n := 15) (by omega) (by omega) rfl rfl rfl) ?_
    try simp only [Act.put, List.setIfInBounds_toArray, List.set_cons_succ, List.set_cons_zero]
    refine wpQuiet_val rfl (.pointer (some ⟨g5, k - 15, none⟩)) (fun W _ => exec_idx rfl rfl rfl (HIG.out (k - 15) (by omega) W)) ?_
    try simp only [Act.put, List.setIfInBounds_toArray, List.set_cons_succ, List.set_cons_zero]
    refine wpQuiet_loadL (Agg.Blk.one (P := Tryz.prog) (ty := 204) B5_20.out (k - 15) (wC_get _ _ _ Hw15.out) Tryz.underlying204 rfl) rfl _ rfl rfl ?_
    try simp only [Act.put, List.setIfInBounds_toArray, List.set_cons_succ, List.set_cons_zero]
    go_big_quiet_step ((go_at_call 159; exact Calls.later (turn_any _ 18 (by decide) (by decide) _)))
    try simp only [Act.put, List.setIfInBounds_toArray, List.set_cons_succ, List.set_cons_zero]
    refine wpQuiet_val rfl (vW ((rot w15 7) ^^^ (rot w15 18))) (fun W _ => exec_xorW (x := rot w15 7) (y := rot w15 18) rfl rfl rfl) ?_
    try simp only [Act.put, List.setIfInBounds_toArray, List.set_cons_succ, List.set_cons_zero]
    refine wpQuiet_val rfl (.int .i64 ((k : Nat) : Int)) (fun W _ => by kernel_rfl) ?_
    try simp only [Act.put, List.setIfInBounds_toArray, List.set_cons_succ, List.set_cons_zero]
    refine wpQuiet_val rfl (.int .i64 ((k - 15 : Nat) : Int)) (fun W _ => exec_subI (m := k) (n := 15) (by omega) (by omega) rfl rfl rfl) ?_
    try simp only [Act.put, List.setIfInBounds_toArray, List.set_cons_succ, List.set_cons_zero]
    refine wpQuiet_val rfl (.pointer (some ⟨g5, k - 15, none⟩)) (fun W _ => exec_idx rfl rfl rfl (HIG.out (k - 15) (by omega) W)) ?_
    try simp only [Act.put, List.setIfInBounds_toArray, List.set_cons_succ, List.set_cons_zero]
    refine wpQuiet_loadL (Agg.Blk.one (P := Tryz.prog) (ty := 204) B5_20.out (k - 15) (wC_get _ _ _ Hw15.out) Tryz.underlying204 rfl) rfl _ rfl rfl ?_
    try simp only [Act.put, List.setIfInBounds_toArray, List.set_cons_succ, List.set_cons_zero]
    refine wpQuiet_val rfl (vW (w15 >>> 3)) (fun W _ => exec_shrW (x := w15) (3) (by omega) rfl rfl rfl) ?_
    try simp only [Act.put, List.setIfInBounds_toArray, List.set_cons_succ, List.set_cons_zero]
    refine wpQuiet_val rfl (vW (t0 w15)) (fun W _ => by rw [← HT0.out]; exact exec_xorW (x := (rot w15 7) ^^^ (rot w15 18)) (y := w15 >>> 3) rfl rfl rfl) ?_
    try simp only [Act.put, List.setIfInBounds_toArray, List.set_cons_succ, List.set_cons_zero]
    refine wpQuiet_val rfl (vW (t0 w15)) (fun W _ => by kernel_rfl) ?_
    try simp only [Act.put, List.setIfInBounds_toArray, List.set_cons_succ, List.set_cons_zero]
    refine wpQuiet_nil ?_
    intro _ hw'
    obtain ⟨x1, rfl⟩ := hw'
    have B5_21 := Lib.hid (B5_20.out.below x1.h)
    go_wp2_with fail
    try simp only [Act.put, List.setIfInBounds_toArray, List.set_cons_succ, List.set_cons_zero]
    refine wp_region_later_lit (by kernel_rfl) (by kernel_rfl) ?_
    refine wpQuiet_val rfl (.int .i64 ((k : Nat) : Int)) (fun W _ => by kernel_rfl) ?_
    try simp only [Act.put, List.setIfInBounds_toArray, List.set_cons_succ, List.set_cons_zero]
    refine wpQuiet_val rfl (.int .i64 ((k - 2 : Nat) : Int)) (fun W _ => exec_subI (m := k) (n := 2) (by omega) (by omega) rfl rfl rfl) ?_
    try simp only [Act.put, List.setIfInBounds_toArray, List.set_cons_succ, List.set_cons_zero]
    refine wpQuiet_val rfl (.pointer (some ⟨g5, k - 2, none⟩)) (fun W _ => exec_idx rfl rfl rfl (HIG.out (k - 2) (by omega) W)) ?_
    try simp only [Act.put, List.setIfInBounds_toArray, List.set_cons_succ, List.set_cons_zero]
    refine wpQuiet_loadL (Agg.Blk.one (P := Tryz.prog) (ty := 204) B5_21.out (k - 2) (wC_get _ _ _ Hw2.out) Tryz.underlying204 rfl) rfl _ rfl rfl ?_
    try simp only [Act.put, List.setIfInBounds_toArray, List.set_cons_succ, List.set_cons_zero]
    go_big_quiet_step ((go_at_call 159; exact Calls.later (turn_any _ 17 (by decide) (by decide) _)))
    try simp only [Act.put, List.setIfInBounds_toArray, List.set_cons_succ, List.set_cons_zero]
    refine wpQuiet_val rfl (.int .i64 ((k : Nat) : Int)) (fun W _ => by kernel_rfl) ?_
    try simp only [Act.put, List.setIfInBounds_toArray, List.set_cons_succ, List.set_cons_zero]
    refine wpQuiet_val rfl (.int .i64 ((k - 2 : Nat) : Int)) (fun W _ => exec_subI (m := k) (n := 2) (by omega) (by omega) rfl rfl rfl) ?_
    try simp only [Act.put, List.setIfInBounds_toArray, List.set_cons_succ, List.set_cons_zero]
    refine wpQuiet_val rfl (.pointer (some ⟨g5, k - 2, none⟩)) (fun W _ => exec_idx rfl rfl rfl (HIG.out (k - 2) (by omega) W)) ?_
    try simp only [Act.put, List.setIfInBounds_toArray, List.set_cons_succ, List.set_cons_zero]
    refine wpQuiet_loadL (Agg.Blk.one (P := Tryz.prog) (ty := 204) B5_21.out (k - 2) (wC_get _ _ _ Hw2.out) Tryz.underlying204 rfl) rfl _ rfl rfl ?_
    try simp only [Act.put, List.setIfInBounds_toArray, List.set_cons_succ, List.set_cons_zero]
    go_big_quiet_step ((go_at_call 159; exact Calls.later (turn_any _ 19 (by decide) (by decide) _)))
    try simp only [Act.put, List.setIfInBounds_toArray, List.set_cons_succ, List.set_cons_zero]
    refine wpQuiet_val rfl (vW ((rot w2 17) ^^^ (rot w2 19))) (fun W _ => exec_xorW (x := rot w2 17) (y := rot w2 19) rfl rfl rfl) ?_
    try simp only [Act.put, List.setIfInBounds_toArray, List.set_cons_succ, List.set_cons_zero]
    refine wpQuiet_val rfl (.int .i64 ((k : Nat) : Int)) (fun W _ => by kernel_rfl) ?_
    try simp only [Act.put, List.setIfInBounds_toArray, List.set_cons_succ, List.set_cons_zero]
    refine wpQuiet_val rfl (.int .i64 ((k - 2 : Nat) : Int)) (fun W _ => exec_subI (m := k) (n := 2) (by omega) (by omega) rfl rfl rfl) ?_
    try simp only [Act.put, List.setIfInBounds_toArray, List.set_cons_succ, List.set_cons_zero]
    refine wpQuiet_val rfl (.pointer (some ⟨g5, k - 2, none⟩)) (fun W _ => exec_idx rfl rfl rfl (HIG.out (k - 2) (by omega) W)) ?_
    try simp only [Act.put, List.setIfInBounds_toArray, List.set_cons_succ, List.set_cons_zero]
    refine wpQuiet_loadL (Agg.Blk.one (P := Tryz.prog) (ty := 204) B5_21.out (k - 2) (wC_get _ _ _ Hw2.out) Tryz.underlying204 rfl) rfl _ rfl rfl ?_
    try simp only [Act.put, List.setIfInBounds_toArray, List.set_cons_succ, List.set_cons_zero]
    refine wpQuiet_val rfl (vW (w2 >>> 10)) (fun W _ => exec_shrW (x := w2) (10) (by omega) rfl rfl rfl) ?_
    try simp only [Act.put, List.setIfInBounds_toArray, List.set_cons_succ, List.set_cons_zero]
    refine wpQuiet_val rfl (vW (t1 w2)) (fun W _ => by rw [← HT1.out]; exact exec_xorW (x := (rot w2 17) ^^^ (rot w2 19)) (y := w2 >>> 10) rfl rfl rfl) ?_
    try simp only [Act.put, List.setIfInBounds_toArray, List.set_cons_succ, List.set_cons_zero]
    refine wpQuiet_val rfl (vW (t1 w2)) (fun W _ => by kernel_rfl) ?_
    try simp only [Act.put, List.setIfInBounds_toArray, List.set_cons_succ, List.set_cons_zero]
    refine wpQuiet_nil ?_
    intro _ hw'
    obtain ⟨x2, rfl⟩ := hw'
    go_wp2_with fail
    try simp only [Act.put, List.setIfInBounds_toArray, List.set_cons_succ, List.set_cons_zero]
    obtain ⟨wd, hwd⟩ : ∃ W, W = x2.w.drew := ⟨_, rfl⟩
    have hd : Below x2.w.heap.size x2.w wd := by rw [hwd]; exact (Below.refl _ _).drew
    have hx := belowThen (belowThen X_20.out (Nat.le_refl _) x1.h) (Nat.le_refl _) (belowThen x2.h (Nat.le_refl _) hd)
    have hb := (B5_21.out.below x2.h).below hd
    have ho := (O_20.out.trans (Only.of_below (S := (· = g5)) x1.h) (fun _ _ h => h)).trans (Only.of_below (S := (· = g5)) (belowThen x2.h (Nat.le_refl _) hd)) (fun _ _ h => h)
    have HL7 := Lib.hid (Agg.Blk.one (P := Tryz.prog) (ty := 204) hb (k - 7) (wC_get _ _ _ Hw7.out) Tryz.underlying204 rfl)
    have HL16 := Lib.hid (Agg.Blk.one (P := Tryz.prog) (ty := 204) hb (k - 16) (wC_get _ _ _ Hw16.out) Tryz.underlying204 rfl)
    obtain ⟨wn, hr, hbn, hon⟩ := Blk.run_one (P := Tryz.prog) (ty := 204) hb k (by rw [wC_size]; simp [words_length]; omega) (vW (nextW (words bs k))) rfl rfl (by kernel_rfl) (wC (words bs (k + 1) ++ List.replicate (64 - (k + 1)) 0)) (by rw [wC_set, HNX.out])
    have HR := Lib.hid hr
    have HBn := Lib.hid hbn
    have HXn := Lib.hid (hx.trans (hon.below (B := w.heap.size) hx.size (fun i hi => by subst hi; exact HG5.out)))
    have HOn := Lib.hid (ho.trans hon (fun _ _ h => h))
    clear hx hb ho hr hbn hon
    have hT : True := trivial
    refine wp_region_held_drew (S := fun _ => True) (by kernel_rfl) (by trivial) (fun hHeld => ?_)
    rw [← hwd]
    clear hwd hd
    refine held_take 0 (.int .i64 ((k : Nat) : Int)) rfl (by kernel_rfl) (fun _ _ _ h => h) rfl (fun W _ => by kernel_rfl) (by assumption) ?_
    try simp only [Act.put, List.setIfInBounds_toArray, List.set_cons_succ, List.set_cons_zero]
    refine held_take 1 (vW (t1 w2)) rfl (by kernel_rfl) (fun _ _ _ h => h) rfl (fun W _ => by kernel_rfl) (by assumption) ?_
    try simp only [Act.put, List.setIfInBounds_toArray, List.set_cons_succ, List.set_cons_zero]
    refine held_take 2 (.int .i64 ((k : Nat) : Int)) rfl (by kernel_rfl) (fun _ _ _ h => h) rfl (fun W _ => by kernel_rfl) (by assumption) ?_
    try simp only [Act.put, List.setIfInBounds_toArray, List.set_cons_succ, List.set_cons_zero]
    refine held_take 3 (.int .i64 ((k - 7 : Nat) : Int)) rfl (by kernel_rfl) (fun _ _ _ h => h) rfl (fun W _ => exec_subI (m := k) (n := 7) (by omega) (by omega) rfl rfl rfl) (by assumption) ?_
    try simp only [Act.put, List.setIfInBounds_toArray, List.set_cons_succ, List.set_cons_zero]
    refine held_take 4 (.pointer (some ⟨g5, k - 7, none⟩)) rfl (by kernel_rfl) (fun _ _ _ h => h) rfl (fun W _ => exec_idx rfl rfl rfl (HIG.out (k - 7) (by omega) W)) (by assumption) ?_
    try simp only [Act.put, List.setIfInBounds_toArray, List.set_cons_succ, List.set_cons_zero]
    refine held_take 7 (vW (t0 w15)) rfl (by kernel_rfl) (fun _ _ _ h => h) rfl (fun W _ => by kernel_rfl) (by assumption) ?_
    try simp only [Act.put, List.setIfInBounds_toArray, List.set_cons_succ, List.set_cons_zero]
    refine held_take 9 (.int .i64 ((k : Nat) : Int)) rfl (by kernel_rfl) (fun _ _ _ h => h) rfl (fun W _ => by kernel_rfl) (by assumption) ?_
    try simp only [Act.put, List.setIfInBounds_toArray, List.set_cons_succ, List.set_cons_zero]
    refine held_take 10 (.int .i64 ((k - 16 : Nat) : Int)) rfl (by kernel_rfl) (fun _ _ _ h => h) rfl (fun W _ => exec_subI (m := k) (n := 16) (by omega) (by omega) rfl rfl rfl) (by assumption) ?_
    try simp only [Act.put, List.setIfInBounds_toArray, List.set_cons_succ, List.set_cons_zero]
    refine held_take 11 (.pointer (some ⟨g5, k - 16, none⟩)) rfl (by kernel_rfl) (fun _ _ _ h => h) rfl (fun W _ => exec_idx rfl rfl rfl (HIG.out (k - 16) (by omega) W)) (by assumption) ?_
    try simp only [Act.put, List.setIfInBounds_toArray, List.set_cons_succ, List.set_cons_zero]
    refine held_ready [5, 12] (by kernel_rfl) (by simp) ?_
    refine held_cons rfl ?_ ?_
    ·refine step_load rfl 204 _ rfl _ (vW (w7)) rfl HL7.out.now ?_
     refine ⟨trivial, ?_⟩
     try simp only [Act.put, List.setIfInBounds_toArray, List.set_cons_succ, List.set_cons_zero]
     refine held_take 6 (vW ((t1 w2) + w7)) rfl (by kernel_rfl) (fun _ _ _ h => h) rfl (fun W _ => exec_addW (x := t1 w2) (y := w7) rfl rfl rfl) (by assumption) ?_
     try simp only [Act.put, List.setIfInBounds_toArray, List.set_cons_succ, List.set_cons_zero]
     refine held_take 8 (vW (((t1 w2) + w7) + (t0 w15))) rfl (by kernel_rfl) (fun _ _ _ h => h) rfl (fun W _ => exec_addW (x := (t1 w2) + w7) (y := t0 w15) rfl rfl rfl) (by assumption) ?_
     try simp only [Act.put, List.setIfInBounds_toArray, List.set_cons_succ, List.set_cons_zero]
     refine held_one 12 rfl (by kernel_rfl) ?_
     refine step_load rfl 204 _ rfl _ (vW (w16)) rfl HL16.out.now ?_
     refine ⟨trivial, ?_⟩
     try simp only [Act.put, List.setIfInBounds_toArray, List.set_cons_succ, List.set_cons_zero]
     refine held_take 13 (vW (nextW (words bs k))) rfl (by kernel_rfl) (fun _ _ _ h => h) rfl (fun W _ => by rw [← HNW.out]; exact exec_addW (x := ((t1 w2) + w7) + (t0 w15)) (y := w16) rfl rfl rfl) (by assumption) ?_
     try simp only [Act.put, List.setIfInBounds_toArray, List.set_cons_succ, List.set_cons_zero]
     refine held_take 14 (.pointer (some ⟨g5, k, none⟩)) rfl (by kernel_rfl) (fun _ _ _ h => h) rfl (fun W _ => exec_idx rfl rfl rfl (HIG.out (k) (by omega) W)) (by assumption) ?_
     try simp only [Act.put, List.setIfInBounds_toArray, List.set_cons_succ, List.set_cons_zero]
     refine held_one 15 rfl (by kernel_rfl) ?_
     refine Agg.step_store rfl rfl 204 _ _ rfl (.pointer (some ⟨g5, k, none⟩)) (vW (nextW (words bs k))) rfl rfl HR.out ?_
     refine ⟨trivial, ?_⟩
     try simp only [Act.put, List.setIfInBounds_toArray, List.set_cons_succ, List.set_cons_zero]
     refine held_end (by kernel_rfl) ?_
     go_wp2_with fail
     go_roundw
     case rel => exact ⟨k + 1, by omega, by omega, by go_num, HBn.out, HXn.out, HOn.out⟩
     case measure => simp [intOf]; omega
    refine held_cons rfl ?_ ?_
    ·refine step_load rfl 204 _ rfl _ (vW (w16)) rfl HL16.out.now ?_
     refine ⟨trivial, ?_⟩
     try simp only [Act.put, List.setIfInBounds_toArray, List.set_cons_succ, List.set_cons_zero]
     refine held_one 5 rfl (by kernel_rfl) ?_
     refine step_load rfl 204 _ rfl _ (vW (w7)) rfl HL7.out.now ?_
     refine ⟨trivial, ?_⟩
     try simp only [Act.put, List.setIfInBounds_toArray, List.set_cons_succ, List.set_cons_zero]
     refine held_take 6 (vW ((t1 w2) + w7)) rfl (by kernel_rfl) (fun _ _ _ h => h) rfl (fun W _ => exec_addW (x := t1 w2) (y := w7) rfl rfl rfl) (by assumption) ?_
     try simp only [Act.put, List.setIfInBounds_toArray, List.set_cons_succ, List.set_cons_zero]
     refine held_take 8 (vW (((t1 w2) + w7) + (t0 w15))) rfl (by kernel_rfl) (fun _ _ _ h => h) rfl (fun W _ => exec_addW (x := (t1 w2) + w7) (y := t0 w15) rfl rfl rfl) (by assumption) ?_
     try simp only [Act.put, List.setIfInBounds_toArray, List.set_cons_succ, List.set_cons_zero]
     refine held_take 13 (vW (nextW (words bs k))) rfl (by kernel_rfl) (fun _ _ _ h => h) rfl (fun W _ => by rw [← HNW.out]; exact exec_addW (x := ((t1 w2) + w7) + (t0 w15)) (y := w16) rfl rfl rfl) (by assumption) ?_
     try simp only [Act.put, List.setIfInBounds_toArray, List.set_cons_succ, List.set_cons_zero]
     refine held_take 14 (.pointer (some ⟨g5, k, none⟩)) rfl (by kernel_rfl) (fun _ _ _ h => h) rfl (fun W _ => exec_idx rfl rfl rfl (HIG.out (k) (by omega) W)) (by assumption) ?_
     try simp only [Act.put, List.setIfInBounds_toArray, List.set_cons_succ, List.set_cons_zero]
     refine held_one 15 rfl (by kernel_rfl) ?_
     refine Agg.step_store rfl rfl 204 _ _ rfl (.pointer (some ⟨g5, k, none⟩)) (vW (nextW (words bs k))) rfl rfl HR.out ?_
     refine ⟨trivial, ?_⟩
     try simp only [Act.put, List.setIfInBounds_toArray, List.set_cons_succ, List.set_cons_zero]
     refine held_end (by kernel_rfl) ?_
     go_wp2_with fail
     go_roundw
     case rel => exact ⟨k + 1, by omega, by omega, by go_num, HBn.out, HXn.out, HOn.out⟩
     case measure => simp [intOf]; omega
    exact AllReadyH.nil
   obtain rfl : k = 64 := by omega
   have hd1 : decide (((64 : Nat) : Int) < 64) = false := by simp
   obtain ⟨kl, hkl⟩ : ∃ kl, ks = kl := ⟨_, rfl⟩
   obtain ⟨ws, hws⟩ : ∃ ws, words bs 64 = ws := ⟨_, rfl⟩
   have hkll : kl.length = 64 := by rw [← hkl]; exact ks_length
   have hwsl : ws.length = 64 := by rw [← hws]; exact words_length _ _
   rw [Nat.sub_self, List.replicate_zero, List.append_nil, hws] at B5_20
   have HKS := Lib.hid (fun u => (show Calls Tryz.prog 160 #[] u fun e w' => e = .returned (.agg (wC kl)) ∧ Below u.heap.size u w' by have := refKs_any u; rwa [hkl] at this))
   have HRN := Lib.hid (show ∀ k x, rounds bs (k + 1) x = round (kl.getD k 0) (ws.getD k 0) (rounds bs k x) by rw [← hkl, ← hws]; intro k x; rfl)
   clear hkl hws
   go_wp2_with fail
   refine (HKS.out _).mono ?_
   rintro e w30 ⟨rfl, hx⟩
   have B2_30 := Lib.hid ((Agg.Blk.onlyQ B2_3.out O_20.out HN25.out).below hx)
   have B4_30 := Lib.hid ((Agg.Blk.onlyQ B4_3.out O_20.out HN45.out).below hx)
   have B5_30 := Lib.hid (B5_20.out.below hx)
   have X_30 := Lib.hid (belowThen X_20.out (Nat.le_refl _) hx)
   have HL2 := Lib.hid (Agg.Blk.loads (P := Tryz.prog) B2_30.out w8u_under rfl (w8u_info _ rfl))
   clear hx
   go_wp2_with (first | (refine wpList_new rfl rfl rfl 279 10 80 rfl rfl rfl (by decide) (wC (List.replicate 64 0)) (wC kl) w64_zero (by rw [wC_size, wC_size, hkll, List.length_replicate]) (w64_info _ hkll) (wC_one _) rfl (by first | (simp; done) | simp [Act.put]) ?_; intro g10 w31 hb hx hg; have B10_31 := Lib.hid hb; have B2_31 := Lib.hid (B2_30.out.below hx); have B4_31 := Lib.hid (B4_30.out.below hx); have B5_31 := Lib.hid (B5_30.out.below hx); have X_31 := Lib.hid (belowThen X_30.out (Nat.le_refl _) hx); have HL2b := Lib.hid (HL2.out.below hx); clear hb hx hg) | (with_reducible refine wpList_loadL HL2b.out rfl _ rfl rfl ?_) | (refine wpList_new rfl rfl rfl 205 11 81 rfl rfl rfl (by decide) (wC (List.replicate 8 0)) (wC st.list) w8u_zero rfl (w8u_info _ rfl) (wC_one _) rfl (by first | (simp; done) | simp [Act.put]) ?_; intro g11 w32 hb hx hg; have B11_32 := Lib.hid hb; have B10_32 := Lib.hid (B10_31.out.below hx); have B2_32 := Lib.hid (B2_31.out.below hx); have B4_32 := Lib.hid (B4_31.out.below hx); have B5_32 := Lib.hid (B5_31.out.below hx); have X_32 := Lib.hid (belowThen X_31.out (Nat.le_refl _) hx); have HG11 := Lib.hid (Nat.le_trans X_31.out.size hg); have HN2 := Lib.hid (show ¬ g2 = g11 from fun e => by have := B2_31.out.lt; omega); have HN4 := Lib.hid (show ¬ g4 = g11 from fun e => by have := B4_31.out.lt; omega); have HN5 := Lib.hid (show ¬ g5 = g11 from fun e => by have := B5_31.out.lt; omega); have HN10 := Lib.hid (show ¬ g10 = g11 from fun e => by have := B10_31.out.lt; omega); clear hb hx hg))
   clear B5_20 X_20 O_20 B2_30 B4_30 B5_30 X_30 HL2 B10_31 B2_31 B4_31 B5_31 X_31 HL2b
   have HIH := Lib.hid (idx8 g11)
   have HIJ := Lib.hid (idx64 g10)
   have HI2 := Lib.hid (idx8 g2)
   go_loopw [12] (fun i wr => ∃ k : Nat, k ≤ 64 ∧ i = .int .i64 (k : Int) ∧ Blk wr g11 205 (wC (rounds bs k st).list) ∧ Only (· = g11) w32 wr) (fun i _ => 64 - (intOf i).toNat)
   case atStart => exact ⟨0, by omega, rfl, B11_32.out, Only.refl _ _⟩
   case round =>
    obtain ⟨w40, rfl⟩ : ∃ y : World, y = wr := ⟨_, rfl⟩
    obtain ⟨k, hk, rfl, hb, ho⟩ := hrel
    have O_40 := Lib.hid ho
    by_cases hlt : k < 64
    ·have hd2 : decide ((k : Int) < 64) = true := by simp; omega
     obtain ⟨kk, hkk⟩ : ∃ x, kl[k]? = some x := ⟨_, List.getElem?_eq_getElem (by omega)⟩
     obtain ⟨ww, hww⟩ : ∃ x, ws[k]? = some x := ⟨_, List.getElem?_eq_getElem (by omega)⟩
     have hrn := HRN.out k st
     rw [List.getD, hkk, List.getD, hww] at hrn
     have HKK := Lib.hid hkk
     have HWW := Lib.hid hww
     rcases hq : rounds bs k st with ⟨ya, yb, yc, yd, ye, yf, yg, yh⟩
     rw [hq] at hb hrn
     have B11 := Lib.hid (show Blk w40 g11 205 (wC [ya, yb, yc, yd, ye, yf, yg, yh]) from hb)
     have B10 := Lib.hid (Agg.Blk.onlyQ B10_32.out ho HN10.out)
     have B5 := Lib.hid (Agg.Blk.onlyQ B5_32.out ho HN5.out)
     obtain ⟨pp, hpp⟩ : ∃ x, yh + s1 ye + (ye &&& yf ||| ~~~ye &&& yg) + kk + ww = x := ⟨_, rfl⟩
     obtain ⟨qq, hqq⟩ : ∃ x, s0 ya + (ya &&& yb ||| ya &&& yc ||| yb &&& yc) = x := ⟨_, rfl⟩
     have HRR := Lib.hid (show rounds bs (k + 1) st = ⟨pp + qq, ya, yb, yc, yd + pp, ye, yf, yg⟩ by rw [hrn, round_ref]; simp only [Option.getD_some]; rw [hpp, hqq])
     have HPP := Lib.hid hpp
     have HQQ := Lib.hid hqq
     have HS1 := Lib.hid (ref_s1 ye)
     have HS0 := Lib.hid (ref_s0 ya)
     clear hkk hww hrn hq hb ho hpp hqq
     go_wp2_with fail
     try simp only [Act.put, List.setIfInBounds_toArray, List.set_cons_succ, List.set_cons_zero]
     refine wp_region_later_lit (by kernel_rfl) (by kernel_rfl) ?_
     refine wpQuiet_val rfl (.pointer (some ⟨g11, 7, none⟩)) (fun W _ => by kernel_rfl) ?_
     try simp only [Act.put, List.setIfInBounds_toArray, List.set_cons_succ, List.set_cons_zero]
     refine wpQuiet_loadL (Agg.Blk.one (P := Tryz.prog) (ty := 204) B11.out (7) (wC_get _ _ _ (show [ya, yb, yc, yd, ye, yf, yg, yh][7]? = some yh from rfl)) Tryz.underlying204 rfl) rfl _ rfl rfl ?_
     try simp only [Act.put, List.setIfInBounds_toArray, List.set_cons_succ, List.set_cons_zero]
     refine wpQuiet_val rfl (.pointer (some ⟨g11, 4, none⟩)) (fun W _ => by kernel_rfl) ?_
     try simp only [Act.put, List.setIfInBounds_toArray, List.set_cons_succ, List.set_cons_zero]
     refine wpQuiet_loadL (Agg.Blk.one (P := Tryz.prog) (ty := 204) B11.out (4) (wC_get _ _ _ (show [ya, yb, yc, yd, ye, yf, yg, yh][4]? = some ye from rfl)) Tryz.underlying204 rfl) rfl _ rfl rfl ?_
     try simp only [Act.put, List.setIfInBounds_toArray, List.set_cons_succ, List.set_cons_zero]
     go_big_quiet_step ((go_at_call 159; exact Calls.later (turn_any _ 6 (by decide) (by decide) _)))
     try simp only [Act.put, List.setIfInBounds_toArray, List.set_cons_succ, List.set_cons_zero]
     refine wpQuiet_val rfl (.pointer (some ⟨g11, 4, none⟩)) (fun W _ => by kernel_rfl) ?_
     try simp only [Act.put, List.setIfInBounds_toArray, List.set_cons_succ, List.set_cons_zero]
     refine wpQuiet_loadL (Agg.Blk.one (P := Tryz.prog) (ty := 204) B11.out (4) (wC_get _ _ _ (show [ya, yb, yc, yd, ye, yf, yg, yh][4]? = some ye from rfl)) Tryz.underlying204 rfl) rfl _ rfl rfl ?_
     try simp only [Act.put, List.setIfInBounds_toArray, List.set_cons_succ, List.set_cons_zero]
     go_big_quiet_step ((go_at_call 159; exact Calls.later (turn_any _ 11 (by decide) (by decide) _)))
     try simp only [Act.put, List.setIfInBounds_toArray, List.set_cons_succ, List.set_cons_zero]
     refine wpQuiet_val rfl (vW ((rot ye 6) ^^^ (rot ye 11))) (fun W _ => exec_xorW (x := rot ye 6) (y := rot ye 11) rfl rfl rfl) ?_
     try simp only [Act.put, List.setIfInBounds_toArray, List.set_cons_succ, List.set_cons_zero]
     refine wpQuiet_val rfl (.pointer (some ⟨g11, 4, none⟩)) (fun W _ => by kernel_rfl) ?_
     try simp only [Act.put, List.setIfInBounds_toArray, List.set_cons_succ, List.set_cons_zero]
     refine wpQuiet_loadL (Agg.Blk.one (P := Tryz.prog) (ty := 204) B11.out (4) (wC_get _ _ _ (show [ya, yb, yc, yd, ye, yf, yg, yh][4]? = some ye from rfl)) Tryz.underlying204 rfl) rfl _ rfl rfl ?_
     try simp only [Act.put, List.setIfInBounds_toArray, List.set_cons_succ, List.set_cons_zero]
     go_big_quiet_step ((go_at_call 159; exact Calls.later (turn_any _ 25 (by decide) (by decide) _)))
     try simp only [Act.put, List.setIfInBounds_toArray, List.set_cons_succ, List.set_cons_zero]
     refine wpQuiet_val rfl (vW (s1 ye)) (fun W _ => by rw [← HS1.out]; exact exec_xorW (x := (rot ye 6) ^^^ (rot ye 11)) (y := rot ye 25) rfl rfl rfl) ?_
     try simp only [Act.put, List.setIfInBounds_toArray, List.set_cons_succ, List.set_cons_zero]
     refine wpQuiet_val rfl (vW (yh + (s1 ye))) (fun W _ => exec_addW (x := yh) (y := s1 ye) rfl rfl rfl) ?_
     try simp only [Act.put, List.setIfInBounds_toArray, List.set_cons_succ, List.set_cons_zero]
     refine wpQuiet_val rfl (.pointer (some ⟨g11, 4, none⟩)) (fun W _ => by kernel_rfl) ?_
     try simp only [Act.put, List.setIfInBounds_toArray, List.set_cons_succ, List.set_cons_zero]
     refine wpQuiet_loadL (Agg.Blk.one (P := Tryz.prog) (ty := 204) B11.out (4) (wC_get _ _ _ (show [ya, yb, yc, yd, ye, yf, yg, yh][4]? = some ye from rfl)) Tryz.underlying204 rfl) rfl _ rfl rfl ?_
     try simp only [Act.put, List.setIfInBounds_toArray, List.set_cons_succ, List.set_cons_zero]
     refine wpQuiet_val rfl (.pointer (some ⟨g11, 5, none⟩)) (fun W _ => by kernel_rfl) ?_
     try simp only [Act.put, List.setIfInBounds_toArray, List.set_cons_succ, List.set_cons_zero]
     refine wpQuiet_loadL (Agg.Blk.one (P := Tryz.prog) (ty := 204) B11.out (5) (wC_get _ _ _ (show [ya, yb, yc, yd, ye, yf, yg, yh][5]? = some yf from rfl)) Tryz.underlying204 rfl) rfl _ rfl rfl ?_
     try simp only [Act.put, List.setIfInBounds_toArray, List.set_cons_succ, List.set_cons_zero]
     refine wpQuiet_val rfl (vW (ye &&& yf)) (fun W _ => exec_andW (x := ye) (y := yf) rfl rfl rfl) ?_
     try simp only [Act.put, List.setIfInBounds_toArray, List.set_cons_succ, List.set_cons_zero]
     refine wpQuiet_val rfl (.pointer (some ⟨g11, 4, none⟩)) (fun W _ => by kernel_rfl) ?_
     try simp only [Act.put, List.setIfInBounds_toArray, List.set_cons_succ, List.set_cons_zero]
     refine wpQuiet_loadL (Agg.Blk.one (P := Tryz.prog) (ty := 204) B11.out (4) (wC_get _ _ _ (show [ya, yb, yc, yd, ye, yf, yg, yh][4]? = some ye from rfl)) Tryz.underlying204 rfl) rfl _ rfl rfl ?_
     try simp only [Act.put, List.setIfInBounds_toArray, List.set_cons_succ, List.set_cons_zero]
     refine wpQuiet_val rfl (vW (~~~ye)) (fun W _ => exec_notW (x := ye) rfl rfl) ?_
     try simp only [Act.put, List.setIfInBounds_toArray, List.set_cons_succ, List.set_cons_zero]
     refine wpQuiet_val rfl (.pointer (some ⟨g11, 6, none⟩)) (fun W _ => by kernel_rfl) ?_
     try simp only [Act.put, List.setIfInBounds_toArray, List.set_cons_succ, List.set_cons_zero]
     refine wpQuiet_loadL (Agg.Blk.one (P := Tryz.prog) (ty := 204) B11.out (6) (wC_get _ _ _ (show [ya, yb, yc, yd, ye, yf, yg, yh][6]? = some yg from rfl)) Tryz.underlying204 rfl) rfl _ rfl rfl ?_
     try simp only [Act.put, List.setIfInBounds_toArray, List.set_cons_succ, List.set_cons_zero]
     refine wpQuiet_val rfl (vW (~~~ye &&& yg)) (fun W _ => exec_andW (x := ~~~ye) (y := yg) rfl rfl rfl) ?_
     try simp only [Act.put, List.setIfInBounds_toArray, List.set_cons_succ, List.set_cons_zero]
     refine wpQuiet_val rfl (vW ((ye &&& yf) ||| (~~~ye &&& yg))) (fun W _ => exec_orW (x := ye &&& yf) (y := ~~~ye &&& yg) rfl rfl rfl) ?_
     try simp only [Act.put, List.setIfInBounds_toArray, List.set_cons_succ, List.set_cons_zero]
     refine wpQuiet_val rfl (vW ((yh + (s1 ye)) + ((ye &&& yf) ||| (~~~ye &&& yg)))) (fun W _ => exec_addW (x := yh + (s1 ye)) (y := (ye &&& yf) ||| (~~~ye &&& yg)) rfl rfl rfl) ?_
     try simp only [Act.put, List.setIfInBounds_toArray, List.set_cons_succ, List.set_cons_zero]
     refine wpQuiet_val rfl (.int .i64 ((k : Nat) : Int)) (fun W _ => by kernel_rfl) ?_
     try simp only [Act.put, List.setIfInBounds_toArray, List.set_cons_succ, List.set_cons_zero]
     refine wpQuiet_val rfl (.pointer (some ⟨g10, k, none⟩)) (fun W _ => exec_idx rfl rfl rfl (HIJ.out (k) (by omega) W)) ?_
     try simp only [Act.put, List.setIfInBounds_toArray, List.set_cons_succ, List.set_cons_zero]
     refine wpQuiet_loadL (Agg.Blk.one (P := Tryz.prog) (ty := 204) B10.out (k) (wC_get _ _ _ HKK.out) Tryz.underlying204 rfl) rfl _ rfl rfl ?_
     try simp only [Act.put, List.setIfInBounds_toArray, List.set_cons_succ, List.set_cons_zero]
     refine wpQuiet_val rfl (vW (((yh + (s1 ye)) + ((ye &&& yf) ||| (~~~ye &&& yg))) + kk)) (fun W _ => exec_addW (x := (yh + (s1 ye)) + ((ye &&& yf) ||| (~~~ye &&& yg))) (y := kk) rfl rfl rfl) ?_
     try simp only [Act.put, List.setIfInBounds_toArray, List.set_cons_succ, List.set_cons_zero]
     refine wpQuiet_val rfl (.int .i64 ((k : Nat) : Int)) (fun W _ => by kernel_rfl) ?_
     try simp only [Act.put, List.setIfInBounds_toArray, List.set_cons_succ, List.set_cons_zero]
     refine wpQuiet_val rfl (.pointer (some ⟨g5, k, none⟩)) (fun W _ => exec_idx rfl rfl rfl (HIG.out (k) (by omega) W)) ?_
     try simp only [Act.put, List.setIfInBounds_toArray, List.set_cons_succ, List.set_cons_zero]
     refine wpQuiet_loadL (Agg.Blk.one (P := Tryz.prog) (ty := 204) B5.out (k) (wC_get _ _ _ HWW.out) Tryz.underlying204 rfl) rfl _ rfl rfl ?_
     try simp only [Act.put, List.setIfInBounds_toArray, List.set_cons_succ, List.set_cons_zero]
     refine wpQuiet_val rfl (vW (pp)) (fun W _ => by rw [← HPP.out]; exact exec_addW (x := ((yh + (s1 ye)) + ((ye &&& yf) ||| (~~~ye &&& yg))) + kk) (y := ww) rfl rfl rfl) ?_
     try simp only [Act.put, List.setIfInBounds_toArray, List.set_cons_succ, List.set_cons_zero]
     refine wpQuiet_val rfl (vW (pp)) (fun W _ => by kernel_rfl) ?_
     try simp only [Act.put, List.setIfInBounds_toArray, List.set_cons_succ, List.set_cons_zero]
     refine wpQuiet_nil ?_
     intro _ hw'
     obtain ⟨x3, rfl⟩ := hw'
     have B11b := Lib.hid (B11.out.below x3.h)
     go_wp2_with fail
     try simp only [Act.put, List.setIfInBounds_toArray, List.set_cons_succ, List.set_cons_zero]
     refine wp_region_later_lit (by kernel_rfl) (by kernel_rfl) ?_
     refine wpQuiet_val rfl (.pointer (some ⟨g11, 0, none⟩)) (fun W _ => by kernel_rfl) ?_
     try simp only [Act.put, List.setIfInBounds_toArray, List.set_cons_succ, List.set_cons_zero]
     refine wpQuiet_loadL (Agg.Blk.one (P := Tryz.prog) (ty := 204) B11b.out (0) (wC_get _ _ _ (show [ya, yb, yc, yd, ye, yf, yg, yh][0]? = some ya from rfl)) Tryz.underlying204 rfl) rfl _ rfl rfl ?_
     try simp only [Act.put, List.setIfInBounds_toArray, List.set_cons_succ, List.set_cons_zero]
     go_big_quiet_step ((go_at_call 159; exact Calls.later (turn_any _ 2 (by decide) (by decide) _)))
     try simp only [Act.put, List.setIfInBounds_toArray, List.set_cons_succ, List.set_cons_zero]
     refine wpQuiet_val rfl (.pointer (some ⟨g11, 0, none⟩)) (fun W _ => by kernel_rfl) ?_
     try simp only [Act.put, List.setIfInBounds_toArray, List.set_cons_succ, List.set_cons_zero]
     refine wpQuiet_loadL (Agg.Blk.one (P := Tryz.prog) (ty := 204) B11b.out (0) (wC_get _ _ _ (show [ya, yb, yc, yd, ye, yf, yg, yh][0]? = some ya from rfl)) Tryz.underlying204 rfl) rfl _ rfl rfl ?_
     try simp only [Act.put, List.setIfInBounds_toArray, List.set_cons_succ, List.set_cons_zero]
     go_big_quiet_step ((go_at_call 159; exact Calls.later (turn_any _ 13 (by decide) (by decide) _)))
     try simp only [Act.put, List.setIfInBounds_toArray, List.set_cons_succ, List.set_cons_zero]
     refine wpQuiet_val rfl (vW ((rot ya 2) ^^^ (rot ya 13))) (fun W _ => exec_xorW (x := rot ya 2) (y := rot ya 13) rfl rfl rfl) ?_
     try simp only [Act.put, List.setIfInBounds_toArray, List.set_cons_succ, List.set_cons_zero]
     refine wpQuiet_val rfl (.pointer (some ⟨g11, 0, none⟩)) (fun W _ => by kernel_rfl) ?_
     try simp only [Act.put, List.setIfInBounds_toArray, List.set_cons_succ, List.set_cons_zero]
     refine wpQuiet_loadL (Agg.Blk.one (P := Tryz.prog) (ty := 204) B11b.out (0) (wC_get _ _ _ (show [ya, yb, yc, yd, ye, yf, yg, yh][0]? = some ya from rfl)) Tryz.underlying204 rfl) rfl _ rfl rfl ?_
     try simp only [Act.put, List.setIfInBounds_toArray, List.set_cons_succ, List.set_cons_zero]
     go_big_quiet_step ((go_at_call 159; exact Calls.later (turn_any _ 22 (by decide) (by decide) _)))
     try simp only [Act.put, List.setIfInBounds_toArray, List.set_cons_succ, List.set_cons_zero]
     refine wpQuiet_val rfl (vW (s0 ya)) (fun W _ => by rw [← HS0.out]; exact exec_xorW (x := (rot ya 2) ^^^ (rot ya 13)) (y := rot ya 22) rfl rfl rfl) ?_
     try simp only [Act.put, List.setIfInBounds_toArray, List.set_cons_succ, List.set_cons_zero]
     refine wpQuiet_val rfl (.pointer (some ⟨g11, 0, none⟩)) (fun W _ => by kernel_rfl) ?_
     try simp only [Act.put, List.setIfInBounds_toArray, List.set_cons_succ, List.set_cons_zero]
     refine wpQuiet_loadL (Agg.Blk.one (P := Tryz.prog) (ty := 204) B11b.out (0) (wC_get _ _ _ (show [ya, yb, yc, yd, ye, yf, yg, yh][0]? = some ya from rfl)) Tryz.underlying204 rfl) rfl _ rfl rfl ?_
     try simp only [Act.put, List.setIfInBounds_toArray, List.set_cons_succ, List.set_cons_zero]
     refine wpQuiet_val rfl (.pointer (some ⟨g11, 1, none⟩)) (fun W _ => by kernel_rfl) ?_
     try simp only [Act.put, List.setIfInBounds_toArray, List.set_cons_succ, List.set_cons_zero]
     refine wpQuiet_loadL (Agg.Blk.one (P := Tryz.prog) (ty := 204) B11b.out (1) (wC_get _ _ _ (show [ya, yb, yc, yd, ye, yf, yg, yh][1]? = some yb from rfl)) Tryz.underlying204 rfl) rfl _ rfl rfl ?_
     try simp only [Act.put, List.setIfInBounds_toArray, List.set_cons_succ, List.set_cons_zero]
     refine wpQuiet_val rfl (vW (ya &&& yb)) (fun W _ => exec_andW (x := ya) (y := yb) rfl rfl rfl) ?_
     try simp only [Act.put, List.setIfInBounds_toArray, List.set_cons_succ, List.set_cons_zero]
     refine wpQuiet_val rfl (.pointer (some ⟨g11, 0, none⟩)) (fun W _ => by kernel_rfl) ?_
     try simp only [Act.put, List.setIfInBounds_toArray, List.set_cons_succ, List.set_cons_zero]
     refine wpQuiet_loadL (Agg.Blk.one (P := Tryz.prog) (ty := 204) B11b.out (0) (wC_get _ _ _ (show [ya, yb, yc, yd, ye, yf, yg, yh][0]? = some ya from rfl)) Tryz.underlying204 rfl) rfl _ rfl rfl ?_
     try simp only [Act.put, List.setIfInBounds_toArray, List.set_cons_succ, List.set_cons_zero]
     refine wpQuiet_val rfl (.pointer (some ⟨g11, 2, none⟩)) (fun W _ => by kernel_rfl) ?_
     try simp only [Act.put, List.setIfInBounds_toArray, List.set_cons_succ, List.set_cons_zero]
     refine wpQuiet_loadL (Agg.Blk.one (P := Tryz.prog) (ty := 204) B11b.out (2) (wC_get _ _ _ (show [ya, yb, yc, yd, ye, yf, yg, yh][2]? = some yc from rfl)) Tryz.underlying204 rfl) rfl _ rfl rfl ?_
     try simp only [Act.put, List.setIfInBounds_toArray, List.set_cons_succ, List.set_cons_zero]
     refine wpQuiet_val rfl (vW (ya &&& yc)) (fun W _ => exec_andW (x := ya) (y := yc) rfl rfl rfl) ?_
     try simp only [Act.put, List.setIfInBounds_toArray, List.set_cons_succ, List.set_cons_zero]
     refine wpQuiet_val rfl (vW ((ya &&& yb) ||| (ya &&& yc))) (fun W _ => exec_orW (x := ya &&& yb) (y := ya &&& yc) rfl rfl rfl) ?_
     try simp only [Act.put, List.setIfInBounds_toArray, List.set_cons_succ, List.set_cons_zero]
     refine wpQuiet_val rfl (.pointer (some ⟨g11, 1, none⟩)) (fun W _ => by kernel_rfl) ?_
     try simp only [Act.put, List.setIfInBounds_toArray, List.set_cons_succ, List.set_cons_zero]
     refine wpQuiet_loadL (Agg.Blk.one (P := Tryz.prog) (ty := 204) B11b.out (1) (wC_get _ _ _ (show [ya, yb, yc, yd, ye, yf, yg, yh][1]? = some yb from rfl)) Tryz.underlying204 rfl) rfl _ rfl rfl ?_
     try simp only [Act.put, List.setIfInBounds_toArray, List.set_cons_succ, List.set_cons_zero]
     refine wpQuiet_val rfl (.pointer (some ⟨g11, 2, none⟩)) (fun W _ => by kernel_rfl) ?_
     try simp only [Act.put, List.setIfInBounds_toArray, List.set_cons_succ, List.set_cons_zero]
     refine wpQuiet_loadL (Agg.Blk.one (P := Tryz.prog) (ty := 204) B11b.out (2) (wC_get _ _ _ (show [ya, yb, yc, yd, ye, yf, yg, yh][2]? = some yc from rfl)) Tryz.underlying204 rfl) rfl _ rfl rfl ?_
     try simp only [Act.put, List.setIfInBounds_toArray, List.set_cons_succ, List.set_cons_zero]
     refine wpQuiet_val rfl (vW (yb &&& yc)) (fun W _ => exec_andW (x := yb) (y := yc) rfl rfl rfl) ?_
     try simp only [Act.put, List.setIfInBounds_toArray, List.set_cons_succ, List.set_cons_zero]
     refine wpQuiet_val rfl (vW (((ya &&& yb) ||| (ya &&& yc)) ||| (yb &&& yc))) (fun W _ => exec_orW (x := (ya &&& yb) ||| (ya &&& yc)) (y := yb &&& yc) rfl rfl rfl) ?_
     try simp only [Act.put, List.setIfInBounds_toArray, List.set_cons_succ, List.set_cons_zero]
     refine wpQuiet_val rfl (vW (qq)) (fun W _ => by rw [← HQQ.out]; exact exec_addW (x := s0 ya) (y := ((ya &&& yb) ||| (ya &&& yc)) ||| (yb &&& yc)) rfl rfl rfl) ?_
     try simp only [Act.put, List.setIfInBounds_toArray, List.set_cons_succ, List.set_cons_zero]
     refine wpQuiet_val rfl (vW (qq)) (fun W _ => by kernel_rfl) ?_
     try simp only [Act.put, List.setIfInBounds_toArray, List.set_cons_succ, List.set_cons_zero]
     refine wpQuiet_nil ?_
     intro _ hw'
     obtain ⟨x4, rfl⟩ := hw'
     have B11c := Lib.hid (B11b.out.below x4.h)
     have O_42 := Lib.hid ((O_40.out.trans (Only.of_below (S := (· = g11)) x3.h) (fun _ _ h => h)).trans (Only.of_below (S := (· = g11)) x4.h) (fun _ _ h => h))
     have HL := Lib.hid (fun i x (h : [ya, yb, yc, yd, ye, yf, yg, yh][i]? = some x) => Agg.Blk.one (P := Tryz.prog) (ty := 204) B11c.out i (wC_get _ _ _ h) Tryz.underlying204 rfl)
     have HSI := Lib.hid (w8u_info [pp + qq, ya, yb, yc, yd + pp, ye, yf, yg] rfl)
     have HSZ := Lib.hid (w8_ss [ya, yb, yc, yd, ye, yf, yg, yh] [pp + qq, ya, yb, yc, yd + pp, ye, yf, yg] rfl rfl)
     have HL0 := Lib.hid (HL.out 0 ya rfl)
     have HL1 := Lib.hid (HL.out 1 yb rfl)
     have HL2 := Lib.hid (HL.out 2 yc rfl)
     have HL3 := Lib.hid (HL.out 3 yd rfl)
     have HL4 := Lib.hid (HL.out 4 ye rfl)
     have HL5 := Lib.hid (HL.out 5 yf rfl)
     have HL6 := Lib.hid (HL.out 6 yg rfl)
     clear B11 B11b O_40 B10 B5 HL HPP HQQ HS1 HS0 HKK HWW HI2 HIJ HIG HIH
     go_wp2_with fail
     rw [run_addW]
     go_wp2_with (first | (with_reducible refine wpList_loadL HL0.out rfl _ rfl rfl ?_) | (with_reducible refine wpList_loadL HL1.out rfl _ rfl rfl ?_) | (with_reducible refine wpList_loadL HL2.out rfl _ rfl rfl ?_) | (with_reducible refine wpList_loadL HL3.out rfl _ rfl rfl ?_) | (with_reducible refine wpList_loadL HL4.out rfl _ rfl rfl ?_) | (with_reducible refine wpList_loadL HL5.out rfl _ rfl rfl ?_) | (with_reducible refine wpList_loadL HL6.out rfl _ rfl rfl ?_))
     rw [run_addW]
     rename_i KK hKK
     simp only [Result.andThen, Oper.upon_value]
     refine hKK _ _ ?_
     clear hKK
     try simp only [Act.put, List.setIfInBounds_toArray, List.set_cons_succ, List.set_cons_zero]
     refine wpList_valw rfl (v := .pointer (some ⟨g11, 4, none⟩)) (w' := x4.w) (by kernel_rfl) ?_
     try simp only [Act.put, List.setIfInBounds_toArray, List.set_cons_succ, List.set_cons_zero]
     refine wpList_loadL HL4.out rfl _ rfl rfl ?_
     try simp only [Act.put, List.setIfInBounds_toArray, List.set_cons_succ, List.set_cons_zero]
     refine wpList_valw rfl (v := .pointer (some ⟨g11, 5, none⟩)) (w' := x4.w) (by kernel_rfl) ?_
     try simp only [Act.put, List.setIfInBounds_toArray, List.set_cons_succ, List.set_cons_zero]
     refine wpList_loadL HL5.out rfl _ rfl rfl ?_
     try simp only [Act.put, List.setIfInBounds_toArray, List.set_cons_succ, List.set_cons_zero]
     refine wpList_valw rfl (v := .pointer (some ⟨g11, 6, none⟩)) (w' := x4.w) (by kernel_rfl) ?_
     try simp only [Act.put, List.setIfInBounds_toArray, List.set_cons_succ, List.set_cons_zero]
     refine wpList_loadL HL6.out rfl _ rfl rfl ?_
     try simp only [Act.put, List.setIfInBounds_toArray, List.set_cons_succ, List.set_cons_zero]
     refine wpList_valw rfl (exec_build8 rfl rfl rfl rfl rfl rfl rfl rfl rfl (run_build8 (pp + qq) ya yb yc (yd + pp) ye yf yg _)) ?_
     try simp only [Act.put, List.setIfInBounds_toArray, List.set_cons_succ, List.set_cons_zero]
     refine wpList_put rfl rfl 205 _ _ rfl g11 (wC [pp + qq, ya, yb, yc, yd + pp, ye, yf, yg]) (wC [ya, yb, yc, yd, ye, yf, yg, yh]) rfl rfl B11c.out HSI.out HSZ.out (wC_one _) ?_
     intro w43 hb8 hx8 hs8 hk8
     have B11d := Lib.hid hb8
     have O_43 := Lib.hid (O_42.out.trans (⟨hx8.os, hx8.tape, hx8.output, by rw [hs8]; exact Nat.le_refl _, fun k _ hk => hk8 k hk⟩ : Only (· = g11) _ _) (fun _ _ h => h))
     clear hb8 hx8 hs8 hk8
     go_wp2_with fail
     go_roundw
     case rel => exact ⟨k + 1, by omega, by go_num, by rw [HRR.out]; exact B11d.out, O_43.out⟩
     case measure => simp [intOf]; omega
    obtain rfl : k = 64 := by omega
    have hd2 : decide (((64 : Nat) : Int) < 64) = false := by simp
    obtain ⟨y, hy⟩ : ∃ y, rounds bs 64 st = y := ⟨_, rfl⟩
    rw [hy] at hb
    have HY := Lib.hid (show block st bs = add st y by rw [block, hy])
    have B11_50 := Lib.hid hb
    clear hb ho hy
    go_wp2_with fail
    go_loopw [15] (fun i wr => ∃ k : Nat, k ≤ 8 ∧ i = .int .i64 (k : Int) ∧ Blk wr g11 205 (wC (addTo st y k)) ∧ Only (· = g11) w32 wr) (fun i _ => 8 - (intOf i).toNat)
    case atStart => exact ⟨0, by omega, rfl, B11_50.out, O_40.out⟩
    case round =>
     clear B11_50 O_40
     obtain ⟨w60, rfl⟩ : ∃ y : World, y = wr := ⟨_, rfl⟩
     obtain ⟨k, hk, rfl, hb, ho⟩ := hrel
     by_cases hlt : k < 8
     ·have hd3 : decide ((k : Int) < 8) = true := by simp; omega
      go_wp2_with fail
      try simp only [Act.put, List.setIfInBounds_toArray, List.set_cons_succ, List.set_cons_zero]
      obtain ⟨wd, hwd⟩ : ∃ W, W = w60.drew := ⟨_, rfl⟩
      have hd : Below w60.heap.size w60 wd := by rw [hwd]; exact (Below.refl _ _).drew
      have hbd := hb.below hd
      have hod := ho.trans (Only.of_below (S := (· = g11)) hd) (fun _ _ h => h)
      obtain ⟨yk, hyk⟩ : ∃ x, y.list.getD k 0 = x := ⟨_, rfl⟩
      obtain ⟨sk, hsk⟩ : ∃ x, st.list.getD k 0 = x := ⟨_, rfl⟩
      have HLg11 := Lib.hid (Agg.Blk.one (P := Tryz.prog) (ty := 204) hbd k (wC_get _ _ yk (by rw [addTo_get _ _ _ hlt, hyk])) Tryz.underlying204 rfl)
      have HLg2 := Lib.hid (Agg.Blk.one (P := Tryz.prog) (ty := 204) (Agg.Blk.onlyQ B2_32.out hod HN2.out) k (wC_get _ _ sk (by rw [list_get _ _ hlt, hsk])) Tryz.underlying204 rfl)
      obtain ⟨wn, hr, hbn, hon⟩ := Blk.run_one (P := Tryz.prog) (ty := 204) hbd k (by rw [wC_size, addTo_len _ _ _ hk]; exact hlt) (vW (yk + sk)) rfl rfl (by kernel_rfl) (wC (addTo st y (k + 1))) (by rw [wC_set, ← hyk, ← hsk, addTo_succ _ _ _ hlt])
      have HR := Lib.hid hr
      have HBn := Lib.hid hbn
      have HOn := Lib.hid (hod.trans hon (fun _ _ h => h))
      clear hb ho hbd hod hr hbn hon hyk hsk
      have hT : True := trivial
      refine wp_region_held_drew (S := fun _ => True) (by kernel_rfl) (by trivial) (fun hHeld => ?_)
      rw [← hwd]
      clear hwd hd
      refine held_take 0 (.int .i64 ((k : Nat) : Int)) rfl (by kernel_rfl) (fun _ _ _ h => h) rfl (fun W _ => by kernel_rfl) (by assumption) ?_
      try simp only [Act.put, List.setIfInBounds_toArray, List.set_cons_succ, List.set_cons_zero]
      refine held_take 1 (.int .i64 ((k : Nat) : Int)) rfl (by kernel_rfl) (fun _ _ _ h => h) rfl (fun W _ => by kernel_rfl) (by assumption) ?_
      try simp only [Act.put, List.setIfInBounds_toArray, List.set_cons_succ, List.set_cons_zero]
      refine held_take 2 (.pointer (some ⟨g11, k, none⟩)) rfl (by kernel_rfl) (fun _ _ _ h => h) rfl (fun W _ => exec_idx rfl rfl rfl (HIH.out (k) (by omega) W)) (by assumption) ?_
      try simp only [Act.put, List.setIfInBounds_toArray, List.set_cons_succ, List.set_cons_zero]
      refine held_take 4 (.int .i64 ((k : Nat) : Int)) rfl (by kernel_rfl) (fun _ _ _ h => h) rfl (fun W _ => by kernel_rfl) (by assumption) ?_
      try simp only [Act.put, List.setIfInBounds_toArray, List.set_cons_succ, List.set_cons_zero]
      refine held_take 5 (.pointer (some ⟨g2, k, none⟩)) rfl (by kernel_rfl) (fun _ _ _ h => h) rfl (fun W _ => exec_idx rfl rfl rfl (HI2.out (k) (by omega) W)) (by assumption) ?_
      try simp only [Act.put, List.setIfInBounds_toArray, List.set_cons_succ, List.set_cons_zero]
      refine held_ready [3, 6] (by kernel_rfl) (by simp) ?_
      refine held_cons rfl ?_ ?_
      ·refine step_load rfl 204 _ rfl _ (vW (yk)) rfl HLg11.out.now ?_
       refine ⟨trivial, ?_⟩
       try simp only [Act.put, List.setIfInBounds_toArray, List.set_cons_succ, List.set_cons_zero]
       refine held_one 6 rfl (by kernel_rfl) ?_
       refine step_load rfl 204 _ rfl _ (vW (sk)) rfl HLg2.out.now ?_
       refine ⟨trivial, ?_⟩
       try simp only [Act.put, List.setIfInBounds_toArray, List.set_cons_succ, List.set_cons_zero]
       refine held_take 7 (vW (yk + sk)) rfl (by kernel_rfl) (fun _ _ _ h => h) rfl (fun W _ => exec_addW (x := yk) (y := sk) rfl rfl rfl) (by assumption) ?_
       try simp only [Act.put, List.setIfInBounds_toArray, List.set_cons_succ, List.set_cons_zero]
       refine held_take 8 (.pointer (some ⟨g11, k, none⟩)) rfl (by kernel_rfl) (fun _ _ _ h => h) rfl (fun W _ => exec_idx rfl rfl rfl (HIH.out (k) (by omega) W)) (by assumption) ?_
       try simp only [Act.put, List.setIfInBounds_toArray, List.set_cons_succ, List.set_cons_zero]
       refine held_one 9 rfl (by kernel_rfl) ?_
       refine Agg.step_store rfl rfl 204 _ _ rfl (.pointer (some ⟨g11, k, none⟩)) (vW (yk + sk)) rfl rfl HR.out ?_
       refine ⟨trivial, ?_⟩
       try simp only [Act.put, List.setIfInBounds_toArray, List.set_cons_succ, List.set_cons_zero]
       refine held_end (by kernel_rfl) ?_
       go_wp2_with fail
       go_roundw
       case rel => exact ⟨k + 1, by omega, by go_num, HBn.out, HOn.out⟩
       case measure => simp [intOf]; omega
      refine held_cons rfl ?_ ?_
      ·refine step_load rfl 204 _ rfl _ (vW (sk)) rfl HLg2.out.now ?_
       refine ⟨trivial, ?_⟩
       try simp only [Act.put, List.setIfInBounds_toArray, List.set_cons_succ, List.set_cons_zero]
       refine held_one 3 rfl (by kernel_rfl) ?_
       refine step_load rfl 204 _ rfl _ (vW (yk)) rfl HLg11.out.now ?_
       refine ⟨trivial, ?_⟩
       try simp only [Act.put, List.setIfInBounds_toArray, List.set_cons_succ, List.set_cons_zero]
       refine held_take 7 (vW (yk + sk)) rfl (by kernel_rfl) (fun _ _ _ h => h) rfl (fun W _ => exec_addW (x := yk) (y := sk) rfl rfl rfl) (by assumption) ?_
       try simp only [Act.put, List.setIfInBounds_toArray, List.set_cons_succ, List.set_cons_zero]
       refine held_take 8 (.pointer (some ⟨g11, k, none⟩)) rfl (by kernel_rfl) (fun _ _ _ h => h) rfl (fun W _ => exec_idx rfl rfl rfl (HIH.out (k) (by omega) W)) (by assumption) ?_
       try simp only [Act.put, List.setIfInBounds_toArray, List.set_cons_succ, List.set_cons_zero]
       refine held_one 9 rfl (by kernel_rfl) ?_
       refine Agg.step_store rfl rfl 204 _ _ rfl (.pointer (some ⟨g11, k, none⟩)) (vW (yk + sk)) rfl rfl HR.out ?_
       refine ⟨trivial, ?_⟩
       try simp only [Act.put, List.setIfInBounds_toArray, List.set_cons_succ, List.set_cons_zero]
       refine held_end (by kernel_rfl) ?_
       go_wp2_with fail
       go_roundw
       case rel => exact ⟨k + 1, by omega, by go_num, HBn.out, HOn.out⟩
       case measure => simp [intOf]; omega
      exact AllReadyH.nil
     obtain rfl : k = 8 := by omega
     have hd3 : decide (((8 : Nat) : Int) < 8) = false := by simp
     have B4 := Lib.hid (Agg.Blk.onlyQ B4_32.out ho HN4.out)
     have X_60 := Lib.hid (X_32.out.trans (ho.below (B := w.heap.size) X_32.out.size (fun i hi => by subst hi; exact HG11.out)))
     rw [addTo_all] at hb
     have HL := Lib.hid (Agg.Blk.loads (P := Tryz.prog) hb w8u_under rfl (w8u_info _ rfl))
     have HSI := Lib.hid (w8u_info (add st y).list rfl)
     have HSZ := Lib.hid (w8_ss (List.replicate 8 0) (add st y).list rfl rfl)
     clear hb ho
     go_wp2_with (first | (with_reducible refine wpList_loadL HL.out rfl _ rfl rfl ?_) | ((with_reducible refine wpList_put rfl rfl 205 _ _ rfl g4 (wC (add st y).list) (wC (List.replicate 8 0)) rfl rfl B4.out HSI.out HSZ.out (wC_one _) ?_); intro w8 hb8 hx8 _ _))
     exact post_row rfl rfl hb8 w8u_under rfl (w8u_info _ rfl) rfl ⟨by rw [HY.out], X_60.out.trans (hx8.mono HG4.out)⟩
end Go.Proofs.YtdebbmembkbniaaGreat
