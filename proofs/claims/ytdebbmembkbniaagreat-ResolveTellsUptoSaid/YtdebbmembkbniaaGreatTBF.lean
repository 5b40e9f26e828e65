/- spenceref02.Of. (Several texts in one.) -/
import Derived.Test.YtdebbmembkbniaaGreatTBD
import Derived.Test.YtdebbmembkbniaaGreatTBE
import Derived.Test.YtdebbmembkbniaaGreatTBA
import Derived.Test.YtdebbmembkbniaaGreatTAC
import Derived.Test.YtdebbmembkbniaaGreatTAD
import Derived.Test.YtdebbmembkbniaaGreatTAM
/-! spenceref02.Digest. -/
namespace Go.Proofs.YtdebbmembkbniaaGreat
open Go.RowKit Pl Go.Agg Go.Sha
set_option maxRecDepth 100000 in
set_option maxHeartbeats 16000000 in
theorem refDigest_any (v : Value) (l : List UInt8) (hl : l.length ≤ 1000000000) (w : World) (h : BytesAt w v l) :
  Calls Tryz.prog 85 #[v] w fun e w' => e = .returned (.agg (hC (digest l))) ∧ Below w.heap.size w w' := by
 have HB := Lib.hid h
 have HEB := Lib.hid (enters_of Tryz.func125 (by kernel_rfl) rfl : ∀ args w, (callFunc 125 args).run Tryz.prog w = .ok (.enter 125 args) w)
 clear h
 go_enter Tryz.func85, Tryz.ntmps85
 go_wp2_with (first | (with_reducible refine wpList_zero rfl 164 rfl (hC (List.replicate 32 0)) sum_zeroE ?_; intro g2 w1 hb hx hg; have HA1 := Lib.hid hb; have HX1 := Lib.hid hx; have HG2 := Lib.hid hg; clear hb hx hg) | (refine wpList_new rfl rfl rfl 205 3 8 rfl rfl rfl (by decide) (wC (List.replicate 8 0)) (wC first.list) w8u_zero (w8_ss _ _ rfl rfl) (w8u_info _ rfl) (wC_one _) rfl (by first | (simp; done) | simp [Act.put]) ?_; intro g3 w2 hb hx hg; have HB2 := Lib.hid hb; have HA2 := Lib.hid (HA1.out.below hx); have HX2 := Lib.hid (belowThen HX1.out (Nat.le_refl _) hx); have HG3 := Lib.hid (Nat.le_trans HX1.out.size hg); have HN23 := Lib.hid (show g2 ≠ g3 from fun e => by have := HA1.out.lt; omega); clear hb hx hg))
 refine (refPadded_any v l hl _ (SliceOf.below HB.out HX2.out)).mono ?_
 rintro e w3 ⟨u, rfl, ho, hx⟩
 have HT3 := Lib.hid (TypedB.of_own ho)
 have HB3 := Lib.hid (HB2.out.below hx)
 have HA3 := Lib.hid (HA2.out.below hx)
 have HX3 := Lib.hid (belowThen HX2.out (Nat.le_refl _) hx)
 clear ho hx
 have hpl : (padded l).length = l.length + ((119 - l.length % 64) % 64 + 9) := by rw [padded, List.length_append, tail_length]
 have hpm := padded_mod l
 obtain ⟨L, hL⟩ : ∃ L, padded l = L := ⟨_, rfl⟩
 have HPL := Lib.hid hL
 rw [hL] at HT3 hpl hpm
 obtain ⟨n, hn⟩ : ∃ n, L.length = 64 * n := ⟨L.length / 64, by omega⟩
 have HLL := Lib.hid (show L.length ≤ 1000000200 by omega)
 have HLN := Lib.hid hn
 have hlen := fun W => bytes_len HT3.out.1 W
 clear hL hpl hpm hn
 go_wp2_with fail
 go_loopw [5] (fun i wr => ∃ k j : Nat, k ≤ n ∧ 64 * k = j ∧ i = .int .i64 (j : Int) ∧ TypedB wr u L ∧ Blk wr g3 205 (wC (blocks L k first).list) ∧ Blk wr g2 164 (hC (List.replicate 32 0)) ∧ Below w.heap.size w wr) (fun i _ => 64 * n - (intOf i).toNat)
 case atStart => exact ⟨0, 0, by omega, rfl, rfl, HT3.out, HB3.out, HA3.out, HX3.out⟩
 case round =>
  obtain ⟨w4, rfl⟩ : ∃ y : World, y = wr := ⟨_, rfl⟩
  obtain ⟨k, j, hk, hkj, rfl, ht, hb, ha, hx⟩ := hrel
  have HT4 := Lib.hid ht
  have HB4 := Lib.hid hb
  have HA4 := Lib.hid ha
  have HX4 := Lib.hid hx
  clear ht hb ha hx
  by_cases hlt : k < n
  ·have hll := HLL.out
   have hln := HLN.out
   have hd1 : decide (j < L.length) = true := by simp; omega
   obtain ⟨u', hsl, hu, hcu⟩ := sliceOf_mid HT4.out.1 HT4.out.2.2 j (j + 64) (by omega) (by omega)
   obtain ⟨bs, hbs⟩ : ∃ bs, (L.take (j + 64)).drop j = bs := ⟨_, rfl⟩
   obtain ⟨X, hX⟩ : ∃ X, blocks L k first = X := ⟨_, rfl⟩
   have HBN := Lib.hid (show blocks L (k + 1) first = block X bs by rw [blocks, hX, ← hbs, List.drop_take, hkj, show j + 64 - j = 64 by omega])
   have HBS := Lib.hid (show bs.length = 64 by rw [← hbs, List.length_drop, List.length_take]; omega)
   rw [hbs] at hu
   rw [hX] at HB4
   have HSL := Lib.hid hsl
   have HU4 := Lib.hid hu
   have HCU := Lib.hid hcu
   have hjn : j < 9223372036854775000 := by omega
   clear hsl hu hcu hbs hX hll hln
   go_wp2_with fail
   try simp only [Act.put, List.setIfInBounds_toArray, List.set_cons_succ, List.set_cons_zero]
   obtain ⟨wd, hwd⟩ : ∃ W, W = w4.drew := ⟨_, rfl⟩
   have hd : Below w4.heap.size w4 wd := by rw [hwd]; exact (Below.refl _ _).drew
   have HB4d := Lib.hid (HB4.out.below hd)
   have HA4d := Lib.hid (HA4.out.below hd)
   have HT4d := Lib.hid (HT4.out.below hd)
   have HU := Lib.hid (SliceOf.below HU4.out hd)
   have HX4d := Lib.hid (belowThen HX4.out (Nat.le_refl _) hd)
   have HLD := Lib.hid (Agg.Blk.loads (P := Tryz.prog) HB4d.out w8u_under rfl (w8u_info _ rfl))
   have hT : True := trivial
   refine wp_region_held_drew (S := fun _ => True) (by kernel_rfl) (by trivial) (fun hHeld => ?_)
   rw [← hwd]
   clear hwd hd
   refine held_take 1 (u) rfl (by kernel_rfl) (fun _ _ _ h => h) rfl (fun W _ => by kernel_rfl) (by assumption) ?_
   try simp only [Act.put, List.setIfInBounds_toArray, List.set_cons_succ, List.set_cons_zero]
   refine held_take 2 (.int .i64 (j : Int)) rfl (by kernel_rfl) (fun _ _ _ h => h) rfl (fun W _ => by kernel_rfl) (by assumption) ?_
   try simp only [Act.put, List.setIfInBounds_toArray, List.set_cons_succ, List.set_cons_zero]
   refine held_take 3 (.int .i64 (j : Int)) rfl (by kernel_rfl) (fun _ _ _ h => h) rfl (fun W _ => by kernel_rfl) (by assumption) ?_
   try simp only [Act.put, List.setIfInBounds_toArray, List.set_cons_succ, List.set_cons_zero]
   refine held_take 4 (.int .i64 ((j + 64 : Nat) : Int)) rfl (by kernel_rfl) (fun _ _ _ h => h) rfl (fun W _ => exec_addI (m := j) (n := 64) (by omega) rfl rfl rfl) (by assumption) ?_
   try simp only [Act.put, List.setIfInBounds_toArray, List.set_cons_succ, List.set_cons_zero]
   refine held_take 5 (u') rfl (by kernel_rfl) (fun _ _ _ h => h) rfl (fun W _ => exec_sliceLH rfl rfl rfl rfl (HSL.out W)) (by assumption) ?_
   try simp only [Act.put, List.setIfInBounds_toArray, List.set_cons_succ, List.set_cons_zero]
   refine held_one 0 rfl (by kernel_rfl) ?_
   refine step_load rfl 205 _ rfl _ (.agg (wC X.list)) rfl HLD.out.now ?_
   refine ⟨trivial, ?_⟩
   try simp only [Act.put, List.setIfInBounds_toArray, List.set_cons_succ, List.set_cons_zero]
   refine held_one 6 rfl (by kernel_rfl) ?_
   refine step_call rfl 125 _ _ rfl #[.agg (wC X.list), u'] (by simp only [List.map_toArray, List.map_cons, List.map_nil]; rfl) (fun W => HEB.out _ W) ?_
   refine (refBlock_any u' X bs HBS.out HCU.out wd HU.out).mono ?_
   rintro x w5 ⟨rfl, hx⟩
   have HB5 := Lib.hid (HB4d.out.below hx)
   have HA5 := Lib.hid (HA4d.out.below hx)
   have HT5 := Lib.hid (HT4d.out.below hx)
   have HX5 := Lib.hid (belowThen HX4d.out (Nat.le_refl _) hx)
   clear hx
   refine ⟨_, rfl, ?_⟩
   refine ⟨trivial, ?_⟩
   try simp only [Act.put, List.setIfInBounds_toArray, List.set_cons_succ, List.set_cons_zero]
   refine held_one 7 rfl (by kernel_rfl) ?_
   refine step_put rfl rfl 205 _ _ rfl g3 (wC (block X bs).list) (wC X.list) rfl rfl HB5.out (w8u_info _ rfl) (w8_ss _ _ rfl rfl) (wC_one _) ?_
   intro w6 hb6 hx6 hs6 hk6
   have HB6 := Lib.hid hb6
   have HA6 := Lib.hid (show Blk w6 g2 164 (hC (List.replicate 32 0)) from (hk6 g2 HN23.out).trans HA5.out)
   have HT6 := Lib.hid (HT5.out.keep (by rw [hs6]; exact Nat.le_refl _) (fun g cs fr hg => (hk6 g (fun e => by subst e; have := HB5.out; rw [show Blk w5 g 205 _ = (w5.heap[g]? = _) from rfl] at this; rw [this] at hg; injection hg with hg; injection hg with _ ht; exact absurd ht (by decide))).trans hg))
   have HX6 := Lib.hid (HX5.out.trans (hx6.mono HG3.out))
   clear hb6 hx6 hs6 hk6
   refine ⟨trivial, ?_⟩
   try simp only [Act.put, List.setIfInBounds_toArray, List.set_cons_succ, List.set_cons_zero]
   refine held_end (by kernel_rfl) ?_
   go_wp2_with fail
   go_roundw
   case rel => exact ⟨k + 1, j + 64, by omega, by omega, by go_num, HT6.out, by rw [HBN.out]; exact HB6.out, HA6.out, HX6.out⟩
   case measure => simp [intOf]; omega
  ·obtain rfl : k = n := by omega
   have hln := HLN.out
   have hd1 : decide (j < L.length) = false := by simp; omega
   obtain ⟨X, hX⟩ : ∃ X, blocks L k first = X := ⟨_, rfl⟩
   have HDG := Lib.hid (show (List.range 32).map X.byte = digest l by rw [sp_blocks, HPL.out, hln, show 64 * k / 64 = k by omega, hX])
   rw [hX] at HB4
   clear hX hln
   go_wp2_with (first | (with_reducible refine wpList_zero rfl 164 rfl (hC (List.replicate 32 0)) sum_zeroE ?_; intro g6 w7 hb hx hg; have HC7 := Lib.hid hb; have HA7 := Lib.hid (HA4.out.below hx); have HB7 := Lib.hid (HB4.out.below hx); have HX7 := Lib.hid (belowThen HX4.out (Nat.le_refl _) hx); have HN26 := Lib.hid (show ¬ g2 = g6 from fun e => by have := HA4.out.lt; omega); have HN36 := Lib.hid (show ¬ g3 = g6 from fun e => by have := HB4.out.lt; omega); have HG6 := Lib.hid (Nat.le_trans HX4.out.size hg); clear hb hx hg))
   have HI6 := Lib.hid (fun (i : Nat) (h : i < 32) W => (show (Instr.indexAt 164 (.pointer (some ⟨g6, 0, none⟩)) (.int .i64 (i : Int))).run Tryz.prog W = .ok (.pointer (some ⟨g6, i, none⟩)) W by have := run_idxArr (P := Tryz.prog) (t := 164) (e := 5) (w := W) Tryz.underlying164 (by kernel_rfl) g6 0 i h; rwa [Nat.zero_add] at this))
   go_loopw [7] (fun i wr => ∃ k : Nat, k ≤ 32 ∧ i = .int .i64 (k : Int) ∧ Blk wr g6 164 (hC (outK X k)) ∧ Only (· = g6) w7 wr) (fun i _ => 32 - (intOf i).toNat)
   case atStart => exact ⟨0, by omega, rfl, HC7.out, Only.refl _ _⟩
   case round =>
    obtain ⟨wr3, rfl⟩ : ∃ y : World, y = wr := ⟨_, rfl⟩
    obtain ⟨k, hk, rfl, hbk, ho⟩ := hrel
    by_cases hlt : k < 32
    ·have hd2 : decide ((k : Int) < 32) = true := by simp; omega
     obtain ⟨y, hy⟩ : ∃ y, X.list[k / 4]? = some y := ⟨_, List.getElem?_eq_getElem (by simp only [St.list, List.length_cons, List.length_nil]; omega)⟩
     have HLY := Lib.hid (Agg.Blk.one (P := Tryz.prog) (ty := 204) (Agg.Blk.onlyQ HB7.out ho HN36.out) (k / 4) (wC_get _ _ _ hy) Tryz.underlying204 rfl)
     have HCB := Lib.hid (show UInt8.ofNat (y >>> (24 - k % 4 * 8)).toNat = X.byte k by rw [Sha.shaByte_at, BitVec.toNat_ushiftRight, Nat.shiftRight_eq_div_pow, pow_byte3 _ (Nat.mod_lt _ (by omega))]; simp [List.getD, hy])
     obtain ⟨w4, hrs, hb4, ho4⟩ := Blk.run_one (P := Tryz.prog) (ty := 5) hbk k (by rw [hC_size, outK_length _ _ hk]; exact hlt) (.int .u8 ((UInt8.ofNat (y >>> (24 - k % 4 * 8)).toNat).toNat : Int)) rfl rfl (by kernel_rfl) (hC (outK X (k + 1))) (by rw [hC_setE, HCB.out, outK_set _ _ hlt])
     have HRS := Lib.hid hrs
     have HB4 := Lib.hid hb4
     have HO4 := Lib.hid (ho.trans ho4 (fun _ _ h => h))
     clear hy hbk ho hrs hb4 ho4
     obtain ⟨i4, hi4⟩ : ∃ i, k / 4 = i := ⟨_, rfl⟩
     obtain ⟨m4, hm4⟩ : ∃ i, k % 4 = i := ⟨_, rfl⟩
     obtain ⟨sh, hsh⟩ : ∃ i, 24 - k % 4 * 8 = i := ⟨_, rfl⟩
     obtain ⟨by_, hby⟩ : ∃ c, UInt8.ofNat (y >>> (24 - k % 4 * 8)).toNat = c := ⟨_, rfl⟩
     have HIA := Lib.hid (fun W => (show (Instr.indexAt 205 (.pointer (some ⟨g3, 0, none⟩)) (.int .i64 (i4 : Int))).run Tryz.prog W = .ok (.pointer (some ⟨g3, i4, none⟩)) W from idx8 g3 i4 (by omega) W))
     have HIB := Lib.hid (fun W => HI6.out k hlt W)
     have A1 := Lib.hid (fun (o : Oper) (a : Act) (x y : Operand) (t u : TypeId) (ho : o.op = .binOp .quo t x y u) (hx : a.eval x = .int .i64 (k : Int)) (hy : a.eval y = .int .i64 ((4 : Nat) : Int)) => (show (execOp a.eval o).run Tryz.prog wr3 = .ok (.value (.int .i64 (i4 : Int))) wr3 by have := exec_quoI (P := Tryz.prog) (w := wr3) (m := k) (n := 4) (by decide) (by omega) ho hx hy; rwa [hi4] at this))
     have A2 := Lib.hid (fun (o : Oper) (a : Act) (x y : Operand) (t u : TypeId) (ho : o.op = .binOp .rem t x y u) (hx : a.eval x = .int .i64 (k : Int)) (hy : a.eval y = .int .i64 ((4 : Nat) : Int)) => (show (execOp a.eval o).run Tryz.prog wr3 = .ok (.value (.int .i64 (m4 : Int))) wr3 by have := exec_remI (P := Tryz.prog) (w := wr3) (m := k) (n := 4) (by decide) (by omega) ho hx hy; rwa [hm4] at this))
     have A3 := Lib.hid (fun (o : Oper) (a : Act) (x y : Operand) (t u : TypeId) (ho : o.op = .binOp .mul t x y u) (hx : a.eval x = .int .i64 (m4 : Int)) (hy : a.eval y = .int .i64 ((8 : Nat) : Int)) => exec_mulI (P := Tryz.prog) (w := wr3) (m := m4) (n := 8) (by omega) ho hx hy)
     have A4 := Lib.hid (fun (o : Oper) (a : Act) (x y : Operand) (t u : TypeId) (ho : o.op = .binOp .sub t x y u) (hx : a.eval x = .int .i64 ((24 : Nat) : Int)) (hy : a.eval y = .int .i64 ((m4 * 8 : Nat) : Int)) => (show (execOp a.eval o).run Tryz.prog wr3 = .ok (.value (.int .i64 (sh : Int))) wr3 by have := exec_subI (P := Tryz.prog) (w := wr3) (m := 24) (n := m4 * 8) (by omega) (by omega) ho hx hy; rwa [show 24 - m4 * 8 = sh by rw [← hm4]; exact hsh] at this))
     have A5 := Lib.hid (fun (o : Oper) (a : Act) (x z : Operand) (t u : TypeId) (ho : o.op = .binOp .shr t x z u) (hx : a.eval x = vW y) (hy : a.eval z = .int .i64 (sh : Int)) => exec_shrW (P := Tryz.prog) (w := wr3) (x := y) sh (by omega) ho hx hy)
     have A6 := Lib.hid (fun (o : Oper) (a : Act) (x : Operand) (ho : o.op = .convert 204 5 x) (hx : a.eval x = vW (y >>> sh)) => (show (execOp a.eval o).run Tryz.prog wr3 = .ok (.value (.int .u8 (by_.toNat : Int))) wr3 by have := exec_cvWB (w := wr3) ho hx; rwa [← hsh, hby] at this))
     rw [hby] at HRS
     rw [hi4] at HLY
     have hia := HIA.out
     have hib := HIB.out
     clear hi4 hm4 hsh hby
     go_wp2_with (first | (refine wpList_valw rfl (A1.out _ _ _ _ _ _ rfl rfl rfl) ?_) | (with_reducible refine wpList_loadL HLY.out rfl _ rfl rfl ?_) | (refine wpList_valw rfl (A2.out _ _ _ _ _ _ rfl rfl rfl) ?_) | (refine wpList_valw rfl (A3.out _ _ _ _ _ _ rfl rfl rfl) ?_) | (refine wpList_valw rfl (A4.out _ _ _ _ _ _ rfl rfl rfl) ?_) | (refine wpList_valw rfl (A5.out _ _ _ _ _ _ rfl rfl rfl) ?_) | (refine wpList_valw rfl (A6.out _ _ _ rfl rfl) ?_) | (refine wpList_store rfl rfl 5 _ _ rfl (.pointer (some ⟨g6, k, none⟩)) (.int .u8 (by_.toNat : Int)) rfl rfl HRS.out ?_))
     go_roundw
     case rel => exact ⟨k + 1, by omega, by go_num, HB4.out, HO4.out⟩
     case measure => simp [intOf]; omega
    ·obtain rfl : k = 32 := by omega
     have HB5 := Lib.hid (show Blk wr3 g6 164 (hC (digest l)) by rw [← HDG.out]; have := hbk; rwa [outK, show List.replicate (32 - 32) (0 : UInt8) = [] from rfl, List.append_nil] at this)
     have HA5 := Lib.hid (Agg.Blk.onlyQ HA7.out ho HN26.out)
     have HX5 := Lib.hid (HX7.out.trans (ho.below (B := w.heap.size) HX7.out.size (fun i hi => by subst hi; exact HG6.out)))
     have HLD := Lib.hid (HB5.out.loads (P := Tryz.prog) Tryz.underlying164 rfl (sum_info _ (digest_length l)))
     clear hbk ho
     go_wp2_with (first | (with_reducible refine wpList_loadL HLD.out rfl _ rfl rfl ?_) | ((with_reducible refine wpList_put rfl rfl 164 _ _ rfl g2 (hC (digest l)) (hC (List.replicate 32 0)) rfl rfl HA5.out (sum_info _ (digest_length l)) (by rw [hC_size, hC_size, digest_length, List.length_replicate]) (hC_one1 _) ?_); intro w8 hb8 hx8 _ _; have HB8 := Lib.hid hb8; have HX8 := Lib.hid (HX5.out.trans (hx8.mono HG2.out)); clear hb8 hx8))
     exact post_row rfl rfl HB8.out Tryz.underlying164 rfl (sum_info _ (digest_length l)) rfl ⟨rfl, HX8.out⟩
end Go.Proofs.YtdebbmembkbniaaGreat
/-! spenceref02.Fold. -/
namespace Go.Proofs.YtdebbmembkbniaaGreat
open Go.RowKit Pl Go.Agg Go.Sha
set_option maxRecDepth 100000 in
set_option maxHeartbeats 16000000 in
theorem refFold_any (s : List UInt8) (hs : s.length = 32) (w : World) : Calls Tryz.prog 84 #[.agg (hC s)] w fun e w' => e = .returned (.agg (hC (foldG s 32))) ∧ Below w.heap.size w w' := by
 go_enter Tryz.func84, Tryz.ntmps84
 go_wp2_with (first | (with_reducible refine wpList_box rfl 164 _ rfl (hC s) rfl ?_; intro g1 w1 hb hx hg; have HB1 := Lib.hid hb; have HX1 := Lib.hid hx; clear hb hx hg) | (have hq := HB2.out; clear hq; with_reducible refine wpList_zero rfl 43 rfl (hC (List.replicate 20 0)) hash_zero1 ?_; intro g3 w3 hb hx hg; have HC3 := Lib.hid hb; have HA3 := Lib.hid (HA2.out.below hx); have HB3 := Lib.hid (HB2.out.below hx); have HX3 := Lib.hid (belowThen HX2.out (Nat.le_refl _) hx); have HG3 := Lib.hid (Nat.le_trans HX2.out.size hg); have HN13 := Lib.hid (show ¬ g1 = g3 from fun e => by have := HB2.out.lt; omega); have HN23 := Lib.hid (show ¬ g2 = g3 from fun e => by have := HA2.out.lt; omega); clear hb hx hg) | (with_reducible refine wpList_zero rfl 43 rfl (hC (List.replicate 20 0)) hash_zero1 ?_; intro g2 w2 hb hx hg; have HA2 := Lib.hid hb; have HB2 := Lib.hid (HB1.out.below hx); have HX2 := Lib.hid (belowThen HX1.out (Nat.le_refl _) hx); have HG2 := Lib.hid (Nat.le_trans HX1.out.size hg); clear hb hx hg))
 go_loopw [4] (fun i wr => ∃ k : Nat, k ≤ 32 ∧ i = .int .i64 (k : Int) ∧ Blk wr g3 43 (hC (foldG s k)) ∧ Only (· = g3) w3 wr) (fun i _ => 32 - (intOf i).toNat)
 case atStart => exact ⟨0, by omega, rfl, HC3.out, Only.refl _ _⟩
 case round =>
  obtain ⟨wr1, rfl⟩ : ∃ y : World, y = wr := ⟨_, rfl⟩
  obtain ⟨k, hk, rfl, hbk, ho⟩ := hrel
  have HB1 := Lib.hid (Agg.Blk.onlyQ HB3.out ho HN13.out)
  by_cases hlt : k < 32
  ·have hd1 : decide ((k : Int) < 32) = true := by simp; omega
   obtain ⟨q, hq⟩ : ∃ q, k % 20 = q := ⟨_, rfl⟩
   have hq20 : q < 20 := by omega
   obtain ⟨c, hc⟩ : ∃ c, s[k]? = some c := ⟨_, List.getElem?_eq_getElem (by omega)⟩
   obtain ⟨d, hd_⟩ : ∃ d, (foldG s k)[q]? = some d := ⟨_, List.getElem?_eq_getElem (by rw [foldG_length]; exact hq20)⟩
   have HRM := Lib.hid (fun (o : Oper) (a : Act) (x y : Operand) (t u : TypeId) (W : World) (ho : o.op = .binOp .rem t x y u) (hx : a.eval x = .int .i64 (k : Int)) (hy : a.eval y = .int .i64 ((20 : Nat) : Int)) => (show (execOp a.eval o).run Tryz.prog W = .ok (.value (.int .i64 (q : Int))) W by have := exec_remI (P := Tryz.prog) (w := W) (m := k) (n := 20) (by decide) (by omega) ho hx hy; rwa [hq] at this))
   have HIO := Lib.hid (fun W => (show (Instr.indexAt 43 (.pointer (some ⟨g3, 0, none⟩)) (.int .i64 (q : Int))).run Tryz.prog W = .ok (.pointer (some ⟨g3, q, none⟩)) W by have := run_idxArr (P := Tryz.prog) (t := 43) (e := 5) (w := W) Tryz.underlying43 (by kernel_rfl) g3 0 q hq20; rwa [Nat.zero_add] at this))
   have HIS := Lib.hid (fun W => (show (Instr.indexAt 164 (.pointer (some ⟨g1, 0, none⟩)) (.int .i64 (k : Int))).run Tryz.prog W = .ok (.pointer (some ⟨g1, k, none⟩)) W by have := run_idxArr (P := Tryz.prog) (t := 164) (e := 5) (w := W) Tryz.underlying164 (by kernel_rfl) g1 0 k hlt; rwa [Nat.zero_add] at this))
   have HOr := Lib.hid ho
   clear ho
   go_wp2_with fail
   try simp only [Act.put, List.setIfInBounds_toArray, List.set_cons_succ, List.set_cons_zero]
   obtain ⟨wd, hwd⟩ : ∃ W, W = wr1.drew := ⟨_, rfl⟩
   have hd : Below wr1.heap.size wr1 wd := by rw [hwd]; exact (Below.refl _ _).drew
   have hbd := hbk.below hd
   have HLO := Lib.hid (hbd.one (P := Tryz.prog) q (hC_get1 _ _ _ hd_) Tryz.underlying5 rfl)
   have HLS := Lib.hid ((HB1.out.below hd).one (P := Tryz.prog) k (hC_get1 _ _ _ hc) Tryz.underlying5 rfl)
   obtain ⟨wz, hrs, hb3, ho3⟩ := Blk.run_one (P := Tryz.prog) (ty := 5) hbd q (by rw [hC_size, foldG_length]; exact hq20) (.int .u8 ((d ^^^ c).toNat : Int)) rfl rfl (by kernel_rfl) (hC (foldG s (k + 1))) (by rw [hC_setE, foldG, hq]; simp [List.getD, hc, hd_])
   have HRS := Lib.hid hrs
   have HB3 := Lib.hid hb3
   have HO3 := Lib.hid ((HOr.out.trans (Only.of_below (S := (· = g3)) hd) (fun _ _ h => h)).trans ho3 (fun _ _ h => h))
   clear hc hd_ hq hbk hbd hrs hb3 ho3
   have hT : True := trivial
   refine wp_region_held_drew (S := fun _ => True) (by kernel_rfl) (by trivial) (fun hHeld => ?_)
   rw [← hwd]
   clear hwd hd
   refine held_take 0 (.int .i64 (k : Int)) rfl (by kernel_rfl) (fun _ _ _ h => h) rfl (fun W _ => by kernel_rfl) (by assumption) ?_
   try simp only [Act.put, List.setIfInBounds_toArray, List.set_cons_succ, List.set_cons_zero]
   refine held_take 1 (.int .i64 (q : Int)) rfl (by kernel_rfl) (fun _ _ _ h => h) rfl (fun W _ => HRM.out _ _ _ _ _ _ W rfl rfl rfl) (by assumption) ?_
   try simp only [Act.put, List.setIfInBounds_toArray, List.set_cons_succ, List.set_cons_zero]
   refine held_take 2 (.int .i64 (k : Int)) rfl (by kernel_rfl) (fun _ _ _ h => h) rfl (fun W _ => by kernel_rfl) (by assumption) ?_
   try simp only [Act.put, List.setIfInBounds_toArray, List.set_cons_succ, List.set_cons_zero]
   refine held_take 3 (.int .i64 (q : Int)) rfl (by kernel_rfl) (fun _ _ _ h => h) rfl (fun W _ => HRM.out _ _ _ _ _ _ W rfl rfl rfl) (by assumption) ?_
   try simp only [Act.put, List.setIfInBounds_toArray, List.set_cons_succ, List.set_cons_zero]
   refine held_take 4 (.pointer (some ⟨g3, q, none⟩)) rfl (by kernel_rfl) (fun _ _ _ h => h) rfl (fun W _ => exec_idx rfl rfl rfl (HIO.out W)) (by assumption) ?_
   try simp only [Act.put, List.setIfInBounds_toArray, List.set_cons_succ, List.set_cons_zero]
   refine held_take 6 (.int .i64 (k : Int)) rfl (by kernel_rfl) (fun _ _ _ h => h) rfl (fun W _ => by kernel_rfl) (by assumption) ?_
   try simp only [Act.put, List.setIfInBounds_toArray, List.set_cons_succ, List.set_cons_zero]
   refine held_take 7 (.pointer (some ⟨g1, k, none⟩)) rfl (by kernel_rfl) (fun _ _ _ h => h) rfl (fun W _ => exec_idx rfl rfl rfl (HIS.out W)) (by assumption) ?_
   try simp only [Act.put, List.setIfInBounds_toArray, List.set_cons_succ, List.set_cons_zero]
   refine held_ready [5, 8] (by kernel_rfl) (by simp) ?_
   refine held_cons rfl ?_ ?_
   ·refine step_load rfl 5 _ rfl _ (.int .u8 (d.toNat : Int)) rfl HLO.out.now ?_
    refine ⟨trivial, ?_⟩
    try simp only [Act.put, List.setIfInBounds_toArray, List.set_cons_succ, List.set_cons_zero]
    refine held_one 8 rfl (by kernel_rfl) ?_
    refine step_load rfl 5 _ rfl _ (.int .u8 (c.toNat : Int)) rfl HLS.out.now ?_
    refine ⟨trivial, ?_⟩
    try simp only [Act.put, List.setIfInBounds_toArray, List.set_cons_succ, List.set_cons_zero]
    refine held_take 9 (.int .u8 ((d ^^^ c).toNat : Int)) rfl (by kernel_rfl) (fun _ _ _ h => h) rfl (fun W _ => exec_xorB (c := d) (d := c) rfl rfl rfl) (by assumption) ?_
    try simp only [Act.put, List.setIfInBounds_toArray, List.set_cons_succ, List.set_cons_zero]
    refine held_take 10 (.pointer (some ⟨g3, q, none⟩)) rfl (by kernel_rfl) (fun _ _ _ h => h) rfl (fun W _ => exec_idx rfl rfl rfl (HIO.out W)) (by assumption) ?_
    try simp only [Act.put, List.setIfInBounds_toArray, List.set_cons_succ, List.set_cons_zero]
    refine held_one 11 rfl (by kernel_rfl) ?_
    refine Agg.step_store rfl rfl 5 _ _ rfl (.pointer (some ⟨g3, q, none⟩)) (.int .u8 ((d ^^^ c).toNat : Int)) rfl rfl HRS.out ?_
    refine ⟨trivial, ?_⟩
    try simp only [Act.put, List.setIfInBounds_toArray, List.set_cons_succ, List.set_cons_zero]
    refine held_end (by kernel_rfl) ?_
    go_wp2_with fail
    go_roundw
    case rel => exact ⟨k + 1, by omega, by go_num, HB3.out, HO3.out⟩
    case measure => simp [intOf]; omega
   refine held_cons rfl ?_ ?_
   ·refine step_load rfl 5 _ rfl _ (.int .u8 (c.toNat : Int)) rfl HLS.out.now ?_
    refine ⟨trivial, ?_⟩
    try simp only [Act.put, List.setIfInBounds_toArray, List.set_cons_succ, List.set_cons_zero]
    refine held_one 5 rfl (by kernel_rfl) ?_
    refine step_load rfl 5 _ rfl _ (.int .u8 (d.toNat : Int)) rfl HLO.out.now ?_
    refine ⟨trivial, ?_⟩
    try simp only [Act.put, List.setIfInBounds_toArray, List.set_cons_succ, List.set_cons_zero]
    refine held_take 9 (.int .u8 ((d ^^^ c).toNat : Int)) rfl (by kernel_rfl) (fun _ _ _ h => h) rfl (fun W _ => exec_xorB (c := d) (d := c) rfl rfl rfl) (by assumption) ?_
    try simp only [Act.put, List.setIfInBounds_toArray, List.set_cons_succ, List.set_cons_zero]
    refine held_take 10 (.pointer (some ⟨g3, q, none⟩)) rfl (by kernel_rfl) (fun _ _ _ h => h) rfl (fun W _ => exec_idx rfl rfl rfl (HIO.out W)) (by assumption) ?_
    try simp only [Act.put, List.setIfInBounds_toArray, List.set_cons_succ, List.set_cons_zero]
    refine held_one 11 rfl (by kernel_rfl) ?_
    refine Agg.step_store rfl rfl 5 _ _ rfl (.pointer (some ⟨g3, q, none⟩)) (.int .u8 ((d ^^^ c).toNat : Int)) rfl rfl HRS.out ?_
    refine ⟨trivial, ?_⟩
    try simp only [Act.put, List.setIfInBounds_toArray, List.set_cons_succ, List.set_cons_zero]
    refine held_end (by kernel_rfl) ?_
    go_wp2_with fail
    go_roundw
    case rel => exact ⟨k + 1, by omega, by go_num, HB3.out, HO3.out⟩
    case measure => simp [intOf]; omega
   exact AllReadyH.nil
  ·obtain rfl : k = 32 := by omega
   have hd1 : decide (((32 : Nat) : Int) < 32) = false := by simp
   have HB5 := Lib.hid hbk
   have HA5 := Lib.hid (Agg.Blk.onlyQ HA3.out ho HN23.out)
   have HX5 := Lib.hid (HX3.out.trans (ho.below (B := w.heap.size) HX3.out.size (fun i hi => by subst hi; exact HG3.out)))
   have HLD5 := Lib.hid (hbk.loads (P := Tryz.prog) Tryz.underlying43 rfl (hash_info1 _ (foldG_length _ _)))
   obtain ⟨fs, hfs⟩ : ∃ q, foldG s 32 = q := ⟨_, rfl⟩
   have hfl : fs.length = 20 := by rw [← hfs]; exact foldG_length _ _
   rw [hfs] at HB5 HLD5
   have HFS := Lib.hid hfs
   clear hbk ho hfs
   go_wp2_with (first | (with_reducible refine wpList_loadL HLD5.out rfl _ rfl rfl ?_) | ((with_reducible refine wpList_put rfl rfl 43 _ _ rfl g2 (hC fs) (hC (List.replicate 20 0)) rfl rfl HA5.out (hash_info1 _ hfl) (by rw [hC_size, hC_size, hfl, List.length_replicate]) (hC_one1 _) ?_); intro w7 hb7 hx7 _ _; have HB7 := Lib.hid hb7; have HX7 := Lib.hid (HX5.out.trans (hx7.mono HG2.out)); clear hb7 hx7))
   exact post_row rfl rfl HB7.out Tryz.underlying43 rfl (hash_info1 _ hfl) rfl ⟨by rw [HFS.out], HX7.out⟩
end Go.Proofs.YtdebbmembkbniaaGreat
/-! spenceref02.Of. -/
namespace Go.Proofs.YtdebbmembkbniaaGreat
open Go.RowKit Pl Go.Agg Go.Sha
set_option maxRecDepth 100000 in
set_option maxHeartbeats 16000000 in
theorem refOf2_any (tag : List UInt8) (v : Value) (vs : List SV) (ls : List (List UInt8)) (hlen : (hashL tag ls).length < 100000000) (hvn : vs.length ≤ 100000) (w : World) (hp : PartsAt w v vs ls) :
  Calls Tryz.prog 51 #[.string ⟨tag.toArray⟩, v] w fun e w' => e = .returned (.agg (hC (sumF (hashL tag ls)))) ∧ Below w.heap.size w w' := by
 have HPT := Lib.hid hp
 have hlv := fun W => parts_len hp.row W
 have hvl := hp.len
 have hlt := str_lenH tag
 have HEN := Lib.hid (enters_of Tryz.func78 (by kernel_rfl) rfl : ∀ args w, (callFunc 78 args).run Tryz.prog w = .ok (.enter 78 args) w)
 have HT0 := Lib.hid (show (encN tag.length).length + tag.length ≤ (hashL tag ls).length by simp only [hashL, encP, List.length_append]; omega)
 have HTL := Lib.hid (show tag.length < 4398046511104 by have := HT0.out; omega)
 have HHL := Lib.hid hlen
 clear hp hlen
 go_enter Tryz.func51, Tryz.ntmps51
 go_wp2_with (first | (with_reducible refine wpList_zero rfl 43 rfl (hC (List.replicate 20 0)) hash_zero1 ?_; intro g2 w1 hb hx hg; have HA1 := Lib.hid hb; have HX1 := Lib.hid hx; have HG2 := Lib.hid hg; clear hb hx hg))
 refine (refNumber_any tag.length w1 HTL.out).mono ?_
 rintro e w2 ⟨v2, rfl, ho2, hx2⟩
 have HO2 := Lib.hid (ho2.lower HX1.out.size)
 have HA2 := Lib.hid (HA1.out.below hx2)
 have HX2 := Lib.hid (belowThen HX1.out (Nat.le_refl _) hx2)
 clear hx2 ho2
 go_wp2_with (first | (refine wpList_appendStr (base := w.heap.size) rfl _ _ rfl tag rfl rfl HO2.out (by have := HT0.out; have := HHL.out; omega) HX2.out.size ?_; intro v3 w3 ho3 hp3; have HO3 := Lib.hid (show Agg.Own EB w.heap.size w3 v3 (hashL tag (ls.take 0)) by simpa [hashL, encP] using ho3); have HA3 := Lib.hid (hp3.blk g2 43 _ _ (by show 43 ≠ 5; decide) HA2.out); have HX3 := Lib.hid (HX2.out.trans (hp3.below w.heap.size (Nat.le_refl _) HX2.out.size)); clear ho3 hp3))
 go_loopw [5, 6] (fun t i wr => ∃ k : Nat, k ≤ vs.length ∧ i = .int .i64 (k : Int) ∧ Agg.Own EB w.heap.size wr t (hashL tag (ls.take k)) ∧ Blk wr g2 43 (hC (List.replicate 20 0)) ∧ Below w.heap.size w wr) (fun _ i _ => vs.length - (intOf i).toNat)
 case atStart => exact ⟨0, by omega, rfl, HO3.out, HA3.out, HX3.out⟩
 case round =>
  obtain ⟨wr1, rfl⟩ : ∃ y : World, y = wr := ⟨_, rfl⟩
  obtain ⟨k, hk, rfl, ho, hbk, hw⟩ := hrel
  by_cases hlt : k < vs.length
  ·have hd1 : decide ((k : Int) < (vs.length : Int)) = true := by simp; omega
   obtain ⟨sv, hsv⟩ : ∃ y, vs[k]? = some y := ⟨_, List.getElem?_eq_getElem hlt⟩
   obtain ⟨b, hb⟩ : ∃ y, ls[k]? = some y := ⟨_, List.getElem?_eq_getElem (by omega)⟩
   obtain ⟨p, hadr, hld⟩ := part_at HPT.out.row k sv hsv
   have HPB := Lib.hid (HPT.out.part k sv b hsv hb).1
   have HLB := Lib.hid (fun W => bytes_len HPB.out W)
   have HTK := Lib.hid (hashL_succ tag hb)
   have HH := Lib.hid (show (hashL tag (ls.take k)).length + (encN b.length).length + b.length < 100000000 by have h1 := hashL_take tag ls (k + 1); rw [HTK.out, List.length_append, List.length_append] at h1; have := HHL.out; omega)
   have HBL := Lib.hid (show b.length < 4398046511104 by have := HH.out; omega)
   have HLD := Lib.hid hld
   have HAD := Lib.hid hadr
   obtain ⟨q, hq⟩ : ∃ q, hashL tag (ls.take k) = q := ⟨_, rfl⟩
   rw [hq] at ho HTK HH
   obtain ⟨tp, tc, rfl⟩ := ho.slice.form
   clear hsv hb hld hadr hq
   go_wp2_with fail
   try simp only [Act.put, List.setIfInBounds_toArray, List.set_cons_succ, List.set_cons_zero]
   obtain ⟨wd, hwd⟩ : ∃ W, W = wr1.drew := ⟨_, rfl⟩
   have hd : Below wr1.heap.size wr1 wd := by rw [hwd]; exact (Below.refl _ _).drew
   have HO4 := Lib.hid (ho.below hd)
   have HA4 := Lib.hid (hbk.below hd)
   have HX4 := Lib.hid (belowThen hw (Nat.le_refl _) hd)
   clear ho hbk hw
   refine wp_region_held_drew (S := fun W => Below w.heap.size w W) (by kernel_rfl) (by rw [← hwd]; exact HX4.out) (fun hHeld => ?_)
   rw [← hwd] at hHeld ⊢
   clear hwd hd
   refine held_take 0 (.slice tp q.length tc) rfl (by kernel_rfl) (fun _ _ _ h => h) rfl (fun W _ => by kernel_rfl) (by assumption) ?_
   try simp only [Act.put, List.setIfInBounds_toArray, List.set_cons_succ, List.set_cons_zero]
   refine held_take 1 (v) rfl (by kernel_rfl) (fun _ _ _ h => h) rfl (fun W _ => by kernel_rfl) (by assumption) ?_
   try simp only [Act.put, List.setIfInBounds_toArray, List.set_cons_succ, List.set_cons_zero]
   refine held_take 2 (.int .i64 (k : Int)) rfl (by kernel_rfl) (fun _ _ _ h => h) rfl (fun W _ => by kernel_rfl) (by assumption) ?_
   try simp only [Act.put, List.setIfInBounds_toArray, List.set_cons_succ, List.set_cons_zero]
   refine held_take 3 (.pointer (some p)) rfl (by kernel_rfl) (fun _ _ _ h => h) rfl (fun W _ => exec_idx rfl rfl rfl (HAD.out W)) (by assumption) ?_
   try simp only [Act.put, List.setIfInBounds_toArray, List.set_cons_succ, List.set_cons_zero]
   refine held_take 4 (sv.1) rfl (by kernel_rfl) (fun _ _ _ h => h) rfl (fun W hS => exec_loadC rfl rfl (HLD.out.below hS).now) (by assumption) ?_
   try simp only [Act.put, List.setIfInBounds_toArray, List.set_cons_succ, List.set_cons_zero]
   refine held_take 5 (.int .i64 (b.length : Int)) rfl (by kernel_rfl) (fun _ _ _ h => h) rfl (fun W _ => exec_lenC rfl rfl (HLB.out W)) (by assumption) ?_
   try simp only [Act.put, List.setIfInBounds_toArray, List.set_cons_succ, List.set_cons_zero]
   refine held_take 8 (v) rfl (by kernel_rfl) (fun _ _ _ h => h) rfl (fun W _ => by kernel_rfl) (by assumption) ?_
   try simp only [Act.put, List.setIfInBounds_toArray, List.set_cons_succ, List.set_cons_zero]
   refine held_take 9 (.int .i64 (k : Int)) rfl (by kernel_rfl) (fun _ _ _ h => h) rfl (fun W _ => by kernel_rfl) (by assumption) ?_
   try simp only [Act.put, List.setIfInBounds_toArray, List.set_cons_succ, List.set_cons_zero]
   refine held_take 10 (.pointer (some p)) rfl (by kernel_rfl) (fun _ _ _ h => h) rfl (fun W _ => exec_idx rfl rfl rfl (HAD.out W)) (by assumption) ?_
   try simp only [Act.put, List.setIfInBounds_toArray, List.set_cons_succ, List.set_cons_zero]
   refine held_take 11 (sv.1) rfl (by kernel_rfl) (fun _ _ _ h => h) rfl (fun W hS => exec_loadC rfl rfl (HLD.out.below hS).now) (by assumption) ?_
   try simp only [Act.put, List.setIfInBounds_toArray, List.set_cons_succ, List.set_cons_zero]
   refine held_one 6 rfl (by kernel_rfl) ?_
   refine step_call rfl 78 _ _ rfl #[.int .i64 (b.length : Int)] (by simp only [List.map_toArray, List.map_cons, List.map_nil]; rfl) (fun W => HEN.out _ W) ?_
   refine (refNumber_any b.length _ HBL.out).mono ?_
   rintro x w5 ⟨v5, rfl, ho5, hx5⟩
   have HV5 := Lib.hid ho5.slice
   have HO5 := Lib.hid (HO4.out.below hx5)
   have HA5 := Lib.hid (HA4.out.below hx5)
   have HX5 := Lib.hid (belowThen HX4.out (Nat.le_refl _) hx5)
   clear ho5 hx5
   refine ⟨_, rfl, ?_⟩
   refine ⟨HX5.out, ?_⟩
   try simp only [Act.put, List.setIfInBounds_toArray, List.set_cons_succ, List.set_cons_zero]
   refine held_one 7 rfl (by kernel_rfl) ?_
   refine Agg.step_appendS (E := EB) (base := w.heap.size) rfl _ _ rfl v5 rfl rfl (encN b.length) HO5.out HV5.out (by have := HH.out; omega) (by decide) HX5.out.size ?_
   intro v6 w6 ho6 hp6
   have HO6 := Lib.hid ho6
   have HA6 := Lib.hid (hp6.blk g2 43 _ _ (by show 43 ≠ 5; decide) HA5.out)
   have HX6 := Lib.hid (HX5.out.trans (hp6.below w.heap.size (Nat.le_refl _) HX5.out.size))
   clear ho6 hp6
   refine ⟨HX6.out, ?_⟩
   try simp only [Act.put, List.setIfInBounds_toArray, List.set_cons_succ, List.set_cons_zero]
   refine held_one 12 rfl (by kernel_rfl) ?_
   refine Agg.step_appendS (E := EB) (base := w.heap.size) rfl _ _ rfl sv.1 rfl rfl b HO6.out (SliceOf.below HPB.out HX6.out) (by have := HH.out; rw [List.length_append]; omega) (by decide) HX6.out.size ?_
   intro v7 w7 ho7 hp7
   have HO7 := Lib.hid ho7
   have HA7 := Lib.hid (hp7.blk g2 43 _ _ (by show 43 ≠ 5; decide) HA6.out)
   have HX7 := Lib.hid (HX6.out.trans (hp7.below w.heap.size (Nat.le_refl _) HX6.out.size))
   clear ho7 hp7
   refine ⟨HX7.out, ?_⟩
   try simp only [Act.put, List.setIfInBounds_toArray, List.set_cons_succ, List.set_cons_zero]
   refine held_take 13 (v7) rfl (by kernel_rfl) (fun _ _ _ h => h) rfl (fun W _ => by kernel_rfl) (by assumption) ?_
   try simp only [Act.put, List.setIfInBounds_toArray, List.set_cons_succ, List.set_cons_zero]
   refine held_end (by kernel_rfl) ?_
   go_wp2_with fail
   go_roundw
   case rel => exact ⟨k + 1, by omega, by go_num, by rw [HTK.out]; exact HO7.out, HA7.out, HX7.out⟩
   case measure => simp [intOf]; omega
  ·obtain rfl : k = vs.length := by omega
   have hd1 : decide ((vs.length : Int) < (vs.length : Int)) = false := by simp
   obtain ⟨q, hq⟩ : ∃ q, hashL tag ls = q := ⟨_, rfl⟩
   rw [List.take_of_length_le (by omega), hq] at ho
   rw [hq] at HHL
   have HQ := Lib.hid hq
   have HO := Lib.hid ho
   have HBK := Lib.hid hbk
   have HW := Lib.hid hw
   clear ho hbk hw hq
   go_wp2_with fail
   refine (refDigest_any _ q (by have := HHL.out; omega) wr1 HO.out.slice).mono ?_
   rintro e w6 ⟨rfl, hx6⟩
   obtain ⟨dg, hdg⟩ : ∃ d, digest q = d := ⟨_, rfl⟩
   have hdl : dg.length = 32 := by rw [← hdg]; exact digest_length _
   have HDG := Lib.hid hdg
   have HA6 := Lib.hid (HBK.out.below hx6)
   have HW6 := Lib.hid (belowThen HW.out (Nat.le_refl _) hx6)
   rw [hdg]
   clear hx6 hdg
   go_wp2_with fail
   refine (refFold_any dg hdl w6).mono ?_
   rintro e w7 ⟨rfl, hx7⟩
   have HA7 := Lib.hid (HA6.out.below hx7)
   have HW7 := Lib.hid (belowThen HW6.out (Nat.le_refl _) hx7)
   obtain ⟨fs, hfs⟩ : ∃ q, foldG dg 32 = q := ⟨_, rfl⟩
   have hfl : fs.length = 20 := by rw [← hfs]; exact foldG_length _ _
   have HFS := Lib.hid (show fs = sumF (hashL tag ls) by rw [← hfs, sumF, HQ.out, HDG.out])
   rw [hfs]
   clear hx7 hfs
   go_wp2_with (first | ((with_reducible refine wpList_put rfl rfl 43 _ _ rfl g2 (hC fs) (hC (List.replicate 20 0)) rfl rfl HA7.out (hash_info1 _ hfl) (by rw [hC_size, hC_size, hfl, List.length_replicate]) (hC_one1 _) ?_); intro w8 hb8 hx8 _ _; have HB8 := Lib.hid hb8; have HX8 := Lib.hid (HW7.out.trans (hx8.mono HG2.out)); clear hb8 hx8))
   exact post_row rfl rfl HB8.out Tryz.underlying43 rfl (hash_info1 _ hfl) rfl ⟨by rw [HFS.out], HX8.out⟩
end Go.Proofs.YtdebbmembkbniaaGreat
