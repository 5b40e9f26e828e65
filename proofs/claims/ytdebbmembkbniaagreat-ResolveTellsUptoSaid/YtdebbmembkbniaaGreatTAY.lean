/- hash.spread: a block's sixteen words, and those made of them. (Several texts in one.) -/
import Derived.Test.YtdebbmembkbniaaGreatTAF
import Derived.Test.YtdebbmembkbniaaGreatTAU
import Derived.Test.YtdebbmembkbniaaGreatTAD
import Derived.Shelf.Abstract
/-! hash.mixed, rounds, first; bits.RotateLeft32. -/
namespace Go.Proofs.YtdebbmembkbniaaGreat
open Go.RowKit Pl Go.Agg Go.Sha
section
variable {o : Oper} {a : Act} {w : World} {x y : Operand}
theorem exec_cvU (k : Nat) (h1 : 1 ≤ k) (h2 : k ≤ 31) (ho : o.op = .convert 3 153 x) (hx : a.eval x = .int .i64 (-(k : Int))) : (execOp a.eval o).run Tryz.prog w = .ok (.value (.int .u64 (18446744073709551616 - (k : Int)))) w := by
 have hc : (convert 3 153 (.int .i64 (-(k : Int)))).run Tryz.prog w = .ok (.int .u64 (18446744073709551616 - (k : Int))) w := by
  simp [convert]
  simp [Conv.intToInt, IntKind.wrap, IntKind.signed, IntKind.bits]
  omega
 simp [execOp, ho, hx, hc]
theorem andU31 : ∀ k : Fin 32, 1 ≤ k.1 → IntKind.u64.wrap (((BitVec.ofInt 64 (18446744073709551616 - (k.1 : Int)) &&& BitVec.ofInt 64 31).toNat : Nat) : Int) = ((32 - k.1 : Nat) : Int) := by decide
theorem exec_andU {t u : TypeId} (k : Nat) (h1 : 1 ≤ k) (h2 : k ≤ 31) (ho : o.op = .binOp .and t x y u) (hx : a.eval x = .int .u64 (18446744073709551616 - (k : Int))) (hy : a.eval y = .int .u64 31) : (execOp a.eval o).run Tryz.prog w = .ok (.value (.int .u64 ((32 - k : Nat) : Int))) w := by
 have hc : (binOp .and t (.int .u64 (18446744073709551616 - (k : Int))) (.int .u64 31)).run Tryz.prog w = .ok (.int .u64 ((32 - k : Nat) : Int)) w := by
  simp only [binOp, Op.intBits]
  exact congrArg (fun n => Result.ok (Value.int .u64 n) w) (andU31 ⟨k, by omega⟩ h1)
 simp only [execOp, ho, hx, hy]
 simp [eqGuard, hc]
theorem exec_subU {t u : TypeId} (k : Nat) (h1 : 1 ≤ k) (h2 : k ≤ 31) (ho : o.op = .binOp .sub t x y u) (hx : a.eval x = .int .u64 32) (hy : a.eval y = .int .u64 ((32 - k : Nat) : Int)) : (execOp a.eval o).run Tryz.prog w = .ok (.value (.int .u64 (k : Int))) w := by
 have hc : (binOp .sub t (.int .u64 32) (.int .u64 ((32 - k : Nat) : Int))).run Tryz.prog w = .ok (.int .u64 (k : Int)) w := by
  simp only [binOp, Op.intArith]
  refine congrArg (fun n => Result.ok (Value.int .u64 n) w) ?_
  simp only [IntKind.wrap, IntKind.signed, IntKind.bits, Bool.false_and, Bool.false_eq_true, if_false]
  omega
 simp only [execOp, ho, hx, hy]
 simp [eqGuard, hc]
theorem exec_cvW {c : UInt8} (ho : o.op = .convert 5 204 x) (hx : a.eval x = .int .u8 (c.toNat : Int)) : (execOp a.eval o).run Tryz.prog w = .ok (.value (vW (wB c))) w := by
 have h := c.toNat_lt
 have hc : (convert 5 204 (.int .u8 (c.toNat : Int))).run Tryz.prog w = .ok (vW (wB c)) w := by
  rw [vW, wB_toNat]
  simp [convert]
  simp [Conv.intToInt, IntKind.wrap, IntKind.signed, IntKind.bits]
  omega
 simp [execOp, ho, hx, hc]
end
set_option maxRecDepth 100000 in
set_option maxHeartbeats 1000000 in
theorem rotl_any (x : W) (k : Nat) (h1 : 1 ≤ k) (h2 : k ≤ 31) (w : World) : Calls Tryz.prog 187 #[vW x, .int .i64 (-(k : Int))] w fun e w' => e = .returned (vW (rot x k)) ∧ Below w.heap.size w w' := by
 have HR := Lib.hid (show (x <<< (32 - k)) ||| (x >>> k) = rot x k by rw [rot, BitVec.or_comm])
 have H1 := Lib.hid (show 32 - k < 32 by omega)
 have H2 := Lib.hid (show k < 32 by omega)
 go_enter Tryz.func187, Tryz.ntmps187
 go_wp2_with (first | (refine wpList_valw rfl (exec_cvU k h1 h2 rfl rfl) ?_) | (refine wpList_valw rfl (exec_andU k h1 h2 rfl rfl rfl) ?_) | (refine wpList_valw rfl (exec_subU k h1 h2 rfl rfl rfl) ?_) | (refine wpList_valw rfl (exec_shlW (x := x) (32 - k) H1.out rfl rfl rfl) ?_) | (refine wpList_valw rfl (exec_shrW (x := x) k H2.out rfl rfl rfl) ?_) | (refine wpList_valw rfl (exec_orW (x := x <<< (32 - k)) (y := x >>> k) rfl rfl rfl) ?_; rw [HR.out]))
 go_ret
 exact ⟨rfl, Below.refl _ _⟩
theorem mix_take (x : W) {ks : List Nat} {j k : Nat} (h : ks[j]? = some k) : mixP x (ks.take (j + 1)) = mixP x (ks.take j) ^^^ rot x k := by rw [List.take_add_one, h]; exact mixP_snoc _ _ _
set_option maxRecDepth 100000 in
set_option maxHeartbeats 2000000 in
theorem mixed_any (x : W) (v : Value) (ks : List Nat) (hk : ∀ k ∈ ks, 1 ≤ k ∧ k ≤ 31) (hn : ks.length ≤ 1000) (w : World) (hs : SliceOf EI w v ks) : Calls Tryz.prog 185 #[vW x, v] w fun e w' => e = .returned (vW (mixP x ks)) ∧ Below w.heap.size w w' := by
 have HS := Lib.hid hs
 have HK := Lib.hid hk
 have hlv := fun W => ints_len hs W
 have HZ := Lib.hid (show Value.int .u32 0 = vW (mixP x (ks.take 0)) from rfl)
 clear hs hk
 go_enter Tryz.func185, Tryz.ntmps185
 go_wp2_with fail
 go_loopw [4, 9] (fun o i wr => ∃ j : Nat, j ≤ ks.length ∧ i = .int .i64 (j : Int) ∧ o = vW (mixP x (ks.take j)) ∧ Below w.heap.size w wr) (fun _ i _ => ks.length - (intOf i).toNat)
 case atStart => exact ⟨0, by omega, rfl, HZ.out, Below.refl _ _⟩
 case round =>
  obtain ⟨wr1, rfl⟩ : ∃ y : World, y = wr := ⟨_, rfl⟩
  obtain ⟨j, hj, rfl, rfl, hw⟩ := hrel
  have HW := Lib.hid hw
  clear hw
  by_cases hlt : j < ks.length
  ·have hd : decide ((j : Int) < (ks.length : Int)) = true := by simp; omega
   obtain ⟨k, hkj⟩ : ∃ k, ks[j]? = some k := ⟨_, List.getElem?_eq_getElem hlt⟩
   obtain ⟨q, hadr, hq⟩ := int_at (SliceOf.below HS.out HW.out) j k hkj
   have HQ := Lib.hid hq
   have HT := Lib.hid (mix_take x hkj)
   obtain ⟨h1, h2⟩ := HK.out k (List.mem_of_getElem? hkj)
   clear hq hkj
   obtain ⟨m, hm⟩ : ∃ m, mixP x (ks.take j) = m := ⟨_, rfl⟩
   rw [hm] at HT ⊢
   clear hm
   go_wp2_with (first | (with_reducible refine wpList_loadL HQ.out rfl _ rfl rfl ?_))
   refine (rotl_any x k h1 h2 wr1).mono ?_
   rintro e w2 ⟨rfl, hx2⟩
   have HW2 := Lib.hid (belowThen HW.out (Nat.le_refl _) hx2)
   clear hx2
   go_wp2_with (first | (refine wpList_valw rfl (exec_xorW (x := m) (y := rot x k) rfl rfl rfl) ?_))
   go_roundw
   case rel => exact ⟨j + 1, by omega, by go_num, by rw [HT.out], HW2.out⟩
   case measure => simp [intOf]; omega
  ·obtain rfl : j = ks.length := by omega
   rw [List.take_length]
   go_wp2_with fail
   go_ret
   exact ⟨rfl, HW.out⟩
def wC (l : List W) : Array Value := (l.map vW).toArray
theorem wC_size (l : List W) : (wC l).size = l.length := by simp [wC]
theorem wC_one (l : List W) : (wC l).all (·.oneCell') = true := by
 rw [Array.all_eq_true_iff_forall_mem]
 intro v hv
 simp only [wC, List.mem_toArray, List.mem_map] at hv
 obtain ⟨x, _, rfl⟩ := hv
 rfl
theorem wC_get (l : List W) (i : Nat) (x : W) (h : l[i]? = some x) : (wC l)[i]? = some (vW x) := by simp [wC, h]
theorem wC_set (l : List W) (i : Nat) (x : W) : (wC l).setIfInBounds i (vW x) = wC (l.set i x) := by simp [wC, List.map_set]
theorem w64_zero : (Tryz.prog.info? 279).map (·.zero) = some (some (.agg (wC (List.replicate 64 0)))) := by kernel_rfl
theorem w64_info (l : List W) (h : l.length = 64) : (Tryz.prog.info? 279).map (·.size) = some (wC l).size := by rw [wC_size, h]; kernel_rfl
theorem w8_zero : (Tryz.prog.info? 273).map (·.zero) = some (some (.agg (wC (List.replicate 8 0)))) := by kernel_rfl
theorem w8_info (l : List W) (h : l.length = 8) : (Tryz.prog.info? 273).map (·.size) = some (wC l).size := by rw [wC_size, h]; kernel_rfl
set_option maxRecDepth 100000 in
set_option maxHeartbeats 2000000 in
theorem rounds_any (w : World) : Calls Tryz.prog 183 #[] w fun e w' => e = .returned (.agg (wC ks)) ∧ Below w.heap.size w w' := by
 go_enter Tryz.func183, Tryz.ntmps183
 go_wp2_with (first | (with_reducible refine wpList_zero rfl 279 rfl (wC (List.replicate 64 0)) w64_zero ?_; intro g1 w1 hb1 hx1 hg1; have HB1 := Lib.hid hb1; have HX1 := Lib.hid hx1; have HG1 := Lib.hid hg1; clear hb1 hx1 hg1) | ((with_reducible refine wpList_put rfl rfl 279 _ _ rfl g1 (wC ks) (wC (List.replicate 64 0)) rfl rfl HB1.out (w64_info _ ks_length) rfl (wC_one _) ?_); intro w2 hb2 hx2 _ _; have HB2 := Lib.hid hb2; have HX2 := Lib.hid (HX1.out.trans (hx2.mono HG1.out)); clear hb2 hx2) | (refine wpList_valw rfl (v := .agg (wC ks)) (by kernel_rfl) ?_))
 exact post_row rfl rfl HB2.out Tryz.underlying279 rfl (w64_info _ ks_length) rfl ⟨rfl, HX2.out⟩
set_option maxRecDepth 100000 in
set_option maxHeartbeats 2000000 in
theorem first_any (w : World) : Calls Tryz.prog 155 #[] w fun e w' => e = .returned (.agg (wC Sha.first.list)) ∧ Below w.heap.size w w' := by
 go_enter Tryz.func155, Tryz.ntmps155
 go_wp2_with (first | (with_reducible refine wpList_zero rfl 273 rfl (wC (List.replicate 8 0)) w8_zero ?_; intro g1 w1 hb1 hx1 hg1; have HB1 := Lib.hid hb1; have HX1 := Lib.hid hx1; have HG1 := Lib.hid hg1; clear hb1 hx1 hg1) | ((with_reducible refine wpList_put rfl rfl 273 _ _ rfl g1 (wC Sha.first.list) (wC (List.replicate 8 0)) rfl rfl HB1.out (w8_info _ rfl) rfl (wC_one _) ?_); intro w2 hb2 hx2 _ _; have HB2 := Lib.hid hb2; have HX2 := Lib.hid (HX1.out.trans (hx2.mono HG1.out)); clear hb2 hx2) | (refine wpList_valw rfl (v := .agg (wC Sha.first.list)) (by kernel_rfl) ?_))
 exact post_row rfl rfl HB2.out Tryz.underlying273 rfl (w8_info _ rfl) rfl ⟨rfl, HX2.out⟩
end Go.Proofs.YtdebbmembkbniaaGreat
/-! hash.spread: a block's sixteen words, and those made of them. -/
namespace Go.Agg
open Go.RowKit
theorem step_slice2 {P : Program} {α : Type} {E : Elem P α} {ops : Array Oper} {o : Oper} {a : Act} {w : World} {Q : Exit → Act → World → Prop} {K : Act → World → Prop} {F : Prop} (hg : o.guard = none) (x y : Operand) (ho : o.op = .buildSlice E.st 2 #[(0, x), (1, y)]) (vx vy : α) (hx : a.eval x = E.val vx) (hy : a.eval y = E.val vy)
  (h : ∀ v' w', SliceOf E w' v' [vx, vy] → Below w.heap.size w w' → K (a.put o.dst v') w') : if Region.wanted o (yielded ops a.tmps) = true then o.wp P a w K Q else F :=
 step_val hg (v := .slice (some ⟨w.heap.size, 0, none⟩) 2 2) (w' := w.alloc (.cells ((E.val vx).cells ++ (E.val vy).cells) E.ty)) (by simp [execOp, ho, hx, hy, run_slice_two])
  (h _ _ (slice_of_block2 (Blk.new w E.ty _)) ((Below.refl _ _).alloc (Nat.le_refl _) _))
end Go.Agg
namespace Go.Proofs.YtdebbmembkbniaaGreat
open Go.RowKit Pl Go.Agg Go.Sha
def BytesIn (w : World) (g o : Nat) (bs : List UInt8) : Prop := ∀ (i : Nat) (c : UInt8), bs[i]? = some c → LoadsL Tryz.prog w 5 (some ⟨g, o + i, none⟩) (.int .u8 (c.toNat : Int))
theorem BytesIn.below {w w' : World} {g o : Nat} {bs : List UInt8} (h : BytesIn w g o bs) (hb : Below w.heap.size w w') : BytesIn w' g o bs := fun i c hc => (h i c hc).below hb
theorem set_mid {α : Type} (l : List α) (x z : α) (n : Nat) : (l ++ List.replicate (n + 1) z).set l.length x = (l ++ [x]) ++ List.replicate n z := by
 rw [List.set_append_right _ _ (Nat.le_refl _), Nat.sub_self, List.replicate_succ, List.set_cons_zero, List.append_assoc]; rfl
theorem words_set (bs : List UInt8) (k : Nat) (hk : k < 64) (x : W) (hx : words bs (k + 1) = words bs k ++ [x]) : (words bs k ++ List.replicate (64 - k) 0).set k x = words bs (k + 1) ++ List.replicate (64 - (k + 1)) 0 := by
 have := set_mid (words bs k) x 0 (64 - (k + 1))
 rw [words_length, show 64 - (k + 1) + 1 = 64 - k by omega, ← hx] at this
 exact this
theorem words_lo {bs : List UInt8} {k : Nat} (h : k < 16) : words bs (k + 1) = words bs k ++ [word bs (4 * k)] := by rw [words]; simp [h]
theorem words_hi {bs : List UInt8} {k : Nat} (h : ¬ k < 16) : words bs (k + 1) = words bs k ++ [nextW (words bs k)] := by rw [words]; simp [h]
theorem words_at {bs : List UInt8} {k i : Nat} (_hk : k ≤ 64) (hi : i < k) : (words bs k ++ List.replicate (64 - k) 0)[i]? = some ((words bs k).getD i 0) := by
 rw [List.getElem?_append_left (by rw [words_length]; exact hi), List.getElem?_eq_getElem (by rw [words_length]; exact hi)]
 simp [List.getD, List.getElem?_eq_getElem (show i < (words bs k).length by rw [words_length]; exact hi)]
def SprS (g k : Nat) (w7 w16 : W) (u : World) : Prop := ∃ L : List W, Blk u g 279 (wC L) ∧ L[k - 7]? = some w7 ∧ L[k - 16]? = some w16
theorem SprS.l7 {g k : Nat} {w7 w16 : W} {u : World} (h : SprS g k w7 w16 u) : LoadsL Tryz.prog u 204 (some ⟨g, k - 7, none⟩) (vW w7) := by
 obtain ⟨L, hB, h7, h16⟩ := h
 exact hB.one (P := Tryz.prog) (k - 7) (wC_get _ _ _ h7) Tryz.underlying204 rfl
theorem SprS.l16 {g k : Nat} {w7 w16 : W} {u : World} (h : SprS g k w7 w16 u) : LoadsL Tryz.prog u 204 (some ⟨g, k - 16, none⟩) (vW w16) := by
 obtain ⟨L, hB, h7, h16⟩ := h
 exact hB.one (P := Tryz.prog) (k - 16) (wC_get _ _ _ h16) Tryz.underlying204 rfl
set_option maxRecDepth 100000 in
set_option maxHeartbeats 16000000 in
theorem spread_any (gb ob : Nat) (bs : List UInt8) (hbs : bs.length = 64) (w : World) (hb : BytesIn w gb ob bs) : Calls Tryz.prog 184 #[.pointer (some ⟨gb, ob, none⟩)] w fun e w' => e = .returned (.agg (wC (words bs 64))) ∧ Below w.heap.size w w' := by
 have HIB := Lib.hid (fun (i : Nat) (h : i < 64) W => run_idxArr (P := Tryz.prog) (t := 275) (e := 5) (w := W) Tryz.underlying275 (by kernel_rfl) gb ob i h)
 have HEM := Lib.hid (enters_of Tryz.func185 (by kernel_rfl) rfl : ∀ args w, (callFunc 185 args).run Tryz.prog w = .ok (.enter 185 args) w)
 have HSB := Lib.hid (fun W (k : Below w.heap.size w W) => hb.below k)
 clear hb
 go_enter Tryz.func184, Tryz.ntmps184
 go_wp2_with (first | (with_reducible refine wpList_zero rfl 279 rfl (wC (List.replicate 64 0)) w64_zero ?_; intro g2 w2 hb2 hx2 hg2; have HB2 := Lib.hid hb2; have HX2 := Lib.hid hx2; have HG2 := Lib.hid hg2; clear hb2 hx2 hg2))
 have HIG := Lib.hid (fun (i : Nat) (h : i < 64) W => (show (Instr.indexAt 279 (.pointer (some ⟨g2, 0, none⟩)) (.int .i64 (i : Int))).run Tryz.prog W = .ok (.pointer (some ⟨g2, i, none⟩)) W by have := run_idxArr (P := Tryz.prog) (t := 279) (e := 204) (w := W) Tryz.underlying279 (by kernel_rfl) g2 0 i h; rwa [Nat.zero_add] at this))
 go_loopw [7] (fun i wr => ∃ k : Nat, k ≤ 64 ∧ i = .int .i64 (k : Int) ∧ Blk wr g2 279 (wC (words bs k ++ List.replicate (64 - k) 0)) ∧ Below w.heap.size w wr) (fun i _ => 64 - (intOf i).toNat)
 case atStart => exact ⟨0, by omega, rfl, HB2.out, HX2.out⟩
 case round =>
  obtain ⟨wr1, rfl⟩ : ∃ y : World, y = wr := ⟨_, rfl⟩
  obtain ⟨k, hk, rfl, hb, hw⟩ := hrel
  have HB := Lib.hid hb
  have HW := Lib.hid hw
  clear hb hw
  by_cases hlt : k < 64
  ·have hd1 : decide ((k : Int) < 64) = true := by simp; omega
   by_cases h16 : k < 16
   ·have hd2 : decide ((k : Int) < 16) = true := by simp; omega
    obtain ⟨c0, hc0⟩ : ∃ c, bs[4 * k]? = some c := ⟨_, List.getElem?_eq_getElem (by omega)⟩
    obtain ⟨c1, hc1⟩ : ∃ c, bs[4 * k + 1]? = some c := ⟨_, List.getElem?_eq_getElem (by omega)⟩
    obtain ⟨c2, hc2⟩ : ∃ c, bs[4 * k + 2]? = some c := ⟨_, List.getElem?_eq_getElem (by omega)⟩
    obtain ⟨c3, hc3⟩ : ∃ c, bs[4 * k + 3]? = some c := ⟨_, List.getElem?_eq_getElem (by omega)⟩
    have HWD := Lib.hid (show (((wB c0 <<< 24) ||| (wB c1 <<< 16)) ||| (wB c2 <<< 8)) ||| wB c3 = word bs (4 * k) by rw [word_or]; simp [word, List.getD, hc0, hc1, hc2, hc3])
    have HNX := Lib.hid (words_set bs k hlt _ (words_lo h16))
    have HC0 := Lib.hid hc0
    have HC1 := Lib.hid hc1
    have HC2 := Lib.hid hc2
    have HC3 := Lib.hid hc3
    clear hc0 hc1 hc2 hc3
    go_wp2_with (first | (refine wpList_valw rfl (exec_mulI (m := 4) (n := k) (by omega) rfl rfl rfl) ?_))
    try simp only [List.append_eq, List.cons_append, List.nil_append]
    try simp only [Act.put, List.setIfInBounds_toArray, List.set_cons_succ, List.set_cons_zero]
    obtain ⟨w_d, hwd⟩ : ∃ W, W = wr1.drew := ⟨_, rfl⟩
    have hd : Below wr1.heap.size wr1 w_d := by rw [hwd]; exact (Below.refl _ _).drew
    have K_d := Lib.hid (belowThen HW.out (Nat.le_refl _) hd)
    have HB_d := Lib.hid (HB.out.below hd)
    have S_d := Lib.hid (HSB.out w_d K_d.out)
    refine wp_region_held_drew (S := fun W => BytesIn W gb ob bs) (by kernel_rfl) (by rw [← hwd]; exact S_d.out) (fun hHeld => ?_)
    rw [← hwd] at hHeld ⊢
    clear hwd hd hHeld
    refine held_take 0 (.int .i64 ((k : Nat) : Int)) rfl (by kernel_rfl) (fun _ _ _ h => h) rfl (fun W _ => by kernel_rfl) (by assumption) ?_
    try simp only [Act.put, List.setIfInBounds_toArray, List.set_cons_succ, List.set_cons_zero]
    refine held_take 1 (.pointer (some ⟨gb, ob, none⟩)) rfl (by kernel_rfl) (fun _ _ _ h => h) rfl (fun W _ => by kernel_rfl) (by assumption) ?_
    try simp only [Act.put, List.setIfInBounds_toArray, List.set_cons_succ, List.set_cons_zero]
    refine held_take 2 (.int .i64 ((4 * k : Nat) : Int)) rfl (by kernel_rfl) (fun _ _ _ h => h) rfl (fun W _ => by kernel_rfl) (by assumption) ?_
    try simp only [Act.put, List.setIfInBounds_toArray, List.set_cons_succ, List.set_cons_zero]
    refine held_take 3 (.pointer (some ⟨gb, ob, none⟩)) rfl (by kernel_rfl) (fun _ _ _ h => h) rfl (fun W _ => by kernel_rfl) (by assumption) ?_
    try simp only [Act.put, List.setIfInBounds_toArray, List.set_cons_succ, List.set_cons_zero]
    refine held_take 4 (.pointer (some ⟨gb, ob + (4 * k), none⟩)) rfl (by kernel_rfl) (fun _ _ _ h => h) rfl (fun W _ => exec_idx rfl rfl rfl (HIB.out (4 * k) (by omega) W)) (by assumption) ?_
    try simp only [Act.put, List.setIfInBounds_toArray, List.set_cons_succ, List.set_cons_zero]
    refine held_take 5 (.int .u8 (c0.toNat : Int)) rfl (by kernel_rfl) (fun _ _ _ h => h) rfl (fun W hS => exec_loadB rfl rfl (hS _ _ HC0.out).now) (by assumption) ?_
    try simp only [Act.put, List.setIfInBounds_toArray, List.set_cons_succ, List.set_cons_zero]
    refine held_take 6 (vW (wB c0)) rfl (by kernel_rfl) (fun _ _ _ h => h) rfl (fun W _ => exec_cvW rfl rfl) (by assumption) ?_
    try simp only [Act.put, List.setIfInBounds_toArray, List.set_cons_succ, List.set_cons_zero]
    refine held_take 7 (vW (wB c0 <<< 24)) rfl (by kernel_rfl) (fun _ _ _ h => h) rfl (fun W _ => exec_shlW (x := wB c0) 24 (by decide) rfl rfl rfl) (by assumption) ?_
    try simp only [Act.put, List.setIfInBounds_toArray, List.set_cons_succ, List.set_cons_zero]
    refine held_take 8 (.pointer (some ⟨gb, ob, none⟩)) rfl (by kernel_rfl) (fun _ _ _ h => h) rfl (fun W _ => by kernel_rfl) (by assumption) ?_
    try simp only [Act.put, List.setIfInBounds_toArray, List.set_cons_succ, List.set_cons_zero]
    refine held_take 9 (.int .i64 ((4 * k : Nat) : Int)) rfl (by kernel_rfl) (fun _ _ _ h => h) rfl (fun W _ => by kernel_rfl) (by assumption) ?_
    try simp only [Act.put, List.setIfInBounds_toArray, List.set_cons_succ, List.set_cons_zero]
    refine held_take 10 (.int .i64 ((4 * k + 1 : Nat) : Int)) rfl (by kernel_rfl) (fun _ _ _ h => h) rfl (fun W _ => exec_addI (m := 4 * k) (n := 1) (by omega) rfl rfl rfl) (by assumption) ?_
    try simp only [Act.put, List.setIfInBounds_toArray, List.set_cons_succ, List.set_cons_zero]
    refine held_take 11 (.pointer (some ⟨gb, ob, none⟩)) rfl (by kernel_rfl) (fun _ _ _ h => h) rfl (fun W _ => by kernel_rfl) (by assumption) ?_
    try simp only [Act.put, List.setIfInBounds_toArray, List.set_cons_succ, List.set_cons_zero]
    refine held_take 12 (.pointer (some ⟨gb, ob + (4 * k + 1), none⟩)) rfl (by kernel_rfl) (fun _ _ _ h => h) rfl (fun W _ => exec_idx rfl rfl rfl (HIB.out (4 * k + 1) (by omega) W)) (by assumption) ?_
    try simp only [Act.put, List.setIfInBounds_toArray, List.set_cons_succ, List.set_cons_zero]
    refine held_take 13 (.int .u8 (c1.toNat : Int)) rfl (by kernel_rfl) (fun _ _ _ h => h) rfl (fun W hS => exec_loadB rfl rfl (hS _ _ HC1.out).now) (by assumption) ?_
    try simp only [Act.put, List.setIfInBounds_toArray, List.set_cons_succ, List.set_cons_zero]
    refine held_take 14 (vW (wB c1)) rfl (by kernel_rfl) (fun _ _ _ h => h) rfl (fun W _ => exec_cvW rfl rfl) (by assumption) ?_
    try simp only [Act.put, List.setIfInBounds_toArray, List.set_cons_succ, List.set_cons_zero]
    refine held_take 15 (vW (wB c1 <<< 16)) rfl (by kernel_rfl) (fun _ _ _ h => h) rfl (fun W _ => exec_shlW (x := wB c1) 16 (by decide) rfl rfl rfl) (by assumption) ?_
    try simp only [Act.put, List.setIfInBounds_toArray, List.set_cons_succ, List.set_cons_zero]
    refine held_take 16 (vW ((wB c0 <<< 24) ||| (wB c1 <<< 16))) rfl (by kernel_rfl) (fun _ _ _ h => h) rfl (fun W _ => exec_orW (x := wB c0 <<< 24) (y := wB c1 <<< 16) rfl rfl rfl) (by assumption) ?_
    try simp only [Act.put, List.setIfInBounds_toArray, List.set_cons_succ, List.set_cons_zero]
    refine held_take 17 (.pointer (some ⟨gb, ob, none⟩)) rfl (by kernel_rfl) (fun _ _ _ h => h) rfl (fun W _ => by kernel_rfl) (by assumption) ?_
    try simp only [Act.put, List.setIfInBounds_toArray, List.set_cons_succ, List.set_cons_zero]
    refine held_take 18 (.int .i64 ((4 * k : Nat) : Int)) rfl (by kernel_rfl) (fun _ _ _ h => h) rfl (fun W _ => by kernel_rfl) (by assumption) ?_
    try simp only [Act.put, List.setIfInBounds_toArray, List.set_cons_succ, List.set_cons_zero]
    refine held_take 19 (.int .i64 ((4 * k + 2 : Nat) : Int)) rfl (by kernel_rfl) (fun _ _ _ h => h) rfl (fun W _ => exec_addI (m := 4 * k) (n := 2) (by omega) rfl rfl rfl) (by assumption) ?_
    try simp only [Act.put, List.setIfInBounds_toArray, List.set_cons_succ, List.set_cons_zero]
    refine held_take 20 (.pointer (some ⟨gb, ob, none⟩)) rfl (by kernel_rfl) (fun _ _ _ h => h) rfl (fun W _ => by kernel_rfl) (by assumption) ?_
    try simp only [Act.put, List.setIfInBounds_toArray, List.set_cons_succ, List.set_cons_zero]
    refine held_take 21 (.pointer (some ⟨gb, ob + (4 * k + 2), none⟩)) rfl (by kernel_rfl) (fun _ _ _ h => h) rfl (fun W _ => exec_idx rfl rfl rfl (HIB.out (4 * k + 2) (by omega) W)) (by assumption) ?_
    try simp only [Act.put, List.setIfInBounds_toArray, List.set_cons_succ, List.set_cons_zero]
    refine held_take 22 (.int .u8 (c2.toNat : Int)) rfl (by kernel_rfl) (fun _ _ _ h => h) rfl (fun W hS => exec_loadB rfl rfl (hS _ _ HC2.out).now) (by assumption) ?_
    try simp only [Act.put, List.setIfInBounds_toArray, List.set_cons_succ, List.set_cons_zero]
    refine held_take 23 (vW (wB c2)) rfl (by kernel_rfl) (fun _ _ _ h => h) rfl (fun W _ => exec_cvW rfl rfl) (by assumption) ?_
    try simp only [Act.put, List.setIfInBounds_toArray, List.set_cons_succ, List.set_cons_zero]
    refine held_take 24 (vW (wB c2 <<< 8)) rfl (by kernel_rfl) (fun _ _ _ h => h) rfl (fun W _ => exec_shlW (x := wB c2) 8 (by decide) rfl rfl rfl) (by assumption) ?_
    try simp only [Act.put, List.setIfInBounds_toArray, List.set_cons_succ, List.set_cons_zero]
    refine held_take 25 (vW (((wB c0 <<< 24) ||| (wB c1 <<< 16)) ||| (wB c2 <<< 8))) rfl (by kernel_rfl) (fun _ _ _ h => h) rfl (fun W _ => exec_orW (x := (wB c0 <<< 24) ||| (wB c1 <<< 16)) (y := wB c2 <<< 8) rfl rfl rfl) (by assumption) ?_
    try simp only [Act.put, List.setIfInBounds_toArray, List.set_cons_succ, List.set_cons_zero]
    refine held_take 26 (.pointer (some ⟨gb, ob, none⟩)) rfl (by kernel_rfl) (fun _ _ _ h => h) rfl (fun W _ => by kernel_rfl) (by assumption) ?_
    try simp only [Act.put, List.setIfInBounds_toArray, List.set_cons_succ, List.set_cons_zero]
    refine held_take 27 (.int .i64 ((4 * k : Nat) : Int)) rfl (by kernel_rfl) (fun _ _ _ h => h) rfl (fun W _ => by kernel_rfl) (by assumption) ?_
    try simp only [Act.put, List.setIfInBounds_toArray, List.set_cons_succ, List.set_cons_zero]
    refine held_take 28 (.int .i64 ((4 * k + 3 : Nat) : Int)) rfl (by kernel_rfl) (fun _ _ _ h => h) rfl (fun W _ => exec_addI (m := 4 * k) (n := 3) (by omega) rfl rfl rfl) (by assumption) ?_
    try simp only [Act.put, List.setIfInBounds_toArray, List.set_cons_succ, List.set_cons_zero]
    refine held_take 29 (.pointer (some ⟨gb, ob, none⟩)) rfl (by kernel_rfl) (fun _ _ _ h => h) rfl (fun W _ => by kernel_rfl) (by assumption) ?_
    try simp only [Act.put, List.setIfInBounds_toArray, List.set_cons_succ, List.set_cons_zero]
    refine held_take 30 (.pointer (some ⟨gb, ob + (4 * k + 3), none⟩)) rfl (by kernel_rfl) (fun _ _ _ h => h) rfl (fun W _ => exec_idx rfl rfl rfl (HIB.out (4 * k + 3) (by omega) W)) (by assumption) ?_
    try simp only [Act.put, List.setIfInBounds_toArray, List.set_cons_succ, List.set_cons_zero]
    refine held_take 31 (.int .u8 (c3.toNat : Int)) rfl (by kernel_rfl) (fun _ _ _ h => h) rfl (fun W hS => exec_loadB rfl rfl (hS _ _ HC3.out).now) (by assumption) ?_
    try simp only [Act.put, List.setIfInBounds_toArray, List.set_cons_succ, List.set_cons_zero]
    refine held_take 32 (vW (wB c3)) rfl (by kernel_rfl) (fun _ _ _ h => h) rfl (fun W _ => exec_cvW rfl rfl) (by assumption) ?_
    try simp only [Act.put, List.setIfInBounds_toArray, List.set_cons_succ, List.set_cons_zero]
    refine held_take 33 (vW (word bs (4 * k))) rfl (by kernel_rfl) (fun _ _ _ h => h) rfl (fun W _ => by rw [← HWD.out]; exact exec_orW (x := ((wB c0 <<< 24) ||| (wB c1 <<< 16)) ||| (wB c2 <<< 8)) (y := wB c3) rfl rfl rfl) (by assumption) ?_
    try simp only [Act.put, List.setIfInBounds_toArray, List.set_cons_succ, List.set_cons_zero]
    refine held_take 34 (.pointer (some ⟨g2, k, none⟩)) rfl (by kernel_rfl) (fun _ _ _ h => h) rfl (fun W _ => exec_idx rfl rfl rfl (HIG.out k (by omega) W)) (by assumption) ?_
    try simp only [Act.put, List.setIfInBounds_toArray, List.set_cons_succ, List.set_cons_zero]
    refine held_one 35 rfl (by kernel_rfl) ?_
    obtain ⟨w_d_35, hrun, hb, ho⟩ := Blk.run_one (P := Tryz.prog) (ty := 204) HB_d.out k (by rw [wC_size]; simp [words_length]; omega) (vW (word bs (4 * k))) rfl rfl (by kernel_rfl) (wC (words bs (k + 1) ++ List.replicate (64 - (k + 1)) 0)) (by rw [wC_set, HNX.out])
    refine Agg.step_store rfl rfl 204 _ _ rfl (.pointer (some ⟨g2, k, none⟩)) (vW (word bs (4 * k))) rfl rfl hrun ?_
    have K_d_35 := Lib.hid (K_d.out.trans (ho.below (B := w.heap.size) K_d.out.size (fun i hi => by subst hi; exact HG2.out)))
    have B_d_35 := Lib.hid hb
    have S_d_35 := Lib.hid (HSB.out w_d_35 K_d_35.out)
    clear hrun hb ho
    refine ⟨S_d_35.out, ?_⟩
    try simp only [Act.put, List.setIfInBounds_toArray, List.set_cons_succ, List.set_cons_zero]
    refine held_end (by kernel_rfl) ?_
    go_wp2_with fail
    go_roundw
    case rel => exact ⟨k + 1, by omega, by go_num, B_d_35.out, K_d_35.out⟩
    case measure => simp [intOf]; omega
   ·have hd2 : decide ((k : Int) < 16) = false := by simp; omega
    obtain ⟨w2, hw2⟩ : ∃ x, (words bs k).getD (k - 2) 0 = x := ⟨_, rfl⟩
    obtain ⟨w7, hw7⟩ : ∃ x, (words bs k).getD (k - 7) 0 = x := ⟨_, rfl⟩
    obtain ⟨w15, hw15⟩ : ∃ x, (words bs k).getD (k - 15) 0 = x := ⟨_, rfl⟩
    obtain ⟨w16, hw16⟩ : ∃ x, (words bs k).getD (k - 16) 0 = x := ⟨_, rfl⟩
    have Hw2 := Lib.hid (show (words bs k ++ List.replicate (64 - k) 0)[k - 2]? = some w2 by rw [words_at hk (by omega), hw2])
    have Hw7 := Lib.hid (show (words bs k ++ List.replicate (64 - k) 0)[k - 7]? = some w7 by rw [words_at hk (by omega), hw7])
    have Hw15 := Lib.hid (show (words bs k ++ List.replicate (64 - k) 0)[k - 15]? = some w15 by rw [words_at hk (by omega), hw15])
    have Hw16 := Lib.hid (show (words bs k ++ List.replicate (64 - k) 0)[k - 16]? = some w16 by rw [words_at hk (by omega), hw16])
    have HNW := Lib.hid (show (mixP w2 [17, 19] ^^^ (w2 >>> 10)) + w7 + (mixP w15 [7, 18] ^^^ (w15 >>> 3)) + w16 = nextW (words bs k) by rw [mix_t1, mix_t0, nextW, words_length, hw2, hw7, hw15, hw16])
    have HNX := Lib.hid (words_set bs k hlt _ (words_hi h16))
    clear hw2 hw7 hw15 hw16
    go_wp2_with fail
    try simp only [List.append_eq, List.cons_append, List.nil_append]
    try simp only [Act.put, List.setIfInBounds_toArray, List.set_cons_succ, List.set_cons_zero]
    obtain ⟨w_d, hwd⟩ : ∃ W, W = wr1.drew := ⟨_, rfl⟩
    have hd : Below wr1.heap.size wr1 w_d := by rw [hwd]; exact (Below.refl _ _).drew
    have K_d := Lib.hid (belowThen HW.out (Nat.le_refl _) hd)
    have HB_d := Lib.hid (HB.out.below hd)
    have S_d := Lib.hid (HSB.out w_d K_d.out)
    refine wp_region_held_drew (S := fun W => Blk W g2 279 (wC (words bs k ++ List.replicate (64 - k) 0))) (by kernel_rfl) (by rw [← hwd]; exact HB_d.out) (fun hHeld => ?_)
    rw [← hwd] at hHeld ⊢
    clear hwd hd hHeld
    refine held_take 0 (.int .i64 ((k : Nat) : Int)) rfl (by kernel_rfl) (fun _ _ _ h => h) rfl (fun W _ => by kernel_rfl) (by assumption) ?_
    try simp only [Act.put, List.setIfInBounds_toArray, List.set_cons_succ, List.set_cons_zero]
    refine held_take 1 (.int .i64 ((k - 2 : Nat) : Int)) rfl (by kernel_rfl) (fun _ _ _ h => h) rfl (fun W _ => exec_subI (m := k) (n := 2) (by omega) (by omega) rfl rfl rfl) (by assumption) ?_
    try simp only [Act.put, List.setIfInBounds_toArray, List.set_cons_succ, List.set_cons_zero]
    refine held_take 2 (.pointer (some ⟨g2, k - 2, none⟩)) rfl (by kernel_rfl) (fun _ _ _ h => h) rfl (fun W _ => exec_idx rfl rfl rfl (HIG.out (k - 2) (by omega) W)) (by assumption) ?_
    try simp only [Act.put, List.setIfInBounds_toArray, List.set_cons_succ, List.set_cons_zero]
    refine held_take 3 (vW w2) rfl (by kernel_rfl) (fun _ _ _ h => h) rfl (fun W hS => exec_loadB rfl rfl (hS.one (P := Tryz.prog) (ty := 204) (k - 2) (wC_get _ _ _ Hw2.out) Tryz.underlying204 rfl).now) (by assumption) ?_
    try simp only [Act.put, List.setIfInBounds_toArray, List.set_cons_succ, List.set_cons_zero]
    refine held_take 4 (.int .i64 ((k : Nat) : Int)) rfl (by kernel_rfl) (fun _ _ _ h => h) rfl (fun W _ => by kernel_rfl) (by assumption) ?_
    try simp only [Act.put, List.setIfInBounds_toArray, List.set_cons_succ, List.set_cons_zero]
    refine held_take 5 (.int .i64 ((k - 15 : Nat) : Int)) rfl (by kernel_rfl) (fun _ _ _ h => h) rfl (fun W _ => exec_subI (m := k) (n := 15) (by omega) (by omega) rfl rfl rfl) (by assumption) ?_
    try simp only [Act.put, List.setIfInBounds_toArray, List.set_cons_succ, List.set_cons_zero]
    refine held_take 6 (.pointer (some ⟨g2, k - 15, none⟩)) rfl (by kernel_rfl) (fun _ _ _ h => h) rfl (fun W _ => exec_idx rfl rfl rfl (HIG.out (k - 15) (by omega) W)) (by assumption) ?_
    try simp only [Act.put, List.setIfInBounds_toArray, List.set_cons_succ, List.set_cons_zero]
    refine held_take 7 (vW w15) rfl (by kernel_rfl) (fun _ _ _ h => h) rfl (fun W hS => exec_loadB rfl rfl (hS.one (P := Tryz.prog) (ty := 204) (k - 15) (wC_get _ _ _ Hw15.out) Tryz.underlying204 rfl).now) (by assumption) ?_
    try simp only [Act.put, List.setIfInBounds_toArray, List.set_cons_succ, List.set_cons_zero]
    refine held_take 8 (vW w2) rfl (by kernel_rfl) (fun _ _ _ h => h) rfl (fun W _ => by kernel_rfl) (by assumption) ?_
    try simp only [Act.put, List.setIfInBounds_toArray, List.set_cons_succ, List.set_cons_zero]
    refine held_take 9 (vW w15) rfl (by kernel_rfl) (fun _ _ _ h => h) rfl (fun W _ => by kernel_rfl) (by assumption) ?_
    try simp only [Act.put, List.setIfInBounds_toArray, List.set_cons_succ, List.set_cons_zero]
    refine held_end (by kernel_rfl) ?_
    go_wp2_with fail
    try simp only [List.append_eq, List.cons_append, List.nil_append]
    try simp only [Act.put, List.setIfInBounds_toArray, List.set_cons_succ, List.set_cons_zero]
    obtain ⟨w_e, hwd⟩ : ∃ W, W = w_d.drew := ⟨_, rfl⟩
    have hd : Below w_d.heap.size w_d w_e := by rw [hwd]; exact (Below.refl _ _).drew
    have K_e := Lib.hid (belowThen K_d.out (Nat.le_refl _) hd)
    have G_e := Lib.hid (HB_d.out.below hd)
    have S_e := Lib.hid (⟨_, G_e.out, Hw7.out, Hw16.out⟩ : SprS g2 k w7 w16 w_e)
    refine wp_region_held_drew (S := SprS g2 k w7 w16) (by kernel_rfl) (by rw [← hwd]; exact S_e.out) (fun hHeld => ?_)
    rw [← hwd] at hHeld ⊢
    clear hwd hd hHeld
    refine held_take 0 (.int .i64 ((k : Nat) : Int)) rfl (by kernel_rfl) (fun _ _ _ h => h) rfl (fun W _ => by kernel_rfl) (by assumption) ?_
    try simp only [Act.put, List.setIfInBounds_toArray, List.set_cons_succ, List.set_cons_zero]
    refine held_take 1 (vW w2) rfl (by kernel_rfl) (fun _ _ _ h => h) rfl (fun W _ => by kernel_rfl) (by assumption) ?_
    try simp only [Act.put, List.setIfInBounds_toArray, List.set_cons_succ, List.set_cons_zero]
    refine held_take 4 (vW w2) rfl (by kernel_rfl) (fun _ _ _ h => h) rfl (fun W _ => by kernel_rfl) (by assumption) ?_
    try simp only [Act.put, List.setIfInBounds_toArray, List.set_cons_succ, List.set_cons_zero]
    refine held_take 5 (vW (w2 >>> 10)) rfl (by kernel_rfl) (fun _ _ _ h => h) rfl (fun W _ => exec_shrW (x := w2) 10 (by decide) rfl rfl rfl) (by assumption) ?_
    try simp only [Act.put, List.setIfInBounds_toArray, List.set_cons_succ, List.set_cons_zero]
    refine held_take 7 (.int .i64 ((k : Nat) : Int)) rfl (by kernel_rfl) (fun _ _ _ h => h) rfl (fun W _ => by kernel_rfl) (by assumption) ?_
    try simp only [Act.put, List.setIfInBounds_toArray, List.set_cons_succ, List.set_cons_zero]
    refine held_take 8 (.int .i64 ((k - 7 : Nat) : Int)) rfl (by kernel_rfl) (fun _ _ _ h => h) rfl (fun W _ => exec_subI (m := k) (n := 7) (by omega) (by omega) rfl rfl rfl) (by assumption) ?_
    try simp only [Act.put, List.setIfInBounds_toArray, List.set_cons_succ, List.set_cons_zero]
    refine held_take 9 (.pointer (some ⟨g2, k - 7, none⟩)) rfl (by kernel_rfl) (fun _ _ _ h => h) rfl (fun W _ => exec_idx rfl rfl rfl (HIG.out (k - 7) (by omega) W)) (by assumption) ?_
    try simp only [Act.put, List.setIfInBounds_toArray, List.set_cons_succ, List.set_cons_zero]
    refine held_take 10 (vW w7) rfl (by kernel_rfl) (fun _ _ _ h => h) rfl (fun u hS => exec_loadB rfl rfl hS.l7.now) (by assumption) ?_
    try simp only [Act.put, List.setIfInBounds_toArray, List.set_cons_succ, List.set_cons_zero]
    refine held_take 12 (vW w15) rfl (by kernel_rfl) (fun _ _ _ h => h) rfl (fun W _ => by kernel_rfl) (by assumption) ?_
    try simp only [Act.put, List.setIfInBounds_toArray, List.set_cons_succ, List.set_cons_zero]
    refine held_take 15 (vW w15) rfl (by kernel_rfl) (fun _ _ _ h => h) rfl (fun W _ => by kernel_rfl) (by assumption) ?_
    try simp only [Act.put, List.setIfInBounds_toArray, List.set_cons_succ, List.set_cons_zero]
    refine held_take 16 (vW (w15 >>> 3)) rfl (by kernel_rfl) (fun _ _ _ h => h) rfl (fun W _ => exec_shrW (x := w15) 3 (by decide) rfl rfl rfl) (by assumption) ?_
    try simp only [Act.put, List.setIfInBounds_toArray, List.set_cons_succ, List.set_cons_zero]
    refine held_take 19 (.int .i64 ((k : Nat) : Int)) rfl (by kernel_rfl) (fun _ _ _ h => h) rfl (fun W _ => by kernel_rfl) (by assumption) ?_
    try simp only [Act.put, List.setIfInBounds_toArray, List.set_cons_succ, List.set_cons_zero]
    refine held_take 20 (.int .i64 ((k - 16 : Nat) : Int)) rfl (by kernel_rfl) (fun _ _ _ h => h) rfl (fun W _ => exec_subI (m := k) (n := 16) (by omega) (by omega) rfl rfl rfl) (by assumption) ?_
    try simp only [Act.put, List.setIfInBounds_toArray, List.set_cons_succ, List.set_cons_zero]
    refine held_take 21 (.pointer (some ⟨g2, k - 16, none⟩)) rfl (by kernel_rfl) (fun _ _ _ h => h) rfl (fun W _ => exec_idx rfl rfl rfl (HIG.out (k - 16) (by omega) W)) (by assumption) ?_
    try simp only [Act.put, List.setIfInBounds_toArray, List.set_cons_succ, List.set_cons_zero]
    refine held_take 22 (vW w16) rfl (by kernel_rfl) (fun _ _ _ h => h) rfl (fun u hS => exec_loadB rfl rfl hS.l16.now) (by assumption) ?_
    try simp only [Act.put, List.setIfInBounds_toArray, List.set_cons_succ, List.set_cons_zero]
    refine held_ready [2, 13] (by kernel_rfl) (by simp) ?_
    refine held_cons rfl ?_ ?_
    ·refine Agg.step_slice2 (E := EI) rfl _ _ rfl 17 19 rfl rfl ?_
     intro va w_e_2 hs hx
     have K_e_2 := Lib.hid (belowThen K_e.out (Nat.le_refl _) hx)
     have G_e_2 := Lib.hid (G_e.out.below hx)
     have Vva_e_2 := Lib.hid hs
     clear hs hx
     have S_e_2 := Lib.hid (⟨_, G_e_2.out, Hw7.out, Hw16.out⟩ : SprS g2 k w7 w16 w_e_2)
     refine ⟨S_e_2.out, ?_⟩
     try simp only [Act.put, List.setIfInBounds_toArray, List.set_cons_succ, List.set_cons_zero]
     refine held_ready [3, 13] (by kernel_rfl) (by simp) ?_
     refine held_cons rfl ?_ ?_
     ·refine step_call rfl 185 _ _ rfl #[vW w2, va] (by simp only [List.map_toArray, List.map_cons, List.map_nil]; rfl) (fun W => HEM.out _ W) ?_
      refine (mixed_any w2 va [17, 19] (by decide) (by decide) w_e_2 Vva_e_2.out).mono ?_
      rintro e Zbt ⟨rfl, hx⟩
      have Zbv := Lib.hid (belowThen K_e_2.out (Nat.le_refl _) hx)
      have Zbd := Lib.hid (G_e_2.out.below hx)
      clear hx
      have Zbu := Lib.hid (⟨_, Zbd.out, Hw7.out, Hw16.out⟩ : SprS g2 k w7 w16 Zbt)
      refine ⟨_, rfl, Zbu.out, ?_⟩
      try simp only [Act.put, List.setIfInBounds_toArray, List.set_cons_succ, List.set_cons_zero]
      refine held_take 6 (vW (mixP w2 [17, 19] ^^^ (w2 >>> 10))) rfl (by kernel_rfl) (fun _ _ _ h => h) rfl (fun W _ => exec_xorW rfl rfl rfl) (by assumption) ?_
      try simp only [Act.put, List.setIfInBounds_toArray, List.set_cons_succ, List.set_cons_zero]
      refine held_take 11 (vW ((mixP w2 [17, 19] ^^^ (w2 >>> 10)) + w7)) rfl (by kernel_rfl) (fun _ _ _ h => h) rfl (fun W _ => exec_addW rfl rfl rfl) (by assumption) ?_
      try simp only [Act.put, List.setIfInBounds_toArray, List.set_cons_succ, List.set_cons_zero]
      refine held_one 13 rfl (by kernel_rfl) ?_
      refine Agg.step_slice2 (E := EI) rfl _ _ rfl 7 18 rfl rfl ?_
      intro vb Zu hs hx
      have Zbi := Lib.hid (belowThen Zbv.out (Nat.le_refl _) hx)
      have Zz := Lib.hid (Zbd.out.below hx)
      have Z9 := Lib.hid hs
      clear hs hx
      have Zbg := Lib.hid (⟨_, Zz.out, Hw7.out, Hw16.out⟩ : SprS g2 k w7 w16 Zu)
      refine ⟨Zbg.out, ?_⟩
      try simp only [Act.put, List.setIfInBounds_toArray, List.set_cons_succ, List.set_cons_zero]
      refine held_one 14 rfl (by kernel_rfl) ?_
      refine step_call rfl 185 _ _ rfl #[vW w15, vb] (by simp only [List.map_toArray, List.map_cons, List.map_nil]; rfl) (fun W => HEM.out _ W) ?_
      refine (mixed_any w15 vb [7, 18] (by decide) (by decide) Zu Z9.out).mono ?_
      rintro e Z1 ⟨rfl, hx⟩
      have Zc := Lib.hid (belowThen Zbi.out (Nat.le_refl _) hx)
      have Za := Lib.hid (Zz.out.below hx)
      clear hx
      have Z0 := Lib.hid (⟨_, Za.out, Hw7.out, Hw16.out⟩ : SprS g2 k w7 w16 Z1)
      refine ⟨_, rfl, Z0.out, ?_⟩
      try simp only [Act.put, List.setIfInBounds_toArray, List.set_cons_succ, List.set_cons_zero]
      refine held_take 17 (vW (mixP w15 [7, 18] ^^^ (w15 >>> 3))) rfl (by kernel_rfl) (fun _ _ _ h => h) rfl (fun W _ => exec_xorW rfl rfl rfl) (by assumption) ?_
      try simp only [Act.put, List.setIfInBounds_toArray, List.set_cons_succ, List.set_cons_zero]
      refine held_take 18 (vW ((mixP w2 [17, 19] ^^^ (w2 >>> 10)) + w7 + (mixP w15 [7, 18] ^^^ (w15 >>> 3)))) rfl (by kernel_rfl) (fun _ _ _ h => h) rfl (fun W _ => exec_addW rfl rfl rfl) (by assumption) ?_
      try simp only [Act.put, List.setIfInBounds_toArray, List.set_cons_succ, List.set_cons_zero]
      refine held_take 23 (vW (nextW (words bs k))) rfl (by kernel_rfl) (fun _ _ _ h => h) rfl (fun W _ => by rw [← HNW.out]; exact exec_addW rfl rfl rfl) (by assumption) ?_
      try simp only [Act.put, List.setIfInBounds_toArray, List.set_cons_succ, List.set_cons_zero]
      refine held_take 24 (.pointer (some ⟨g2, k, none⟩)) rfl (by kernel_rfl) (fun _ _ _ h => h) rfl (fun W _ => exec_idx rfl rfl rfl (HIG.out k (by omega) W)) (by assumption) ?_
      try simp only [Act.put, List.setIfInBounds_toArray, List.set_cons_succ, List.set_cons_zero]
      refine held_one 25 rfl (by kernel_rfl) ?_
      obtain ⟨Zi, hrun, hb, ho⟩ := Blk.run_one (P := Tryz.prog) (ty := 204) Za.out k (by rw [wC_size]; simp [words_length]; omega) (vW (nextW (words bs k))) rfl rfl (by kernel_rfl) (wC (words bs (k + 1) ++ List.replicate (64 - (k + 1)) 0)) (by rw [wC_set, HNX.out])
      refine Agg.step_store rfl rfl 204 _ _ rfl (.pointer (some ⟨g2, k, none⟩)) (vW (nextW (words bs k))) rfl rfl hrun ?_
      have Zh := Lib.hid (Zc.out.trans (ho.below (B := w.heap.size) Zc.out.size (fun i hi => by subst hi; exact HG2.out)))
      have Zm := Lib.hid hb
      have Zr := Lib.hid (⟨_, hb, by rw [← HNX.out, List.getElem?_set_ne (by omega)]; exact Hw7.out, by rw [← HNX.out, List.getElem?_set_ne (by omega)]; exact Hw16.out⟩ : SprS g2 k w7 w16 Zi)
      clear hrun hb ho
      refine ⟨Zr.out, ?_⟩
      try simp only [Act.put, List.setIfInBounds_toArray, List.set_cons_succ, List.set_cons_zero]
      refine held_end (by kernel_rfl) ?_
      go_wp2_with fail
      go_roundw
      case rel => exact ⟨k + 1, by omega, by go_num, Zm.out, Zh.out⟩
      case measure => simp [intOf]; omega
     refine held_cons rfl ?_ ?_
     ·refine Agg.step_slice2 (E := EI) rfl _ _ rfl 7 18 rfl rfl ?_
      intro vb Zba hs hx
      have Zbq := Lib.hid (belowThen K_e_2.out (Nat.le_refl _) hx)
      have Z6 := Lib.hid (G_e_2.out.below hx)
      have Zbo := Lib.hid (Vva_e_2.out.below hx)
      have Zbk := Lib.hid hs
      clear hs hx
      have Zbr := Lib.hid (⟨_, Z6.out, Hw7.out, Hw16.out⟩ : SprS g2 k w7 w16 Zba)
      refine ⟨Zbr.out, ?_⟩
      try simp only [Act.put, List.setIfInBounds_toArray, List.set_cons_succ, List.set_cons_zero]
      refine held_one 3 rfl (by kernel_rfl) ?_
      refine step_call rfl 185 _ _ rfl #[vW w2, va] (by simp only [List.map_toArray, List.map_cons, List.map_nil]; rfl) (fun W => HEM.out _ W) ?_
      refine (mixed_any w2 va [17, 19] (by decide) (by decide) Zba Zbo.out).mono ?_
      rintro e Zy ⟨rfl, hx⟩
      have Zbj := Lib.hid (belowThen Zbq.out (Nat.le_refl _) hx)
      have Zv := Lib.hid (Z6.out.below hx)
      have Z7 := Lib.hid (Zbk.out.below hx)
      clear hx
      have Zbm := Lib.hid (⟨_, Zv.out, Hw7.out, Hw16.out⟩ : SprS g2 k w7 w16 Zy)
      refine ⟨_, rfl, Zbm.out, ?_⟩
      try simp only [Act.put, List.setIfInBounds_toArray, List.set_cons_succ, List.set_cons_zero]
      refine held_take 6 (vW (mixP w2 [17, 19] ^^^ (w2 >>> 10))) rfl (by kernel_rfl) (fun _ _ _ h => h) rfl (fun W _ => exec_xorW rfl rfl rfl) (by assumption) ?_
      try simp only [Act.put, List.setIfInBounds_toArray, List.set_cons_succ, List.set_cons_zero]
      refine held_take 11 (vW ((mixP w2 [17, 19] ^^^ (w2 >>> 10)) + w7)) rfl (by kernel_rfl) (fun _ _ _ h => h) rfl (fun W _ => exec_addW rfl rfl rfl) (by assumption) ?_
      try simp only [Act.put, List.setIfInBounds_toArray, List.set_cons_succ, List.set_cons_zero]
      refine held_one 14 rfl (by kernel_rfl) ?_
      refine step_call rfl 185 _ _ rfl #[vW w15, vb] (by simp only [List.map_toArray, List.map_cons, List.map_nil]; rfl) (fun W => HEM.out _ W) ?_
      refine (mixed_any w15 vb [7, 18] (by decide) (by decide) Zy Z7.out).mono ?_
      rintro e Z2 ⟨rfl, hx⟩
      have Zb := Lib.hid (belowThen Zbj.out (Nat.le_refl _) hx)
      have Zf := Lib.hid (Zv.out.below hx)
      clear hx
      have Z4 := Lib.hid (⟨_, Zf.out, Hw7.out, Hw16.out⟩ : SprS g2 k w7 w16 Z2)
      refine ⟨_, rfl, Z4.out, ?_⟩
      try simp only [Act.put, List.setIfInBounds_toArray, List.set_cons_succ, List.set_cons_zero]
      refine held_take 17 (vW (mixP w15 [7, 18] ^^^ (w15 >>> 3))) rfl (by kernel_rfl) (fun _ _ _ h => h) rfl (fun W _ => exec_xorW rfl rfl rfl) (by assumption) ?_
      try simp only [Act.put, List.setIfInBounds_toArray, List.set_cons_succ, List.set_cons_zero]
      refine held_take 18 (vW ((mixP w2 [17, 19] ^^^ (w2 >>> 10)) + w7 + (mixP w15 [7, 18] ^^^ (w15 >>> 3)))) rfl (by kernel_rfl) (fun _ _ _ h => h) rfl (fun W _ => exec_addW rfl rfl rfl) (by assumption) ?_
      try simp only [Act.put, List.setIfInBounds_toArray, List.set_cons_succ, List.set_cons_zero]
      refine held_take 23 (vW (nextW (words bs k))) rfl (by kernel_rfl) (fun _ _ _ h => h) rfl (fun W _ => by rw [← HNW.out]; exact exec_addW rfl rfl rfl) (by assumption) ?_
      try simp only [Act.put, List.setIfInBounds_toArray, List.set_cons_succ, List.set_cons_zero]
      refine held_take 24 (.pointer (some ⟨g2, k, none⟩)) rfl (by kernel_rfl) (fun _ _ _ h => h) rfl (fun W _ => exec_idx rfl rfl rfl (HIG.out k (by omega) W)) (by assumption) ?_
      try simp only [Act.put, List.setIfInBounds_toArray, List.set_cons_succ, List.set_cons_zero]
      refine held_one 25 rfl (by kernel_rfl) ?_
      obtain ⟨Zj, hrun, hb, ho⟩ := Blk.run_one (P := Tryz.prog) (ty := 204) Zf.out k (by rw [wC_size]; simp [words_length]; omega) (vW (nextW (words bs k))) rfl rfl (by kernel_rfl) (wC (words bs (k + 1) ++ List.replicate (64 - (k + 1)) 0)) (by rw [wC_set, HNX.out])
      refine Agg.step_store rfl rfl 204 _ _ rfl (.pointer (some ⟨g2, k, none⟩)) (vW (nextW (words bs k))) rfl rfl hrun ?_
      have Zk := Lib.hid (Zb.out.trans (ho.below (B := w.heap.size) Zb.out.size (fun i hi => by subst hi; exact HG2.out)))
      have Zs := Lib.hid hb
      have Zo := Lib.hid (⟨_, hb, by rw [← HNX.out, List.getElem?_set_ne (by omega)]; exact Hw7.out, by rw [← HNX.out, List.getElem?_set_ne (by omega)]; exact Hw16.out⟩ : SprS g2 k w7 w16 Zj)
      clear hrun hb ho
      refine ⟨Zo.out, ?_⟩
      try simp only [Act.put, List.setIfInBounds_toArray, List.set_cons_succ, List.set_cons_zero]
      refine held_end (by kernel_rfl) ?_
      go_wp2_with fail
      go_roundw
      case rel => exact ⟨k + 1, by omega, by go_num, Zs.out, Zk.out⟩
      case measure => simp [intOf]; omega
     exact AllReadyH.nil
    refine held_cons rfl ?_ ?_
    ·refine Agg.step_slice2 (E := EI) rfl _ _ rfl 7 18 rfl rfl ?_
     intro vb w_e_13 hs hx
     have K_e_13 := Lib.hid (belowThen K_e.out (Nat.le_refl _) hx)
     have G_e_13 := Lib.hid (G_e.out.below hx)
     have Vvb_e_13 := Lib.hid hs
     clear hs hx
     have S_e_13 := Lib.hid (⟨_, G_e_13.out, Hw7.out, Hw16.out⟩ : SprS g2 k w7 w16 w_e_13)
     refine ⟨S_e_13.out, ?_⟩
     try simp only [Act.put, List.setIfInBounds_toArray, List.set_cons_succ, List.set_cons_zero]
     refine held_one 2 rfl (by kernel_rfl) ?_
     refine Agg.step_slice2 (E := EI) rfl _ _ rfl 17 19 rfl rfl ?_
     intro va Z8 hs hx
     have Zbs := Lib.hid (belowThen K_e_13.out (Nat.le_refl _) hx)
     have Zbc := Lib.hid (G_e_13.out.below hx)
     have Zbh := Lib.hid hs
     have Zbn := Lib.hid (Vvb_e_13.out.below hx)
     clear hs hx
     have Zbp := Lib.hid (⟨_, Zbc.out, Hw7.out, Hw16.out⟩ : SprS g2 k w7 w16 Z8)
     refine ⟨Zbp.out, ?_⟩
     try simp only [Act.put, List.setIfInBounds_toArray, List.set_cons_succ, List.set_cons_zero]
     refine held_one 3 rfl (by kernel_rfl) ?_
     refine step_call rfl 185 _ _ rfl #[vW w2, va] (by simp only [List.map_toArray, List.map_cons, List.map_nil]; rfl) (fun W => HEM.out _ W) ?_
     refine (mixed_any w2 va [17, 19] (by decide) (by decide) Z8 Zbh.out).mono ?_
     rintro e Zt ⟨rfl, hx⟩
     have Zbe := Lib.hid (belowThen Zbs.out (Nat.le_refl _) hx)
     have Zx := Lib.hid (Zbc.out.below hx)
     have Zbb := Lib.hid (Zbn.out.below hx)
     clear hx
     have Zbf := Lib.hid (⟨_, Zx.out, Hw7.out, Hw16.out⟩ : SprS g2 k w7 w16 Zt)
     refine ⟨_, rfl, Zbf.out, ?_⟩
     try simp only [Act.put, List.setIfInBounds_toArray, List.set_cons_succ, List.set_cons_zero]
     refine held_take 6 (vW (mixP w2 [17, 19] ^^^ (w2 >>> 10))) rfl (by kernel_rfl) (fun _ _ _ h => h) rfl (fun W _ => exec_xorW rfl rfl rfl) (by assumption) ?_
     try simp only [Act.put, List.setIfInBounds_toArray, List.set_cons_succ, List.set_cons_zero]
     refine held_take 11 (vW ((mixP w2 [17, 19] ^^^ (w2 >>> 10)) + w7)) rfl (by kernel_rfl) (fun _ _ _ h => h) rfl (fun W _ => exec_addW rfl rfl rfl) (by assumption) ?_
     try simp only [Act.put, List.setIfInBounds_toArray, List.set_cons_succ, List.set_cons_zero]
     refine held_one 14 rfl (by kernel_rfl) ?_
     refine step_call rfl 185 _ _ rfl #[vW w15, vb] (by simp only [List.map_toArray, List.map_cons, List.map_nil]; rfl) (fun W => HEM.out _ W) ?_
     refine (mixed_any w15 vb [7, 18] (by decide) (by decide) Zt Zbb.out).mono ?_
     rintro e Z3 ⟨rfl, hx⟩
     have Ze := Lib.hid (belowThen Zbe.out (Nat.le_refl _) hx)
     have Zd := Lib.hid (Zx.out.below hx)
     clear hx
     have Z5 := Lib.hid (⟨_, Zd.out, Hw7.out, Hw16.out⟩ : SprS g2 k w7 w16 Z3)
     refine ⟨_, rfl, Z5.out, ?_⟩
     try simp only [Act.put, List.setIfInBounds_toArray, List.set_cons_succ, List.set_cons_zero]
     refine held_take 17 (vW (mixP w15 [7, 18] ^^^ (w15 >>> 3))) rfl (by kernel_rfl) (fun _ _ _ h => h) rfl (fun W _ => exec_xorW rfl rfl rfl) (by assumption) ?_
     try simp only [Act.put, List.setIfInBounds_toArray, List.set_cons_succ, List.set_cons_zero]
     refine held_take 18 (vW ((mixP w2 [17, 19] ^^^ (w2 >>> 10)) + w7 + (mixP w15 [7, 18] ^^^ (w15 >>> 3)))) rfl (by kernel_rfl) (fun _ _ _ h => h) rfl (fun W _ => exec_addW rfl rfl rfl) (by assumption) ?_
     try simp only [Act.put, List.setIfInBounds_toArray, List.set_cons_succ, List.set_cons_zero]
     refine held_take 23 (vW (nextW (words bs k))) rfl (by kernel_rfl) (fun _ _ _ h => h) rfl (fun W _ => by rw [← HNW.out]; exact exec_addW rfl rfl rfl) (by assumption) ?_
     try simp only [Act.put, List.setIfInBounds_toArray, List.set_cons_succ, List.set_cons_zero]
     refine held_take 24 (.pointer (some ⟨g2, k, none⟩)) rfl (by kernel_rfl) (fun _ _ _ h => h) rfl (fun W _ => exec_idx rfl rfl rfl (HIG.out k (by omega) W)) (by assumption) ?_
     try simp only [Act.put, List.setIfInBounds_toArray, List.set_cons_succ, List.set_cons_zero]
     refine held_one 25 rfl (by kernel_rfl) ?_
     obtain ⟨Zp, hrun, hb, ho⟩ := Blk.run_one (P := Tryz.prog) (ty := 204) Zd.out k (by rw [wC_size]; simp [words_length]; omega) (vW (nextW (words bs k))) rfl rfl (by kernel_rfl) (wC (words bs (k + 1) ++ List.replicate (64 - (k + 1)) 0)) (by rw [wC_set, HNX.out])
     refine Agg.step_store rfl rfl 204 _ _ rfl (.pointer (some ⟨g2, k, none⟩)) (vW (nextW (words bs k))) rfl rfl hrun ?_
     have Zg := Lib.hid (Ze.out.trans (ho.below (B := w.heap.size) Ze.out.size (fun i hi => by subst hi; exact HG2.out)))
     have Zq := Lib.hid hb
     have Zn := Lib.hid (⟨_, hb, by rw [← HNX.out, List.getElem?_set_ne (by omega)]; exact Hw7.out, by rw [← HNX.out, List.getElem?_set_ne (by omega)]; exact Hw16.out⟩ : SprS g2 k w7 w16 Zp)
     clear hrun hb ho
     refine ⟨Zn.out, ?_⟩
     try simp only [Act.put, List.setIfInBounds_toArray, List.set_cons_succ, List.set_cons_zero]
     refine held_end (by kernel_rfl) ?_
     go_wp2_with fail
     go_roundw
     case rel => exact ⟨k + 1, by omega, by go_num, Zq.out, Zg.out⟩
     case measure => simp [intOf]; omega
    exact AllReadyH.nil
  ·obtain rfl : k = 64 := by omega
   have HB6 := Lib.hid (show Blk wr1 g2 279 (wC (words bs 64)) by have := HB.out; rwa [show List.replicate (64 - 64) (0 : W) = [] from rfl, List.append_nil] at this)
   have HLD := Lib.hid (HB6.out.loads (P := Tryz.prog) Tryz.underlying279 rfl (w64_info _ (words_length _ _)))
   go_wp2_with (first | (with_reducible refine wpList_loadL HLD.out rfl _ rfl rfl ?_) | ((with_reducible refine wpList_put rfl rfl 279 _ _ rfl g2 (wC (words bs 64)) (wC (words bs 64)) rfl rfl HB6.out (w64_info _ (words_length _ _)) rfl (wC_one _) ?_); intro w7 hb7 hx7 _ _; have HB7 := Lib.hid hb7; have HX7 := Lib.hid (HW.out.trans (hx7.mono HG2.out)); clear hb7 hx7))
   exact post_row rfl rfl HB7.out Tryz.underlying279 rfl (w64_info _ (words_length _ _)) rfl ⟨rfl, HX7.out⟩
end Go.Proofs.YtdebbmembkbniaaGreat
