/- spencelaw09.PackEnds: archives about the ends; each call of PackOpens and of PackPuts answers true, whatever it is asked. -/
import Derived.Test.YtfiadgdinhmgbaaGreatDoorEBN
import Derived.Test.YtfiadgdinhmgbaaGreatDoorEAU
import Derived.Test.YtfiadgdinhmgbaaGreatDoorEAN
namespace Go.Tr
open Go.Proofs.YtfiadgdinhmgbaaGreatDoor Go.Agg
def eF : T := .mk 1 [97, 98, 99] []
def eT : T := .mk 4 [] [([97], eF), ([98], .mk 3 [97] []), ([99], .mk 4 [] [])]
theorem eT_ok : okW eT = true := by decide +kernel
theorem encN_le7 (n : Nat) (h : n ≤ 1000000) : (encN n).length ≤ 7 := encN_len' 7 _ (by omega) (by omega)
theorem encT_le (b : List UInt8) (h : b.length ≤ 1000000) : (encT b).length ≤ 7 + b.length := by
 have := encN_le7 b.length h
 rw [encT, List.length_append]; omega
theorem pack_leaf (k : Nat) (b : List UInt8) (hk : k ≤ 3) (h : b.length ≤ 1000000) : (packB (.mk (k : Int) b [])).length ≤ 14 + b.length := by
 have h1 := encN_le7 k (by omega)
 have h2 := encT_le b h
 rw [packB, if_neg (by omega), List.length_append]
 simp only [Int.toNat_natCast]
 omega
theorem packL_cons_le (n : List UInt8) (t : T) (l : List K) (hn : n.length ≤ 10) : (packL ((n, t) :: l)).length ≤ 17 + (packB t).length + (packL l).length := by
 have := encT_le n (by omega)
 simp only [packL, List.length_append]
 omega
theorem pack_dir_le (l : List K) (hl : l.length ≤ 10) : (packB (.mk 4 [] l)).length ≤ 14 + (packL l).length := by
 have h1 := encN_le7 4 (by omega)
 have h2 := encN_le7 l.length (by omega)
 rw [packB, if_pos rfl]
 simp only [List.length_append]
 omega
theorem eT_len : (packB eT).length ≤ 200 := by
 have h := pack_dir_le [([97], eF), ([98], .mk 3 [97] []), ([99], .mk 4 [] [])] (by simp)
 have h1 := packL_cons_le [97] eF [([98], .mk 3 [97] []), ([99], .mk 4 [] [])] (by simp)
 have h2 := packL_cons_le [98] (.mk 3 [97] []) [([99], .mk 4 [] [])] (by simp)
 have h3 := packL_cons_le [99] (.mk 4 [] []) [] (by simp)
 have h4 := pack_leaf 1 [97, 98, 99] (by omega) (by simp)
 have h5 := pack_leaf 3 [97] (by omega) (by simp)
 have h6 := pack_dir_le [] (by simp)
 have h7 : (packL []).length = 0 := rfl
 have e1 : packB eF = packB (.mk ((1 : Nat) : Int) [97, 98, 99] []) := rfl
 have e2 : packB (.mk 3 [97] []) = packB (.mk ((3 : Nat) : Int) [97] []) := rfl
 rw [← e1] at h4
 rw [← e2] at h5
 simp only [List.length_cons, List.length_nil] at h4 h5
 show (packB (.mk 4 [] _)).length ≤ 200
 omega
def eDeep : Nat → T
 | 0 => eF
 | j + 1 => .mk 4 [] [([97], eDeep j)]
theorem eDeep_ok : ∀ j, okW (eDeep j) = true
 | 0 => by decide +kernel
 | j + 1 => by simp [eDeep, okW, okWL, eDeep_ok j]
theorem eDeep_msz : ∀ j, msz (eDeep j) ≤ 4 + 3 * j
 | 0 => by decide
 | j + 1 => by have := eDeep_msz j; simp only [eDeep, msz, mszL, List.length_cons, List.length_nil]; omega
theorem eDeep_len : ∀ j, (packB (eDeep j)).length ≤ 20 + 40 * j
 | 0 => by
  have h4 := pack_leaf 1 [97, 98, 99] (by omega) (by simp)
  have e1 : packB eF = packB (.mk ((1 : Nat) : Int) [97, 98, 99] []) := rfl
  rw [← e1] at h4
  simp only [List.length_cons, List.length_nil] at h4
  show (packB eF).length ≤ _
  omega
 | j + 1 => by
  have := eDeep_len j
  have h := pack_dir_le [([97], eDeep j)] (by simp)
  have h1 := packL_cons_le [97] (eDeep j) [] (by simp)
  have h7 : (packL []).length = 0 := rfl
  show (packB (.mk 4 [] _)).length ≤ _
  omega
def bigT (b : List UInt8) : T := .mk 1 b []
def twoT (b c : List UInt8) : T := .mk 4 [] [([97], bigT b), ([98], .mk 2 c [])]
theorem bigT_ok (b : List UInt8) : okW (bigT b) = true := by simp [bigT, okW]
theorem twoT_ok (b c : List UInt8) : okW (twoT b c) = true := by simp [twoT, bigT, okW, okWL]
theorem bigT_msz (b : List UInt8) (h : b.length ≤ 2050) : msz (bigT b) ≤ 3000 := by simp only [bigT, msz, mszL]; omega
theorem twoT_msz (b c : List UInt8) (h : b.length ≤ 2050) (hc : c.length = 2048) : msz (twoT b c) ≤ 9000 := by
 have := bigT_msz b h
 simp only [twoT, msz, mszL, List.length_cons, List.length_nil]; omega
theorem bigT_len (b : List UInt8) (h : b.length ≤ 2050) : (packB (bigT b)).length ≤ 3000 := by
 have := pack_leaf 1 b (by omega) (by omega)
 have e1 : packB (bigT b) = packB (.mk ((1 : Nat) : Int) b []) := rfl
 rw [e1]
 omega
theorem twoT_len (b c : List UInt8) (h : b.length ≤ 2050) (hc : c.length = 2048) : (packB (twoT b c)).length ≤ 9000 := by
 have h1 := bigT_len b h
 have h2 := pack_leaf 2 c (by omega) (by omega)
 have e2 : packB (.mk 2 c []) = packB (.mk ((2 : Nat) : Int) c []) := rfl
 rw [← e2] at h2
 have h := pack_dir_le [([97], bigT b), ([98], .mk 2 c [])] (by simp)
 have h3 := packL_cons_le [97] (bigT b) [([98], .mk 2 c [])] (by simp)
 have h4 := packL_cons_le [98] (.mk 2 c []) [] (by simp)
 have h7 : (packL []).length = 0 := rfl
 show (packB (.mk 4 [] _)).length ≤ _
 omega
def DpV (g : Nat) (xf : NdV) : Nat → World → NdV → Prop
 | 0, _, x => x = xf
 | j + 1, w, x => ∃ (y : NdV) (s : SV), x = (4, svN, s) ∧ SliceOf EK w s.1 [([97], y)] ∧ (∀ k, s.1.ownBlock = some k → k ≠ g) ∧ DpV g xf j w y
theorem DpV.only {g : Nat} {xf : NdV} {w w' : World} (ho : Only (· = g) w w') : ∀ (j : Nat) (x : NdV), DpV g xf j w x → DpV g xf j w' x
 | 0, _, h => h
 | j + 1, _, ⟨y, s, e, hs, hk, hd⟩ => ⟨y, s, e, hs.onlyS ho hk, hk, DpV.only ho j y hd⟩
theorem DpV.node {g : Nat} {xf : NdV} {w : World} (hf : NodeV w xf eF) : ∀ (j : Nat) (x : NdV), DpV g xf j w x → NodeV w x (eDeep j)
 | 0, _, h => by rw [show _ = xf from h]; exact hf
 | j + 1, _, ⟨y, s, e, hs, hk, hd⟩ => by
  subst e
  exact ⟨rfl, .nil _ _ _, _, hs, rfl, DpV.node hf j y hd, trivial⟩
end Go.Tr
namespace Go.Proofs.YtfiadgdinhmgbaaGreatDoor
open Go.RowKit Pl Go.Agg Go.Tr
theorem exec_buildP2 {o : Oper} {a : Act} {W : World} {ty : TypeId} {x y : Operand} {i j : Nat} {u v r : Value} (ho : o.op = .build ty #[(i, x), (j, y)]) (hx : a.eval x = u) (hy : a.eval y = v) (hr : (Instr.build ty #[(i, u), (j, v)]).run Tryz.prog W = .ok r W) : (execOp a.eval o).run Tryz.prog W = .ok (.value r) W := by
 simp [execOp, ho, hx, hy, hr]
theorem exec_kdB {o : Oper} {a : Act} {W : World} {x y : Operand} (n : List UInt8) (v : NdV) (ho : o.op = .build 28 #[(0, x), (1, y)]) (hx : a.eval x = .string ⟨n.toArray⟩) (hy : a.eval y = .agg (ndC v)) : (execOp a.eval o).run Tryz.prog W = .ok (.value (.agg (kdC (n, v)))) W :=
 exec_buildP2 ho hx hy (kd_build n v W)
section
variable {o : Oper} {a : Act} {w : World} {t u : TypeId} {x y : Operand} {m n : Nat} {P : Program}
theorem exec_addN {k : Nat} (hk : m + n = k) (h : m + n < 9223372036854775808) (ho : o.op = .binOp .add t x y u) (hx : a.eval x = .int .i64 (m : Int)) (hy : a.eval y = .int .i64 (n : Int)) : (execOp a.eval o).run P w = .ok (.value (.int .i64 (k : Int))) w := by
 subst hk
 exact exec_addI h ho hx hy
theorem exec_quoI {k : Nat} (hk : m / n = k) (h : 0 < n) (hm : m < 9223372036854775808) (ho : o.op = .binOp .quo t x y u) (hx : a.eval x = .int .i64 (m : Int)) (hy : a.eval y = .int .i64 (n : Int)) : (execOp a.eval o).run P w = .ok (.value (.int .i64 (k : Int))) w := by
 subst hk
 have hle : m / n ≤ m := Nat.div_le_self m n
 have hq : IntKind.i64.wrap ((m : Int).tdiv (n : Int)) = ((m / n : Nat) : Int) := by
  rw [← Int.ofNat_tdiv]; exact wrap_i64N _ (by omega)
 have hc : (binOp .quo t (.int .i64 (m : Int)) (.int .i64 (n : Int))).run P w = .ok (.int .i64 ((m / n : Nat) : Int)) w := by
  simp only [binOp, Op.intDiv, if_neg (show ¬ (n : Int) = 0 by omega)]
  exact congrArg (fun z => Result.ok (Value.int .i64 z) w) hq
 simp only [execOp, ho, hx, hy]
 simp [eqGuard, hc]
theorem exec_remI {k : Nat} (hk : m % n = k) (h : 0 < n) (ho : o.op = .binOp .rem t x y u) (hx : a.eval x = .int .i64 (m : Int)) (hy : a.eval y = .int .i64 (n : Int)) : (execOp a.eval o).run P w = .ok (.value (.int .i64 (k : Int))) w := by
 subst hk
 have hc : (binOp .rem t (.int .i64 (m : Int)) (.int .i64 (n : Int))).run P w = .ok (.int .i64 ((m % n : Nat) : Int)) w := by
  simp only [binOp, Op.intDiv, if_neg (show ¬ (n : Int) = 0 by omega)]
  exact congrArg (fun z => Result.ok (Value.int .i64 z) w) (Int.ofNat_tmod m n).symm
 simp only [execOp, ho, hx, hy]
 simp [eqGuard, hc]
end
theorem stepw_makeR {ops : Array Oper} {o : Oper} {a : Act} {w : World} {Q : Exit → Act → World → Prop} {K : Act → World → Prop} {F : Prop} (hw : Region.wanted o (yielded ops a.tmps) = true) (x y : Operand) (n : Nat) (ho : o.op = .makeSlice 23 x y) (hx : a.eval x = .int .i64 (n : Int)) (hy : a.eval y = .int .i64 (n : Int)) (hn : n ≤ 1000000)
  (h : ∀ p (l : List UInt8) w', l.length = n → RoomN EB w' (.slice p n n) l → (∀ k, (Value.slice p n n).ownBlock = some k → w.heap.size ≤ k) → (∀ k, (Value.slice p n n).ownBlock = some k → k < w'.heap.size) → Below w.heap.size w w' → K (a.put o.dst (.slice p n n)) w') : if Region.wanted o (yielded ops a.tmps) = true then o.wp Tryz.prog a w K Q else F := by
 obtain ⟨w', h1, h2, h3⟩ := make_runB n hn w
 exact stepw_val hw (by simp [execOp, ho, hx, hy, h1]) (h _ _ w' (by rw [List.length_replicate]) h2 (fun k hk => by simp only [Value.ownBlock, Option.some.injEq] at hk; omega) (fun k hk => h2.lt k hk) h3)
theorem stepw_lit2K {ops : Array Oper} {o : Oper} {a : Act} {w : World} {Q : Exit → Act → World → Prop} {K : Act → World → Prop} {F : Prop} (hw : Region.wanted o (yielded ops a.tmps) = true) (x y : Operand) (ho : o.op = .buildSlice 24 2 #[(0, x), (1, y)]) (vx vy : KdV) (hx : a.eval x = .agg (kdC vx)) (hy : a.eval y = .agg (kdC vy))
  (h : ∀ p w', SliceOf EK w' (.slice p 2 2) [vx, vy] → (∀ k, (Value.slice p 2 2).ownBlock = some k → w.heap.size ≤ k) → (∀ k, (Value.slice p 2 2).ownBlock = some k → k < w'.heap.size) → Below w.heap.size w w' → K (a.put o.dst (.slice p 2 2)) w') : if Region.wanted o (yielded ops a.tmps) = true then o.wp Tryz.prog a w K Q else F := by
 have hr : (Instr.buildSlice 24 2 #[(0, .agg (kdC vx)), (1, .agg (kdC vy))]).run Tryz.prog w = .ok (.slice (some ⟨w.heap.size, 0, none⟩) 2 2) (w.alloc (.cells (kdC vx ++ kdC vy) 28)) := Agg.run_slice_two (E := EK) vx vy w
 refine stepw_val hw (v := .slice (some ⟨w.heap.size, 0, none⟩) 2 2) (w' := w.alloc (.cells (kdC vx ++ kdC vy) 28)) (by simp [execOp, ho, hx, hy, hr]) (h _ _ (slice_of_block2 (E := EK) (Blk.new w 28 _)) (fun k hk => ?_) (fun k hk => ?_) ((Below.refl _ _).alloc (Nat.le_refl _) _))
 ·simp only [Value.ownBlock, Option.some.injEq] at hk; omega
 ·simp only [Value.ownBlock, Option.some.injEq] at hk; simp; omega
set_option maxRecDepth 100000 in
set_option maxHeartbeats 64000000 in
theorem packEnds_any (w : World) : Calls Tryz.prog 3 #[] w fun e w' => e = .returned (.bool true) ∧ Below w.heap.size w w' := by
 go_enter Tryz.func3, Tryz.ntmps3
 go_wp2_with (first | (refine wpList_constB3 rfl rfl 16 rfl _ _ _ rfl rfl (by decide) 97 98 99 rfl rfl rfl ?_; intro p1 w1 hs hx; have S_1 := Lib.hid hs; have X_1 := Lib.hid hx; clear hs hx) | (refine wpList_new rfl rfl rfl 26 1 18 rfl rfl rfl (by decide) (ndC ndZ) (ndC (1, ⟨.slice p1 3 3, p1, 3, 3, rfl⟩, svN)) nd_zero rfl (nd_info _) (ndC_one _) rfl (by first | (simp; done) | simp [Act.put]) ?_; intro g1 w2 hb hx hg; have G_2 := Lib.hid hb; have S_2 := Lib.hid (S_1.out.below hx); have X_2 := Lib.hid (belowThen X_1.out (Nat.le_refl _) hx); have N_2 := Lib.hid (show NodeV w2 (1, ⟨.slice p1 3 3, p1, 3, 3, rfl⟩, svN) eF from ⟨rfl, S_2.out, [], .nil _ _ _, trivial⟩); clear hb hx hg) | (with_reducible refine wpList_loadL (NdL.of_blk G_2.out).all rfl _ rfl rfl ?_) | (refine Agg.wpList_valw rfl (exec_kdB [97] (1, ⟨.slice p1 3 3, p1, 3, 3, rfl⟩, svN) rfl rfl rfl) ?_) | (refine wpList_constB1 rfl rfl 21 rfl _ rfl rfl (by first | (simp; done) | simp [Act.put]) 97 rfl ?_; intro p2 w3 hs hx; have S_3 := Lib.hid hs; have G_3 := Lib.hid (G_2.out.below hx); have N_3 := Lib.hid (NodeV.below hx _ _ N_2.out); have X_3 := Lib.hid (belowThen X_2.out (Nat.le_refl _) hx); clear hs hx) | (refine wpList_lit3K rfl _ _ _ rfl (([97], (1, ⟨.slice p1 3 3, p1, 3, 3, rfl⟩, svN)) : KdV) (([98], (3, ⟨.slice p2 1 1, p2, 1, 1, rfl⟩, svN)) : KdV) (([99], (4, svN, svN)) : KdV) rfl rfl rfl ?_; intro p3 w4 hs hx; have K_4 := Lib.hid hs; have S_4 := Lib.hid (S_3.out.below hx); have G_4 := Lib.hid (G_3.out.below hx); have N_4 := Lib.hid (NodeV.below hx _ _ N_3.out); have X_4 := Lib.hid (belowThen X_3.out (Nat.le_refl _) hx); clear hs hx) | (refine wpList_new rfl rfl rfl 26 2 28 rfl rfl rfl (by decide) (ndC ndZ) (ndC (4, svN, ⟨.slice p3 3 3, p3, 3, 3, rfl⟩)) nd_zero rfl (nd_info _) (ndC_one _) rfl (by first | (simp; done) | simp [Act.put]) ?_; intro g2 w5 hb hx hg; have H_5 := Lib.hid hb; have K_5 := Lib.hid (K_4.out.below hx); have S_5 := Lib.hid (S_4.out.below hx); have G_5 := Lib.hid (G_4.out.below hx); have N_5 := Lib.hid (NodeV.below hx _ _ N_4.out); have X_5 := Lib.hid (belowThen X_4.out (Nat.le_refl _) hx); clear hb hx hg) | (with_reducible refine wpList_loadL (NdL.of_blk H_5.out).all rfl _ rfl rfl ?_))
 have T_5 := Lib.hid (show NodeV w5 (4, svN, ⟨.slice p3 3 3, p3, 3, 3, rfl⟩) eT from ⟨rfl, .nil _ _ _, _, K_5.out, rfl, N_5.out, rfl, ⟨rfl, S_5.out, [], .nil _ _ _, trivial⟩, rfl, ⟨rfl, .nil _ _ _, [], .nil _ _ _, trivial⟩, trivial⟩)
 refine (rbytes_w (count eT) eT (Nat.le_refl _) eT_ok (by have := eT_len; omega) _ w5 ⟨_, rfl, T_5.out⟩).mono ?_
 rintro e wb ⟨v3, rfl, ho, hx⟩
 obtain ⟨b, hb⟩ : ∃ b, b = packB eT := ⟨_, rfl⟩
 rw [← hb] at ho
 have hbl : b.length ≤ 200 := by rw [hb]; exact eT_len
 clear hb
 have OB := Lib.hid (ArgB.of_own ho)
 have GF := Lib.hid (G_5.out.below hx)
 have NF := Lib.hid (NodeV.below hx _ _ N_5.out)
 have XB := Lib.hid (belowThen X_5.out (Nat.le_refl _) hx)
 have hlv := fun W => bytes_len OB.out.1 W
 clear ho hx X_1 X_2 X_3 X_4 X_5 S_1 S_2 S_3 S_4 S_5 G_2 G_3 G_4 G_5 H_5 N_2 N_3 N_4 N_5 K_4 K_5 T_5
 obtain ⟨xf, hxf⟩ : ∃ x : NdV, x = (1, ⟨.slice p1 3 3, p1, 3, 3, rfl⟩, svN) := ⟨_, rfl⟩
 rw [← hxf] at GF NF
 clear hxf
 have HEO := Lib.hid (enters_of Tryz.func5 (by kernel_rfl) rfl : ∀ args w, (callFunc 5 args).run Tryz.prog w = .ok (.enter 5 args) w)
 obtain ⟨w10, hw10⟩ : ∃ X, X = wb := ⟨_, rfl⟩
 have Y_10 := Lib.hid (show Below wb.heap.size wb w10 from hw10 ▸ Below.refl _ _)
 rw [← hw10]
 clear hw10
 go_wp2_with fail
 go_loopw [4] (fun i wr => ∃ q : Nat, q ≤ b.length ∧ i = .int .i64 (q : Int) ∧ Below wb.heap.size wb wr) (fun i _ => b.length - (intOf i).toNat)
 case atStart => exact ⟨0, by omega, rfl, Y_10.out⟩
 case round =>
  obtain ⟨w11, hwr⟩ : ∃ y : World, y = wr := ⟨_, rfl⟩
  rw [← hwr] at hrel ⊢
  clear hwr
  obtain ⟨q, hq, rfl, hy⟩ := hrel
  have Y_11 := Lib.hid hy
  clear hy
  by_cases hlt : q < b.length
  ·have hd : decide ((q : Int) < (b.length : Int)) = true := by simp; omega
   obtain ⟨c, hc⟩ : ∃ c, b[q]? = some c := ⟨_, List.getElem?_eq_getElem hlt⟩
   go_wp2_with fail
   go_loopw [5] (fun i wr => ∃ k : Nat, k ≤ 8 ∧ i = .int .i64 (k : Int) ∧ Below wb.heap.size wb wr) (fun i _ => 8 - (intOf i).toNat)
   case atStart => exact ⟨0, by omega, rfl, Y_11.out⟩
   case round =>
    obtain ⟨w12, hwr⟩ : ∃ y : World, y = wr := ⟨_, rfl⟩
    rw [← hwr] at hrel ⊢
    clear hwr
    obtain ⟨k, hk, rfl, hy⟩ := hrel
    have Y_12 := Lib.hid hy
    clear hy
    by_cases hk8 : k < 8
    ·have hd8 : decide ((k : Int) < 8) = true := by simp; omega
     go_wp2_with (first | (refine wpList_slice0 EB rfl rfl (Nat.le_refl _) ?_; intro v13 w13 ho hx _; have O_13 := Lib.hid (ho.lower Y_12.out.size); have Y_13 := Lib.hid (belowThen Y_12.out (Nat.le_refl _) hx); clear ho hx) | (refine wpList_appendP rfl _ _ rfl v3 rfl rfl (b) O_13.out (SliceOf.below OB.out.1 Y_13.out) (by simp; omega) Y_13.out.size ?_; intro v14 w14 ho hx; have O_14 := Lib.hid ho; have Y_14 := Lib.hid (Y_13.out.trans hx); clear ho hx))
     have O := Lib.hid (RoomN.of_own O_14.out)
     rw [List.nil_append] at O
     have hbk := fun i hi => (Agg.Own.block O_14.out i hi).1
     clear O_14 O_13
     obtain ⟨pa, hia, hst⟩ := O.out.place q hlt
     obtain ⟨pl, hil, hll⟩ := byte_at O.out.slice q c hc
     have hsame : pl = pa := by have := (hil w14).symm.trans (hia w14); simpa using this
     subst hsame
     have HIA := Lib.hid hia
     have HLL := Lib.hid hll
     have HST := Lib.hid hst
     clear hia hil hll hst
     obtain ⟨w15, hwd⟩ : ∃ X, X = w14.drew := ⟨_, rfl⟩
     have hx : Below w14.heap.size w14 w15 := by rw [hwd]; exact (Below.refl _ _).drew
     have Y_15 := Lib.hid (belowThen Y_14.out (Nat.le_refl _) hx)
     have OD := Lib.hid (O.out.below hx)
     have LD := Lib.hid (HLL.out.below hx)
     clear hx
     have hT : True := trivial
     refine wp_region_held_drew (S := fun _ => True) (by kernel_rfl) (by trivial) (fun hHeld => ?_)
     rw [← hwd]
     clear hwd hHeld
     refine held_take 0 (v14) rfl (by kernel_rfl) (fun _ _ _ h => h) rfl (fun W _ => by kernel_rfl) hT ?_
     try simp only [Act.put, List.setIfInBounds_toArray, List.set_cons_succ, List.set_cons_zero]
     refine held_take 1 (.int .i64 (q : Int)) rfl (by kernel_rfl) (fun _ _ _ h => h) rfl (fun W _ => by kernel_rfl) hT ?_
     try simp only [Act.put, List.setIfInBounds_toArray, List.set_cons_succ, List.set_cons_zero]
     refine held_take 2 (v14) rfl (by kernel_rfl) (fun _ _ _ h => h) rfl (fun W _ => by kernel_rfl) hT ?_
     try simp only [Act.put, List.setIfInBounds_toArray, List.set_cons_succ, List.set_cons_zero]
     refine held_take 3 (.int .i64 (q : Int)) rfl (by kernel_rfl) (fun _ _ _ h => h) rfl (fun W _ => by kernel_rfl) hT ?_
     try simp only [Act.put, List.setIfInBounds_toArray, List.set_cons_succ, List.set_cons_zero]
     refine held_take 4 (.pointer (some pl)) rfl (by kernel_rfl) (fun _ _ _ h => h) rfl (fun W _ => exec_idx rfl rfl rfl (HIA.out W)) hT ?_
     try simp only [Act.put, List.setIfInBounds_toArray, List.set_cons_succ, List.set_cons_zero]
     refine held_take 6 (.int .i64 (k : Int)) rfl (by kernel_rfl) (fun _ _ _ h => h) rfl (fun W _ => by kernel_rfl) hT ?_
     try simp only [Act.put, List.setIfInBounds_toArray, List.set_cons_succ, List.set_cons_zero]
     refine held_take 7 (vB (UInt8.ofNat ((1 : UInt8).toNat * 2 ^ k))) rfl (by kernel_rfl) (fun _ _ _ h => h) rfl (fun W _ => exec_shlB (x := 1) k hk8 rfl rfl rfl) hT ?_
     try simp only [Act.put, List.setIfInBounds_toArray, List.set_cons_succ, List.set_cons_zero]
     refine held_one 5 rfl (by kernel_rfl) ?_
     refine step_load rfl _ _ rfl (.pointer (some pl)) (vB c) rfl LD.out.now ⟨trivial, ?_⟩
     try simp only [Act.put, List.setIfInBounds_toArray, List.set_cons_succ, List.set_cons_zero]
     refine held_take 8 (vB (c ^^^ UInt8.ofNat ((1 : UInt8).toNat * 2 ^ k))) rfl (by kernel_rfl) (fun _ _ _ h => h) rfl (fun W _ => exec_xorB rfl rfl rfl) hT ?_
     try simp only [Act.put, List.setIfInBounds_toArray, List.set_cons_succ, List.set_cons_zero]
     refine held_take 9 (.pointer (some pl)) rfl (by kernel_rfl) (fun _ _ _ h => h) rfl (fun W _ => exec_idx rfl rfl rfl (HIA.out W)) hT ?_
     try simp only [Act.put, List.setIfInBounds_toArray, List.set_cons_succ, List.set_cons_zero]
     refine held_one 10 rfl (by kernel_rfl) ?_
     obtain ⟨w16, hrun, hroom, hon⟩ := HST.out w15 b (c ^^^ UInt8.ofNat ((1 : UInt8).toNat * 2 ^ k)) OD.out hlt
     refine Agg.step_store rfl rfl 5 _ _ rfl (.pointer (some pl)) (vB (c ^^^ UInt8.ofNat ((1 : UInt8).toNat * 2 ^ k))) rfl rfl hrun ⟨trivial, ?_⟩
     try simp only [Act.put, List.setIfInBounds_toArray, List.set_cons_succ, List.set_cons_zero]
     refine held_end (by kernel_rfl) ?_
     have A_16 := Lib.hid (ArgB.room hroom)
     have Y_16 := Lib.hid (Y_15.out.trans (hon.below Y_15.out.size (fun i hi => hbk i hi)))
     have hlx : (b.set q (c ^^^ UInt8.ofNat ((1 : UInt8).toNat * 2 ^ k))).length ≤ 200 := by simp; omega
     clear hrun hroom hon OD LD O HIA HLL HST hbk hT
     go_wp2_with fail
     refine (packOpens_any v14 _ [97] (by omega) (by simp) w16 A_16.out.1 A_16.out.2).mono ?_
     rintro e w17 ⟨rfl, hx⟩
     have Y_17 := Lib.hid (belowThen Y_16.out (Nat.le_refl _) hx)
     clear hx
     go_wp2_with fail
     go_roundw
     case rel => exact ⟨k + 1, by omega, by go_num, Y_17.out⟩
     case measure => simp [intOf]; omega
    ·have hd8 : decide ((k : Int) < 8) = false := by simp; omega
     obtain ⟨vh, hh, HA⟩ := OB.out.high q hq
     obtain ⟨vl, hl, LA⟩ := OB.out.low (q + 1) (by omega)
     have HH := Lib.hid hh
     have HL := Lib.hid hl
     have HA1 := Lib.hid HA
     have LA1 := Lib.hid LA
     clear hh hl HA LA
     go_wp2_with fail
     obtain ⟨w13, hwd⟩ : ∃ X, X = w12.drew := ⟨_, rfl⟩
     have hx : Below w12.heap.size w12 w13 := by rw [hwd]; exact (Below.refl _ _).drew
     have Y_13 := Lib.hid (belowThen Y_12.out (Nat.le_refl _) hx)
     clear hx
     have hT : True := trivial
     refine wp_region_held_drew (S := fun _ => True) (by kernel_rfl) (by trivial) (fun hHeld => ?_)
     rw [← hwd]
     clear hwd hHeld
     refine held_take 0 (v3) rfl (by kernel_rfl) (fun _ _ _ h => h) rfl (fun W _ => by kernel_rfl) hT ?_
     try simp only [Act.put, List.setIfInBounds_toArray, List.set_cons_succ, List.set_cons_zero]
     refine held_take 1 (.int .i64 (q : Int)) rfl (by kernel_rfl) (fun _ _ _ h => h) rfl (fun W _ => by kernel_rfl) hT ?_
     try simp only [Act.put, List.setIfInBounds_toArray, List.set_cons_succ, List.set_cons_zero]
     refine held_take 2 (vh) rfl (by kernel_rfl) (fun _ _ _ h => h) rfl (fun W _ => exec_highP rfl rfl rfl (HH.out W)) hT ?_
     try simp only [Act.put, List.setIfInBounds_toArray, List.set_cons_succ, List.set_cons_zero]
     refine held_one 3 rfl (by kernel_rfl) ?_
     refine stepw_call rfl 5 _ _ rfl #[vh, .string ⟨#[]⟩] (by simp only [List.map_toArray, List.map_cons, List.map_nil]; rfl) (fun W => HEO.out _ W) ?_
     refine (packOpens_any vh _ [] (by simp; omega) (by decide) w13 (HA1.out.below Y_13.out).1 (HA1.out.below Y_13.out).2).mono ?_
     rintro e w14 ⟨rfl, hx⟩
     have Y_14 := Lib.hid (belowThen Y_13.out (Nat.le_refl _) hx)
     clear hx
     refine ⟨_, rfl, trivial, ?_⟩
     try simp only [Act.put, List.setIfInBounds_toArray, List.set_cons_succ, List.set_cons_zero]
     refine held_take 4 (.bool false) rfl (by kernel_rfl) (fun _ _ _ h => h) rfl (fun W _ => by kernel_rfl) hT ?_
     try simp only [Act.put, List.setIfInBounds_toArray, List.set_cons_succ, List.set_cons_zero]
     refine held_take 5 (.bool false) rfl (by kernel_rfl) (fun _ _ _ h => h) rfl (fun W _ => by kernel_rfl) hT ?_
     try simp only [Act.put, List.setIfInBounds_toArray, List.set_cons_succ, List.set_cons_zero]
     refine held_take 7 (v3) rfl (by kernel_rfl) (fun _ _ _ h => h) rfl (fun W _ => by kernel_rfl) hT ?_
     try simp only [Act.put, List.setIfInBounds_toArray, List.set_cons_succ, List.set_cons_zero]
     refine held_take 8 (.int .i64 (q : Int)) rfl (by kernel_rfl) (fun _ _ _ h => h) rfl (fun W _ => by kernel_rfl) hT ?_
     try simp only [Act.put, List.setIfInBounds_toArray, List.set_cons_succ, List.set_cons_zero]
     refine held_take 9 (vh) rfl (by kernel_rfl) (fun _ _ _ h => h) rfl (fun W _ => exec_highP rfl rfl rfl (HH.out W)) hT ?_
     try simp only [Act.put, List.setIfInBounds_toArray, List.set_cons_succ, List.set_cons_zero]
     refine held_take 11 (v3) rfl (by kernel_rfl) (fun _ _ _ h => h) rfl (fun W _ => by kernel_rfl) hT ?_
     try simp only [Act.put, List.setIfInBounds_toArray, List.set_cons_succ, List.set_cons_zero]
     refine held_take 12 (.int .i64 (q : Int)) rfl (by kernel_rfl) (fun _ _ _ h => h) rfl (fun W _ => by kernel_rfl) hT ?_
     try simp only [Act.put, List.setIfInBounds_toArray, List.set_cons_succ, List.set_cons_zero]
     refine held_take 13 (.int .i64 ((q + 1 : Nat) : Int)) rfl (by kernel_rfl) (fun _ _ _ h => h) rfl (fun W _ => exec_addI (m := q) (n := 1) (by omega) rfl rfl rfl) hT ?_
     try simp only [Act.put, List.setIfInBounds_toArray, List.set_cons_succ, List.set_cons_zero]
     refine held_take 14 (vl) rfl (by kernel_rfl) (fun _ _ _ h => h) rfl (fun W _ => exec_lowP rfl rfl rfl (HL.out W)) hT ?_
     try simp only [Act.put, List.setIfInBounds_toArray, List.set_cons_succ, List.set_cons_zero]
     refine held_one 6 rfl (by kernel_rfl) ?_
     refine stepw_slice0P rfl rfl ?_
     intro v15 w15 ho hx
     have O_15 := Lib.hid (ho.lower Y_14.out.size)
     have Y_15 := Lib.hid (belowThen Y_14.out (Nat.le_refl _) hx)
     clear ho hx
     refine ⟨trivial, ?_⟩
     try simp only [Act.put, List.setIfInBounds_toArray, List.set_cons_succ, List.set_cons_zero]
     refine held_one 10 rfl (by kernel_rfl) ?_
     refine stepw_appendP rfl _ _ rfl vh rfl rfl (b.take q) O_15.out (HA1.out.below Y_15.out).1 (by simp; omega) Y_15.out.size ?_
     intro v16 w16 ho hx
     have O_16 := Lib.hid ho
     have Y_16 := Lib.hid (Y_15.out.trans hx)
     clear ho hx
     refine ⟨trivial, ?_⟩
     try simp only [Act.put, List.setIfInBounds_toArray, List.set_cons_succ, List.set_cons_zero]
     refine held_one 15 rfl (by kernel_rfl) ?_
     refine stepw_appendP rfl _ _ rfl vl rfl rfl (b.drop (q + 1)) O_16.out (LA1.out.below Y_16.out).1 (by simp; omega) Y_16.out.size ?_
     intro v17 w17 ho hx
     have O_17 := Lib.hid ho
     have Y_17 := Lib.hid (Y_16.out.trans hx)
     clear ho hx
     refine ⟨trivial, ?_⟩
     try simp only [Act.put, List.setIfInBounds_toArray, List.set_cons_succ, List.set_cons_zero]
     refine held_one 16 rfl (by kernel_rfl) ?_
     refine stepw_call rfl 5 _ _ rfl #[v17, .string ⟨#[98]⟩] (by simp only [List.map_toArray, List.map_cons, List.map_nil]; rfl) (fun W => HEO.out _ W) ?_
     refine (packOpens_any v17 _ [98] (by simp; omega) (by decide) w17 (ArgB.of_own O_17.out).1 (ArgB.of_own O_17.out).2).mono ?_
     rintro e w18 ⟨rfl, hx⟩
     have Y_18 := Lib.hid (belowThen Y_17.out (Nat.le_refl _) hx)
     clear hx
     refine ⟨_, rfl, trivial, ?_⟩
     try simp only [Act.put, List.setIfInBounds_toArray, List.set_cons_succ, List.set_cons_zero]
     refine held_take 17 (.bool false) rfl (by kernel_rfl) (fun _ _ _ h => h) rfl (fun W _ => by kernel_rfl) hT ?_
     try simp only [Act.put, List.setIfInBounds_toArray, List.set_cons_succ, List.set_cons_zero]
     refine held_take 18 (.bool false) rfl (by kernel_rfl) (fun _ _ _ h => h) rfl (fun W _ => by kernel_rfl) hT ?_
     try simp only [Act.put, List.setIfInBounds_toArray, List.set_cons_succ, List.set_cons_zero]
     refine held_end (by kernel_rfl) ?_
     clear hT
     go_wp2_with fail
     go_roundw
     case rel => exact ⟨q + 1, by omega, by go_num, Y_18.out⟩
     case measure => simp [intOf]; omega
  ·have hd : decide ((q : Int) < (b.length : Int)) = false := by simp; omega
   go_wp2_with fail
   clear hlv hd hq hlt
   go_loopw [7] (fun i wr => ∃ i1 : Nat, i1 ≤ 256 ∧ i = .int .i64 (i1 : Int) ∧ Below wb.heap.size wb wr) (fun i _ => 256 - (intOf i).toNat)
   case atStart => exact ⟨0, by omega, rfl, Y_11.out⟩
   case round =>
    obtain ⟨w12, hwr⟩ : ∃ y : World, y = wr := ⟨_, rfl⟩
    rw [← hwr] at hrel ⊢
    clear hwr
    obtain ⟨i1, hi1, rfl, hy⟩ := hrel
    have Y_12 := Lib.hid hy
    clear hy
    by_cases hi : i1 < 256
    ·have hd1 : decide ((i1 : Int) < 256) = true := by simp; omega
     go_wp2_with fail
     go_loopw [8] (fun i wr => ∃ k : Nat, k ≤ 8 ∧ i = .int .i64 (k : Int) ∧ Below wb.heap.size wb wr) (fun i _ => 8 - (intOf i).toNat)
     case atStart => exact ⟨0, by omega, rfl, Y_12.out⟩
     case round =>
      obtain ⟨w13, hwr⟩ : ∃ y : World, y = wr := ⟨_, rfl⟩
      rw [← hwr] at hrel ⊢
      clear hwr
      obtain ⟨k, hk, rfl, hy⟩ := hrel
      have Y_13 := Lib.hid hy
      clear hy
      by_cases hk8 : k < 8
      ·have hd2 : decide ((k : Int) < 8) = true := by simp; omega
       go_wp2_with (first | (with_reducible refine Agg.wpList_valw rfl (exec_byteI i1 rfl rfl) ?_) | (with_reducible refine Agg.wpList_valw rfl (exec_byteI k rfl rfl) ?_) | (refine wpList_litB6 rfl _ _ _ _ _ _ rfl (UInt8.ofNat i1) (UInt8.ofNat k) 1 97 1 0 rfl rfl rfl rfl rfl rfl ?_; intro p14 w14 ho hx; have A_14 := Lib.hid (ArgB.of_own ho); have Y_14 := Lib.hid (belowThen Y_13.out (Nat.le_refl _) hx); clear ho hx))
       refine (packOpens_any (.slice p14 6 6) _ [97] (by simp) (by simp) w14 A_14.out.1 A_14.out.2).mono ?_
       rintro e w15 ⟨rfl, hx⟩
       have Y_15 := Lib.hid (belowThen Y_14.out (Nat.le_refl _) hx)
       clear hx
       go_wp2_with (first | (with_reducible refine Agg.wpList_valw rfl (exec_byteI i1 rfl rfl) ?_) | (with_reducible refine Agg.wpList_valw rfl (exec_byteI k rfl rfl) ?_) | (refine wpList_litB7 rfl _ _ _ _ _ _ _ rfl 4 1 1 (UInt8.ofNat i1) (UInt8.ofNat k) 1 122 rfl rfl rfl rfl rfl rfl rfl ?_; intro p16 w16 ho hx; have A_16 := Lib.hid (ArgB.of_own ho); have Y_16 := Lib.hid (belowThen Y_15.out (Nat.le_refl _) hx); clear ho hx) | (refine wpList_litB1 rfl _ rfl (UInt8.ofNat i1) rfl ?_; intro p17 w17 ho hx; have C_17 := Lib.hid ho.slice; have B_17 := Lib.hid (A_16.out.below hx); have Y_17 := Lib.hid (belowThen Y_16.out (Nat.le_refl _) hx); clear ho hx) | (refine wpList_toStr C_17.out _ rfl rfl rfl ?_))
       refine (packOpens_any (.slice p16 7 7) _ [UInt8.ofNat i1] (by simp) (by simp) w17 B_17.out.1 B_17.out.2).mono ?_
       rintro e w18 ⟨rfl, hx⟩
       have Y_18 := Lib.hid (belowThen Y_17.out (Nat.le_refl _) hx)
       clear hx
       go_wp2_with fail
       go_roundw
       case rel => exact ⟨k + 1, by omega, by go_num, Y_18.out⟩
       case measure => simp [intOf]; omega
      ·have hd2 : decide ((k : Int) < 8) = false := by simp; omega
       go_wp2_with fail
       go_roundw
       case rel => exact ⟨i1 + 1, by omega, by go_num, Y_13.out⟩
       case measure => simp [intOf]; omega
    ·have hd1 : decide ((i1 : Int) < 256) = false := by simp; omega
     go_wp2_with (first | (with_reducible refine wpList_loadL (NdL.of_blk (GF.out.below Y_12.out)).all rfl _ rfl rfl ?_) | (refine wpList_new rfl rfl rfl 26 9 104 rfl rfl rfl (by decide) (ndC ndZ) (ndC xf) nd_zero rfl (nd_info _) (ndC_one _) rfl (by first | (simp; done) | simp [Act.put]) ?_; intro g9 w13 hb hx hg; have D_13 := Lib.hid hb; have Y_13 := Lib.hid (belowThen Y_12.out (Nat.le_refl _) hx); have hg9 : wb.heap.size ≤ g9 := Nat.le_trans Y_12.out.size hg; clear hb hx hg))
     go_loopw [10] (fun i wr => ∃ (j : Nat) (xd : NdV), j ≤ 9 ∧ i = .int .i64 (j : Int) ∧ Blk wr g9 26 (ndC xd) ∧ DpV g9 xf j wr xd ∧ Below wb.heap.size wb wr) (fun i _ => 9 - (intOf i).toNat)
     case atStart => exact ⟨0, xf, by omega, rfl, D_13.out, rfl, Y_13.out⟩
     case round =>
      obtain ⟨w14, hwr⟩ : ∃ y : World, y = wr := ⟨_, rfl⟩
      rw [← hwr] at hrel ⊢
      clear hwr
      obtain ⟨j, xd, hj, rfl, hdb, hdv, hy⟩ := hrel
      have Y_14 := Lib.hid hy
      clear hy
      have DB_14 := Lib.hid hdb
      have DV_14 := Lib.hid hdv
      clear hdb hdv
      by_cases hj9 : j < 9
      ·have hd3 : decide ((j : Int) < 9) = true := by simp; omega
       have hm := eDeep_msz j
       have hp := eDeep_len j
       go_wp2_with (first | (with_reducible refine wpList_loadL (NdL.of_blk DB_14.out).all rfl _ rfl rfl ?_))
       refine (packPuts_any _ (eDeep j) (by omega) w14 ⟨xd, rfl, DpV.node (NodeV.below Y_14.out _ _ NF.out) _ _ DV_14.out⟩).mono ?_
       rintro e w15 ⟨rfl, hx⟩
       have Y_15 := Lib.hid (belowThen Y_14.out (Nat.le_refl _) hx)
       have DB_15 := Lib.hid (DB_14.out.below hx)
       have DV_15 := Lib.hid (DpV.only (Only.of_below hx) _ _ DV_14.out)
       clear hx
       go_wp2_with (first | (with_reducible refine wpList_loadL (NdL.of_blk DB_15.out).all rfl _ rfl rfl ?_))
       refine (rbytes_w (count (eDeep j)) (eDeep j) (Nat.le_refl _) (eDeep_ok j) (by omega) _ w15 ⟨xd, rfl, DpV.node (NodeV.below Y_15.out _ _ NF.out) _ _ DV_15.out⟩).mono ?_
       rintro e w16 ⟨vd, rfl, ho, hx⟩
       have Y_16 := Lib.hid (belowThen Y_15.out (Nat.le_refl _) hx)
       have DB_16 := Lib.hid (DB_15.out.below hx)
       have DV_16 := Lib.hid (DpV.only (Only.of_below hx) _ _ DV_15.out)
       have A_16 := Lib.hid (ArgB.of_own ho)
       clear hx ho
       go_wp2_with fail
       refine (packOpens_any vd _ [97, 47, 97, 47, 97] (by omega) (by decide) w16 A_16.out.1 A_16.out.2).mono ?_
       rintro e w17 ⟨rfl, hx⟩
       have Y_17 := Lib.hid (belowThen Y_16.out (Nat.le_refl _) hx)
       have DB_17 := Lib.hid (DB_16.out.below hx)
       have DV_17 := Lib.hid (DpV.only (Only.of_below hx) _ _ DV_16.out)
       clear hx
       go_wp2_with (first | (with_reducible refine wpList_loadL (NdL.of_blk DB_17.out).all rfl _ rfl rfl ?_) | (refine Agg.wpList_valw rfl (exec_kdB [97] xd rfl rfl rfl) ?_) | (refine wpList_slice1 (E := EK) rfl _ rfl (([97], xd) : KdV) rfl (Nat.le_refl _) ?_; intro vk w18 hk hx; have hkb := fun i hi => (Agg.Own.block hk i hi).1; obtain ⟨pk, ck, rfl⟩ := hk.slice.form; have HK := Lib.hid hk.slice; have HG := Lib.hid (DB_17.out.lt); have Y_18 := Lib.hid (belowThen Y_17.out (Nat.le_refl _) hx); have DB_18 := Lib.hid (DB_17.out.below hx); have DV_18 := Lib.hid (DpV.only (Only.of_below hx) _ _ DV_17.out); clear hk hx) | (refine Agg.wpList_put rfl rfl 26 _ _ rfl g9 (ndC (4, svN, ⟨.slice pk 1 ck, pk, 1, ck, rfl⟩)) (ndC xd) rfl rfl DB_18.out (nd_info _) rfl (ndC_one _) ?_; intro w19 hb hx hs9 hk9; have ho9 := Only.of_eq (S := (· = g9)) hx hs9 hk9 rfl; have DB_19 := Lib.hid hb; have hne : ∀ k, (Value.slice pk 1 ck).ownBlock = some k → k ≠ g9 := (fun k hk => by have h1 := hkb k hk; have h2 := HG.out; omega); have DV_19 := Lib.hid (show DpV g9 xf (j + 1) w19 (4, svN, ⟨.slice pk 1 ck, pk, 1, ck, rfl⟩) from ⟨xd, _, rfl, HK.out.onlyS ho9 hne, hne, DpV.only ho9 _ _ DV_18.out⟩); have Y_19 := Lib.hid (Y_18.out.trans (ho9.below Y_18.out.size (fun i hi => by subst hi; exact hg9))); clear hb hx hs9 hk9 ho9 hne hkb))
       go_roundw
       case rel => exact ⟨j + 1, _, by omega, by go_num, DB_19.out, DV_19.out, Y_19.out⟩
       case measure => simp [intOf]; omega
      ·have hd3 : decide ((j : Int) < 9) = false := by simp; omega
       clear DB_14 DV_14
       go_wp2_with fail
       go_loopw [11] (fun i wr => ∃ i6 : Nat, 2030 ≤ i6 ∧ i6 ≤ 2050 ∧ i = .int .i64 (i6 : Int) ∧ Below wb.heap.size wb wr) (fun i _ => 2050 - (intOf i).toNat)
       case atStart => exact ⟨2030, by omega, by omega, rfl, Y_14.out⟩
       case round =>
        obtain ⟨w15, hwr⟩ : ∃ y : World, y = wr := ⟨_, rfl⟩
        rw [← hwr] at hrel ⊢
        clear hwr
        obtain ⟨i6, hi6, hi7, rfl, hy⟩ := hrel
        have Y_15 := Lib.hid hy
        clear hy
        by_cases hlt6 : i6 < 2050
        ·have hd4 : decide ((i6 : Int) < 2050) = true := by simp; omega
         go_wp2_with (first | (refine wpList_makeB rfl _ _ i6 rfl rfl rfl (by omega) ?_; intro pb zb w16 hzb hr hx; have R_16 := Lib.hid hr.slice; have hm1 := bigT_msz zb (by omega); have hp1 := bigT_len zb (by omega); have Y_16 := Lib.hid (belowThen Y_15.out (Nat.le_refl _) hx); clear hr hx) | (refine wpList_new rfl rfl rfl 26 12 128 rfl rfl rfl (by decide) (ndC ndZ) (ndC (1, ⟨.slice pb i6 i6, pb, i6, i6, rfl⟩, svN)) nd_zero rfl (nd_info _) (ndC_one _) rfl (by first | (simp; done) | simp [Act.put]) ?_; intro g12 w17 hb hx hg; have E_17 := Lib.hid hb; have V_17 := Lib.hid (show NodeV w17 (1, ⟨.slice pb i6 i6, pb, i6, i6, rfl⟩, svN) (bigT zb) from ⟨rfl, R_16.out.below hx, [], .nil _ _ _, trivial⟩); have Y_17 := Lib.hid (belowThen Y_16.out (Nat.le_refl _) hx); clear hb hx hg))
         obtain ⟨xb, hxb⟩ : ∃ x : NdV, x = (1, ⟨.slice pb i6 i6, pb, i6, i6, rfl⟩, svN) := ⟨_, rfl⟩
         rw [← hxb] at E_17 V_17
         clear hxb
         refine Agg.wp_cutR (fun a0 a' w' => ∃ (g13 : Nat) (xt : NdV) (zc : List UInt8), zc.length = 2048 ∧ Blk w' g13 26 (ndC xt) ∧ NodeV w' xt (twoT zb zc) ∧ Below w17.heap.size w17 w' ∧ ExPut [129, 130, 131, 132, 133, 134, 135] (a0.put (some 13) (.pointer (some ⟨g13, 0, none⟩))) a') ?_ ?_
         ·try simp only [Act.put, List.setIfInBounds_toArray, List.set_cons_succ, List.set_cons_zero]
          obtain ⟨wa, hwa⟩ : ∃ X, X = w17.drew := ⟨_, rfl⟩
          have hx : Below w17.heap.size w17 wa := by rw [hwa]; exact (Below.refl _ _).drew
          have E_ := Lib.hid (E_17.out.below hx)
          have V_ := Lib.hid (NodeV.below hx _ _ V_17.out)
          have Z_ := Lib.hid hx
          have hS : Blk wa g12 26 (ndC xb) := E_.out
          refine wp_region_held_drew (S := fun W => Blk W g12 26 (ndC xb)) (by kernel_rfl) (by rw [← hwa]; exact hS) (fun hHeld => ?_)
          rw [← hwa] at hHeld ⊢
          clear hwa hx hHeld
          refine held_take 0 (.agg (ndC xb)) rfl (by kernel_rfl) (fun _ _ _ h => h) rfl (fun W hS => exec_loadB rfl rfl (NdL.of_blk hS).all.now) (by assumption) ?_
          try simp only [Act.put, List.setIfInBounds_toArray, List.set_cons_succ, List.set_cons_zero]
          refine held_take 1 (.agg (kdC ([97], xb))) rfl (by kernel_rfl) (fun _ _ _ h => h) rfl (fun W _ => exec_buildP2 rfl rfl rfl (kd_build [97] xb W)) (by assumption) ?_
          try simp only [Act.put, List.setIfInBounds_toArray, List.set_cons_succ, List.set_cons_zero]
          refine held_ready [2, 7] (by kernel_rfl) (by simp) ?_
          refine held_cons rfl ?_ ?_
          ·refine stepw_makeR rfl _ _ 2048 rfl rfl rfl (by omega) ?_
           intro p2 zc wa_2 hzc hr hb1 hb2 hx
           have E_2 := Lib.hid (E_.out.below hx)
           have Z_2 := Lib.hid (belowThen Z_.out (Nat.le_refl _) hx)
           have M_2 := Lib.hid hr.slice
           have Mlt := Lib.hid (show ∀ k, (Value.slice p2 2048 2048).ownBlock = some k → k < wa_2.heap.size from hb2)
           clear hr hb1 hb2 hx
           have hS_2 : Blk wa_2 g12 26 (ndC xb) := E_2.out
           refine ⟨hS_2, ?_⟩
           try simp only [Act.put, List.setIfInBounds_toArray, List.set_cons_succ, List.set_cons_zero]
           refine held_take 3 (.agg (ndC (2, ⟨.slice p2 2048 2048, p2, 2048, 2048, rfl⟩, svN))) rfl (by kernel_rfl) (fun _ _ _ h => h) rfl (fun W _ => exec_buildP2 rfl rfl rfl (nd_build2 2 ⟨.slice p2 2048 2048, p2, 2048, 2048, rfl⟩ W)) (by assumption) ?_
           try simp only [Act.put, List.setIfInBounds_toArray, List.set_cons_succ, List.set_cons_zero]
           refine held_take 4 (.agg (kdC ([98], (2, ⟨.slice p2 2048 2048, p2, 2048, 2048, rfl⟩, svN)))) rfl (by kernel_rfl) (fun _ _ _ h => h) rfl (fun W _ => exec_buildP2 rfl rfl rfl (kd_build [98] (2, ⟨.slice p2 2048 2048, p2, 2048, 2048, rfl⟩, svN) W)) (by assumption) ?_
           try simp only [Act.put, List.setIfInBounds_toArray, List.set_cons_succ, List.set_cons_zero]
           refine held_ready [5, 7] (by kernel_rfl) (by simp) ?_
           refine held_cons rfl ?_ ?_
           ·refine stepw_lit2K rfl _ _ rfl ([97], xb) ([98], (2, ⟨.slice p2 2048 2048, p2, 2048, 2048, rfl⟩, svN)) rfl rfl ?_
            intro pk Zo hr hb1 hb2 hx
            have Zq := Lib.hid (E_2.out.below hx)
            have Zp := Lib.hid (belowThen Z_2.out (Nat.le_refl _) hx)
            have Zs := Lib.hid (SliceOf.below M_2.out hx)
            have Zt := Lib.hid hr
            have Nlt := Lib.hid (show ∀ k, (Value.slice pk 2 2).ownBlock = some k → k < Zo.heap.size from hb2)
            have Mlt := Lib.hid (fun k hk => Nat.lt_of_lt_of_le (Mlt.out k hk) hx.size)
            clear hr hb1 hb2 hx
            have Zr : Blk Zo g12 26 (ndC xb) := Zq.out
            refine ⟨Zr, ?_⟩
            try simp only [Act.put, List.setIfInBounds_toArray, List.set_cons_succ, List.set_cons_zero]
            refine held_take 6 (.agg (ndC (4, svN, ⟨.slice pk 2 2, pk, 2, 2, rfl⟩))) rfl (by kernel_rfl) (fun _ _ _ h => h) rfl (fun W _ => exec_buildP2 rfl rfl rfl (nd_build02 4 ⟨.slice pk 2 2, pk, 2, 2, rfl⟩ W)) (by assumption) ?_
            try simp only [Act.put, List.setIfInBounds_toArray, List.set_cons_succ, List.set_cons_zero]
            refine held_one 7 rfl (by kernel_rfl) ?_
            refine step_zero rfl 26 rfl (ndC ndZ) nd_zero ?_
            intro g13 Zc hb hx hg
            have Za := Lib.hid (Zq.out.below hx)
            have Zb := Lib.hid (belowThen Zp.out (Nat.le_refl _) hx)
            have Ze := Lib.hid (SliceOf.below Zs.out hx)
            have Zf := Lib.hid (SliceOf.below Zt.out hx)
            have Zg := Lib.hid hb
            have hgz := Lib.hid (show w17.heap.size ≤ g13 from Nat.le_trans Zp.out.size hg)
            have Mne := Lib.hid (fun k hk => show k ≠ g13 from fun e => by have h1 := Mlt.out k hk; omega)
            have Nne := Lib.hid (fun k hk => show k ≠ g13 from fun e => by have h1 := Nlt.out k hk; omega)
            clear hb hx hg
            have Zd : Blk Zc g12 26 (ndC xb) := Za.out
            refine ⟨Zd, ?_⟩
            try simp only [Act.put, List.setIfInBounds_toArray, List.set_cons_succ, List.set_cons_zero]
            refine held_one 8 rfl (by kernel_rfl) ?_
            refine step_put rfl rfl 26 _ _ rfl g13 (ndC (4, svN, ⟨.slice pk 2 2, pk, 2, 2, rfl⟩)) (ndC ndZ) rfl rfl Zg.out (nd_info _) rfl (ndC_one _) ?_
            intro wz hb hx hs9 hk9
            have ho9 := Only.of_eq (S := (· = g13)) hx hs9 hk9 rfl
            have hSz : Blk wz g12 26 (ndC xb) := Za.out.onlyP ho9 (fun e => by have h1 := E_17.out.lt; have h2 := hgz.out; omega)
            refine ⟨hSz, ?_⟩
            have hZ : Below w17.heap.size w17 wz := Zb.out.trans (ho9.below Zb.out.size (fun i hi => by subst hi; exact hgz.out))
            have hM := Ze.out.onlyS ho9 (fun k hk => Mne.out k hk)
            have hN := Zf.out.onlyS ho9 (fun k hk => Nne.out k hk)
            try simp only [Act.put, List.setIfInBounds_toArray, List.set_cons_succ, List.set_cons_zero]
            refine held_end (by kernel_rfl) ?_
            simp only [ExPut, Act.put, List.setIfInBounds_toArray, List.set_cons_succ, List.set_cons_zero]
            exact ⟨g13, (4, svN, ⟨.slice pk 2 2, pk, 2, 2, rfl⟩), zc, hzc, hb, ⟨rfl, .nil _ _ _, _, hN, rfl, NodeV.below hZ _ _ V_17.out, rfl, ⟨rfl, hM, [], .nil _ _ _, trivial⟩, trivial⟩, hZ, _, _, _, _, _, _, _, rfl⟩
           refine held_cons rfl ?_ ?_
           ·refine step_zero rfl 26 rfl (ndC ndZ) nd_zero ?_
            intro g13 Zj hb hx hg
            have Zh := Lib.hid (E_2.out.below hx)
            have Zm := Lib.hid (belowThen Z_2.out (Nat.le_refl _) hx)
            have Zn := Lib.hid (SliceOf.below M_2.out hx)
            have Zi := Lib.hid hb
            have hgz := Lib.hid (show w17.heap.size ≤ g13 from Nat.le_trans Z_2.out.size hg)
            have Mne := Lib.hid (fun k hk => show k ≠ g13 from fun e => by have h1 := Mlt.out k hk; omega)
            clear hb hx hg
            have Zk : Blk Zj g12 26 (ndC xb) := Zh.out
            refine ⟨Zk, ?_⟩
            try simp only [Act.put, List.setIfInBounds_toArray, List.set_cons_succ, List.set_cons_zero]
            refine held_one 5 rfl (by kernel_rfl) ?_
            refine stepw_lit2K rfl _ _ rfl ([97], xb) ([98], (2, ⟨.slice p2 2048 2048, p2, 2048, 2048, rfl⟩, svN)) rfl rfl ?_
            intro pk Zc hr hb1 hb2 hx
            have Za := Lib.hid (Zh.out.below hx)
            have Zb := Lib.hid (belowThen Zm.out (Nat.le_refl _) hx)
            have Ze := Lib.hid (SliceOf.below Zn.out hx)
            have Zg := Lib.hid (Zi.out.below hx)
            have Zf := Lib.hid hr
            have Nne := Lib.hid (show ∀ k, (Value.slice pk 2 2).ownBlock = some k → k ≠ g13 from fun k hk e => by have h1 := hb1 k hk; have h2 := Zi.out.lt; omega)
            clear hr hb1 hb2 hx
            have Zd : Blk Zc g12 26 (ndC xb) := Za.out
            refine ⟨Zd, ?_⟩
            try simp only [Act.put, List.setIfInBounds_toArray, List.set_cons_succ, List.set_cons_zero]
            refine held_take 6 (.agg (ndC (4, svN, ⟨.slice pk 2 2, pk, 2, 2, rfl⟩))) rfl (by kernel_rfl) (fun _ _ _ h => h) rfl (fun W _ => exec_buildP2 rfl rfl rfl (nd_build02 4 ⟨.slice pk 2 2, pk, 2, 2, rfl⟩ W)) (by assumption) ?_
            try simp only [Act.put, List.setIfInBounds_toArray, List.set_cons_succ, List.set_cons_zero]
            refine held_one 8 rfl (by kernel_rfl) ?_
            refine step_put rfl rfl 26 _ _ rfl g13 (ndC (4, svN, ⟨.slice pk 2 2, pk, 2, 2, rfl⟩)) (ndC ndZ) rfl rfl Zg.out (nd_info _) rfl (ndC_one _) ?_
            intro wz hb hx hs9 hk9
            have ho9 := Only.of_eq (S := (· = g13)) hx hs9 hk9 rfl
            have hSz : Blk wz g12 26 (ndC xb) := Za.out.onlyP ho9 (fun e => by have h1 := E_17.out.lt; have h2 := hgz.out; omega)
            refine ⟨hSz, ?_⟩
            have hZ : Below w17.heap.size w17 wz := Zb.out.trans (ho9.below Zb.out.size (fun i hi => by subst hi; exact hgz.out))
            have hM := Ze.out.onlyS ho9 (fun k hk => Mne.out k hk)
            have hN := Zf.out.onlyS ho9 (fun k hk => Nne.out k hk)
            try simp only [Act.put, List.setIfInBounds_toArray, List.set_cons_succ, List.set_cons_zero]
            refine held_end (by kernel_rfl) ?_
            simp only [ExPut, Act.put, List.setIfInBounds_toArray, List.set_cons_succ, List.set_cons_zero]
            exact ⟨g13, (4, svN, ⟨.slice pk 2 2, pk, 2, 2, rfl⟩), zc, hzc, hb, ⟨rfl, .nil _ _ _, _, hN, rfl, NodeV.below hZ _ _ V_17.out, rfl, ⟨rfl, hM, [], .nil _ _ _, trivial⟩, trivial⟩, hZ, _, _, _, _, _, _, _, rfl⟩
           exact AllReadyH.nil
          refine held_cons rfl ?_ ?_
          ·refine step_zero rfl 26 rfl (ndC ndZ) nd_zero ?_
           intro g13 wa_7 hb hx hg
           have E_7 := Lib.hid (E_.out.below hx)
           have Z_7 := Lib.hid (belowThen Z_.out (Nat.le_refl _) hx)
           have G_7 := Lib.hid hb
           have hgz := Lib.hid (show w17.heap.size ≤ g13 from Nat.le_trans Z_.out.size hg)
           clear hb hx hg
           have hS_7 : Blk wa_7 g12 26 (ndC xb) := E_7.out
           refine ⟨hS_7, ?_⟩
           try simp only [Act.put, List.setIfInBounds_toArray, List.set_cons_succ, List.set_cons_zero]
           refine held_one 2 rfl (by kernel_rfl) ?_
           refine stepw_makeR rfl _ _ 2048 rfl rfl rfl (by omega) ?_
           intro p2 zc Zj hzc hr hb1 hb2 hx
           have Zh := Lib.hid (E_7.out.below hx)
           have Zm := Lib.hid (belowThen Z_7.out (Nat.le_refl _) hx)
           have Zi := Lib.hid (G_7.out.below hx)
           have Zn := Lib.hid hr.slice
           have Mne := Lib.hid (show ∀ k, (Value.slice p2 2048 2048).ownBlock = some k → k ≠ g13 from fun k hk e => by have h1 := hb1 k hk; have h2 := G_7.out.lt; omega)
           clear hr hb1 hb2 hx
           have Zk : Blk Zj g12 26 (ndC xb) := Zh.out
           refine ⟨Zk, ?_⟩
           try simp only [Act.put, List.setIfInBounds_toArray, List.set_cons_succ, List.set_cons_zero]
           refine held_take 3 (.agg (ndC (2, ⟨.slice p2 2048 2048, p2, 2048, 2048, rfl⟩, svN))) rfl (by kernel_rfl) (fun _ _ _ h => h) rfl (fun W _ => exec_buildP2 rfl rfl rfl (nd_build2 2 ⟨.slice p2 2048 2048, p2, 2048, 2048, rfl⟩ W)) (by assumption) ?_
           try simp only [Act.put, List.setIfInBounds_toArray, List.set_cons_succ, List.set_cons_zero]
           refine held_take 4 (.agg (kdC ([98], (2, ⟨.slice p2 2048 2048, p2, 2048, 2048, rfl⟩, svN)))) rfl (by kernel_rfl) (fun _ _ _ h => h) rfl (fun W _ => exec_buildP2 rfl rfl rfl (kd_build [98] (2, ⟨.slice p2 2048 2048, p2, 2048, 2048, rfl⟩, svN) W)) (by assumption) ?_
           try simp only [Act.put, List.setIfInBounds_toArray, List.set_cons_succ, List.set_cons_zero]
           refine held_one 5 rfl (by kernel_rfl) ?_
           refine stepw_lit2K rfl _ _ rfl ([97], xb) ([98], (2, ⟨.slice p2 2048 2048, p2, 2048, 2048, rfl⟩, svN)) rfl rfl ?_
           intro pk Zc hr hb1 hb2 hx
           have Za := Lib.hid (Zh.out.below hx)
           have Zb := Lib.hid (belowThen Zm.out (Nat.le_refl _) hx)
           have Ze := Lib.hid (SliceOf.below Zn.out hx)
           have Zg := Lib.hid (Zi.out.below hx)
           have Zf := Lib.hid hr
           have Nne := Lib.hid (show ∀ k, (Value.slice pk 2 2).ownBlock = some k → k ≠ g13 from fun k hk e => by have h1 := hb1 k hk; have h2 := Zi.out.lt; omega)
           clear hr hb1 hb2 hx
           have Zd : Blk Zc g12 26 (ndC xb) := Za.out
           refine ⟨Zd, ?_⟩
           try simp only [Act.put, List.setIfInBounds_toArray, List.set_cons_succ, List.set_cons_zero]
           refine held_take 6 (.agg (ndC (4, svN, ⟨.slice pk 2 2, pk, 2, 2, rfl⟩))) rfl (by kernel_rfl) (fun _ _ _ h => h) rfl (fun W _ => exec_buildP2 rfl rfl rfl (nd_build02 4 ⟨.slice pk 2 2, pk, 2, 2, rfl⟩ W)) (by assumption) ?_
           try simp only [Act.put, List.setIfInBounds_toArray, List.set_cons_succ, List.set_cons_zero]
           refine held_one 8 rfl (by kernel_rfl) ?_
           refine step_put rfl rfl 26 _ _ rfl g13 (ndC (4, svN, ⟨.slice pk 2 2, pk, 2, 2, rfl⟩)) (ndC ndZ) rfl rfl Zg.out (nd_info _) rfl (ndC_one _) ?_
           intro wz hb hx hs9 hk9
           have ho9 := Only.of_eq (S := (· = g13)) hx hs9 hk9 rfl
           have hSz : Blk wz g12 26 (ndC xb) := Za.out.onlyP ho9 (fun e => by have h1 := E_17.out.lt; have h2 := hgz.out; omega)
           refine ⟨hSz, ?_⟩
           have hZ : Below w17.heap.size w17 wz := Zb.out.trans (ho9.below Zb.out.size (fun i hi => by subst hi; exact hgz.out))
           have hM := Ze.out.onlyS ho9 (fun k hk => Mne.out k hk)
           have hN := Zf.out.onlyS ho9 (fun k hk => Nne.out k hk)
           try simp only [Act.put, List.setIfInBounds_toArray, List.set_cons_succ, List.set_cons_zero]
           refine held_end (by kernel_rfl) ?_
           simp only [ExPut, Act.put, List.setIfInBounds_toArray, List.set_cons_succ, List.set_cons_zero]
           exact ⟨g13, (4, svN, ⟨.slice pk 2 2, pk, 2, 2, rfl⟩), zc, hzc, hb, ⟨rfl, .nil _ _ _, _, hN, rfl, NodeV.below hZ _ _ V_17.out, rfl, ⟨rfl, hM, [], .nil _ _ _, trivial⟩, trivial⟩, hZ, _, _, _, _, _, _, _, rfl⟩
          exact AllReadyH.nil
         ·rintro a' w18 ⟨g13, xt, zc, hzc, h1, h2, hx, hex⟩
          have hm2 := twoT_msz zb zc (by omega) hzc
          have hp2 := twoT_len zb zc (by omega) hzc
          simp only [ExPut, Act.put, List.setIfInBounds_toArray, List.set_cons_succ, List.set_cons_zero] at hex
          obtain ⟨_, _, _, _, _, _, _, rfl⟩ := hex
          have Y_18 := Lib.hid (belowThen Y_17.out (Nat.le_refl _) hx)
          have E_18 := Lib.hid (E_17.out.below hx)
          have V_18 := Lib.hid (NodeV.below hx _ _ V_17.out)
          have U_18 := Lib.hid h1
          have T_18 := Lib.hid h2
          clear h1 h2 hx
          go_wp2_with (first | (with_reducible refine wpList_loadL (NdL.of_blk U_18.out).all rfl _ rfl rfl ?_))
          refine (packPuts_any _ (twoT zb zc) (by omega) w18 ⟨xt, rfl, T_18.out⟩).mono ?_
          rintro e w19 ⟨rfl, hx⟩
          have Y_19 := Lib.hid (belowThen Y_18.out (Nat.le_refl _) hx)
          have E_19 := Lib.hid (E_18.out.below hx)
          have V_19 := Lib.hid (NodeV.below hx _ _ V_18.out)
          have U_19 := Lib.hid (U_18.out.below hx)
          have T_19 := Lib.hid (NodeV.below hx _ _ T_18.out)
          clear hx
          go_wp2_with (first | (with_reducible refine wpList_loadL (NdL.of_blk E_19.out).all rfl _ rfl rfl ?_))
          refine (packPuts_any _ (bigT zb) (by omega) w19 ⟨xb, rfl, V_19.out⟩).mono ?_
          rintro e w20 ⟨rfl, hx⟩
          have Y_20 := Lib.hid (belowThen Y_19.out (Nat.le_refl _) hx)
          have E_20 := Lib.hid (E_19.out.below hx)
          have V_20 := Lib.hid (NodeV.below hx _ _ V_19.out)
          have U_20 := Lib.hid (U_19.out.below hx)
          have T_20 := Lib.hid (NodeV.below hx _ _ T_19.out)
          clear hx
          go_wp2_with (first | (with_reducible refine wpList_loadL (NdL.of_blk U_20.out).all rfl _ rfl rfl ?_))
          refine (rbytes_w (count (twoT zb zc)) (twoT zb zc) (Nat.le_refl _) (twoT_ok zb zc) (by omega) _ w20 ⟨xt, rfl, T_20.out⟩).mono ?_
          rintro e w21 ⟨vt, rfl, ho, hx⟩
          have Y_21 := Lib.hid (belowThen Y_20.out (Nat.le_refl _) hx)
          have E_21 := Lib.hid (E_20.out.below hx)
          have V_21 := Lib.hid (NodeV.below hx _ _ V_20.out)
          have U_21 := Lib.hid (U_20.out.below hx)
          have T_21 := Lib.hid (NodeV.below hx _ _ T_20.out)
          have A_21 := Lib.hid (ArgB.of_own ho)
          clear ho hx
          go_wp2_with fail
          refine (packOpens_any vt _ [98] (by omega) (by decide) w21 A_21.out.1 A_21.out.2).mono ?_
          rintro e w22 ⟨rfl, hx⟩
          have Y_22 := Lib.hid (belowThen Y_21.out (Nat.le_refl _) hx)
          have E_22 := Lib.hid (E_21.out.below hx)
          have V_22 := Lib.hid (NodeV.below hx _ _ V_21.out)
          have U_22 := Lib.hid (U_21.out.below hx)
          have T_22 := Lib.hid (NodeV.below hx _ _ T_21.out)
          clear hx
          go_wp2_with (first | (with_reducible refine wpList_loadL (NdL.of_blk E_22.out).all rfl _ rfl rfl ?_))
          refine (rbytes_w (count (bigT zb)) (bigT zb) (Nat.le_refl _) (bigT_ok zb) (by omega) _ w22 ⟨xb, rfl, V_22.out⟩).mono ?_
          rintro e w23 ⟨vs, rfl, ho, hx⟩
          have Y_23 := Lib.hid (belowThen Y_22.out (Nat.le_refl _) hx)
          have O_23 := Lib.hid (ho.lower Y_22.out.size)
          clear ho hx
          go_wp2_with (first | (refine wpList_litB1 rfl _ rfl 0 rfl ?_; intro pz w24 ho hx; have C_24 := Lib.hid ho.slice; have O_24 := Lib.hid (O_23.out.below hx); have Y_24 := Lib.hid (belowThen Y_23.out (Nat.le_refl _) hx); clear ho hx) | (refine wpList_appendP rfl _ _ rfl (.slice pz 1 1) rfl rfl ([0]) O_24.out (C_24.out) (by simp; omega) Y_24.out.size ?_; intro v25 w25 ho hx; have O_25 := Lib.hid ho; have Y_25 := Lib.hid (Y_24.out.trans hx); clear ho hx))
          refine (packOpens_any v25 _ [] (by simp; omega) (by decide) w25 (ArgB.of_own O_25.out).1 (ArgB.of_own O_25.out).2).mono ?_
          rintro e w26 ⟨rfl, hx⟩
          have Y_26 := Lib.hid (belowThen Y_25.out (Nat.le_refl _) hx)
          clear hx
          go_wp2_with fail
          go_roundw
          case rel => exact ⟨i6 + 1, by omega, by omega, by go_num, Y_26.out⟩
          case measure => simp [intOf]; omega
        ·have hd4 : decide ((i6 : Int) < 2050) = false := by simp; omega
         go_wp2_with (first | (refine wpList_litB1 rfl _ rfl 4 rfl ?_; intro pq w16 ho hx; have O_16 := Lib.hid (ho.lower Y_15.out.size); have Y_16 := Lib.hid (belowThen Y_15.out (Nat.le_refl _) hx); clear ho hx))
         refine (refNumber_any 199 w16 (by omega)).mono ?_
         rintro e w17 ⟨vn, rfl, ho, hx⟩
         have O_17 := Lib.hid (O_16.out.below hx)
         have Y_17 := Lib.hid (belowThen Y_16.out (Nat.le_refl _) hx)
         have C_17 := Lib.hid ho.slice
         have hn7 : (encN 199).length ≤ 7 := encN_len' 7 _ (by omega) (by omega)
         clear ho hx
         go_wp2_with (first | (refine wpList_appendP rfl _ _ rfl vn rfl rfl ((encN 199)) O_17.out (C_17.out) (by simp; omega) Y_17.out.size ?_; intro v18 w18 ho hx; have O_18 := Lib.hid ho; have Y_18 := Lib.hid (Y_17.out.trans hx); clear ho hx))
         obtain ⟨vw, hvw⟩ : ∃ x, x = v18 := ⟨_, rfl⟩
         obtain ⟨lw, hlw, hl8⟩ : ∃ l, l = [4] ++ encN 199 ∧ l.length ≤ 8 := ⟨_, rfl, by simp; omega⟩
         have O_w := Lib.hid (show Agg.Own EB wb.heap.size w18 vw lw from hvw ▸ hlw ▸ O_18.out)
         rw [← hvw]
         clear hvw hlw hn7 O_18
         go_loopw [14, 15] (fun a i wr => ∃ (j : Nat) (l : List UInt8), j ≤ 199 ∧ i = .int .i64 (j : Int) ∧ l.length ≤ 8 + 5 * j ∧ Agg.Own EB wb.heap.size wr a l ∧ Below wb.heap.size wb wr) (fun _ i _ => 199 - (intOf i).toNat)
         case atStart => exact ⟨0, lw, by omega, rfl, by omega, O_w.out, Y_18.out⟩
         case round =>
          obtain ⟨w19, hwr⟩ : ∃ y : World, y = wr := ⟨_, rfl⟩
          rw [← hwr] at hrel ⊢
          clear hwr
          obtain ⟨j, l, hj, rfl, hl, hol, hy⟩ := hrel
          have Y_19 := Lib.hid hy
          clear hy
          have O_19 := Lib.hid hol
          clear hol
          by_cases hj9 : j < 199
          ·have hd5 : decide ((j : Int) < 199) = true := by simp; omega
           obtain ⟨jq, hjq⟩ : ∃ x, j / 26 = x := ⟨_, rfl⟩
           obtain ⟨jr, hjr⟩ : ∃ x, j % 26 = x := ⟨_, rfl⟩
           have hjq9 : jq < 10 := by omega
           have hjr9 : jr < 26 := by omega
           have HQ := Lib.hid hjq
           have HR := Lib.hid hjr
           clear hjq hjr
           obtain ⟨cq, hcq⟩ : ∃ x, 97 + jq = x := ⟨_, rfl⟩
           obtain ⟨cr, hcr⟩ : ∃ x, 97 + jr = x := ⟨_, rfl⟩
           have HCQ := Lib.hid hcq
           have HCR := Lib.hid hcr
           clear hcq hcr
           go_wp2_with (first | (refine Agg.wpList_valw rfl (exec_quoI (m := j) (n := 26) HQ.out (by omega) (by omega) rfl rfl rfl) ?_) | (refine Agg.wpList_valw rfl (exec_remI (m := j) (n := 26) HR.out (by omega) rfl rfl rfl) ?_) | (refine Agg.wpList_valw rfl (exec_addN (m := 97) (n := jq) HCQ.out (by omega) rfl rfl rfl) ?_) | (refine Agg.wpList_valw rfl (exec_addN (m := 97) (n := jr) HCR.out (by omega) rfl rfl rfl) ?_) | (with_reducible refine Agg.wpList_valw rfl (exec_byteI cq rfl rfl) ?_) | (with_reducible refine Agg.wpList_valw rfl (exec_byteI cr rfl rfl) ?_) | (refine wpList_litB5 rfl _ _ _ _ _ rfl 2 (UInt8.ofNat cq) (UInt8.ofNat cr) 1 0 rfl rfl rfl rfl rfl ?_; intro ps w20 ho hx; have C_20 := Lib.hid ho.slice; have O_20 := Lib.hid (O_19.out.below hx); have Y_20 := Lib.hid (belowThen Y_19.out (Nat.le_refl _) hx); clear ho hx) | (refine wpList_appendP rfl _ _ rfl (.slice ps 5 5) rfl rfl ([2, UInt8.ofNat cq, UInt8.ofNat cr, 1, 0]) O_20.out (C_20.out) (by simp; omega) Y_20.out.size ?_; intro v21 w21 ho hx; have O_21 := Lib.hid ho; have Y_21 := Lib.hid (Y_20.out.trans hx); clear ho hx))
           go_roundw
           case rel => exact ⟨j + 1, _, by omega, by go_num, by simp; omega, O_21.out, Y_21.out⟩
           case measure => simp [intOf]; omega
          ·have hd5 : decide ((j : Int) < 199) = false := by simp; omega
           go_wp2_with fail
           refine (packOpens_any _ l [97, 97] (by omega) (by decide) w19 (ArgB.of_own O_19.out).1 (ArgB.of_own O_19.out).2).mono ?_
           rintro e w20 ⟨rfl, hx⟩
           have Y_20 := Lib.hid (belowThen Y_19.out (Nat.le_refl _) hx)
           have O_20 := Lib.hid (O_19.out.below hx)
           clear hx
           go_wp2_with (first | (refine wpList_litB4 rfl _ _ _ _ rfl 4 1 1 120 rfl rfl rfl rfl ?_; intro pf w21 ho hx; have P_21 := Lib.hid (ho.lower Y_20.out.size); have O_21 := Lib.hid (O_20.out.below hx); have Y_21 := Lib.hid (belowThen Y_20.out (Nat.le_refl _) hx); clear ho hx) | (refine wpList_appendP rfl _ _ rfl _ rfl rfl (l) P_21.out (O_21.out.slice) (by simp; omega) Y_21.out.size ?_; intro v22 w22 ho hx; have O_22 := Lib.hid ho; have Y_22 := Lib.hid (Y_21.out.trans hx); clear ho hx))
           refine (packOpens_any v22 _ [] (by simp; omega) (by decide) w22 (ArgB.of_own O_22.out).1 (ArgB.of_own O_22.out).2).mono ?_
           rintro e w23 ⟨rfl, hx⟩
           have Y_23 := Lib.hid (belowThen Y_22.out (Nat.le_refl _) hx)
           clear hx
           go_wp2_with fail
           refine (packOpens_any (.slice none 0 0) [] [] (by decide) (by decide) w23 (ArgB.nil _).1 (ArgB.nil w23).2).mono ?_
           rintro e w24 ⟨rfl, hx⟩
           have Y_24 := Lib.hid (belowThen Y_23.out (Nat.le_refl _) hx)
           clear hx
           go_wp2_with (first | (refine wpList_makeB rfl _ _ 4097 rfl rfl rfl (by omega) ?_; intro pm zm w25 hzm hr hx; have R_25 := Lib.hid (ArgB.room hr); have Y_25 := Lib.hid (belowThen Y_24.out (Nat.le_refl _) hx); clear hr hx))
           refine (packOpens_any _ zm [] (by omega) (by decide) w25 R_25.out.1 R_25.out.2).mono ?_
           rintro e w26 ⟨rfl, hx⟩
           have Y_26 := Lib.hid (belowThen Y_25.out (Nat.le_refl _) hx)
           clear hx
           go_wp2_with fail
           refine (awake09_any w26).mono ?_
           rintro e w27 ⟨rfl, hx⟩
           have Y_27 := Lib.hid (belowThen Y_26.out (Nat.le_refl _) hx)
           clear hx
           go_wp2_with fail
           go_ret
           exact ⟨rfl, belowThen XB.out (Nat.le_refl _) Y_27.out⟩
end Go.Proofs.YtfiadgdinhmgbaaGreatDoor
