/- spencelaw08.awake: the chapter's example. -/
import Derived.Test.YtfiadgdinhmgbaaDoorHAX
import Derived.Test.YtfiadgdinhmgbaaDoorHBB
import Derived.Test.YtfiadgdinhmgbaaDoorHBC
import Derived.Lib.SlBytesConst
namespace Go.Tr
open Go.Proofs.YtfiadgdinhmgbaaDoor Go.Agg
def fB : T := .mk 1 [120] []
def tB : T := .mk 4 [] [([97], .mk 4 [] [([98], fB)])]
theorem awake_put : ptE dirT [97, 47, 98] fB = 0 ∧ ptT dirT [97, 47, 98] fB = tB := by
 have hw : wayN [97, 47, 98] = some [[97], [98]] := by decide +kernel
 exact ptE_0 (by decide +kernel) (by decide +kernel) hw (by decide +kernel) (by decide +kernel)
theorem awake_ways : wysR tB = [[], [97], [97, 47, 98]] := by decide +kernel
end Go.Tr
namespace Go.Proofs.YtfiadgdinhmgbaaDoor
open Go.RowKit Pl Go.Agg Go.Tr
section
variable {ops : Array Oper} {rest : List Oper} {o o2 : Oper} {a : Act} {w : World} {Q : Exit → Act → World → Prop}
theorem wpList_const1 (hg : o.guard = none) (hg2 : o2.guard = none) (d : Tmp) (hd : o.dst = some d) (x : Operand) (ho : o.op = .buildSlice 23 1 #[(0, x)]) (ho2 : o2.op = .convert 23 23 (.tmp d)) (hsz : d < a.tmps.size) (vx : UInt8) (hx : a.eval x = EB.val vx)
  (h : ∀ p w', SliceOf EB w' (.slice p 1 1) [vx] → Below w.heap.size w w' → wpList Tryd.prog ops Q rest ((a.put o.dst (.slice p 1 1)).put o2.dst (.slice p 1 1)) w') : wpList Tryd.prog ops Q (o :: o2 :: rest) a w := by
 have hr := Lib.run_convert_bytes_const (P := Tryd.prog) w 23 5 (EB.val vx).cells 1 1 (by kernel_rfl) Tryd.underlying5
 have he : (a.put o.dst (.slice (some ⟨w.heap.size, 0, none⟩) 1 1)).eval (.tmp d) = .slice (some ⟨w.heap.size, 0, none⟩) 1 1 := by
  rw [hd]; simp [Act.put, Act.eval, hsz]
 refine Agg.wpList_val hg (v := .slice (some ⟨w.heap.size, 0, none⟩) 1 1) (w' := w.alloc (.cells (EB.val vx).cells 5)) (by have := Agg.run_slice_one (E := EB) (P := Tryd.prog) vx w; simp [execOp, ho, hx]; exact congrArg (fun r => Result.andThen r _) this) ?_
 refine Agg.wpList_val hg2 (v := .slice (some ⟨w.heap.size, 0, none⟩) 1 1) (w' := w.alloc (.cells (EB.val vx).cells 5 ((EB.val vx).cells.size, (EB.val vx).cells.size + 1))) (by rw [execOp, ho2]; simp only [he, Sem.run_bind]; rw [hr]; rfl) (h _ _ ?_ ((Below.refl _ _).alloc (Nat.le_refl _) _))
 refine .inr ⟨_, 1, rfl, Agg.heap_lt (heap_alloc_new w _), fun j u hj => ?_⟩
 rw [add_plain, Nat.zero_add, cell_of_row _ _ _ _ _ _ (heap_alloc_new w _), ← Array.getElem?_toList]
 exact hj
end
set_option maxRecDepth 100000 in
set_option maxHeartbeats 8000000 in
theorem awake08_any (w : World) : Calls Tryd.prog 8 #[] w fun e w' => e = .returned (.bool true) ∧ Below w.heap.size w w' := by
 go_enter Tryd.func8, Tryd.ntmps8
 go_wp2_with (first | (refine wpList_const1 rfl rfl 6 rfl _ rfl rfl (by decide) 120 rfl ?_; intro p1 w1 hs hx; have HS1 := Lib.hid hs; have HX1 := Lib.hid hx; clear hs hx))
 have HD1 := Lib.hid (show NodeAt w1 (.agg (ndC (4, svN, svN))) dirT from ⟨_, rfl, rfl, SliceOf.nil _ _ _, [], SliceOf.nil _ _ _, trivial⟩)
 have HF1 := Lib.hid (show NodeAt w1 (.agg (ndC (1, ⟨.slice p1 1 1, p1, 1, 1, rfl⟩, svN))) fB from ⟨_, rfl, rfl, HS1.out, [], SliceOf.nil _ _ _, trivial⟩)
 refine (tput_any dirT fB [97, 47, 98] (by simp) _ _ w1 HD1.out HF1.out).mono ?_
 rintro e w2 ⟨x2, rfl, hon, hx⟩
 rw [awake_put.2] at hon
 rw [awake_put.1]
 have HN2 := Lib.hid (show NodeAt w2 (.agg (ndC x2)) tB from ⟨x2, rfl, hon.reads⟩)
 have HX2 := Lib.hid (belowThen HX1.out (Nat.le_refl _) hx)
 clear hon hx
 go_wp2_with (first | (refine wpList_new rfl rfl rfl 26 1 10 rfl rfl rfl (by decide) (ndC ndZ) (ndC x2) nd_zero rfl (nd_info _) (ndC_one _) rfl (by first | (simp; done) | simp [Act.put]) ?_; intro g1 w3 hb hx hg; have HB3 := Lib.hid hb; have HN3 := Lib.hid (HN2.out.below hx); have HX3 := Lib.hid (belowThen HX2.out (Nat.le_refl _) hx); clear hb hx hg) | (with_reducible refine wpList_loadL (NdL.of_blk HB3.out).all rfl _ rfl rfl ?_))
 refine (ways_any _ tB w3 HN3.out).mono ?_
 rintro e w4 ⟨vl, rfl, ho, hx⟩
 rw [awake_ways] at ho
 have HX4 := Lib.hid (belowThen HX3.out (Nat.le_refl _) hx)
 have hll := fun W => strs_len ho.slice W
 obtain ⟨q0, ha0, hl0⟩ := strs_at ho.slice 0 [] rfl
 obtain ⟨q1, ha1, hl1⟩ := strs_at ho.slice 1 [97] rfl
 obtain ⟨q2, ha2, hl2⟩ := strs_at ho.slice 2 [97, 47, 98] rfl
 have HL0 := Lib.hid hl0
 have HL1 := Lib.hid hl1
 have HL2 := Lib.hid hl2
 have hb0 : ∀ W, (Instr.indexAt 37 vl (.int .i64 0)).run Tryd.prog W = .ok (.pointer (some q0)) W := ha0
 have hb1 : ∀ W, (Instr.indexAt 37 vl (.int .i64 1)).run Tryd.prog W = .ok (.pointer (some q1)) W := ha1
 have hb2 : ∀ W, (Instr.indexAt 37 vl (.int .i64 2)).run Tryd.prog W = .ok (.pointer (some q2)) W := ha2
 clear ho hx hl0 hl1 hl2 ha0 ha1 ha2
 go_wp2_with (first | (with_reducible refine wpList_loadL HL0.out rfl _ rfl rfl ?_) | (with_reducible refine wpList_loadL HL1.out rfl _ rfl rfl ?_) | (with_reducible refine wpList_loadL HL2.out rfl _ rfl rfl ?_))
 go_ret
 exact ⟨rfl, HX4.out⟩
end Go.Proofs.YtfiadgdinhmgbaaDoor
