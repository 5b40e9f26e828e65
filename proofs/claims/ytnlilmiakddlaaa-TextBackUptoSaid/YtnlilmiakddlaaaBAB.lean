/- Arms for the walk under a fence that lets all functions in: an operation whose answer is known. -/
import Derived.RangeFuncNested
import Derived.RangeFuncBound
import Derived.RangeFuncCalls
import Derived.RangeFuncLeaves
import Derived.OwnWalkIn
import Derived.TacticsInMore
import Derived.LoopNIn
import Derived.LoopIn
import Derived.Test.YtnlilmiakddlaaaBAA
namespace Go.Agg
open Go.RowKit
section
variable {F : Fence} {n : Nat} {P : Program} {ops : Array Oper} {rest : List Oper} {o o2 : Oper} {a : Act} {w w' : World} {Q : Exit → Act → World → Prop}
def Oper.plainB (o : Oper) : Bool := match o.op with | .defer _ => false | _ => true
theorem plain_semAt {ro : Option Nat} {ρ : Operand → Value} (h : Oper.plainB o = true) : o.semAt ro ρ = execOp ρ o := Oper.semAt_eq ro ρ o fun c e => by
  unfold Oper.plainB at h
  rw [e] at h
  cases h
theorem wpListIn_valR (hF : ∀ f, F.fn f) (hw : Region.wanted o (yielded ops a.tmps) = true) (hp : Oper.plainB o = true) {v : Value} (hrun : (execOp a.eval o).run P w = .ok (.value v) w') (h : wpListIn F n P ops Q rest (a.put o.dst v) w') : wpListIn F n P ops Q (o :: rest) a w := by
  refine wpListIn_step fun K hK => ?_
  rw [if_pos hw]
  refine ⟨fun f _ => hF f, ?_⟩
  rw [plain_semAt hp, hrun, Oper.uponIn_value]
  exact hK _ _ h
theorem wpListIn_skpR (hF : ∀ f, F.fn f) (hw : Region.wanted o (yielded ops a.tmps) = true) (hp : Oper.plainB o = true) (hd : o.dst = none) (hrun : (execOp a.eval o).run P w = .ok .skip w') (h : wpListIn F n P ops Q rest a w') : wpListIn F n P ops Q (o :: rest) a w := by
  refine wpListIn_step fun K hK => ?_
  rw [if_pos hw]
  refine ⟨fun f _ => hF f, ?_⟩
  rw [plain_semAt hp, hrun, Oper.uponIn_skip, hd]
  exact hK _ _ h
theorem wpListIn_loadL {ty : TypeId} {p : Option Addr} {v : Value} (h : LoadsL P w ty p v) (hF : ∀ f, F.fn f) (hw : Region.wanted o (yielded ops a.tmps) = true) (x : Operand) (ho : o.op = .load ty x) (hx : a.eval x = .pointer p) (hk : wpListIn F n P ops Q rest (a.put o.dst v) w) : wpListIn F n P ops Q (o :: rest) a w :=
  wpListIn_valR hF hw (by unfold Oper.plainB; rw [ho]) (by simp [execOp, ho, hx, h.now]) hk
/-- a new variable, made and stored -/
theorem wpListIn_new (hF : ∀ f, F.fn f) (hg : o.guard = none) (hg2 : o2.guard = none) (hd2 : o2.dst = none) (ty : TypeId) (d k : Tmp) (ho : o.op = .alloc ty) (hd : o.dst = some d) (ho2 : o2.op = .store ty (.tmp d) (.tmp k)) (hkd : Nat.beq d k = false) (z cs : Array Value)
    (hz : (P.info? ty).map (·.zero) = some (some (.agg z))) (hzs : z.size = cs.size) (hi : (P.info? ty).map (·.size) = some cs.size) (h1 : cs.all (·.oneCell') = true)
    (hy : a.eval (.tmp k) = .agg cs) (hsz : d < a.tmps.size)
    (h : ∀ w', Blk w' w.heap.size ty cs → w' = (w.alloc (.cells z ty)).setRow w.heap.size cs → wpListIn F n P ops Q rest (a.put o.dst (.pointer (some ⟨w.heap.size, 0, none⟩))) w') : wpListIn F n P ops Q (o :: o2 :: rest) a w := by
  have hb := heap_alloc_new w (.cells z ty)
  have hne : d ≠ k := Nat.ne_of_beq_eq_false hkd
  refine wpListIn_valR hF (by simp [Region.wanted, hg]) (by unfold Oper.plainB; rw [ho]) (v := .pointer (some ⟨w.heap.size, 0, none⟩)) (w' := w.alloc (.cells z ty)) ?_ ?_
  · cases hq : P.info? ty with
    | none => simp [hq] at hz
    | some i =>
      have hs : i.zero = some (.agg z) := by simpa [hq] using hz
      simp [execOp, ho, Instr.alloc, zeroValue, typeInfo, hq, hs, newVar, newRow, Value.cells]
  · refine wpListIn_skpR hF (by simp [Region.wanted, hg2]) (by unfold Oper.plainB; rw [ho2]) hd2 (w' := (w.alloc (.cells z ty)).setRow w.heap.size cs) ?_ (h _ (setRow_heap _ _ _ _ _ _ hb) rfl)
    have e1 : (a.put o.dst (.pointer (some ⟨w.heap.size, 0, none⟩))).eval (.tmp d) = .pointer (some ⟨w.heap.size, 0, none⟩) := by rw [hd]; simp [Act.put, Act.eval, hsz]
    have e2 : (a.put o.dst (.pointer (some ⟨w.heap.size, 0, none⟩))).eval (.tmp k) = .agg cs := by rw [hd, ← hy]; simp [Act.put, Act.eval, hne]
    simp [execOp, ho2, e1, e2, Instr.storeAt, Instr.sureAddr, run_storeVar_row _ w.heap.size ty ty z cs hb hi hzs h1]
/-- what a row of its own in a new block leaves -/
theorem keepsOthers_new (w : World) (ty : TypeId) (z cs : Array Value) : KeepsOthers w ((w.alloc (.cells z ty)).setRow w.heap.size cs) := by
  refine ⟨by simp, fun k o hk ho => ?_⟩
  have hlt := (Array.getElem?_eq_some_iff.1 hk).1
  rw [setRow_other _ _ _ _ (by omega)]
  exact (((Below.refl w.heap.size w).alloc (Nat.le_refl _) _).block k hlt).trans hk
theorem below_new {B : Nat} {a w : World} (h : Below B a w) (hB : B ≤ w.heap.size) (ty : TypeId) (z cs : Array Value) : Below B a ((w.alloc (.cells z ty)).setRow w.heap.size cs) := below_setRow (h.alloc hB _) hB
theorem wide_all : ∀ f, Fence.wide.fn f := fun _ => trivial
theorem wide_allR (l : Nat) : ∀ f, (Fence.wide.inRound l).fn f := fun _ => trivial
end
end Go.Agg
