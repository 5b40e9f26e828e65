/- Inputs by names, built; a slice of none. -/
import Derived.Test.YtgekpghjlhcpkaaDBA
import Derived.Test.YtgekpghjlhcpkaaDBB
namespace Go.Agg
open Go.RowKit
theorem step_slice0 {P : Program} {α : Type} (E : Elem P α) {ops : Array Oper} {o : Oper} {a : Act} {w : World} {Q : Exit → Act → World → Prop} {K : Act → World → Prop} {F : Prop} (hg : o.guard = none) (ho : o.op = .buildSlice E.st 0 #[])
    (h : ∀ v' w', Own E w.heap.size w' v' [] → Below w.heap.size w w' → K (a.put o.dst v') w') : if Region.wanted o (yielded ops a.tmps) = true then o.wp P a w K Q else F := by
  refine step_val hg (v := .slice (some ⟨w.heap.size, 0, none⟩) 0 0) (w' := w.alloc (.cells #[] E.ty)) ?_ (h _ _ ?_ ((Below.refl _ _).alloc (Nat.le_refl _) _))
  · simp [execOp, ho, Instr.buildSlice, run_underlying E.slice, run_sizeOf_elem, newRow, Instr.fill]
    rw [show Array.range 0 = #[] by simp, Array.map_empty]
  · exact ⟨by simp [Elem.flat], .inr ⟨_, 0, #[], rfl, Nat.le_refl _, heap_alloc_new w _, Nat.le_refl _, Nat.zero_le _, by simp, by simp [Elem.flat]⟩⟩
theorem exec_build1C {P : Program} {o : Oper} {a : Act} {w : World} {ty : TypeId} {i : Nat} {x : Operand} {vx v : Value} (ho : o.op = .build ty #[(i, x)]) (hx : a.eval x = vx) (hrun : (Instr.build ty #[(i, vx)]).run P w = .ok v w) : (execOp a.eval o).run P w = .ok (.value v) w := by
  subst hx
  simp [execOp, ho, hrun]
end Go.Agg
namespace Go.Proofs.Ytgekpghjlhcpkaa
open Go.RowKit Pl Go.Agg
theorem inpBuilt : ∀ parts, Try.prog.built 56 parts = Instr.fill (#[(0, 21), (21, 20), (41, 1)][·]?) (iC zI) parts := fun _ => by kernel_rfl
theorem namBuilt : ∀ parts, Try.prog.built 58 parts = Instr.fill (#[(0, 1), (1, 42)][·]?) (nmC zN) parts := fun _ => by kernel_rfl
theorem build_src (p : P20) (w : World) : (Instr.build 56 #[(0, .agg (pC p.1.1 p.1.2))]).run Try.prog w = .ok (.agg (iC (p, zH, false))) w := by
  have h1 : (pC p.1.1 p.1.2).size = 21 := by rw [pC_size, p.2]
  have hz : (iC zI).size = 42 := iC_size _
  refine run_build w _ _ _ ?_
  rw [inpBuilt]
  rw [fill_cons (off := 0) (size := 21) rfl (by simp only [Value.cells]; exact h1) (by omega)]
  rw [fill_nil]
  refine congrArg some ?_
  simp only [Value.cells]
  have e : iC zI = pC z20 [] ++ (hC z20 ++ #[.bool false]) := rfl
  have e2 : iC (p, zH, false) = pC p.1.1 p.1.2 ++ (hC z20 ++ #[.bool false]) := rfl
  rw [e, e2]
  generalize hC z20 ++ #[Value.bool false] = T
  have l2 : (pC z20 []).toList.length = 21 := by rw [Array.length_toList, pC_size]; rfl
  apply Array.ext'
  simp [Go.Agg.splice, h1, l2]
theorem build_nam (n : List UInt8) (i : Inp) (w : World) : (Instr.build 58 #[(0, .string ⟨n.toArray⟩), (1, .agg (iC i))]).run Try.prog w = .ok (.agg (nmC (n, i))) w := by
  have h1 : (iC i).size = 42 := iC_size _
  have hz : (nmC zN).size = 43 := nmC_size _
  have hs1 : (Go.Agg.splice (nmC zN) 0 #[.string ⟨n.toArray⟩]).size = 43 := by rw [Go.Agg.splice_size _ _ _ (by simp; omega), hz]
  refine run_build w _ _ _ ?_
  rw [namBuilt]
  rw [fill_cons (off := 0) (size := 1) rfl rfl (by omega)]
  rw [fill_cons (off := 1) (size := 42) rfl (by simp only [Value.cells]; exact h1) (by simp only [Value.cells]; omega)]
  rw [fill_nil]
  refine congrArg some ?_
  clear hs1
  simp only [Value.cells]
  generalize nmC zN = Z at *
  apply Array.ext'
  have l3 : Z.toList.length = 43 := by rw [Array.length_toList]; exact hz
  simp [Go.Agg.splice, nmC, h1, l3, List.drop_eq_nil_of_le]
theorem build_drv2 (n : List UInt8) (p : Option Addr) (m c : Nat) (w : World) : (Instr.build 25 #[(0, .string ⟨n.toArray⟩), (2, .slice p m c)]).run Try.prog w = .ok (.agg #[.string ⟨n.toArray⟩, .slice none 0 0, .slice p m c]) w := by kernel_rfl
theorem drv_zero0 : (Try.prog.info? 25).map (·.zero) = some (some (.agg #[.string ⟨#[]⟩, .slice none 0 0, .slice none 0 0])) := by kernel_rfl
theorem drv_info3 (n : ByteArray) (a b : Value) : (Try.prog.info? 25).map (·.size) = some (#[.string n, a, b] : Array Value).size := by kernel_rfl
end Go.Proofs.Ytgekpghjlhcpkaa
