/- text.Get: what was thrown is caught. -/
import Derived.Test.YtnlilmiakddlaaaBAU
import Derived.Test.YtnlilmiakddlaaaBAK
import Derived.Recover
namespace Go.Proofs.Ytnlilmiakddlaaa
open Go.RowKit Pl Go.Agg
/-- two results, each in its variable -/
theorem results_cells {P : Program} {fn : Func} {p q : Tmp} {t1 t2 : TypeId} (h : fn.results = #[.cell p t1, .cell q t2]) {tmps : Array Value} {w : World} {a b : Addr} {u v : Value} (hp : tmps.getD p undef = .pointer (some a)) (hq : tmps.getD q undef = .pointer (some b))
    (h1 : (loadVar t1 a).run P w = .ok u w) (h2 : (loadVar t2 b).run P w = .ok v w) : (results fn tmps).run P w = .ok (.tuple #[u, v]) w := by
  have hp' : tmps[p]?.getD undef = .pointer (some a) := by rw [← Array.getD_eq_getD_getElem?]; exact hp
  have hq' : tmps[q]?.getD undef = .pointer (some b) := by rw [← Array.getD_eq_getD_getElem?]; exact hq
  simp only [results, h]
  simp [hp', hq', asAddr, h1, h2]
def noneV : Value := .iface 52 (.agg #[])
set_option maxRecDepth 100000 in
set_option maxHeartbeats 8000000 in
theorem catch_idleT (g2 g3 : Nat) (w : World) : CallsD Try.prog 16 #[.pointer (some ⟨g2, 0, none⟩), .pointer (some ⟨g3, 0, none⟩)] .returning w fun e u' w' => e = .returned (.tuple #[]) ∧ u' = .returning ∧ w' = w := by
  refine callsD_of_wpS Try.func16 rfl fun c₀ cs hu => ?_
  simp only [Try.ntmps16, List.size_toArray, List.length_cons, List.length_nil, Nat.reduceAdd, Nat.reduceSub, Array.replicate_succ, Array.replicate_zero, List.push_toArray, List.append_toArray, List.nil_append, List.cons_append]
  apply wpS_seq
  apply wpS_region
  simp [wpOpsS, go_sem, recoverD, hu, Exit.thenS]
  refine wpS_of_wp ?_
  go_wp2_with fail
  refine ⟨rfl, .returning, ?_, _, results_none rfl _ _ _, rfl, rfl, rfl⟩
  cases c₀
  simp_all
theorem drvZ_one : drvZ.all (·.oneCell') = true := by simp [drvZ, Value.oneCell']
theorem drv_build0T (W : World) : (Instr.build 25 #[]).run Try.prog W = .ok (.agg drvZ) W := by kernel_rfl
set_option maxRecDepth 100000 in
set_option maxHeartbeats 8000000 in
theorem catch_noneT (g2 g3 : Nat) (old : Array Value) (hsz : old.size = 3) (oe : Int) (w : World) (h2 : Blk w g2 25 old) (h3 : Blk w g3 28 #[.int .i64 oe]) (hne : g2 ≠ g3) :
    CallsD Try.prog 16 #[.pointer (some ⟨g2, 0, none⟩), .pointer (some ⟨g3, 0, none⟩)] (.panicking noneCh) w fun e u' w' =>
      e = .returned (.tuple #[]) ∧ u' = .panicking [{ v := noneV, recovered := true }] ∧ Blk w' g2 25 drvZ ∧ Blk w' g3 28 #[.int .i64 4] ∧ Only (fun k => k = g2 ∨ k = g3) w w' := by
  refine callsD_of_wpS Try.func16 rfl fun c₀ cs hu => ?_
  simp only [Try.ntmps16, List.size_toArray, List.length_cons, List.length_nil, Nat.reduceAdd, Nat.reduceSub, Array.replicate_succ, Array.replicate_zero, List.push_toArray, List.append_toArray, List.nil_append, List.cons_append]
  apply wpS_seq
  apply wpS_region
  simp [wpOpsS, go_sem, recoverD, hu, Exit.thenS, noneCh]
  refine wpS_of_wp ?_
  have hta : ∀ W, (Instr.typeAssert (.iface 52 (.agg #[])) 20 52 true).run Try.prog W = .ok (.tuple #[.agg #[], .bool true]) W := fun W => by kernel_rfl
  have HU := Lib.hid hu
  have H2 := Lib.hid h2
  have H3 := Lib.hid h3
  clear hu h2 h3
  have hxa : Below w.heap.size w (w.alloc (.cells #[] 52)) := (Below.refl _ _).alloc (Nat.le_refl _) _
  have HXA := Lib.hid hxa
  have H2a := Lib.hid (H2.out.below hxa)
  have H3a := Lib.hid (H3.out.below hxa)
  have h3d : old.size = drvZ.size := hsz
  clear hxa
  go_wp2_with (first | (with_reducible refine Agg.wpList_build0 25 rfl (by kernel_rfl) (.agg drvZ) drv_build0T ?_) | (refine Agg.wpList_put rfl rfl 25 _ _ rfl g2 drvZ old rfl rfl H2a.out drv_info3T h3d drvZ_one ?_; intro w2 hb hx hs hk; have HB2 := Lib.hid hb; have HB3 := Lib.hid (show Blk w2 g3 28 #[.int .i64 oe] from (hk g3 (fun e => hne e.symm)).trans H3a.out); have HO2 := Lib.hid (show Only (· = g2) (w.alloc (.cells #[] 52)) w2 from ⟨hx.os, hx.tape, hx.output, Nat.le_of_eq hs.symm, fun k _ hn => hk k hn⟩); have HST := Lib.hid (Agg.Blk.run_put (P := Try.prog) (ty := 28) HB3.out 0 (by simp) (.int .i64 4) rfl rfl (by kernel_rfl)); clear hb hx hs hk) | (refine Agg.wpList_store rfl rfl 28 _ _ rfl _ _ rfl rfl HST.out ?_))
  refine ⟨rfl, .panicking [{ v := noneV, recovered := true }], ?_, _, results_none rfl _ _ _, rfl, rfl, (Below.heap_setCell _ _ _ _ hne).trans HB2.out, Agg.Blk.set HB3.out 0 _, ?_⟩
  · have hu := HU.out
    cases c₀
    simp_all [noneV]
  · have h1 : Only (fun k => k = g2 ∨ k = g3) w (w.alloc (.cells #[] 52)) := Only.of_below HXA.out
    have h2 : Only (· = g3) w2 (w2.setCell ⟨g3, 0, none⟩ (.int .i64 4)) := only_setCells g3 0 [.int .i64 4] w2
    exact (h1.trans HO2.out (fun i _ e => .inl e)).trans h2 (fun i _ e => .inr e)
end Go.Proofs.Ytnlilmiakddlaaa
