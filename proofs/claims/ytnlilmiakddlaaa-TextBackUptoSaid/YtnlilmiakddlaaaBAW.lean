/- text.Get: a text's derivation, or the error. -/
import Derived.Test.YtnlilmiakddlaaaBAV
namespace Go.Proofs.Ytnlilmiakddlaaa
open Go.RowKit Pl Go.Agg
theorem exec_allocE {o : Oper} {a : Act} {w : World} (ho : o.op = .alloc 28) : (execOp a.eval o).run Try.prog w = .ok (.value (.pointer (some ⟨w.heap.size, 0, none⟩))) (w.alloc (.cells #[.int .i64 0] 28)) := by
  have hz : (zeroValue 28).run Try.prog w = .ok (.int .i64 0) w := by kernel_rfl
  simp [execOp, ho, Instr.alloc, hz, newVar, newRow, Value.cells]
/-- what Get tells -/
def GetOut (B : Nat) (w : World) (d : Drv) (n : Nat) (e : Ending) (w' : World) : Prop :=
  Below B w w' ∧ ∃ vi vr, e = .returned (.tuple #[.agg #[.string ⟨d.1.toArray⟩, vi, vr], .int .i64 (n : Int)]) ∧ Agg.Own ENm B w' vi d.2.1 ∧ Agg.Own EB B w' vr d.2.2
theorem run_loadVar1T {P : Program} {w : World} {a : Addr} {ty : TypeId} {v : Value} {d : TypeDesc} (h : w.cell? a = some v) (hu : P.underlying ty = some d) (hd : (match d with | .struct _ | .array _ _ => true | _ => false) = false) : (loadVar ty a).run P w = .ok v w := by
  have hagg : (isAgg ty).run P w = .ok false w := by
    unfold isAgg
    rw [Sem.run_bind, run_underlying hu w]
    cases d <;> simp_all
  simp [loadVar, Sem.run_bind, hagg, go_sem, h]
theorem drv_loads {w : World} {g : Nat} {cs : Array Value} (h : Blk w g 25 cs) (hs : cs.size = 3) : LoadsL Try.prog w 25 (some ⟨g, 0, none⟩) (.agg cs) := h.loads (by kernel_rfl : Try.prog.underlying 25 = some (.struct (Try.prog.fieldsOf 25))) rfl (by rw [hs]; kernel_rfl)
theorem drvZ_size : drvZ.size = 3 := rfl
theorem errno_underT : Try.prog.underlying 28 = some (.int .i64) := by kernel_rfl
theorem drv_underT : Try.prog.underlying 25 = some (.struct (Try.prog.fieldsOf 25)) := by kernel_rfl
/-- the results lie in their variables -/
theorem get_results {w : World} {g2 g3 : Nat} {n : ByteArray} {vi vr : Value} {e : Int} (h2 : Blk w g2 25 #[.string n, vi, vr]) (h3 : Blk w g3 28 #[.int .i64 e]) {tmps : Array Value} (hp : tmps.getD 2 undef = .pointer (some ⟨g2, 0, none⟩)) (hq : tmps.getD 3 undef = .pointer (some ⟨g3, 0, none⟩)) :
    (results Try.f8 tmps).run Try.prog w = .ok (.tuple #[.agg #[.string n, vi, vr], .int .i64 e]) w :=
  results_cells rfl hp hq (run_loadVar_row w g2 _ _ _ _ _ h2 drv_underT rfl drv_info3T) (run_loadVar1T (by rw [h3.cell]; rfl) errno_underT rfl)
set_option maxRecDepth 100000 in
set_option maxHeartbeats 8000000 in
theorem tget_any (v : Value) (b : List UInt8) (m : Int) (w : World) (hb : b.length ≤ 1048576) (hm : w.cell? ⟨0, 0, none⟩ = some (.int .i64 m)) (hv : BytesAt w v b) :
    Calls Try.prog 8 #[v] w fun e w' => GetOut w.heap.size w (tgB b) (tgE b) e w' := by
  have hlv := fun W => bytes_len hv W
  have hmf : ∀ (fn : Fn) (first cap : Array Value) (w : World), (Instr.makeFunc fn first cap).run Try.prog w = .ok (.func fn first cap) w := fun _ _ _ _ => rfl
  have HV := Lib.hid hv
  have HM := Lib.hid hm
  clear hv hm
  refine calls_of_wp_defers Try.func8 rfl ?_
  simp only [Try.ntmps8, List.size_toArray, List.length_cons, List.length_nil, Nat.reduceAdd, Nat.reduceSub, Array.replicate_succ, Array.replicate_zero, List.push_toArray, List.append_toArray, List.nil_append, List.cons_append]
  obtain ⟨dB, hdB⟩ : ∃ d, tgB b = d := ⟨_, rfl⟩
  obtain ⟨nE, hnE⟩ : ∃ n, tgE b = n := ⟨_, rfl⟩
  rw [hdB, hnE]
  by_cases h2k : 2000 < b.length
  · have hd : decide (2000 < (b.length : Int)) = true := by simp; omega
    obtain rfl : dB = ([], [], []) := by rw [← hdB, tgB, if_neg (by omega)]
    obtain rfl : nE = 3 := by rw [← hnE, tgE, if_neg (by omega)]
    clear hdB hnE
    go_wp2_with (first | (refine Agg.wpList_zero rfl 25 rfl drvZ drv_zeroT ?_; intro g2 w1 hb2 hx hg; have G2 := Lib.hid hb2; have X1 := Lib.hid hx; have HG2 := Lib.hid hg; clear hb2 hx hg; obtain ⟨w2, hw2⟩ : ∃ X, X = w1.alloc (.cells #[.int .i64 0] 28) := ⟨_, rfl⟩; have G3 := Lib.hid (show Blk w2 w1.heap.size 28 #[.int .i64 0] from hw2 ▸ Blk.new w1 _ _); have hx2 : Below w1.heap.size w1 w2 := (hw2 ▸ (Below.refl _ _).alloc (Nat.le_refl _) _); have G22 := Lib.hid (G2.out.below hx2); have X2 := Lib.hid (Agg.belowThen X1.out (Nat.le_refl _) hx2); have HV2 := Lib.hid (SliceOf.below HV.out X2.out); have HN := Lib.hid (show g2 < w1.heap.size from G2.out.lt); have HW2 := Lib.hid hw2; clear hw2 hx2) | (refine Agg.wpList_valw rfl (exec_allocE rfl) ?_; rw [← HW2.out]; obtain ⟨g3, hg3⟩ : ∃ g, g = w1.heap.size := ⟨_, rfl⟩; rw [← hg3] at G3 HN ⊢; clear hg3) | (with_reducible refine Agg.wpList_loadL (drv_loads (cs := drvZ) G22.out drvZ_size) rfl _ rfl rfl ?_) | (refine Agg.wpList_put rfl rfl 25 _ _ rfl g2 drvZ drvZ rfl rfl G22.out drv_info3T rfl drvZ_one ?_; intro w5 hb5 hx5 hs5 hk5; have HB5 := Lib.hid hb5; have HE5 := Lib.hid (show Blk w5 g3 28 #[.int .i64 0] from (hk5 g3 (fun e => by have := HN.out; omega)).trans G3.out); have HO5 := Lib.hid (show Only (· = g2) w2 w5 from ⟨hx5.os, hx5.tape, hx5.output, Nat.le_of_eq hs5.symm, fun k _ hn => hk5 k hn⟩); have HST := Lib.hid (Agg.Blk.run_put (P := Try.prog) (ty := 28) HE5.out 0 (by simp) (.int .i64 3) rfl rfl (by kernel_rfl)); clear hb5 hx5 hs5 hk5) | (refine Agg.wpList_store rfl rfl 28 _ _ rfl _ _ rfl rfl HST.out ?_))
    have HB6 := (Below.heap_setCell w5 ⟨g3, 0, none⟩ (.int .i64 3) g2 (by have := HN.out; show g2 ≠ g3; omega)).trans HB5.out
    refine ⟨_, get_results HB6 (Agg.Blk.set HE5.out 0 _) rfl rfl, ?_, _, _, rfl, Agg.Own.nil _ _ _, Agg.Own.nil _ _ _⟩
    have hg2 := HG2.out
    have hn := HN.out
    exact (X2.out.trans (HO5.out.below X2.out.size (fun i hi => by subst hi; exact hg2))).setCell (show w.heap.size ≤ g3 by omega) _
  · have hd : decide (2000 < (b.length : Int)) = false := by simp; omega
    go_wp2_with (first | (refine Agg.wpList_zero rfl 25 rfl drvZ drv_zeroT ?_; intro g2 w1 hb2 hx hg; have G2 := Lib.hid hb2; have X1 := Lib.hid hx; have HG2 := Lib.hid hg; clear hb2 hx hg; obtain ⟨w2, hw2⟩ : ∃ X, X = w1.alloc (.cells #[.int .i64 0] 28) := ⟨_, rfl⟩; have G3 := Lib.hid (show Blk w2 w1.heap.size 28 #[.int .i64 0] from hw2 ▸ Blk.new w1 _ _); have hx2 : Below w1.heap.size w1 w2 := (hw2 ▸ (Below.refl _ _).alloc (Nat.le_refl _) _); have G22 := Lib.hid (G2.out.below hx2); have X2 := Lib.hid (Agg.belowThen X1.out (Nat.le_refl _) hx2); have HV2 := Lib.hid (SliceOf.below HV.out X2.out); have HN := Lib.hid (show g2 < w1.heap.size from G2.out.lt); have HW2 := Lib.hid hw2; clear hw2 hx2) | (refine Agg.wpList_valw rfl (exec_allocE rfl) ?_; rw [← HW2.out]; obtain ⟨g3, hg3⟩ : ∃ g, g = w1.heap.size := ⟨_, rfl⟩; rw [← hg3] at G3 HN ⊢; clear hg3) | (refine wpList_toStr HV2.out _ rfl rfl rfl ?_))
    have HM2 := Lib.hid ((X2.out.cell (block_lt_of_cell HM.out)).trans HM.out)
    refine (read_any b hb m w2 HM2.out).mono ?_
    rintro e w3 ⟨hx, hmo⟩
    have hg2 := HG2.out
    have hn := HN.out
    have HB3 := Lib.hid ((hx.block g2 G22.out.lt).trans G22.out : w3.heap[g2]? = _)
    have HE3 := Lib.hid ((hx.block g3 G3.out.lt).trans G3.out : w3.heap[g3]? = _)
    have X3 := Lib.hid (Agg.belowThen X2.out (Nat.le_refl _) hx)
    have HW := Lib.hid X2.out.size
    clear hx
    cases hgd : getD b with
    | none =>
      rw [hgd] at hmo
      obtain rfl : e = .panicked noneCh := hmo
      obtain rfl : dB = ([], [], []) := by rw [← hdB, tgB, if_pos (by omega), hgd]; rfl
      obtain rfl : nE = 4 := by rw [← hnE, tgE, if_pos (by omega), hgd]; rfl
      clear hdB hnE hgd
      go_wp2_with fail
      refine leaves_cons (f := 16) (args := #[.pointer (some ⟨g2, 0, none⟩), .pointer (some ⟨g3, 0, none⟩)]) (by simp) (by simp [go_sem]) ?_
      refine (catch_noneT g2 g3 drvZ rfl 0 w3 HB3.out HE3.out (by omega)).mono ?_
      rintro e u' w4 ⟨rfl, rfl, hb2, hb3, ho⟩
      show Leaves _ _ _ _ [] .returning w4
      refine ⟨_, get_results hb2 hb3 rfl rfl, ?_, _, _, rfl, Agg.Own.nil _ _ _, Agg.Own.nil _ _ _⟩
      exact X3.out.trans (ho.below X3.out.size (fun i hi => by rcases hi with rfl | rfl <;> omega))
    | some d =>
      rw [hgd] at hmo
      obtain ⟨vi, vr, rfl, ho1, ho2⟩ := hmo
      obtain rfl : dB = d := by rw [← hdB, tgB, if_pos (by omega), hgd]; rfl
      obtain rfl : nE = 0 := by rw [← hnE, tgE, if_pos (by omega), hgd]; rfl
      have hall : (#[.string ⟨dB.1.toArray⟩, vi, vr] : Array Value).all (·.oneCell') = true := by
        obtain ⟨p1, c1, e1⟩ := ho1.slice.form
        obtain ⟨p2, c2, e2⟩ := ho2.slice.form
        rw [e1, e2]; simp [Value.oneCell']
      have O1 := Lib.hid ho1
      have O2 := Lib.hid ho2
      clear hdB hnE hgd ho1 ho2
      go_wp2_with (first | (refine Agg.wpList_put rfl rfl 25 _ _ rfl g2 #[.string ⟨dB.1.toArray⟩, vi, vr] drvZ rfl rfl (show Blk w3 g2 25 drvZ from HB3.out) drv_info3T rfl hall ?_; intro w5 hb5 hx5 hs5 hk5; have HB5 := Lib.hid hb5; have HE5 := Lib.hid (show Blk w5 g3 28 #[.int .i64 0] from (hk5 g3 (fun e => by have := HN.out; omega)).trans HE3.out); have HO5 := Lib.hid (show Only (· = g2) w3 w5 from ⟨hx5.os, hx5.tape, hx5.output, Nat.le_of_eq hs5.symm, fun k _ hn => hk5 k hn⟩); have HST := Lib.hid (Agg.Blk.run_put (P := Try.prog) (ty := 28) HE5.out 0 (by simp) (.int .i64 0) rfl rfl (by kernel_rfl)); clear hb5 hx5 hs5 hk5) | (refine Agg.wpList_store rfl rfl 28 _ _ rfl _ _ rfl rfl HST.out ?_))
      refine leaves_cons (f := 16) (args := #[.pointer (some ⟨g2, 0, none⟩), .pointer (some ⟨g3, 0, none⟩)]) (by simp) (by simp [go_sem]) ?_
      refine (catch_idleT g2 g3 _).mono ?_
      rintro e u' w6 ⟨rfl, rfl, rfl⟩
      show Leaves _ _ _ _ [] .returning _
      have HB6 := (Below.heap_setCell w5 ⟨g3, 0, none⟩ (.int .i64 0) g2 (by show g2 ≠ g3; omega)).trans HB5.out
      have hlow : ∀ (k : Nat) (cur : Array Value) (t : TypeId) (fr : Nat × Nat), w2.heap.size ≤ k → w3.heap[k]? = some (.cells cur t fr) → (w5.setCell ⟨g3, 0, none⟩ (.int .i64 0)).heap[k]? = some (.cells cur t fr) := fun k cur t fr hk hq =>
        (Below.heap_setCell _ _ _ _ (show k ≠ g3 by have := G3.out.lt; omega)).trans ((HO5.out.block k (heap_lt hq) (show ¬ k = g2 by have := G22.out.lt; omega)).trans hq)
      refine ⟨_, get_results HB6 (Agg.Blk.set HE5.out 0 _) rfl rfl, ?_, _, _, rfl, (O1.out.keep fun k cur t fr hk hq => hlow k cur t fr hk hq).lower HW.out, (O2.out.keep fun k cur t fr hk hq => hlow k cur t fr hk hq).lower HW.out⟩
      exact (X3.out.trans (HO5.out.below X3.out.size (fun i hi => by subst hi; exact hg2))).setCell (show w.heap.size ≤ g3 by omega) _
end Go.Proofs.Ytnlilmiakddlaaa
