/- Bytes handed over as arguments: literals, cut bytes, new rows. -/
import Derived.Test.YtfiadgdinhmgbaaGreatDoorEBI
import Derived.Test.YtfiadgdinhmgbaaGreatDoorEBL
import Derived.Test.YtfiadgdinhmgbaaGreatDoorEBM
import Derived.Test.YtfiadgdinhmgbaaGreatDoorEAE
import Derived.Test.YtfiadgdinhmgbaaGreatDoorEBC
namespace Go.Proofs.YtfiadgdinhmgbaaGreatDoor
open Go.RowKit Pl Go.Agg Go.Tr
def ArgB (w : World) (v : Value) (l : List UInt8) : Prop := BytesAt w v l ∧ ∀ p n c, v = .slice p n c → n ≤ c
section
variable {w w' : World} {v : Value} {l : List UInt8} {base : Nat}
theorem ArgB.below (h : ArgB w v l) (hb : Below w.heap.size w w') : ArgB w' v l := ⟨SliceOf.below h.1 hb, h.2⟩
theorem ArgB.nil (w : World) : ArgB w (.slice none 0 0) [] := ⟨SliceOf.nil _ _ _, fun p n c e => by cases e; omega⟩
theorem ArgB.of_own (h : Agg.Own EB base w v l) : ArgB w v l := by
 refine ⟨h.slice, ?_⟩
 obtain ⟨_, ⟨rfl, h0⟩ | ⟨g, cap, cur, rfl, hgb, hcur, hle, _⟩⟩ := h
 ·intro p n c e; cases e; omega
 ·intro p n c e; cases e; exact hle
theorem ArgB.room (h : RoomN EB w v l) : ArgB w v l := by
 refine ⟨h.slice, ?_⟩
 rcases h with ⟨rfl, _⟩ | ⟨b, o, cap, rfl, hle, _⟩
 ·intro p n c e; cases e; omega
 ·intro p n c e; cases e; exact hle
theorem ArgB.high (h : ArgB w v l) (k : Nat) (hk : k ≤ l.length) : ∃ vx, (∀ W, (Instr.sliceAt 23 v none (some (.int .i64 (k : Int))) none).run Tryz.prog W = .ok vx W) ∧ ArgB w vx (l.take k) := by
 obtain ⟨p, c, rfl⟩ := h.1.form
 have hc := h.2 _ _ _ rfl
 exact ⟨_, fun W => runHigh p l.length c k (by omega) W, sliceOf_taken h.1 k hk, fun q n d e => by cases e; omega⟩
theorem ArgB.low (h : ArgB w v l) (k : Nat) (hk : k ≤ l.length) : ∃ vx, (∀ W, (Instr.sliceAt 23 v (some (.int .i64 (k : Int))) none none).run Tryz.prog W = .ok vx W) ∧ ArgB w vx (l.drop k) := by
 obtain ⟨p, c, rfl⟩ := h.1.form
 have hc := h.2 _ _ _ rfl
 exact ⟨_, fun W => runLow p l.length c k hk W, argDropped h.1 hc k hk, fun q n d e => by cases e; omega⟩
end
section
variable {o : Oper} {a : Act} {w : World} {x : Operand}
theorem exec_byteI (n : Nat) (ho : o.op = .convert 3 5 x) (hx : a.eval x = .int .i64 (n : Int)) : (execOp a.eval o).run Tryz.prog w = .ok (.value (vB (UInt8.ofNat n))) w := by
 have e : (UInt8.ofNat n).toNat = n % 256 := by simp
 have e2 : ((n % 256 : Nat) : Int) = (n : Int) % 256 := by omega
 simp only [execOp, ho, hx, vB, e, e2]
 have hc : (convert 3 5 (.int .i64 (n : Int))).run Tryz.prog w = .ok (.int .u8 ((n : Int) % 256)) w := by
  simp [convert]
  simp [Conv.intToInt, IntKind.wrap, IntKind.signed, IntKind.bits]
 simp [hc]
end
theorem own_lit {w : World} {cs : Array Value} {l : List UInt8} (h : cs.toList = EB.flat l) (hn : l.length ≤ 1000) : Agg.Own EB w.heap.size (w.alloc (.cells cs 5)) (.slice (some ⟨w.heap.size, 0, none⟩) l.length l.length) l := by
 have hl : (EB.flat l).length = l.length := by rw [Elem.flat_length, show EB.n = 1 from rfl, Nat.mul_one]
 have hs : cs.size = l.length := by rw [← Array.length_toList, h, hl]
 refine ⟨by rw [hl, show EB.n = 1 from rfl, Nat.mul_one], .inr ⟨_, l.length, cs, rfl, Nat.le_refl _, heap_alloc_new w _, Nat.le_refl _, by simp only [maxLen]; omega, by rw [hs, show EB.n = 1 from rfl, Nat.mul_one], ?_⟩⟩
 rw [h, List.take_of_length_le (by rw [hl]; simp [show EB.n = 1 from rfl])]

theorem litB1_run (c0 : UInt8) (W : World) : (Instr.buildSlice 23 1 #[(0, EB.val c0)]).run Tryz.prog W = .ok (.slice (some ⟨W.heap.size, 0, none⟩) 1 1) (W.alloc (.cells #[EB.val c0] 5)) := by kernel_rfl
theorem litB3_run (c0 c1 c2 : UInt8) (W : World) : (Instr.buildSlice 23 3 #[(0, EB.val c0), (1, EB.val c1), (2, EB.val c2)]).run Tryz.prog W = .ok (.slice (some ⟨W.heap.size, 0, none⟩) 3 3) (W.alloc (.cells #[EB.val c0, EB.val c1, EB.val c2] 5)) := by kernel_rfl
theorem litB4_run (c0 c1 c2 c3 : UInt8) (W : World) : (Instr.buildSlice 23 4 #[(0, EB.val c0), (1, EB.val c1), (2, EB.val c2), (3, EB.val c3)]).run Tryz.prog W = .ok (.slice (some ⟨W.heap.size, 0, none⟩) 4 4) (W.alloc (.cells #[EB.val c0, EB.val c1, EB.val c2, EB.val c3] 5)) := by kernel_rfl
theorem litB5_run (c0 c1 c2 c3 c4 : UInt8) (W : World) : (Instr.buildSlice 23 5 #[(0, EB.val c0), (1, EB.val c1), (2, EB.val c2), (3, EB.val c3), (4, EB.val c4)]).run Tryz.prog W = .ok (.slice (some ⟨W.heap.size, 0, none⟩) 5 5) (W.alloc (.cells #[EB.val c0, EB.val c1, EB.val c2, EB.val c3, EB.val c4] 5)) := by kernel_rfl
theorem litB6_run (c0 c1 c2 c3 c4 c5 : UInt8) (W : World) : (Instr.buildSlice 23 6 #[(0, EB.val c0), (1, EB.val c1), (2, EB.val c2), (3, EB.val c3), (4, EB.val c4), (5, EB.val c5)]).run Tryz.prog W = .ok (.slice (some ⟨W.heap.size, 0, none⟩) 6 6) (W.alloc (.cells #[EB.val c0, EB.val c1, EB.val c2, EB.val c3, EB.val c4, EB.val c5] 5)) := by kernel_rfl
theorem litB7_run (c0 c1 c2 c3 c4 c5 c6 : UInt8) (W : World) : (Instr.buildSlice 23 7 #[(0, EB.val c0), (1, EB.val c1), (2, EB.val c2), (3, EB.val c3), (4, EB.val c4), (5, EB.val c5), (6, EB.val c6)]).run Tryz.prog W = .ok (.slice (some ⟨W.heap.size, 0, none⟩) 7 7) (W.alloc (.cells #[EB.val c0, EB.val c1, EB.val c2, EB.val c3, EB.val c4, EB.val c5, EB.val c6] 5)) := by kernel_rfl
section
variable {ops : Array Oper} {rest : List Oper} {o o2 : Oper} {a : Act} {w : World} {Q : Exit → Act → World → Prop}
theorem wpList_litB1 (hw : Region.wanted o (yielded ops a.tmps) = true) (x0 : Operand) (ho : o.op = .buildSlice 23 1 #[(0, x0)]) (c0 : UInt8) (h0 : a.eval x0 = EB.val c0)
  (h : ∀ p w', Agg.Own EB w.heap.size w' (.slice p 1 1) [c0] → Below w.heap.size w w' → wpList Tryz.prog ops Q rest (a.put o.dst (.slice p 1 1)) w') : wpList Tryz.prog ops Q (o :: rest) a w := by
 refine Agg.wpList_valw hw (v := .slice (some ⟨w.heap.size, 0, none⟩) 1 1) (w' := w.alloc (.cells #[EB.val c0] 5)) ?_ (h _ _ (own_lit (l := [c0]) rfl (by simp)) ((Below.refl _ _).alloc (Nat.le_refl _) _))
 simp [execOp, ho, h0, litB1_run]
theorem wpList_litB4 (hw : Region.wanted o (yielded ops a.tmps) = true) (x0 x1 x2 x3 : Operand) (ho : o.op = .buildSlice 23 4 #[(0, x0), (1, x1), (2, x2), (3, x3)]) (c0 c1 c2 c3 : UInt8) (h0 : a.eval x0 = EB.val c0) (h1 : a.eval x1 = EB.val c1) (h2 : a.eval x2 = EB.val c2) (h3 : a.eval x3 = EB.val c3)
  (h : ∀ p w', Agg.Own EB w.heap.size w' (.slice p 4 4) [c0, c1, c2, c3] → Below w.heap.size w w' → wpList Tryz.prog ops Q rest (a.put o.dst (.slice p 4 4)) w') : wpList Tryz.prog ops Q (o :: rest) a w := by
 refine Agg.wpList_valw hw (v := .slice (some ⟨w.heap.size, 0, none⟩) 4 4) (w' := w.alloc (.cells #[EB.val c0, EB.val c1, EB.val c2, EB.val c3] 5)) ?_ (h _ _ (own_lit (l := [c0, c1, c2, c3]) rfl (by simp)) ((Below.refl _ _).alloc (Nat.le_refl _) _))
 simp [execOp, ho, h0, h1, h2, h3, litB4_run]
theorem wpList_litB5 (hw : Region.wanted o (yielded ops a.tmps) = true) (x0 x1 x2 x3 x4 : Operand) (ho : o.op = .buildSlice 23 5 #[(0, x0), (1, x1), (2, x2), (3, x3), (4, x4)]) (c0 c1 c2 c3 c4 : UInt8) (h0 : a.eval x0 = EB.val c0) (h1 : a.eval x1 = EB.val c1) (h2 : a.eval x2 = EB.val c2) (h3 : a.eval x3 = EB.val c3) (h4 : a.eval x4 = EB.val c4)
  (h : ∀ p w', Agg.Own EB w.heap.size w' (.slice p 5 5) [c0, c1, c2, c3, c4] → Below w.heap.size w w' → wpList Tryz.prog ops Q rest (a.put o.dst (.slice p 5 5)) w') : wpList Tryz.prog ops Q (o :: rest) a w := by
 refine Agg.wpList_valw hw (v := .slice (some ⟨w.heap.size, 0, none⟩) 5 5) (w' := w.alloc (.cells #[EB.val c0, EB.val c1, EB.val c2, EB.val c3, EB.val c4] 5)) ?_ (h _ _ (own_lit (l := [c0, c1, c2, c3, c4]) rfl (by simp)) ((Below.refl _ _).alloc (Nat.le_refl _) _))
 simp [execOp, ho, h0, h1, h2, h3, h4, litB5_run]
theorem wpList_litB6 (hw : Region.wanted o (yielded ops a.tmps) = true) (x0 x1 x2 x3 x4 x5 : Operand) (ho : o.op = .buildSlice 23 6 #[(0, x0), (1, x1), (2, x2), (3, x3), (4, x4), (5, x5)]) (c0 c1 c2 c3 c4 c5 : UInt8) (h0 : a.eval x0 = EB.val c0) (h1 : a.eval x1 = EB.val c1) (h2 : a.eval x2 = EB.val c2) (h3 : a.eval x3 = EB.val c3) (h4 : a.eval x4 = EB.val c4) (h5 : a.eval x5 = EB.val c5)
  (h : ∀ p w', Agg.Own EB w.heap.size w' (.slice p 6 6) [c0, c1, c2, c3, c4, c5] → Below w.heap.size w w' → wpList Tryz.prog ops Q rest (a.put o.dst (.slice p 6 6)) w') : wpList Tryz.prog ops Q (o :: rest) a w := by
 refine Agg.wpList_valw hw (v := .slice (some ⟨w.heap.size, 0, none⟩) 6 6) (w' := w.alloc (.cells #[EB.val c0, EB.val c1, EB.val c2, EB.val c3, EB.val c4, EB.val c5] 5)) ?_ (h _ _ (own_lit (l := [c0, c1, c2, c3, c4, c5]) rfl (by simp)) ((Below.refl _ _).alloc (Nat.le_refl _) _))
 simp [execOp, ho, h0, h1, h2, h3, h4, h5, litB6_run]
theorem wpList_litB7 (hw : Region.wanted o (yielded ops a.tmps) = true) (x0 x1 x2 x3 x4 x5 x6 : Operand) (ho : o.op = .buildSlice 23 7 #[(0, x0), (1, x1), (2, x2), (3, x3), (4, x4), (5, x5), (6, x6)]) (c0 c1 c2 c3 c4 c5 c6 : UInt8) (h0 : a.eval x0 = EB.val c0) (h1 : a.eval x1 = EB.val c1) (h2 : a.eval x2 = EB.val c2) (h3 : a.eval x3 = EB.val c3) (h4 : a.eval x4 = EB.val c4) (h5 : a.eval x5 = EB.val c5) (h6 : a.eval x6 = EB.val c6)
  (h : ∀ p w', Agg.Own EB w.heap.size w' (.slice p 7 7) [c0, c1, c2, c3, c4, c5, c6] → Below w.heap.size w w' → wpList Tryz.prog ops Q rest (a.put o.dst (.slice p 7 7)) w') : wpList Tryz.prog ops Q (o :: rest) a w := by
 refine Agg.wpList_valw hw (v := .slice (some ⟨w.heap.size, 0, none⟩) 7 7) (w' := w.alloc (.cells #[EB.val c0, EB.val c1, EB.val c2, EB.val c3, EB.val c4, EB.val c5, EB.val c6] 5)) ?_ (h _ _ (own_lit (l := [c0, c1, c2, c3, c4, c5, c6]) rfl (by simp)) ((Below.refl _ _).alloc (Nat.le_refl _) _))
 simp [execOp, ho, h0, h1, h2, h3, h4, h5, h6, litB7_run]
theorem wpList_constB1 (hg : o.guard = none) (hg2 : o2.guard = none) (d : Tmp) (hd : o.dst = some d) (x0 : Operand) (ho : o.op = .buildSlice 23 1 #[(0, x0)]) (ho2 : o2.op = .convert 23 23 (.tmp d)) (hsz : d < a.tmps.size) (c0 : UInt8) (h0 : a.eval x0 = EB.val c0)
  (h : ∀ p w', SliceOf EB w' (.slice p 1 1) [c0] → Below w.heap.size w w' → wpList Tryz.prog ops Q rest ((a.put o.dst (.slice p 1 1)).put o2.dst (.slice p 1 1)) w') : wpList Tryz.prog ops Q (o :: o2 :: rest) a w := by
 have hr := Lib.run_convert_bytes_const (P := Tryz.prog) w 23 5 #[EB.val c0] 1 1 (by kernel_rfl) Tryz.underlying5
 have he : (a.put o.dst (.slice (some ⟨w.heap.size, 0, none⟩) 1 1)).eval (.tmp d) = .slice (some ⟨w.heap.size, 0, none⟩) 1 1 := by
  rw [hd]; simp [Act.put, Act.eval, hsz]
 refine Agg.wpList_val hg (v := .slice (some ⟨w.heap.size, 0, none⟩) 1 1) (w' := w.alloc (.cells #[EB.val c0] 5)) (by simp [execOp, ho, h0, litB1_run]) ?_
 refine Agg.wpList_val hg2 (v := .slice (some ⟨w.heap.size, 0, none⟩) 1 1) (w' := w.alloc (.cells #[EB.val c0] 5 (#[EB.val c0].size, #[EB.val c0].size + 1))) (by rw [execOp, ho2]; simp only [he, Sem.run_bind]; rw [hr]; rfl) (h _ _ ?_ ((Below.refl _ _).alloc (Nat.le_refl _) _))
 refine .inr ⟨_, 1, rfl, Agg.heap_lt (heap_alloc_new w _), fun j u hj => ?_⟩
 rw [add_plain, Nat.zero_add, cell_of_row _ _ _ _ _ _ (heap_alloc_new w _), ← Array.getElem?_toList]
 exact hj
theorem wpList_constB3 (hg : o.guard = none) (hg2 : o2.guard = none) (d : Tmp) (hd : o.dst = some d) (x0 x1 x2 : Operand) (ho : o.op = .buildSlice 23 3 #[(0, x0), (1, x1), (2, x2)]) (ho2 : o2.op = .convert 23 23 (.tmp d)) (hsz : d < a.tmps.size) (c0 c1 c2 : UInt8) (h0 : a.eval x0 = EB.val c0) (h1 : a.eval x1 = EB.val c1) (h2 : a.eval x2 = EB.val c2)
  (h : ∀ p w', SliceOf EB w' (.slice p 3 3) [c0, c1, c2] → Below w.heap.size w w' → wpList Tryz.prog ops Q rest ((a.put o.dst (.slice p 3 3)).put o2.dst (.slice p 3 3)) w') : wpList Tryz.prog ops Q (o :: o2 :: rest) a w := by
 have hr := Lib.run_convert_bytes_const (P := Tryz.prog) w 23 5 #[EB.val c0, EB.val c1, EB.val c2] 3 3 (by kernel_rfl) Tryz.underlying5
 have he : (a.put o.dst (.slice (some ⟨w.heap.size, 0, none⟩) 3 3)).eval (.tmp d) = .slice (some ⟨w.heap.size, 0, none⟩) 3 3 := by
  rw [hd]; simp [Act.put, Act.eval, hsz]
 refine Agg.wpList_val hg (v := .slice (some ⟨w.heap.size, 0, none⟩) 3 3) (w' := w.alloc (.cells #[EB.val c0, EB.val c1, EB.val c2] 5)) (by simp [execOp, ho, h0, h1, h2, litB3_run]) ?_
 refine Agg.wpList_val hg2 (v := .slice (some ⟨w.heap.size, 0, none⟩) 3 3) (w' := w.alloc (.cells #[EB.val c0, EB.val c1, EB.val c2] 5 (#[EB.val c0, EB.val c1, EB.val c2].size, #[EB.val c0, EB.val c1, EB.val c2].size + 1))) (by rw [execOp, ho2]; simp only [he, Sem.run_bind]; rw [hr]; rfl) (h _ _ ?_ ((Below.refl _ _).alloc (Nat.le_refl _) _))
 refine .inr ⟨_, 3, rfl, Agg.heap_lt (heap_alloc_new w _), fun j u hj => ?_⟩
 rw [add_plain, Nat.zero_add, cell_of_row _ _ _ _ _ _ (heap_alloc_new w _), ← Array.getElem?_toList]
 exact hj
end
theorem exec_lowP {o : Oper} {a : Act} {w : World} {t : TypeId} {x y : Operand} {v lo r : Value} (ho : o.op = .slice t x (some y) none none) (hx : a.eval x = v) (hy : a.eval y = lo) (hrun : (Instr.sliceAt t v (some lo) none none).run Tryz.prog w = .ok r w) : (execOp a.eval o).run Tryz.prog w = .ok (.value r) w := by
 simp [execOp, ho, hx, hy, hrun]
theorem exec_highP {o : Oper} {a : Act} {w : World} {t : TypeId} {x y : Operand} {v hi r : Value} (ho : o.op = .slice t x none (some y) none) (hx : a.eval x = v) (hy : a.eval y = hi) (hrun : (Instr.sliceAt t v none (some hi) none).run Tryz.prog w = .ok r w) : (execOp a.eval o).run Tryz.prog w = .ok (.value r) w := by
 simp [execOp, ho, hx, hy, hrun]
section
variable {ops : Array Oper} {rest : List Oper} {o : Oper} {a : Act} {w : World} {Q : Exit → Act → World → Prop} {K : Act → World → Prop} {F : Prop}
theorem stepw_slice0P (hw : Region.wanted o (yielded ops a.tmps) = true) (ho : o.op = .buildSlice 23 0 #[])
  (h : ∀ v' w', Agg.Own EB w.heap.size w' v' [] → Below w.heap.size w w' → K (a.put o.dst v') w') : if Region.wanted o (yielded ops a.tmps) = true then o.wp Tryz.prog a w K Q else F := by
 refine stepw_val hw (v := .slice (some ⟨w.heap.size, 0, none⟩) 0 0) (w' := w.alloc (.cells #[] 5)) ?_ (h _ _ (own_lit (l := []) rfl (by simp)) ((Below.refl _ _).alloc (Nat.le_refl _) _))
 have hr : (Instr.buildSlice 23 0 #[]).run Tryz.prog w = .ok (.slice (some ⟨w.heap.size, 0, none⟩) 0 0) (w.alloc (.cells #[] 5)) := by kernel_rfl
 simp [execOp, ho, hr]
theorem stepw_appendP {base : Nat} {v : Value} {l : List UInt8} (hw : Region.wanted o (yielded ops a.tmps) = true) (s x : Operand) (ho : o.op = .call { callee := .builtin .append, args := #[s, x], argTypes := #[23, 23] }) (vx : Value) (hs : a.eval s = v) (hx : a.eval x = vx) (m : List UInt8)
  (hown : Agg.Own EB base w v l) (hm : BytesAt w vx m) (h63 : l.length + m.length ≤ 1099511627776 / 8) (hbase : base ≤ w.heap.size)
  (h : ∀ v' w', Agg.Own EB base w' v' (l ++ m) → Below base w w' → K (a.put o.dst v') w') : if Region.wanted o (yielded ops a.tmps) = true then o.wp Tryz.prog a w K Q else F := by
 obtain ⟨v', w', hrun, h2, h3, _, _⟩ := run_append (ty := o.type) hown _ m hm h63 (by decide) hbase
 have hrun' : (Builtin.append_ #[23, 23] o.type #[v, vx]).run Tryz.prog w = .ok v' w' := hrun
 exact stepw_val hw (by simp [execOp, ho, resolve, invoke, builtin, hs, hx, hrun']) (h v' w' h2 ((pushed_of hown h3).below _ (Nat.le_refl _) hbase))
theorem wpList_appendP {base : Nat} {v : Value} {l : List UInt8} (hw : Region.wanted o (yielded ops a.tmps) = true) (s x : Operand) (ho : o.op = .call { callee := .builtin .append, args := #[s, x], argTypes := #[23, 23] }) (vx : Value) (hs : a.eval s = v) (hx : a.eval x = vx) (m : List UInt8)
  (hown : Agg.Own EB base w v l) (hm : BytesAt w vx m) (h63 : l.length + m.length ≤ 1099511627776 / 8) (hbase : base ≤ w.heap.size)
  (h : ∀ v' w', Agg.Own EB base w' v' (l ++ m) → Below base w w' → wpList Tryz.prog ops Q rest (a.put o.dst v') w') : wpList Tryz.prog ops Q (o :: rest) a w := by
 obtain ⟨v', w', hrun, h2, h3, _, _⟩ := run_append (ty := o.type) hown _ m hm h63 (by decide) hbase
 have hrun' : (Builtin.append_ #[23, 23] o.type #[v, vx]).run Tryz.prog w = .ok v' w' := hrun
 exact wpList_valw hw (by simp [execOp, ho, resolve, invoke, builtin, hs, hx, hrun']) (h v' w' h2 ((pushed_of hown h3).below _ (Nat.le_refl _) hbase))
theorem lit3K_run (x y z : KdV) (W : World) : (Instr.buildSlice 24 3 #[(0, .agg (kdC x)), (1, .agg (kdC y)), (2, .agg (kdC z))]).run Tryz.prog W = .ok (.slice (some ⟨W.heap.size, 0, none⟩) 3 3) (W.alloc (.cells (kdC x ++ kdC y ++ kdC z) 28)) := by kernel_rfl
theorem wpList_lit3K (hw : Region.wanted o (yielded ops a.tmps) = true) (x0 x1 x2 : Operand) (ho : o.op = .buildSlice 24 3 #[(0, x0), (1, x1), (2, x2)]) (x y z : KdV) (h0 : a.eval x0 = .agg (kdC x)) (h1 : a.eval x1 = .agg (kdC y)) (h2 : a.eval x2 = .agg (kdC z))
  (h : ∀ p w', SliceOf EK w' (.slice p 3 3) [x, y, z] → Below w.heap.size w w' → wpList Tryz.prog ops Q rest (a.put o.dst (.slice p 3 3)) w') : wpList Tryz.prog ops Q (o :: rest) a w := by
 refine Agg.wpList_valw hw (v := .slice (some ⟨w.heap.size, 0, none⟩) 3 3) (w' := w.alloc (.cells (kdC x ++ kdC y ++ kdC z) 28)) (by simp [execOp, ho, h0, h1, h2, lit3K_run]) (h _ _ ?_ ((Below.refl _ _).alloc (Nat.le_refl _) _))
 refine .inr ⟨_, 3, rfl, Agg.heap_lt (heap_alloc_new w _), fun j u hj => ?_⟩
 rw [add_plain, Nat.zero_add, cell_of_row _ _ _ _ _ _ (heap_alloc_new w _), ← Array.getElem?_toList]
 have e : EK.flat [x, y, z] = (kdC x ++ kdC y ++ kdC z).toList := by
  show (kdC x).toList ++ ((kdC y).toList ++ ((kdC z).toList ++ [])) = _
  simp
 rwa [e] at hj
end
theorem make_runB (n : Nat) (hn : n ≤ 1000000) (w : World) : ∃ w', (Instr.makeSlice 23 (.int .i64 (n : Int)) (.int .i64 (n : Int))).run Tryz.prog w = .ok (.slice (some ⟨w.heap.size, 0, none⟩) n n) w' ∧ RoomN EB w' (.slice (some ⟨w.heap.size, 0, none⟩) n n) (List.replicate n (0 : UInt8)) ∧ Below w.heap.size w w' := by
 obtain ⟨i, hi, hz, hs, hb⟩ := EB.info
 have hby : EB.bytes ≤ 1000 := by decide
 have hmul : i.bytes * n ≤ 281474976710656 := by
  rw [hb]
  exact Nat.le_trans (Nat.mul_le_mul hby hn) (by omega)
 have hmi : (i.bytes : Int) * (n : Int) ≤ 281474976710656 := by
  have h5 : ((i.bytes * n : Nat) : Int) ≤ 281474976710656 := by omega
  rwa [Int.natCast_mul] at h5
 have hr := run_make (P := Tryz.prog) w EB.st EB.ty i EB.zero EB.slice hi hz .i64 .i64 (n : Int) (n : Int) (by omega) (by omega) hmi (by omega)
 simp only [Int.toNat_natCast] at hr
 have hblk : Blk (w.alloc (.cells (madeCells EB.zero.cells (n * i.size)) EB.ty)) w.heap.size EB.ty (madeCells EB.zero.cells (n * i.size)) := Blk.new w EB.ty _
 refine ⟨_, hr, ?_, (Below.refl _ _).alloc (Nat.le_refl _) _⟩
 rw [hs] at hblk ⊢
 refine .inr ⟨w.heap.size, 0, n, by simp, by simp, hblk.lt, fun j hj => ?_, fun j _ => frozen_of_row _ _ _ _ _ hblk, fun j u hj => ?_⟩
 ·rw [hblk.cell, Array.getElem?_eq_getElem (by rw [size_madeCells]; omega)]; rfl
 ·obtain ⟨k, c, q, h3, h4, rfl⟩ := EB.flat_all _ j u hj
  have hkn : k < n := by simpa using (List.getElem?_eq_some_iff.1 h3).1
  obtain rfl : (0 : UInt8) = c := by rw [List.getElem?_replicate, if_pos hkn] at h3; exact Option.some.inj h3
  have hq : q < EB.n := by have := (Array.getElem?_eq_some_iff.1 h4).1; rw [EB.size] at this; exact this
  have hlt : k * EB.n + q < n * EB.n := by
   have : k * EB.n + EB.n ≤ n * EB.n := by rw [← Nat.succ_mul]; exact Nat.mul_le_mul_right _ hkn
   omega
  rw [hblk.cell, Nat.zero_add]
  unfold madeCells
  rw [show EB.val 0 = EB.zero from rfl] at h4
  rw [Array.getElem?_map, Array.getElem?_range, if_pos hlt]
  simp only [Option.map_some]
  rw [EB.zsize, Nat.add_comm, Nat.add_mul_mod_self_right, Nat.mod_eq_of_lt hq, getElem!_def, h4]
theorem wpList_makeB {ops : Array Oper} {rest : List Oper} {o : Oper} {a : Act} {w : World} {Q : Exit → Act → World → Prop} (hw : Region.wanted o (yielded ops a.tmps) = true) (x y : Operand) (n : Nat) (ho : o.op = .makeSlice 23 x y) (hx : a.eval x = .int .i64 (n : Int)) (hy : a.eval y = .int .i64 (n : Int)) (hn : n ≤ 1000000)
  (h : ∀ p (l : List UInt8) w', l.length = n → RoomN EB w' (.slice p n n) l → Below w.heap.size w w' → wpList Tryz.prog ops Q rest (a.put o.dst (.slice p n n)) w') : wpList Tryz.prog ops Q (o :: rest) a w := by
 obtain ⟨w', h1, h2, h3⟩ := make_runB n hn w
 exact wpList_valw hw (by simp [execOp, ho, hx, hy, h1]) (h _ _ w' (by rw [List.length_replicate]) h2 h3)
theorem stepw_makeB {ops : Array Oper} {o : Oper} {a : Act} {w : World} {Q : Exit → Act → World → Prop} {K : Act → World → Prop} {F : Prop} (hw : Region.wanted o (yielded ops a.tmps) = true) (x y : Operand) (n : Nat) (ho : o.op = .makeSlice 23 x y) (hx : a.eval x = .int .i64 (n : Int)) (hy : a.eval y = .int .i64 (n : Int)) (hn : n ≤ 1000000)
  (h : ∀ p (l : List UInt8) w', l.length = n → RoomN EB w' (.slice p n n) l → Below w.heap.size w w' → K (a.put o.dst (.slice p n n)) w') : if Region.wanted o (yielded ops a.tmps) = true then o.wp Tryz.prog a w K Q else F := by
 obtain ⟨w', h1, h2, h3⟩ := make_runB n hn w
 exact stepw_val hw (by simp [execOp, ho, hx, hy, h1]) (h _ _ w' (by rw [List.length_replicate]) h2 h3)
end Go.Proofs.YtfiadgdinhmgbaaGreatDoor
