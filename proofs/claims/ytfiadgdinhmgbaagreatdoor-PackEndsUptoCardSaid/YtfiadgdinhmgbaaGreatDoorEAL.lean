/- tree.Way: the names of a way. -/
import Derived.Test.YtfiadgdinhmgbaaGreatDoorEAG
import Derived.Test.YtfiadgdinhmgbaaGreatDoorEAH
import Derived.Test.YtfiadgdinhmgbaaGreatDoorEAK
namespace Go.Tr
theorem splitB_len : ∀ s : List UInt8, (splitB s).length ≤ s.length + 1
 | [] => by simp [splitB]
 | c :: s => by
  have ih := splitB_len s
  unfold splitB
  split
  ·simp; omega
  ·cases h : splitB s with
   | nil => simp
   | cons a l => rw [h] at ih; simp at ih ⊢; omega
end Go.Tr
namespace Go.Agg
open Go.RowKit
variable {P : Program}
theorem run_loadVar1 {w : World} {a : Addr} {ty : TypeId} {v : Value} {d : TypeDesc} (h : w.cell? a = some v) (hu : P.underlying ty = some d) (hd : (match d with | .struct _ | .array _ _ => true | _ => false) = false) : (loadVar ty a).run P w = .ok v w := by
 have hagg : (isAgg ty).run P w = .ok false w := by
  unfold isAgg
  rw [Sem.run_bind, run_underlying hu w]
  cases d <;> simp_all
 simp [loadVar, Sem.run_bind, hagg, go_sem, h]
theorem results_cell2 {fn : Func} {p q : Tmp} {t1 t2 : TypeId} (h : fn.results = #[.cell p t1, .cell q t2]) {tmps : Array Value} {w : World} {a b : Addr} {u v : Value} (hp : tmps.getD p undef = .pointer (some a)) (hq : tmps.getD q undef = .pointer (some b))
  (h1 : (loadVar t1 a).run P w = .ok u w) (h2 : (loadVar t2 b).run P w = .ok v w) : (results fn tmps).run P w = .ok (.tuple #[u, v]) w := by
 have hp' : tmps[p]?.getD undef = .pointer (some a) := by rw [← Array.getD_eq_getD_getElem?]; exact hp
 have hq' : tmps[q]?.getD undef = .pointer (some b) := by rw [← Array.getD_eq_getD_getElem?]; exact hq
 simp only [results, h]
 simp [Sem.run_bind, Result.andThen, hp', hq', asAddr, h1, h2]
theorem wpListIn_pushT {α : Type} {E : Elem P α} {F : Fence} {n : Nat} {ops : Array Oper} {rest : List Oper} {o o2 : Oper} {a : Act} {w : World} {Q : Exit → Act → World → Prop} {base : Nat} {v : Value} {l : List α} (hF : ∀ f, F.fn f)
  (hg : o.guard = none) (hg2 : o2.guard = none) (d : Tmp) (hd : o.dst = some d) (y : Operand) (ho : o.op = .buildSlice E.st 1 #[(0, y)]) (s : Operand)
  (ho2 : o2.op = .call { callee := .builtin .append, args := #[s, .tmp d], argTypes := #[E.st, E.st] }) (x : α) (hy : a.eval y = E.val x) (hs : ∀ p, (a.put o.dst p).eval s = v) (hsz : d < a.tmps.size)
  (hown : Own E base w v l) (h63 : l.length + 1 ≤ 1099511627776 / 8) (hby : E.bytes ≤ 1000) (hbase : base ≤ w.heap.size)
  (h : ∀ u v' w', Own E base w' v' (l ++ [x]) → Pushed E base w w' v → wpListIn F n P ops Q rest ((a.put o.dst u).put o2.dst v') w') : wpListIn F n P ops Q (o :: o2 :: rest) a w := by
 refine wpListIn_valR hF (by simp [Region.wanted, hg]) (by unfold Oper.plainB; rw [ho]) (v := .slice (some ⟨w.heap.size, 0, none⟩) 1 1) (w' := w.alloc (.cells (E.val x).cells E.ty)) (by simp [execOp, ho, hy, run_slice_one]) ?_
 have hb1 : Below w.heap.size w (w.alloc (.cells (E.val x).cells E.ty)) := (Below.refl _ _).alloc (Nat.le_refl _) _
 have hown1 := hown.below hb1
 obtain ⟨v', w', hrun, h2, h3, _, _⟩ := run_append (ty := o2.type) hown1 _ [x] (slice_of_block (Blk.new w E.ty (E.val x).cells)) (by simpa using h63) hby (Nat.le_trans hbase hb1.size)
 have hp := pushed_of hown1 h3
 have hpu : Pushed E base w w' v := {
  below := fun B hB hs => (hb1.mono hs).trans (hp.below B hB (Nat.le_trans hs hb1.size))
  other := fun g hlt hne => (hp.other g (Nat.lt_of_lt_of_le hlt hb1.size) hne).trans (hb1.block g hlt)
  blk := fun g t cs fr hne hb => hp.blk g t cs fr hne (keep' hb1 hb)
  map := fun g es c hb => hp.map g es c (keep' hb1 hb)
  size := Nat.le_trans hb1.size hp.size }
 refine wpListIn_valR hF (by simp [Region.wanted, hg2]) (by unfold Oper.plainB; rw [ho2]) (v := v') (w' := w') ?_ (h _ v' w' h2 hpu)
 have e2 : (a.put o.dst (.slice (some ⟨w.heap.size, 0, none⟩) 1 1)).eval (.tmp d) = .slice (some ⟨w.heap.size, 0, none⟩) 1 1 := by rw [hd]; simp [Act.put, Act.eval, hsz]
 simp [execOp, ho2, resolve, invoke, builtin, hs, e2, hrun]
theorem keepsFrom_pushed {α : Type} {E : Elem P α} {base B : Nat} {w w' : World} {v : Value} {l : List α} (hown : Own E base w v l) (hp : Pushed E base w w' v) : KeepsFrom B w w' :=
 ⟨hp.size, fun k o _ hk ho => (hp.other k (heap_lt hk) (fun e => by
  obtain ⟨_, cur, hc⟩ := hown.block k e.symm
  rw [hk] at hc
  cases hc
  cases ho)).trans hk⟩
theorem below_putObj {B D : Nat} {A : World} (h : B ≤ D) (o : Obj) : Below B A (A.putObj D o) := ⟨rfl, rfl, rfl, by simp, fun k hk => World.putObj_heap_other (by omega)⟩
theorem keepsFrom_below {B : Nat} {w w' : World} (h : Below w.heap.size w w') : KeepsFrom B w w' := ⟨h.size, fun k _ _ hk _ => (h.block k (heap_lt hk)).trans hk⟩
end Go.Agg
namespace Go.Proofs.YtfiadgdinhmgbaaGreatDoor
open Go.RowKit Go.Shelf Pl Go.Agg Go.Tr
attribute [local go_sem] Oper.semAt_some
def wyE (s : List UInt8) : Nat := if (wayN s).isSome then 0 else 4
def wyL (s : List UInt8) : N := (wayN s).getD []
structure WyB (w : World) (g2 g3 : Nat) (v : Value) (e : Int) : Prop where
 v : Blk w g2 100 #[v]
 e : Blk w g3 35 #[.int .i64 e]
theorem WyB.keep {w w' : World} {g2 g3 : Nat} {v : Value} {e : Int} (h : WyB w g2 g3 v e) (h2 : w'.heap[g2]? = w.heap[g2]?) (h3 : w'.heap[g3]? = w.heap[g3]?) : WyB w' g2 g3 v e := ⟨h2.trans h.v, h3.trans h.e⟩
theorem wy_results {w : World} {g2 g3 : Nat} {v : Value} {e : Int} (h : WyB w g2 g3 v e) {tmps : Array Value} (h2 : tmps.getD 2 undef = .pointer (some ⟨g2, 0, none⟩)) (h3 : tmps.getD 3 undef = .pointer (some ⟨g3, 0, none⟩)) :
  (results Tryz.f52 tmps).run Tryz.prog w = .ok (.tuple #[v, .int .i64 e]) w :=
 results_cell2 rfl h2 h3 (run_loadVar1 (by rw [h.v.cell]; rfl) ES.slice rfl) (run_loadVar1 (by rw [h.e.cell]; rfl) Tryz.underlying35 rfl)
set_option maxRecDepth 100000 in
set_option maxHeartbeats 8000000 in
theorem way_any (s : List UInt8) (hs : s.length ≤ 1048576) (w : World) :
  Calls Tryz.prog 52 #[.string ⟨s.toArray⟩] w fun e w' => ∃ v, e = .returned (.tuple #[v, .int .i64 (wyE s : Int)]) ∧ Agg.Own ES w.heap.size w' v (wyL s) ∧ Below w.heap.size w w' := by
 have hz1 : (w.alloc (Obj.cells #[Value.slice none 0 0] 100)).heap.size = w.heap.size + 1 := by simp
 obtain ⟨w0, hw0⟩ : ∃ W, W = (w.alloc (Obj.cells #[Value.slice none 0 0] 100)).alloc (Obj.cells #[Value.int IntKind.i64 0] 35) := ⟨_, rfl⟩
 have hb0 : WyB w0 w.heap.size (w.heap.size + 1) (.slice none 0 0) 0 := by
  rw [hw0]
  refine ⟨(Blk.new w 100 #[.slice none 0 0]).below ((Below.refl _ _).alloc (Nat.le_refl _) _), ?_⟩
  have := Blk.new (w.alloc (Obj.cells #[Value.slice none 0 0] 100)) 35 #[.int .i64 0]
  rwa [hz1] at this
 have hx0 : Below w.heap.size w w0 := by rw [hw0]; exact ((Below.refl _ _).alloc (Nat.le_refl _) _).alloc (by rw [hz1]; omega) _
 have hs0 : w0.heap.size = w.heap.size + 2 := by rw [hw0]; simp
 refine (callsIn_wide (n := 3)).1 ?_
 refine callsIn_of_wp_marks Tryz.func52 rfl trivial ?_ rfl
 simp only [Tryz.ntmps52, List.size_toArray, List.length_cons, List.length_nil, Nat.reduceAdd, Nat.reduceSub, Array.replicate_succ, Array.replicate_zero, List.push_toArray, List.append_toArray, List.nil_append, List.cons_append]
 by_cases h0 : s = []
 ·subst h0
  have HB0 := Lib.hid hb0
  have HX0 := Lib.hid hx0
  have HW0 := Lib.hid hw0
  clear hb0 hx0 hs0 hw0
  gi_wp2_with fail
  rw [← HW0.out]
  exact ⟨_, wy_results HB0.out rfl rfl, _, rfl, Agg.Own.nil _ _ _, HX0.out⟩
 ·have hemp : s.isEmpty = false := by simpa using h0
  have HS0 := Lib.hid h0
  have HB0 := Lib.hid hb0
  have HX0 := Lib.hid hx0
  have HZ0 := Lib.hid hs0
  have HW0 := Lib.hid hw0
  clear hb0 hx0 hs0 hw0 h0
  gi_wp2_with fail
  rw [← HW0.out]
  refine ⟨trivial, CallsIn.mono (callsIn_wide.2 (splitSeq_any s w0)) ?_⟩
  rintro e w1 ⟨gs, gp, gi, rfl, hsp, h1, h2, h3, hx⟩
  have HSP := Lib.hid hsp
  have HB1 := Lib.hid (show WyB w1 w.heap.size (w.heap.size + 1) (.slice none 0 0) 0 from HB0.out.keep (hx.block _ (by have := HZ0.out; omega)) (hx.block _ (by have := HZ0.out; omega)))
  have HX1 := Lib.hid (belowThen HX0.out (Nat.le_refl _) hx)
  have HGS := Lib.hid (show w.heap.size + 1 < gs ∧ w.heap.size + 1 < gp ∧ w.heap.size + 1 < gi ∧ gs < w1.heap.size ∧ gp < w1.heap.size ∧ gi < w1.heap.size from ⟨by have := HZ0.out; omega, by have := HZ0.out; omega, by have := HZ0.out; omega, hsp.rest.lt, hsp.sep.lt, hsp.save.lt⟩)
  have HZ1 := Lib.hid (show w.heap.size + 1 < w1.heap.size from HB1.out.e.lt)
  clear hsp h1 h2 h3 hx HB0 HX0 HZ0 HW0
  obtain ⟨g2, hg2⟩ : ∃ g, g = w.heap.size := ⟨_, rfl⟩
  obtain ⟨g3, hg3⟩ : ∃ g, g = w.heap.size + 1 := ⟨_, rfl⟩
  rw [← hg3, ← hg2] at HB1
  rw [← hg3, ← hg2]
  have HG := Lib.hid (show g2 = w.heap.size ∧ g3 = w.heap.size + 1 from ⟨hg2, hg3⟩)
  clear hg2 hg3
  gi_wp2_with fail
  refine range_ownT (w := w1) (gf := 135) (lb := #[.pointer (some ⟨gp, 0, none⟩), .pointer (some ⟨gs, 0, none⟩), .pointer (some ⟨gi, 0, none⟩)]) rfl (enters_of Tryz.func135 (by kernel_rfl) rfl) (split_seq gs gp gi s hs w1 HSP.out)
   (fun A B ht k hk _ => by obtain ⟨v, rfl⟩ := ht; exact Below.heap_setCell _ _ _ _ (fun e => by have := HGS.out; have e : k = gs := e; omega))
   (fun A B C h k => ⟨k.1.trans h.1, k.2.1.trans h.2.1, k.2.2.trans h.2.2⟩) (fun W l o hl => ⟨World.putObj_heap_other (by have := HGS.out; omega), World.putObj_heap_other (by have := HGS.out; omega), World.putObj_heap_other (by have := HGS.out; omega)⟩) (fun _ => rfl)
   (fun pre W => (((∃ v, Agg.Own ES w1.heap.size W v pre ∧ WyB W g2 g3 v 0) ∧ (∀ x ∈ pre, isName x = true)) ∧ w1.heap.size ≤ W.heap.size) ∧ Below w.heap.size w W)
   (fun pre W => (WyB W g2 g3 (.slice none 0 0) 4 ∧ ∃ x ∈ pre, isName x = false) ∧ Below w.heap.size w W)
   (OwnFrom.and (fun pre A B row hs hg hr => ?ownI) (ownFrom_below (Nat.le_refl _) HX1.out.size)) (OwnFrom.and (fun pre A B row hs hg hr => ?ownX) (ownFrom_below (Nat.le_refl _) HX1.out.size))
   (fun pre A B hi ht => ?tI) ⟨⟨⟨⟨_, Agg.Own.nil _ _ _, HB1.out⟩, by simp⟩, Nat.le_refl _⟩, HX1.out⟩
   (fun x => { tmps := #[.string ⟨s.toArray⟩, undef, .pointer (some ⟨g2, 0, none⟩), .pointer (some ⟨g3, 0, none⟩), .string ⟨x.toArray⟩, .string ⟨s.toArray⟩, .bool false, .string ⟨s.toArray⟩, .func (.func 135) #[] #[.pointer (some ⟨gp, 0, none⟩), .pointer (some ⟨gs, 0, none⟩), .pointer (some ⟨gi, 0, none⟩)], .string ⟨x.toArray⟩, undef, undef, undef, undef, undef, undef, undef, undef], defers := [] })
   ?assign ?body ?done ?stop
  case ownI =>
   obtain ⟨⟨⟨v, ho, hb⟩, hn⟩, hz⟩ := hs
   have hc : ∀ (k : Nat) (o : Obj), A.heap[k]? = some o → o.isCells = true → B.heap[k]? = A.heap[k]? := fun k o hk hc => grownBy_keeps_cells hg (fun r e => (hr r e).2) hk hc
   exact ⟨⟨⟨v, ho.keep fun k cur t fr _ hk => (hc k _ hk rfl).trans hk, hb.keep (hc g2 _ hb.v rfl) (hc g3 _ hb.e rfl)⟩, hn⟩, Nat.le_trans hz hg.size⟩
  case ownX =>
   obtain ⟨hb, hn⟩ := hs
   have hc : ∀ (k : Nat) (o : Obj), A.heap[k]? = some o → o.isCells = true → B.heap[k]? = A.heap[k]? := fun k o hk hc => grownBy_keeps_cells hg (fun r e => (hr r e).2) hk hc
   exact ⟨hb.keep (hc g2 _ hb.v rfl) (hc g3 _ hb.e rfl), hn⟩
  case tI =>
   obtain ⟨v0, rfl⟩ := ht
   obtain ⟨⟨⟨⟨v, ho, hb⟩, hn⟩, hz⟩, hx⟩ := hi
   have hgs := HGS.out
   have hg := HG.out
   exact ⟨⟨⟨⟨v, ho.keep fun k cur t fr hk hh => (Below.heap_setCell _ _ _ _ (by show k ≠ gs; omega)).trans hh, hb.keep (Below.heap_setCell _ _ _ _ (by show g2 ≠ gs; omega)) (Below.heap_setCell _ _ _ _ (by show g3 ≠ gs; omega))⟩, hn⟩, by simpa [World.setCell] using hz⟩, hx.setCell (p := ⟨gs, 0, none⟩) (by show w.heap.size ≤ gs; omega) _⟩
  case assign =>
   intro lp x W K hK
   dsimp only [encS]
   gi_wp2_with fail
   exact hK
  case body =>
   rintro lp pre x W ⟨⟨⟨⟨v, ho, hb⟩, hn⟩, hz⟩, hx⟩ hlen
   have HO := Lib.hid ho
   have HB := Lib.hid hb
   have HN := Lib.hid hn
   have HX := Lib.hid hx
   have hpl : pre.length ≤ 1048577 := by have := splitB_len s; omega
   have HNE := Lib.hid (show g2 ≠ g3 ∧ w.heap.size ≤ g2 ∧ w.heap.size ≤ g3 ∧ (g2 ≠ gs ∧ g2 ≠ gp ∧ g2 ≠ gi) ∧ (g3 ≠ gs ∧ g3 ≠ gp ∧ g3 ≠ gi) ∧ g2 < w1.heap.size ∧ g3 < w1.heap.size from by have := HGS.out; have := HG.out; have := HZ1.out; omega)
   clear ho hb hn hx
   cases hnm : isName x with
   | false =>
    have HC := Lib.hid (nameD x (b := false) hnm W)
    have HNM := Lib.hid hnm
    clear hnm
    gi_wp2_with fail
    refine ⟨trivial, CallsIn.mono (CallsIn.inRound lp (callsIn_wide.2 HC.out)) ?_⟩
    rintro e W2 ⟨rfl, hx2⟩
    have HB2 := Lib.hid (HB.out.keep (hx2.block _ HB.out.v.lt) (hx2.block _ HB.out.e.lt))
    have HX2 := Lib.hid (belowThen HX.out (Nat.le_refl _) hx2)
    have HK2 := Lib.hid (keepsFrom_below (B := w1.heap.size) hx2)
    clear hx2
    obtain ⟨q, n9, c9, rfl⟩ : ∃ p n c, v = .slice p n c := by obtain ⟨p, c, hf⟩ := HO.out.slice.form; exact ⟨p, _, c, hf⟩
    have HS1 := Lib.hid (Agg.Blk.run_put (P := Tryz.prog) (ty := 100) HB2.out.v 0 (by simp) (.slice none 0 0) rfl rfl (by kernel_rfl))
    have HB3 := Lib.hid (show WyB (W2.setCell ⟨g2, 0, none⟩ (.slice none 0 0)) g2 g3 (.slice none 0 0) 0 from ⟨Agg.Blk.set HB2.out.v 0 _, (Below.heap_setCell _ _ _ _ HNE.out.1.symm).trans HB2.out.e⟩)
    have HS2 := Lib.hid (Agg.Blk.run_put (P := Tryz.prog) (ty := 35) HB3.out.e 0 (by simp) (.int .i64 4) rfl rfl (by kernel_rfl))
    have HB4 := Lib.hid (show WyB ((W2.setCell ⟨g2, 0, none⟩ (.slice none 0 0)).setCell ⟨g3, 0, none⟩ (.int .i64 4)) g2 g3 (.slice none 0 0) 4 from ⟨(Below.heap_setCell _ _ _ _ HNE.out.1).trans HB3.out.v, Agg.Blk.set HB3.out.e 0 _⟩)
    gi_wp2_with (first | (refine wpListIn_store (wide_allR _) rfl rfl 100 _ _ rfl _ _ rfl rfl HS1.out ?_) | (refine wpListIn_store (wide_allR _) rfl rfl 35 _ _ rfl _ _ rfl rfl HS2.out ?_))
    exact ⟨HK2.out.trans (((KeepsOthers.setCell _ _ _).from _).trans ((KeepsOthers.setCell _ _ _).from _)), ⟨HB4.out, x, by simp, HNM.out⟩, (HX2.out.setCell (p := ⟨g2, 0, none⟩) HNE.out.2.1 _).setCell (p := ⟨g3, 0, none⟩) HNE.out.2.2.1 _⟩
   | true =>
    have HWG := Lib.hid (show gs < W.heap.size ∧ gp < W.heap.size ∧ gi < W.heap.size ∧ w1.heap.size ≤ W.heap.size from by have := HGS.out; omega)
    have HWS := Lib.hid (show gs < w1.heap.size ∧ gp < w1.heap.size ∧ gi < w1.heap.size from ⟨HGS.out.2.2.2.1, HGS.out.2.2.2.2.1, HGS.out.2.2.2.2.2⟩)
    have HC := Lib.hid (nameD x (b := true) hnm W)
    have HNM := Lib.hid hnm
    clear hnm
    gi_wp2_with fail
    refine ⟨trivial, CallsIn.mono (CallsIn.inRound lp (callsIn_wide.2 HC.out)) ?_⟩
    rintro e W2 ⟨rfl, hx2⟩
    have HO2 := Lib.hid (HO.out.below hx2)
    have HB2 := Lib.hid (HB.out.keep (hx2.block _ HB.out.v.lt) (hx2.block _ HB.out.e.lt))
    have HX2 := Lib.hid (belowThen HX.out (Nat.le_refl _) hx2)
    have HK2 := Lib.hid (keepsFrom_below (B := w1.heap.size) hx2)
    have HKp2 := Lib.hid (show KpS gs gp gi W W2 ∧ w1.heap.size ≤ W2.heap.size from ⟨⟨hx2.block _ HWG.out.1, hx2.block _ HWG.out.2.1, hx2.block _ HWG.out.2.2.1⟩, Nat.le_trans HWG.out.2.2.2 hx2.size⟩)
    have HLv := Lib.hid (show LoadsL Tryz.prog W2 100 (some ⟨g2, 0, none⟩) v from HB2.out.v.one (P := Tryz.prog) 0 rfl ES.slice rfl)
    clear hx2
    gi_wp2_with (first | (with_reducible refine wpListIn_loadL HLv.out (wide_allR _) rfl _ rfl rfl ?_) | (refine Agg.wpListIn_pushT (E := ES) (base := w1.heap.size) (wide_allR _) rfl rfl 15 rfl _ rfl _ rfl x rfl (fun _ => rfl) (by first | (simp; done) | simp [Act.put]) HO2.out (by omega) (by decide) HKp2.out.2 ?_; intro u15 v16 W3 hok hp; have hvf : ∃ p n c, v16 = .slice p n c := (by obtain ⟨p, c, hf⟩ := hok.slice.form; exact ⟨p, _, c, hf⟩); obtain ⟨q, n9, c9, hv9⟩ := hvf; rw [hv9] at hok ⊢; have HO3 := Lib.hid hok; have HP3 := Lib.hid hp; have hb3 := hp.below w1.heap.size (Nat.le_refl _) HKp2.out.2; have HB3 := Lib.hid (HB2.out.keep (hb3.block _ HNE.out.2.2.2.2.2.1) (hb3.block _ HNE.out.2.2.2.2.2.2)); have HK3 := Lib.hid (HK2.out.trans (keepsFrom_pushed (B := w1.heap.size) HO2.out hp)); have HX3 := Lib.hid (HX2.out.trans (hb3.mono HX1.out.size)); have HKp3 := Lib.hid (show KpS gs gp gi W W3 from ⟨(hb3.block _ HWS.out.1).trans HKp2.out.1.1, (hb3.block _ HWS.out.2.1).trans HKp2.out.1.2.1, (hb3.block _ HWS.out.2.2).trans HKp2.out.1.2.2⟩); have HS3 := Lib.hid (Agg.Blk.run_put (P := Tryz.prog) (ty := 100) HB3.out.v 0 (by simp) (.slice q n9 c9) rfl rfl (by kernel_rfl)); clear hok hp hb3 hv9) | (refine wpListIn_store (wide_allR _) rfl rfl 100 _ _ rfl _ _ rfl rfl HS3.out ?_))
    refine ⟨HK3.out.trans ((KeepsOthers.setCell _ _ _).from _), ⟨(Below.heap_setCell _ _ _ _ HNE.out.2.2.2.1.1.symm).trans HKp3.out.1, (Below.heap_setCell _ _ _ _ HNE.out.2.2.2.1.2.1.symm).trans HKp3.out.2.1, (Below.heap_setCell _ _ _ _ HNE.out.2.2.2.1.2.2.symm).trans HKp3.out.2.2⟩, ⟨⟨⟨.slice q n9 c9, ?_, Agg.Blk.set HB3.out.v 0 _, (Below.heap_setCell _ _ _ _ HNE.out.1.symm).trans HB3.out.e⟩, ?_⟩, by have h1 := HKp2.out.2; have h2 := HP3.out.size; simp [World.setCell]; omega⟩, HX3.out.setCell (p := ⟨g2, 0, none⟩) HNE.out.2.1 _⟩
    ·exact HO3.out.keep fun k cur t fr hk hh => (Below.heap_setCell _ _ _ _ (by have h1 := HNE.out.2.2.2.2.2.1; show k ≠ g2; omega)).trans hh
    ·intro y hy
     rcases List.mem_append.1 hy with hy | hy
     ·exact HN.out y hy
     ·obtain rfl := List.mem_singleton.1 hy
      exact HNM.out
  case done =>
   rintro D ys W hD hS ⟨⟨⟨⟨v, ho, hb⟩, hn⟩, hz⟩, hx⟩ hKD
   have HK0 := Lib.hid hKD
   have HE := Lib.hid (show wyE s = 0 ∧ wyL s = ys by
    have h1 : wayN s = some ys := by
     have h2 : (splitB s).all isName = true := List.all_eq_true.2 (by rw [← hS]; exact hn)
     unfold wayN
     rw [if_neg HS0.out, if_pos h2, hS]
    simp [wyE, wyL, h1])
   have HNE := Lib.hid (show g2 ≠ g3 ∧ w.heap.size ≤ g2 ∧ w.heap.size ≤ g3 ∧ g2 ≠ D ∧ g3 ≠ D ∧ w.heap.size ≤ D ∧ g2 < w1.heap.size ∧ g3 < w1.heap.size from by have := HGS.out; have := HG.out; have := HZ1.out; omega)
   have HO := Lib.hid ho
   have HX := Lib.hid hx
   have HLv := Lib.hid (show LoadsL Tryz.prog W 100 (some ⟨g2, 0, none⟩) v from hb.v.one (P := Tryz.prog) 0 rfl ES.slice rfl)
   obtain ⟨q, c9, hv9⟩ := ho.slice.form
   have HS1 := Lib.hid (Agg.Blk.run_put (P := Tryz.prog) (ty := 100) hb.v 0 (by simp) v (by rw [hv9]; rfl) (by rw [hv9]; rfl) (by kernel_rfl))
   have hb3 : WyB (W.setCell ⟨g2, 0, none⟩ v) g2 g3 v 0 := ⟨Agg.Blk.set hb.v 0 _, (Below.heap_setCell _ _ _ _ HNE.out.1.symm).trans hb.e⟩
   have HS2 := Lib.hid (Agg.Blk.run_put (P := Tryz.prog) (ty := 35) hb3.e 0 (by simp) (.int .i64 0) rfl rfl (by kernel_rfl))
   have HB4 := Lib.hid (show WyB ((W.setCell ⟨g2, 0, none⟩ v).setCell ⟨g3, 0, none⟩ (.int .i64 0)) g2 g3 v 0 from ⟨(Below.heap_setCell _ _ _ _ HNE.out.1).trans hb3.v, Agg.Blk.set hb3.e 0 _⟩)
   have HKD := Lib.hid (show ((W.setCell ⟨g2, 0, none⟩ v).setCell ⟨g3, 0, none⟩ (.int .i64 0)).heap[D]? = some (.deferred (some [])) from (Below.heap_setCell _ _ _ _ HNE.out.2.2.2.2.1.symm).trans ((Below.heap_setCell _ _ _ _ HNE.out.2.2.2.1.symm).trans hKD))
   clear ho hx hb hn hKD hS hb3
   gi_wp2_with (first | (with_reducible refine wpListIn_loadL HLv.out wide_all rfl _ rfl rfl ?_) | (refine wpListIn_store wide_all rfl rfl 100 _ _ rfl _ _ rfl rfl HS1.out ?_) | (refine wpListIn_store wide_all rfl rfl 35 _ _ rfl _ _ rfl rfl HS2.out ?_))
   refine ⟨by simp, .inl ⟨_, _, rfl, run_takeDeferred HKD.out, ?_⟩⟩
   refine ⟨_, wy_results (HB4.out.keep (World.putObj_heap_other HNE.out.2.2.2.1) (World.putObj_heap_other HNE.out.2.2.2.2.1)) rfl rfl, v, by rw [HE.out.1]; rfl, ?_, ?_⟩
   ·rw [HE.out.2]
    exact (HO.out.keep fun k cur t fr hk hh => (World.putObj_heap_other (by rintro rfl; have h1 := HK0.out; rw [hh] at h1; cases h1)).trans ((Below.heap_setCell _ _ _ _ (by have := HNE.out.2.2.2.2.2.2.2; show k ≠ g3; omega)).trans ((Below.heap_setCell _ _ _ _ (by have := HNE.out.2.2.2.2.2.2.1; show k ≠ g2; omega)).trans hh))).lower HX1.out.size
   ·exact ((HX.out.setCell (p := ⟨g2, 0, none⟩) HNE.out.2.1 _).setCell (p := ⟨g3, 0, none⟩) HNE.out.2.2.1 _).trans (below_putObj HNE.out.2.2.2.2.2.1 _)
  case stop =>
   rintro D pre W hD ⟨r, hr⟩ ⟨⟨hb, x, hx1, hx2⟩, hx⟩ hKD
   have HE := Lib.hid (show wyE s = 4 ∧ wyL s = [] by
    have h1 : wayN s = none := by
     have h2 : ¬ (splitB s).all isName = true := fun h => by
      have h3 := List.all_eq_true.1 h x (by rw [hr]; exact List.mem_append.2 (.inl hx1))
      rw [hx2] at h3; cases h3
     unfold wayN
     rw [if_neg HS0.out, if_neg h2]
    simp [wyE, wyL, h1])
   have HNE := Lib.hid (show g2 ≠ D ∧ g3 ≠ D ∧ w.heap.size ≤ D from by have := HGS.out; have := HG.out; have := HZ1.out; omega)
   have HB := Lib.hid hb
   have HX := Lib.hid hx
   have HKD := Lib.hid hKD
   clear hb hx hKD hx1 hx2 hr
   gi_wp2_with fail
   refine ⟨by simp, .inl ⟨_, _, rfl, run_takeDeferred HKD.out, ?_⟩⟩
   exact ⟨_, wy_results (HB.out.keep (World.putObj_heap_other HNE.out.1) (World.putObj_heap_other HNE.out.2.1)) rfl rfl, _, by rw [HE.out.1]; rfl, by rw [HE.out.2]; exact Agg.Own.nil _ _ _, HX.out.trans (below_putObj HNE.out.2.2 _)⟩
end Go.Proofs.YtfiadgdinhmgbaaGreatDoor
