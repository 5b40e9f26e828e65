/- wire.Put at the example's request; spencelaw28.awake. -/
import Derived.Test.YtpnolgliklmnmaaWake
namespace Go.Agg
open Go.RowKit
section
variable {P : Program} {ops : Array Oper} {rest : List Oper} {o : Oper} {a : Act} {w : World} {Q : Exit → Act → World → Prop} {α : Type} {E : Elem P α} {v : Value} {l : List α}
theorem wpList_slice2O (hg : Region.wanted o (yielded ops a.tmps) = true) (x y : Operand) (ho : o.op = .buildSlice E.st 2 #[(0, x), (1, y)]) (vx vy : α) (hx : a.eval x = E.val vx) (hy : a.eval y = E.val vy)
    (h : ∀ v' w', SliceOf E w' v' [vx, vy] → (∀ k, v'.ownBlock = some k → w.heap.size ≤ k) → Below w.heap.size w w' → wpList P ops Q rest (a.put o.dst v') w') : wpList P ops Q (o :: rest) a w :=
  wpList_valw hg (v := .slice (some ⟨w.heap.size, 0, none⟩) 2 2) (w' := w.alloc (.cells ((E.val vx).cells ++ (E.val vy).cells) E.ty)) (by simp [execOp, ho, hx, hy, run_slice_two])
    (h _ _ (slice_of_block2 (Blk.new w E.ty _)) (fun k hk => by simp only [Value.ownBlock, Option.some.injEq] at hk; omega) ((Below.refl _ _).alloc (Nat.le_refl _) _))
theorem wpList_appendR (hg : o.guard = none) (s x : Operand) (ho : o.op = .call { callee := .builtin .append, args := #[s, x], argTypes := #[E.st, E.st] }) (vx : Value) (hs : a.eval s = v) (hx : a.eval x = vx) (m : List α)
    (hr : RoomN E w v l) (hm : SliceOf E w vx m) (h63 : l.length + m.length ≤ 1099511627776 / 8) (hby : E.bytes ≤ 1000)
    (h : ∀ v' w', SliceOf E w' v' (l ++ m) → SliceOf E w' v l → Only (fun b => v.ownBlock = some b) w w' → wpList P ops Q rest (a.put o.dst v') w') : wpList P ops Q (o :: rest) a w := by
  obtain ⟨v', w', hrun, h1, h2, h3, _, _⟩ := run_append_room hr vx m hm h63 hby o.type
  refine wpList_val hg (v := v') (w' := w') ?_ (h v' w' h1.slice h2.slice h3)
  simp [execOp, ho, resolve, invoke, builtin, hs, hx, hrun]
theorem SliceOf.of_cells {g : Nat} {cs : Array Value} {l : List α} (h : Blk w g E.ty cs) (hc : cs.toList = E.flat l) : SliceOf E w (.slice (some ⟨g, 0, none⟩) l.length l.length) l :=
  .inr ⟨_, _, rfl, h.lt, fun j u hj => by rw [← hc] at hj; rw [add_plain, Nat.zero_add, h.cell, ← Array.getElem?_toList]; exact hj⟩
end
end Go.Agg
namespace Go.Proofs.Ytpnolgliklmnmaa
open Go.RowKit Pl Go.Agg
section
variable {ops : Array Oper} {rest : List Oper} {o : Oper} {a : Act} {w : World} {Q : Exit → Act → World → Prop}
theorem wpList_slice3w (hg : Region.wanted o (yielded ops a.tmps) = true) (x y z : Operand) (ho : o.op = .buildSlice 23 3 #[(0, x), (1, y), (2, z)]) (p q r : UInt8) (hx : a.eval x = EB.val p) (hy : a.eval y = EB.val q) (hz : a.eval z = EB.val r)
    (h : ∀ v' w', BytesAt w' v' [p, q, r] → Below w.heap.size w w' → wpList Try.prog ops Q rest (a.put o.dst v') w') : wpList Try.prog ops Q (o :: rest) a w :=
  wpList_valw hg (v := .slice (some ⟨w.heap.size, 0, none⟩) 3 3) (w' := w.alloc (.cells #[EB.val p, EB.val q, EB.val r] 5)) (by
    have hb : (Instr.buildSlice 23 3 #[(0, EB.val p), (1, EB.val q), (2, EB.val r)]).run Try.prog w = .ok (.slice (some ⟨w.heap.size, 0, none⟩) 3 3) (w.alloc (.cells #[EB.val p, EB.val q, EB.val r] 5)) := by kernel_rfl
    simp [execOp, ho, hx, hy, hz, hb])
    (h _ _ (SliceOf.of_cells (l := [p, q, r]) (Blk.new w _ _) (by simp [Elem.flat, Elem.cs]; rfl)) ((Below.refl _ _).alloc (Nat.le_refl _) _))
end
theorem enc7 : encN 7 = [7] := encN_lt (by omega)
theorem enc2 : encN 2 = [2] := encN_lt (by omega)
set_option maxRecDepth 100000 in
set_option maxHeartbeats 2000000 in
theorem put7 (w : World) : Calls Try.prog 22 #[.agg rqC] w fun e w' => ∃ v', e = .returned (.tuple #[v', .int .i64 0]) ∧ Own EB w.heap.size w' v' [7, 2] ∧ Below w.heap.size w w' := by
  have HBLD := Lib.hid (fun W => (by kernel_rfl : (Instr.build 74 #[]).run Try.prog W = .ok (.agg (mkC (.slice none 0 0))) W))
  go_enter Try.func22, Try.ntmps22
  go_wp2_with (first | (with_reducible refine Agg.wpList_box rfl 46 _ rfl (rqC) rfl ?_; intro g w1 hb hx1 hg) | (with_reducible refine Agg.wpList_loadL (RqL.of_blk hb).all rfl _ rfl rfl ?_))
  have HL := Lib.hid (RqL.of_blk hb)
  refine (right7 _).mono ?_
  rintro e w2 ⟨rfl, hx2⟩
  have HW := Lib.hid (Agg.belowThen hx1 (Nat.le_refl _) hx2)
  have HL := Lib.hid (HL.out.below hx2)
  clear hb hx1 hx2 hg
  go_wp2_with (first | (with_reducible refine Agg.wpList_loadL HL.out.kind rfl _ rfl rfl ?_))
  refine (parts7 _).mono ?_
  rintro e w3 ⟨rfl, rfl⟩
  have hsz := HW.out.size
  go_wp2_with (first | (with_reducible refine Agg.wpList_build0 74 rfl rfl (.agg (mkC (.slice none 0 0))) HBLD.out ?_) | (with_reducible refine Agg.wpList_box rfl 74 _ rfl (mkC (.slice none 0 0)) rfl ?_; intro g4 w4 hb4 hx4 hg4; have hlt4 := hb4.lt; have HB4 := Lib.hid hb4; have HX4 := Lib.hid hx4; have HL4 := Lib.hid (HL.out.below hx4); clear hb4 hx4) | (with_reducible refine Agg.wpList_loadL HL4.out.kind rfl _ rfl rfl ?_) | (with_reducible refine Agg.wpList_loadL HL4.out.user rfl _ rfl rfl ?_) | (refine Agg.wpList_slice2O (E := EI) rfl _ _ rfl 7 2 rfl rfl ?_; intro xs w5 hxs hown5 hx5; have HXS := Lib.hid hxs; have HX5 := Lib.hid hx5; have HOW := Lib.hid hown5; clear hxs hx5 hown5))
  have hm5 : MkV g4 w5 (.slice none 0 0) [] := ⟨HB4.out.below HX5.out, Own.nil _ _ _⟩
  have hno : ∀ k, (Value.slice none 0 0).ownBlock ≠ some k := fun k h => by simp [Value.ownBlock] at h
  refine (num_any g4 _ xs [7, 2] [] w5 (by simp) (by simp) (by simp) (Off.behind (w0 := w4) HXS.out HOW.out hlt4 (fun k hk => absurd hk (hno k))) hm5).mono ?_
  rintro e w6 ⟨rfl, v6, hm6, hs6⟩
  have h6 := hm5.stepBelow hs6
  have h36 : Below w3.heap.size w3 w6 := (Agg.belowThen HX4.out (Nat.le_refl _) HX5.out).trans (h6.mono hg4)
  have HM6 := Lib.hid (show MkV g4 w6 v6 [7, 2] by simpa [enc7, enc2] using hm6)
  have HW6 := Lib.hid (Agg.belowThen HW.out (Nat.le_refl _) h36)
  clear hm5 hm6 hs6 h6 h36 hno
  go_wp2_with fail
  refine (has0 1 (by omega) _).mono ?_
  rintro e v1 ⟨rfl, rfl⟩
  go_wp2_with fail
  refine (has0 2 (by omega) _).mono ?_
  rintro e v2 ⟨rfl, rfl⟩
  go_wp2_with fail
  refine (has0 12 (by omega) _).mono ?_
  rintro e v12 ⟨rfl, rfl⟩
  go_wp2_with fail
  refine (has0 16 (by omega) _).mono ?_
  rintro e v16 ⟨rfl, rfl⟩
  go_wp2_with fail
  refine (has0 32 (by omega) _).mono ?_
  rintro e v32 ⟨rfl, rfl⟩
  go_wp2_with fail
  refine (done_any g4 v6 [7, 2] _ (by simp) HM6.out).mono ?_
  rintro e w7 ⟨v7, rfl, ho7, hx7⟩
  have hsz6 := HW6.out.size
  have HO7 := Lib.hid (ho7.lower hsz6)
  have HW7 := Lib.hid (Agg.belowThen HW6.out (Nat.le_refl _) hx7)
  clear ho7 hx7
  go_wp2_with fail
  go_ret2
  exact ⟨_, rfl, HO7.out, HW7.out⟩
end Go.Proofs.Ytpnolgliklmnmaa
