/- What hash.take needs: slices of arrays and of bytes, numbers of 64 bits, bytes copied into a sponge. (Several texts in one.) -/
import Derived.Test.YtdebbmembkbniaaGreatTAY
import Derived.Test.YtdebbmembkbniaaGreatTAC
/-! What hash.block, take and end need: a sponge's cells. -/
namespace Go.Agg
open Go.RowKit
theorem step_copyV {P : Program} {ops : Array Oper} {o : Oper} {a : Act} {w w' : World} {Q : Exit → Act → World → Prop} {K : Act → World → Prop} {F : Prop} {dT sT : TypeId} (hg : o.guard = none) (d s : Operand) (ho : o.op = .call { callee := .builtin .copy, args := #[d, s], argTypes := #[dT, sT] }) (vd vs : Value) (hd : a.eval d = vd) (hs : a.eval s = vs) {v : Value}
  (hrun : (Builtin.copy_ #[dT, sT] o.type #[vd, vs]).run P w = .ok v w') (h : K (a.put o.dst v) w') : if Region.wanted o (yielded ops a.tmps) = true then o.wp P a w K Q else F :=
 step_val hg (by simp [execOp, ho, resolve, invoke, builtin, hd, hs, hrun]) h
theorem exec_index {P : Program} {o : Oper} {a : Act} {w : World} {t : TypeId} {x y : Operand} {vx vy v : Value} (ho : o.op = .index t x y) (hx : a.eval x = vx) (hy : a.eval y = vy) (hr : (Instr.index t vx vy).run P w = .ok v w) : (execOp a.eval o).run P w = .ok (.value v) w := by simp [execOp, ho, hx, hy, hr]
end Go.Agg
namespace Go.Proofs.YtdebbmembkbniaaGreat
open Go.RowKit Pl Go.Agg Go.Sha
section
variable {ops : Array Oper} {o : Oper} {a : Act} {w : World}
theorem run_ints3 (k m n : Nat) (w : World) : (Instr.buildSlice 155 3 #[(0, Value.int .i64 (k : Int)), (1, Value.int .i64 (m : Int)), (2, Value.int .i64 (n : Int))]).run Tryz.prog w = .ok (.slice (some ⟨w.heap.size, 0, none⟩) 3 3) (w.alloc (.cells #[Value.int .i64 (k : Int), Value.int .i64 (m : Int), Value.int .i64 (n : Int)] 3)) := by kernel_rfl
theorem ints3_at (k m n : Nat) (w : World) : SliceOf EI (w.alloc (.cells #[Value.int .i64 (k : Int), Value.int .i64 (m : Int), Value.int .i64 (n : Int)] 3)) (.slice (some ⟨w.heap.size, 0, none⟩) 3 3) [k, m, n] :=
 Own.slice (base := w.heap.size) ⟨rfl, .inr ⟨w.heap.size, 3, #[Value.int .i64 (k : Int), Value.int .i64 (m : Int), Value.int .i64 (n : Int)], rfl, Nat.le_refl _, heap_alloc_new w _, Nat.le_refl _, by decide, rfl, rfl⟩⟩
theorem Agg.step_ints3 {Q : Exit → Act → World → Prop} {K : Act → World → Prop} {F : Prop} (hg : o.guard = none) (x y z : Operand) (ho : o.op = .buildSlice 155 3 #[(0, x), (1, y), (2, z)]) (k m n : Nat) (hx : a.eval x = .int .i64 (k : Int)) (hy : a.eval y = .int .i64 (m : Int)) (hz : a.eval z = .int .i64 (n : Int))
  (h : ∀ v' w', SliceOf EI w' v' [k, m, n] → Below w.heap.size w w' → K (a.put o.dst v') w') : if Region.wanted o (yielded ops a.tmps) = true then o.wp Tryz.prog a w K Q else F :=
 step_val hg (v := .slice (some ⟨w.heap.size, 0, none⟩) 3 3) (by simp [execOp, ho, hx, hy, hz, run_ints3]) (h _ _ (ints3_at k m n w) ((Below.refl _ _).alloc (Nat.le_refl _) _))
theorem wpList_ints3 {rest : List Oper} {Q : Exit → Act → World → Prop} (hg : Region.wanted o (yielded ops a.tmps) = true) (x y z : Operand) (ho : o.op = .buildSlice 155 3 #[(0, x), (1, y), (2, z)]) (k m n : Nat) (hx : a.eval x = .int .i64 (k : Int)) (hy : a.eval y = .int .i64 (m : Int)) (hz : a.eval z = .int .i64 (n : Int))
  (h : ∀ v' w', SliceOf EI w' v' [k, m, n] → Below w.heap.size w w' → wpList Tryz.prog ops Q rest (a.put o.dst v') w') : wpList Tryz.prog ops Q (o :: rest) a w :=
 wpList_valw hg (v := .slice (some ⟨w.heap.size, 0, none⟩) 3 3) (by simp [execOp, ho, hx, hy, hz, run_ints3]) (h _ _ (ints3_at k m n w) ((Below.refl _ _).alloc (Nat.le_refl _) _))
end
theorem Blk.other {w w' : World} {g gx : Nat} {t : TypeId} {cs : Array Value} (h : Blk w g t cs) (hk : ∀ k, k ≠ gx → w'.heap[k]? = w.heap[k]?) (hne : g ≠ gx) : Blk w' g t cs := (hk g hne).trans h
def spL (l : List W) (bs : List UInt8) (m : Nat) : Array Value := (l.map vW ++ (Lib.byteCells bs ++ [Value.int .u64 (m : Int)])).toArray
theorem bc_length (bs : List UInt8) : (Lib.byteCells bs).length = bs.length := by simp [Lib.byteCells]
theorem spL_size (l : List W) (bs : List UInt8) (m : Nat) (hl : l.length = 8) (hbs : bs.length = 64) : (spL l bs m).size = 73 := by simp [spL, bc_length, hl, hbs]
theorem spL_lo (l : List W) (bs : List UInt8) (m : Nat) (i : Nat) (v : Value) (h : (wC l)[i]? = some v) : (spL l bs m)[i]? = some v := by
 have hi := (Array.getElem?_eq_some_iff.1 h).1
 simp only [wC, List.size_toArray, List.length_map] at hi
 simp only [spL, wC, List.getElem?_toArray] at h ⊢
 rw [List.getElem?_append_left (by rw [List.length_map]; exact hi)]
 exact h
theorem spL_byte (l : List W) (bs : List UInt8) (m : Nat) (hl : l.length = 8) (i : Nat) (c : UInt8) (h : bs[i]? = some c) : (spL l bs m)[8 + i]? = some (.int .u8 (c.toNat : Int)) := by
 have hi := (List.getElem?_eq_some_iff.1 h).1
 simp only [spL, List.getElem?_toArray]
 rw [List.getElem?_append_right (by rw [List.length_map, hl]; omega), List.length_map, hl, show 8 + i - 8 = i by omega, List.getElem?_append_left (by rw [bc_length]; exact hi)]
 simp [Lib.byteCells, h]
theorem spL_many (l : List W) (bs : List UInt8) (m : Nat) (hl : l.length = 8) (hbs : bs.length = 64) : (spL l bs m)[72]? = some (.int .u64 (m : Int)) := by
 simp only [spL, List.getElem?_toArray]
 rw [List.getElem?_append_right (by rw [List.length_map, hl]; omega), List.length_map, hl, List.getElem?_append_right (by rw [bc_length, hbs]; omega), bc_length, hbs]
 rfl
theorem spL_set (l : List W) (bs : List UInt8) (m i : Nat) (x : W) (hi : i < l.length) : (spL l bs m).setIfInBounds i (vW x) = spL (l.set i x) bs m := by
 simp only [spL, List.setIfInBounds_toArray, List.map_set]
 rw [List.set_append_left _ _ (by rw [List.length_map]; exact hi)]
section
variable {w : World} {g : Nat} {l : List W} {bs : List UInt8} {m : Nat}
theorem spL_bytes (h : Blk w g 277 (spL l bs m)) (hl : l.length = 8) : BytesIn w g 8 bs := fun i c hc => h.one (P := Tryz.prog) (8 + i) (spL_byte l bs m hl i c hc) Tryz.underlying5 rfl
theorem spL_word (h : Blk w g 277 (spL l bs m)) {i : Nat} {x : W} (hx : l[i]? = some x) : LoadsL Tryz.prog w 204 (some ⟨g, i, none⟩) (vW x) := h.one (P := Tryz.prog) i (spL_lo _ _ _ _ _ (wC_get l i x hx)) Tryz.underlying204 rfl
theorem spL_state (h : Blk w g 277 (spL l bs m)) (hl : l.length = 8) : LoadsL Tryz.prog w 273 (some ⟨g, 0, none⟩) (.agg (wC l)) :=
 LoadsL.of_cells h.lt (fun j v hj => by rw [add_plain, h.cell, Nat.zero_add]; exact spL_lo _ _ _ _ _ hj) Tryz.underlying273 rfl (w8_info _ hl)
end
structure RndS (g4 g5 g6 : Nat) (kl ws l : List W) (u : World) : Prop where
 bx : Blk u g6 273 (wC l)
 bk : Blk u g4 279 (wC kl)
 bw : Blk u g5 279 (wC ws)
section
variable {g4 g5 g6 : Nat} {kl ws l : List W} {u u' : World}
theorem RndS.below (h : RndS g4 g5 g6 kl ws l u) (hb : Below u.heap.size u u') : RndS g4 g5 g6 kl ws l u' := ⟨h.bx.below hb, h.bk.below hb, h.bw.below hb⟩
theorem RndS.x (h : RndS g4 g5 g6 kl ws l u) (i : Nat) (x : W) (hx : l[i]? = some x) : LoadsL Tryz.prog u 204 (some ⟨g6, i, none⟩) (vW x) := h.bx.one (P := Tryz.prog) i (wC_get _ _ _ hx) Tryz.underlying204 rfl
theorem RndS.k (h : RndS g4 g5 g6 kl ws l u) (i : Nat) (x : W) (hx : kl[i]? = some x) : LoadsL Tryz.prog u 204 (some ⟨g4, i, none⟩) (vW x) := h.bk.one (P := Tryz.prog) i (wC_get _ _ _ hx) Tryz.underlying204 rfl
theorem RndS.w (h : RndS g4 g5 g6 kl ws l u) (i : Nat) (x : W) (hx : ws[i]? = some x) : LoadsL Tryz.prog u 204 (some ⟨g5, i, none⟩) (vW x) := h.bw.one (P := Tryz.prog) i (wC_get _ _ _ hx) Tryz.underlying204 rfl
theorem RndS.cells {x0 x1 x2 x3 x4 x5 x6 x7 : W} (h : RndS g4 g5 g6 kl ws [x0, x1, x2, x3, x4, x5, x6, x7] u) (j : Nat) (v : Value) (hj : ([x0, x1, x2, x3, x4, x5, x6].map vW)[j]? = some v) : u.cell? ((⟨g6, 0, none⟩ : Addr).add j) = some v := by
 rw [add_plain, h.bx.cell, Nat.zero_add]
 have hi := (List.getElem?_eq_some_iff.1 hj).1
 simp only [List.length_map, List.length_cons, List.length_nil] at hi
 simp only [wC, List.getElem?_toArray]
 rw [show ([x0, x1, x2, x3, x4, x5, x6, x7] : List W).map vW = [x0, x1, x2, x3, x4, x5, x6].map vW ++ [vW x7] from rfl, List.getElem?_append_left (by simpa using hi)]
 exact hj
end
def addU (s x : List W) (j : Nat) : List W := (List.range 8).map fun i => if i < j then s.getD i 0 + x.getD i 0 else s.getD i 0
theorem addU_length (s x : List W) (j : Nat) : (addU s x j).length = 8 := by simp [addU]
theorem addU_zero (st : St) (x : List W) : addU st.list x 0 = st.list := by simp [addU, St.list, List.range, List.range.loop]
theorem addU_all (st x : St) : addU st.list x.list 8 = (add st x).list := by simp [addU, add, St.list, List.range, List.range.loop]
theorem addU_at {s x : List W} {j : Nat} {a : W} (h : s[j]? = some a) (hj : j < 8) : (addU s x j)[j]? = some a := by
 simp [addU, List.getElem?_range hj, List.getD, h]
theorem addU_next {s x : List W} {j : Nat} {a b : W} (h : s[j]? = some a) (hx : x[j]? = some b) (hj : j < 8) : (addU s x j).set j (a + b) = addU s x (j + 1) := by
 apply List.ext_getElem?
 intro i
 by_cases e : i = j
 ·subst e
  rw [List.getElem?_set_self (by rw [addU_length]; exact hj)]
  simp [addU, List.getElem?_range hj, List.getD, h, hx]
 ·rw [List.getElem?_set_ne (Ne.symm e)]
  simp only [addU, List.getElem?_map]
  by_cases hi : i < 8
  ·simp only [List.getElem?_range hi, Option.map_some]
   by_cases h1 : i < j
   ·simp [h1, show i < j + 1 by omega]
   ·simp [h1, show ¬ i < j + 1 by omega]
  ·rw [List.getElem?_eq_none (by simp; omega)]
   rfl
end Go.Proofs.YtdebbmembkbniaaGreat
/-! hash.block: the words turned by a block. -/
namespace Go.Proofs.YtdebbmembkbniaaGreat
open Go.RowKit Pl Go.Agg Go.Sha
set_option maxRecDepth 100000 in
set_option maxHeartbeats 32000000 in
theorem block_any (g : Nat) (st : St) (bs : List UInt8) (hbs : bs.length = 64) (m : Nat) (w : World) (hb : Blk w g 277 (spL st.list bs m)) :
  Calls Tryz.prog 176 #[.pointer (some ⟨g, 0, none⟩), .pointer (some ⟨g, 8, none⟩)] w fun e w' => (∃ r, e = .returned r) ∧ Blk w' g 277 (spL (block st bs).list bs m) ∧ Only (· = g) w w' := by
 have HEM := Lib.hid (enters_of Tryz.func185 (by kernel_rfl) rfl : ∀ args w, (callFunc 185 args).run Tryz.prog w = .ok (.enter 185 args) w)
 have HB0 := Lib.hid hb
 obtain ⟨ws, hws⟩ : ∃ l, words bs 64 = l := ⟨_, rfl⟩
 obtain ⟨kl, hkl⟩ : ∃ l, ks = l := ⟨_, rfl⟩
 have hwl : ws.length = 64 := by rw [← hws]; exact words_length _ _
 have hkll : kl.length = 64 := by rw [← hkl]; exact ks_length
 have HRD := Lib.hid (fun u => (show Calls Tryz.prog 183 #[] u fun e w' => e = .returned (.agg (wC kl)) ∧ Below u.heap.size u w' by have := rounds_any u; rwa [hkl] at this))
 have HSP := Lib.hid (fun u (h : BytesIn u g 8 bs) => (show Calls Tryz.prog 184 #[.pointer (some ⟨g, 8, none⟩)] u fun e w' => e = .returned (.agg (wC ws)) ∧ Below u.heap.size u w' by have := spread_any g 8 bs hbs u h; rwa [hws] at this))
 have HWS := Lib.hid hws
 have HKL := Lib.hid hkl
 clear hws hkl
 have hgw := hb.lt
 clear hb
 go_enter Tryz.func176, Tryz.ntmps176
 go_wp2_with fail
 refine (HRD.out w).mono ?_
 rintro e w1 ⟨rfl, hx1⟩
 have HX1 := Lib.hid hx1
 have HB1 := Lib.hid (HB0.out.below hx1)
 clear hx1
 go_wp2_with fail
 refine (HSP.out w1 (spL_bytes HB1.out rfl)).mono ?_
 rintro e w2 ⟨rfl, hx2⟩
 have HX2 := Lib.hid (belowThen HX1.out (Nat.le_refl _) hx2)
 have HB2 := Lib.hid (HB1.out.below hx2)
 clear hx2
 go_wp2_with (first | ((fail_if_success (have := HA3)); with_reducible refine wpList_zero rfl 279 rfl (wC (List.replicate 64 0)) w64_zero ?_; intro g4 w3 hb hx hg; have HA3 := Lib.hid hb; have HB3 := Lib.hid (HB2.out.below hx); have HX3 := Lib.hid (belowThen HX2.out (Nat.le_refl _) hx); have HG4 := Lib.hid (Nat.le_trans HX2.out.size hg); clear hb hx hg) | (with_reducible refine wpList_zero rfl 279 rfl (wC (List.replicate 64 0)) w64_zero ?_; intro g5 w4 hb hx hg; have HC4 := Lib.hid hb; have HA4 := Lib.hid (HA3.out.below hx); have HB4 := Lib.hid (HB3.out.below hx); have HX4 := Lib.hid (belowThen HX3.out (Nat.le_refl _) hx); have HG5 := Lib.hid (Nat.le_trans HX3.out.size hg); have HN45 := Lib.hid (show g4 ≠ g5 from fun e => by have := HA3.out.lt; omega); have HNG4 := Lib.hid (show g ≠ g4 from fun e => by have := HG4.out; omega); have HNG5 := Lib.hid (show g ≠ g5 from fun e => by have := HG5.out; omega); clear hb hx hg) | ((with_reducible refine wpList_put rfl rfl 279 _ _ rfl g4 (wC kl) (wC (List.replicate 64 0)) rfl rfl HA4.out (w64_info _ hkll) (by rw [wC_size, wC_size, hkll, List.length_replicate]) (wC_one _) ?_); intro w5 hb hx hs hk; have HA5 := Lib.hid hb; have HC5 := Lib.hid (Blk.other HC4.out hk (Ne.symm HN45.out)); have HB5 := Lib.hid (Blk.other HB4.out hk HNG4.out); have HX5 := Lib.hid (HX4.out.trans (hx.mono HG4.out)); clear hb hx hs hk) | ((with_reducible refine wpList_put rfl rfl 279 _ _ rfl g5 (wC ws) (wC (List.replicate 64 0)) rfl rfl HC5.out (w64_info _ hwl) (by rw [wC_size, wC_size, hwl, List.length_replicate]) (wC_one _) ?_); intro w6 hb hx hs hk; have HC6 := Lib.hid hb; have HA6 := Lib.hid (Blk.other HA5.out hk HN45.out); have HB6 := Lib.hid (Blk.other HB5.out hk HNG5.out); have HX6 := Lib.hid (HX5.out.trans (hx.mono HG5.out)); have HLS := Lib.hid (spL_state HB6.out rfl); clear hb hx hs hk) | (with_reducible refine wpList_loadL HLS.out rfl _ rfl rfl ?_) | (with_reducible refine wpList_zero rfl 273 rfl (wC (List.replicate 8 0)) w8_zero ?_; intro g6 w7 hb hx hg; have HS7 := Lib.hid hb; have HA7 := Lib.hid (HA6.out.below hx); have HC7 := Lib.hid (HC6.out.below hx); have HB7 := Lib.hid (HB6.out.below hx); have HX7 := Lib.hid (belowThen HX6.out (Nat.le_refl _) hx); have HG6 := Lib.hid (Nat.le_trans HX6.out.size hg); have HN46 := Lib.hid (show g4 ≠ g6 from fun e => by have := HA6.out.lt; omega); have HN56 := Lib.hid (show g5 ≠ g6 from fun e => by have := HC6.out.lt; omega); have HNG6 := Lib.hid (show g ≠ g6 from fun e => by have := HB6.out.lt; omega); clear hb hx hg) | ((with_reducible refine wpList_put rfl rfl 273 _ _ rfl g6 (wC st.list) (wC (List.replicate 8 0)) rfl rfl HS7.out (w8_info _ rfl) rfl (wC_one _) ?_); intro w8 hb hx hs hk; have HS8 := Lib.hid hb; have HA8 := Lib.hid (Blk.other HA7.out hk HN46.out); have HC8 := Lib.hid (Blk.other HC7.out hk HN56.out); have HB8 := Lib.hid (Blk.other HB7.out hk HNG6.out); have HX8 := Lib.hid (HX7.out.trans (hx.mono HG6.out)); clear hb hx hs hk))
 have HI8 := Lib.hid (fun (i : Nat) (h : i < 8) W => (show (Instr.indexAt 273 (.pointer (some ⟨g6, 0, none⟩)) (.int .i64 (i : Int))).run Tryz.prog W = .ok (.pointer (some ⟨g6, i, none⟩)) W by have := run_idxArr (P := Tryz.prog) (t := 273) (e := 204) (w := W) Tryz.underlying273 (by kernel_rfl) g6 0 i h; rwa [Nat.zero_add] at this))
 have HIG := Lib.hid (fun (i : Nat) (h : i < 8) W => (show (Instr.indexAt 273 (.pointer (some ⟨g, 0, none⟩)) (.int .i64 (i : Int))).run Tryz.prog W = .ok (.pointer (some ⟨g, i, none⟩)) W by have := run_idxArr (P := Tryz.prog) (t := 273) (e := 204) (w := W) Tryz.underlying273 (by kernel_rfl) g 0 i h; rwa [Nat.zero_add] at this))
 have HI4 := Lib.hid (fun (i : Nat) (h : i < 64) W => (show (Instr.indexAt 279 (.pointer (some ⟨g4, 0, none⟩)) (.int .i64 (i : Int))).run Tryz.prog W = .ok (.pointer (some ⟨g4, i, none⟩)) W by have := run_idxArr (P := Tryz.prog) (t := 279) (e := 204) (w := W) Tryz.underlying279 (by kernel_rfl) g4 0 i h; rwa [Nat.zero_add] at this))
 have HI5 := Lib.hid (fun (i : Nat) (h : i < 64) W => (show (Instr.indexAt 279 (.pointer (some ⟨g5, 0, none⟩)) (.int .i64 (i : Int))).run Tryz.prog W = .ok (.pointer (some ⟨g5, i, none⟩)) W by have := run_idxArr (P := Tryz.prog) (t := 279) (e := 204) (w := W) Tryz.underlying279 (by kernel_rfl) g5 0 i h; rwa [Nat.zero_add] at this))
 go_loopw [20] (fun i wr => ∃ k : Nat, k ≤ 64 ∧ i = .int .i64 (k : Int) ∧ Blk wr g6 273 (wC (rounds bs k st).list) ∧ Blk wr g4 279 (wC kl) ∧ Blk wr g5 279 (wC ws) ∧ Blk wr g 277 (spL st.list bs m) ∧ Below w.heap.size w wr) (fun i _ => 64 - (intOf i).toNat)
 case atStart => exact ⟨0, by omega, rfl, HS8.out, HA8.out, HC8.out, HB8.out, HX8.out⟩
 case round =>
  obtain ⟨wr1, rfl⟩ : ∃ y : World, y = wr := ⟨_, rfl⟩
  obtain ⟨k, hk, rfl, hxs, hks, hws, hbk, hw⟩ := hrel
  have HB := Lib.hid hbk
  have HW := Lib.hid hw
  clear hbk hw
  obtain ⟨x, hx⟩ : ∃ x, rounds bs k st = x := ⟨_, rfl⟩
  rw [hx] at hxs
  by_cases hlt : k < 64
  ·have hd1 : decide ((k : Int) < 64) = true := by simp; omega
   obtain ⟨xa, xb, xc, xd, xe, xf, xg, xh⟩ := x
   obtain ⟨kk, hkk⟩ : ∃ y, kl[k]? = some y := ⟨_, List.getElem?_eq_getElem (by rw [hkll]; exact hlt)⟩
   obtain ⟨ww, hww⟩ : ∃ y, ws[k]? = some y := ⟨_, List.getElem?_eq_getElem (by rw [hwl]; exact hlt)⟩
   have HS := Lib.hid (⟨hxs, hks, hws⟩ : RndS g4 g5 g6 kl ws [xa, xb, xc, xd, xe, xf, xg, xh] wr1)
   have HKK := Lib.hid hkk
   have HWW := Lib.hid hww
   have HRN := Lib.hid (show rounds bs (k + 1) st = ⟨((((xh + mixP xe [6, 11, 25]) + (xg ^^^ (xe &&& (xf ^^^ xg)))) + kk) + ww) + (mixP xa [2, 13, 22] + ((xa &&& (xb ||| xc)) ||| (xb &&& xc))), xa, xb, xc, xd + ((((xh + mixP xe [6, 11, 25]) + (xg ^^^ (xe &&& (xf ^^^ xg)))) + kk) + ww), xe, xf, xg⟩ by rw [rounds, hx, HWS.out, HKL.out]; simp only [Sha.round, mix_s0, mix_s1, List.getD, hkk, hww, Option.getD_some, ch, maj])
   clear hxs hks hws hkk hww hx
   have H0 := Lib.hid (HS.out.x 0 _ rfl)
   have H1 := Lib.hid (HS.out.x 1 _ rfl)
   have H2 := Lib.hid (HS.out.x 2 _ rfl)
   have H3 := Lib.hid (HS.out.x 3 _ rfl)
   have H4 := Lib.hid (HS.out.x 4 _ rfl)
   have H5 := Lib.hid (HS.out.x 5 _ rfl)
   have H6 := Lib.hid (HS.out.x 6 _ rfl)
   have H7 := Lib.hid (HS.out.x 7 _ rfl)
   go_wp2_with (first | (with_reducible refine wpList_loadL H0.out rfl _ rfl rfl ?_) | (with_reducible refine wpList_loadL H1.out rfl _ rfl rfl ?_) | (with_reducible refine wpList_loadL H2.out rfl _ rfl rfl ?_) | (with_reducible refine wpList_loadL H3.out rfl _ rfl rfl ?_) | (with_reducible refine wpList_loadL H4.out rfl _ rfl rfl ?_) | (with_reducible refine wpList_loadL H5.out rfl _ rfl rfl ?_) | (with_reducible refine wpList_loadL H6.out rfl _ rfl rfl ?_) | (with_reducible refine wpList_loadL H7.out rfl _ rfl rfl ?_) | (refine wpList_valw rfl (exec_xorW rfl rfl rfl) ?_) | (refine wpList_valw rfl (exec_andW rfl rfl rfl) ?_) | (refine wpList_valw rfl (exec_orW rfl rfl rfl) ?_))
   try simp only [List.append_eq, List.cons_append, List.nil_append]
   try simp only [Act.put, List.setIfInBounds_toArray, List.set_cons_succ, List.set_cons_zero]
   obtain ⟨w_d, hwd⟩ : ∃ W, W = wr1.drew := ⟨_, rfl⟩
   have hd : Below wr1.heap.size wr1 w_d := by rw [hwd]; exact (Below.refl _ _).drew
   have K_d := Lib.hid (belowThen HW.out (Nat.le_refl _) hd)
   have S_d := Lib.hid (HS.out.below hd)
   have B_d := Lib.hid (HB.out.below hd)
   refine wp_region_held_drew (S := RndS g4 g5 g6 kl ws [xa, xb, xc, xd, xe, xf, xg, xh]) (by kernel_rfl) (by rw [← hwd]; exact S_d.out) (fun hHeld => ?_)
   rw [← hwd] at hHeld ⊢
   clear hwd hd hHeld
   refine held_take 0 (.pointer (some ⟨g6, 7, none⟩)) rfl (by kernel_rfl) (fun _ _ _ h => h) rfl (fun W _ => exec_idx rfl rfl rfl (HI8.out 7 (by decide) W)) (by assumption) ?_
   try simp only [Act.put, List.setIfInBounds_toArray, List.set_cons_succ, List.set_cons_zero]
   refine held_take 1 (vW xh) rfl (by kernel_rfl) (fun _ _ _ h => h) rfl (fun u hS => exec_loadB rfl rfl (hS.x 7 _ rfl).now) (by assumption) ?_
   try simp only [Act.put, List.setIfInBounds_toArray, List.set_cons_succ, List.set_cons_zero]
   refine held_take 2 (.pointer (some ⟨g6, 4, none⟩)) rfl (by kernel_rfl) (fun _ _ _ h => h) rfl (fun W _ => exec_idx rfl rfl rfl (HI8.out 4 (by decide) W)) (by assumption) ?_
   try simp only [Act.put, List.setIfInBounds_toArray, List.set_cons_succ, List.set_cons_zero]
   refine held_take 3 (vW xe) rfl (by kernel_rfl) (fun _ _ _ h => h) rfl (fun u hS => exec_loadB rfl rfl (hS.x 4 _ rfl).now) (by assumption) ?_
   try simp only [Act.put, List.setIfInBounds_toArray, List.set_cons_succ, List.set_cons_zero]
   refine held_take 7 (vW (xg ^^^ (xe &&& (xf ^^^ xg)))) rfl (by kernel_rfl) (fun _ _ _ h => h) rfl (fun W _ => by kernel_rfl) (by assumption) ?_
   try simp only [Act.put, List.setIfInBounds_toArray, List.set_cons_succ, List.set_cons_zero]
   refine held_take 9 (.int .i64 ((k : Nat) : Int)) rfl (by kernel_rfl) (fun _ _ _ h => h) rfl (fun W _ => by kernel_rfl) (by assumption) ?_
   try simp only [Act.put, List.setIfInBounds_toArray, List.set_cons_succ, List.set_cons_zero]
   refine held_take 10 (.pointer (some ⟨g4, k, none⟩)) rfl (by kernel_rfl) (fun _ _ _ h => h) rfl (fun W _ => exec_idx rfl rfl rfl (HI4.out k (by omega) W)) (by assumption) ?_
   try simp only [Act.put, List.setIfInBounds_toArray, List.set_cons_succ, List.set_cons_zero]
   refine held_take 11 (vW kk) rfl (by kernel_rfl) (fun _ _ _ h => h) rfl (fun u hS => exec_loadB rfl rfl (hS.k k _ HKK.out).now) (by assumption) ?_
   try simp only [Act.put, List.setIfInBounds_toArray, List.set_cons_succ, List.set_cons_zero]
   refine held_take 13 (.int .i64 ((k : Nat) : Int)) rfl (by kernel_rfl) (fun _ _ _ h => h) rfl (fun W _ => by kernel_rfl) (by assumption) ?_
   try simp only [Act.put, List.setIfInBounds_toArray, List.set_cons_succ, List.set_cons_zero]
   refine held_take 14 (.pointer (some ⟨g5, k, none⟩)) rfl (by kernel_rfl) (fun _ _ _ h => h) rfl (fun W _ => exec_idx rfl rfl rfl (HI5.out k (by omega) W)) (by assumption) ?_
   try simp only [Act.put, List.setIfInBounds_toArray, List.set_cons_succ, List.set_cons_zero]
   refine held_take 15 (vW ww) rfl (by kernel_rfl) (fun _ _ _ h => h) rfl (fun u hS => exec_loadB rfl rfl (hS.w k _ HWW.out).now) (by assumption) ?_
   try simp only [Act.put, List.setIfInBounds_toArray, List.set_cons_succ, List.set_cons_zero]
   refine held_one 4 rfl (by kernel_rfl) ?_
   refine Agg.step_ints3 rfl _ _ _ rfl 6 11 25 rfl rfl rfl ?_
   intro va w_d_4 hs hx
   have V_d_4 := Lib.hid hs
   have K_d_4 := Lib.hid (belowThen K_d.out (Nat.le_refl _) hx)
   have S_d_4 := Lib.hid (S_d.out.below hx)
   have B_d_4 := Lib.hid (B_d.out.below hx)
   clear hs hx
   refine ⟨S_d_4.out, ?_⟩
   try simp only [Act.put, List.setIfInBounds_toArray, List.set_cons_succ, List.set_cons_zero]
   refine held_one 5 rfl (by kernel_rfl) ?_
   refine step_call rfl 185 _ _ rfl #[vW xe, va] (by simp only [List.map_toArray, List.map_cons, List.map_nil]; rfl) (fun W => HEM.out _ W) ?_
   refine (mixed_any xe va [6, 11, 25] (by decide) (by decide) w_d_4 V_d_4.out).mono ?_
   rintro e w_d_4_5 ⟨rfl, hx⟩
   have Zb := Lib.hid (belowThen K_d_4.out (Nat.le_refl _) hx)
   have Za := Lib.hid (S_d_4.out.below hx)
   have Zc := Lib.hid (B_d_4.out.below hx)
   clear hx
   refine ⟨_, rfl, Za.out, ?_⟩
   try simp only [Act.put, List.setIfInBounds_toArray, List.set_cons_succ, List.set_cons_zero]
   refine held_take 6 (vW (xh + mixP xe [6, 11, 25])) rfl (by kernel_rfl) (fun _ _ _ h => h) rfl (fun W _ => exec_addW rfl rfl rfl) (by assumption) ?_
   try simp only [Act.put, List.setIfInBounds_toArray, List.set_cons_succ, List.set_cons_zero]
   refine held_take 8 (vW ((xh + mixP xe [6, 11, 25]) + (xg ^^^ (xe &&& (xf ^^^ xg))))) rfl (by kernel_rfl) (fun _ _ _ h => h) rfl (fun W _ => exec_addW rfl rfl rfl) (by assumption) ?_
   try simp only [Act.put, List.setIfInBounds_toArray, List.set_cons_succ, List.set_cons_zero]
   refine held_take 12 (vW (((xh + mixP xe [6, 11, 25]) + (xg ^^^ (xe &&& (xf ^^^ xg)))) + kk)) rfl (by kernel_rfl) (fun _ _ _ h => h) rfl (fun W _ => exec_addW rfl rfl rfl) (by assumption) ?_
   try simp only [Act.put, List.setIfInBounds_toArray, List.set_cons_succ, List.set_cons_zero]
   refine held_take 16 (vW ((((xh + mixP xe [6, 11, 25]) + (xg ^^^ (xe &&& (xf ^^^ xg)))) + kk) + ww)) rfl (by kernel_rfl) (fun _ _ _ h => h) rfl (fun W _ => exec_addW rfl rfl rfl) (by assumption) ?_
   try simp only [Act.put, List.setIfInBounds_toArray, List.set_cons_succ, List.set_cons_zero]
   refine held_take 17 (vW ((((xh + mixP xe [6, 11, 25]) + (xg ^^^ (xe &&& (xf ^^^ xg)))) + kk) + ww)) rfl (by kernel_rfl) (fun _ _ _ h => h) rfl (fun W _ => by kernel_rfl) (by assumption) ?_
   try simp only [Act.put, List.setIfInBounds_toArray, List.set_cons_succ, List.set_cons_zero]
   refine held_end (by kernel_rfl) ?_
   have H80 := Lib.hid (Za.out.x 0 _ rfl)
   go_wp2_with (first | (with_reducible refine wpList_loadL H80.out rfl _ rfl rfl ?_) | (refine wpList_ints3 rfl _ _ _ rfl 2 13 22 rfl rfl rfl ?_; intro vb w8 hs hx; have V8 := Lib.hid hs; have K8 := Lib.hid (belowThen Zb.out (Nat.le_refl _) hx); have S8 := Lib.hid (Za.out.below hx); have B8 := Lib.hid (Zc.out.below hx); clear hs hx))
   refine (mixed_any xa vb [2, 13, 22] (by decide) (by decide) w8 V8.out).mono ?_
   rintro e w9 ⟨rfl, hx⟩
   have K9 := Lib.hid (belowThen K8.out (Nat.le_refl _) hx)
   have S9 := Lib.hid (S8.out.below hx)
   have B9 := Lib.hid (B8.out.below hx)
   clear hx
   go_wp2_with (first | (refine wpList_valw rfl (exec_addW rfl rfl rfl) ?_))
   try simp only [List.append_eq, List.cons_append, List.nil_append]
   try simp only [Act.put, List.setIfInBounds_toArray, List.set_cons_succ, List.set_cons_zero]
   obtain ⟨w_e, hwd⟩ : ∃ W, W = w9.drew := ⟨_, rfl⟩
   have hd : Below w9.heap.size w9 w_e := by rw [hwd]; exact (Below.refl _ _).drew
   have K_e := Lib.hid (belowThen K9.out (Nat.le_refl _) hd)
   have S_e := Lib.hid (S9.out.below hd)
   have B_e := Lib.hid (B9.out.below hd)
   have hT : True := trivial
   refine wp_region_held_drew (S := fun _ => True) (by kernel_rfl) (by trivial) (fun hHeld => ?_)
   rw [← hwd]
   clear hwd hd
   refine held_take 0 (.slice (some ⟨g6, 1, none⟩) 7 7) rfl (by kernel_rfl) (fun _ _ _ h => h) rfl (fun W _ => by kernel_rfl) (by assumption) ?_
   try simp only [Act.put, List.setIfInBounds_toArray, List.set_cons_succ, List.set_cons_zero]
   refine held_take 1 (.slice (some ⟨g6, 0, none⟩) 7 8) rfl (by kernel_rfl) (fun _ _ _ h => h) rfl (fun W _ => by kernel_rfl) (by assumption) ?_
   try simp only [Act.put, List.setIfInBounds_toArray, List.set_cons_succ, List.set_cons_zero]
   refine held_one 2 rfl (by kernel_rfl) ?_
   obtain ⟨w10, hrun, hb10, ho10, hz10⟩ := run_copyMid (P := Tryz.prog) 212 212 _ 204 g6 1 7 7 ⟨g6, 0, none⟩ 7 8 ([xa, xb, xc, xd, xe, xf, xg, xh].map vW) 273 ([xa, xb, xc, xd, xe, xf, xg].map vW) (by kernel_rfl) (by kernel_rfl) S_e.out.bx (by rfl) (fun j v hj => S_e.out.cells j v hj) (by simp) (fun v hv => by obtain ⟨x, _, rfl⟩ := List.mem_map.1 hv; rfl)
   refine Agg.step_copyV rfl _ _ rfl _ _ rfl rfl hrun ?_
   have K_f := Lib.hid (K_e.out.trans (ho10.below (B := w.heap.size) K_e.out.size (fun i hi => by subst hi; exact HG6.out)))
   have X_f := Lib.hid (show Blk w10 g6 273 (wC [xa, xa, xb, xc, xd, xe, xf, xg]) from hb10)
   have A_f := Lib.hid (S_e.out.bk.onlyP ho10 HN46.out)
   have C_f := Lib.hid (S_e.out.bw.onlyP ho10 HN56.out)
   have B_f := Lib.hid (B_e.out.onlyP ho10 HNG6.out)
   clear hrun hb10 ho10 hz10
   refine ⟨trivial, ?_⟩
   try simp only [Act.put, List.setIfInBounds_toArray, List.set_cons_succ, List.set_cons_zero]
   refine held_end (by kernel_rfl) ?_
   obtain ⟨w11, hr11, hb11, ho11⟩ := Blk.run_one (P := Tryz.prog) (ty := 204) X_f.out 0 (by rw [wC_size]; simp) (vW (((((xh + mixP xe [6, 11, 25]) + (xg ^^^ (xe &&& (xf ^^^ xg)))) + kk) + ww) + (mixP xa [2, 13, 22] + ((xa &&& (xb ||| xc)) ||| (xb &&& xc))))) rfl rfl (by kernel_rfl) (wC [((((xh + mixP xe [6, 11, 25]) + (xg ^^^ (xe &&& (xf ^^^ xg)))) + kk) + ww) + (mixP xa [2, 13, 22] + ((xa &&& (xb ||| xc)) ||| (xb &&& xc))), xa, xb, xc, xd, xe, xf, xg]) (by rw [wC_set]; rfl)
   have H11 := Lib.hid (hb11.one (P := Tryz.prog) (ty := 204) 4 (wC_get _ 4 xd rfl) Tryz.underlying204 rfl)
   obtain ⟨w12, hr12, hb12, ho12⟩ := Blk.run_one (P := Tryz.prog) (ty := 204) hb11 4 (by rw [wC_size]; simp) (vW (xd + ((((xh + mixP xe [6, 11, 25]) + (xg ^^^ (xe &&& (xf ^^^ xg)))) + kk) + ww))) rfl rfl (by kernel_rfl) (wC [((((xh + mixP xe [6, 11, 25]) + (xg ^^^ (xe &&& (xf ^^^ xg)))) + kk) + ww) + (mixP xa [2, 13, 22] + ((xa &&& (xb ||| xc)) ||| (xb &&& xc))), xa, xb, xc, xd + ((((xh + mixP xe [6, 11, 25]) + (xg ^^^ (xe &&& (xf ^^^ xg)))) + kk) + ww), xe, xf, xg]) (by rw [wC_set]; rfl)
   have HR11 := Lib.hid hr11
   have HR12 := Lib.hid hr12
   have ho := ho11.trans ho12 (fun _ _ h => h)
   have K_g := Lib.hid (K_f.out.trans (ho.below (B := w.heap.size) K_f.out.size (fun i hi => by subst hi; exact HG6.out)))
   have X_g := Lib.hid hb12
   have A_g := Lib.hid (A_f.out.onlyP ho HN46.out)
   have C_g := Lib.hid (C_f.out.onlyP ho HN56.out)
   have B_g := Lib.hid (B_f.out.onlyP ho HNG6.out)
   clear hr11 hb11 ho11 hr12 hb12 ho12 ho
   go_wp2_with (first | (refine wpList_valw rfl (exec_addW rfl rfl rfl) ?_) | (with_reducible refine wpList_loadL H11.out rfl _ rfl rfl ?_) | (refine wpList_store rfl rfl 204 _ _ rfl (.pointer (some ⟨g6, 0, none⟩)) (vW (((((xh + mixP xe [6, 11, 25]) + (xg ^^^ (xe &&& (xf ^^^ xg)))) + kk) + ww) + (mixP xa [2, 13, 22] + ((xa &&& (xb ||| xc)) ||| (xb &&& xc))))) rfl rfl HR11.out ?_) | (refine wpList_store rfl rfl 204 _ _ rfl (.pointer (some ⟨g6, 4, none⟩)) (vW (xd + ((((xh + mixP xe [6, 11, 25]) + (xg ^^^ (xe &&& (xf ^^^ xg)))) + kk) + ww))) rfl rfl HR12.out ?_))
   go_roundw
   case rel => exact ⟨k + 1, by omega, by go_num, by rw [HRN.out]; exact X_g.out, A_g.out, C_g.out, B_g.out, K_g.out⟩
   case measure => simp [intOf]; omega
  ·obtain rfl : k = 64 := by omega
   have HLX := Lib.hid (hxs.loads (P := Tryz.prog) Tryz.underlying273 rfl (w8_info _ rfl))
   have HAD := Lib.hid (show addU st.list x.list 8 = (block st bs).list by rw [addU_all, block, hx])
   obtain ⟨xl, hxl⟩ : ∃ l, x.list = l := ⟨_, rfl⟩
   have hl8 : xl.length = 8 := by rw [← hxl]; rfl
   rw [hxl] at HLX HAD
   clear hxs hks hws hx hxl
   go_wp2_with (first | (with_reducible refine wpList_loadL HLX.out rfl _ rfl rfl ?_))
   go_loopw [85] (fun i wr => ∃ j : Nat, j ≤ 8 ∧ i = .int .i64 (j : Int) ∧ Blk wr g 277 (spL (addU st.list xl j) bs m) ∧ Only (· = g) w wr) (fun i _ => 8 - (intOf i).toNat)
   case atStart => exact ⟨0, by omega, rfl, by rw [addU_zero]; exact HB.out, Only.of_below HW.out⟩
   case round =>
    obtain ⟨wr1, rfl⟩ : ∃ y : World, y = wr := ⟨_, rfl⟩
    obtain ⟨j, hj, rfl, hb2, ho2⟩ := hrel
    have HB2 := Lib.hid hb2
    have HO := Lib.hid ho2
    clear hb2 ho2
    by_cases hj8 : j < 8
    ·have hd2 : decide ((j : Int) < 8) = true := by simp; omega
     obtain ⟨xj, hxj⟩ : ∃ y, xl[j]? = some y := ⟨_, List.getElem?_eq_getElem (by omega)⟩
     obtain ⟨sj, hsj⟩ : ∃ y, st.list[j]? = some y := ⟨_, List.getElem?_eq_getElem (by simp [St.list]; omega)⟩
     have HXJ := Lib.hid hxj
     have HSJ0 := Lib.hid hsj
     have HSJ := Lib.hid (show (addU st.list xl j)[j]? = some sj from addU_at hsj hj8)
     have HIX := Lib.hid (fun W => run_index_agg (P := Tryz.prog) (t := 273) (e := 204) (n := 8) (cs := xl.map vW) (k := .i64) (i := j) (v := vW xj) W Tryz.underlying273 (by kernel_rfl) (fun _ => by kernel_rfl) hj8 (by rw [List.getElem?_map, hxj]; rfl))
     clear hxj hsj
     go_wp2_with (first | (refine wpList_valw rfl (exec_index rfl rfl rfl (HIX.out _)) ?_))
     try simp only [List.append_eq, List.cons_append, List.nil_append]
     try simp only [Act.put, List.setIfInBounds_toArray, List.set_cons_succ, List.set_cons_zero]
     obtain ⟨w_d, hwd⟩ : ∃ W, W = wr1.drew := ⟨_, rfl⟩
     have hd : Below wr1.heap.size wr1 w_d := by rw [hwd]; exact (Below.refl _ _).drew
     have HB_d := Lib.hid (HB2.out.below hd)
     have HO_d := Lib.hid (HO.out.trans (Only.of_below (S := (· = g)) hd) (fun _ _ h => h))
     have HLJ := Lib.hid (spL_word HB_d.out HSJ.out)
     obtain ⟨w_s, hrj, hbj, hoj⟩ := Blk.run_one (P := Tryz.prog) (ty := 204) HB_d.out j (by rw [spL_size _ _ _ (addU_length _ _ _) hbs]; omega) (vW (sj + xj)) rfl rfl (by kernel_rfl) (spL (addU st.list xl (j + 1)) bs m) (by rw [spL_set _ _ _ _ _ (by rw [addU_length]; omega), addU_next HSJ0.out HXJ.out hj8])
     have HRJ := Lib.hid hrj
     have HBJ := Lib.hid hbj
     have HOJ := Lib.hid (HO_d.out.trans hoj (fun _ _ h => h))
     clear hrj hbj hoj
     have hT : True := trivial
     refine wp_region_held_drew (S := fun _ => True) (by kernel_rfl) (by trivial) (fun hHeld => ?_)
     rw [← hwd]
     clear hwd hd
     refine held_take 0 (.pointer (some ⟨g, 0, none⟩)) rfl (by kernel_rfl) (fun _ _ _ h => h) rfl (fun W _ => by kernel_rfl) (by assumption) ?_
     try simp only [Act.put, List.setIfInBounds_toArray, List.set_cons_succ, List.set_cons_zero]
     refine held_take 1 (.int .i64 ((j : Nat) : Int)) rfl (by kernel_rfl) (fun _ _ _ h => h) rfl (fun W _ => by kernel_rfl) (by assumption) ?_
     try simp only [Act.put, List.setIfInBounds_toArray, List.set_cons_succ, List.set_cons_zero]
     refine held_take 2 (.pointer (some ⟨g, 0, none⟩)) rfl (by kernel_rfl) (fun _ _ _ h => h) rfl (fun W _ => by kernel_rfl) (by assumption) ?_
     try simp only [Act.put, List.setIfInBounds_toArray, List.set_cons_succ, List.set_cons_zero]
     refine held_take 3 (.pointer (some ⟨g, j, none⟩)) rfl (by kernel_rfl) (fun _ _ _ h => h) rfl (fun W _ => exec_idx rfl rfl rfl (HIG.out j (by omega) W)) (by assumption) ?_
     try simp only [Act.put, List.setIfInBounds_toArray, List.set_cons_succ, List.set_cons_zero]
     refine held_take 5 (vW xj) rfl (by kernel_rfl) (fun _ _ _ h => h) rfl (fun W _ => by kernel_rfl) (by assumption) ?_
     try simp only [Act.put, List.setIfInBounds_toArray, List.set_cons_succ, List.set_cons_zero]
     refine held_take 7 (.pointer (some ⟨g, 0, none⟩)) rfl (by kernel_rfl) (fun _ _ _ h => h) rfl (fun W _ => by kernel_rfl) (by assumption) ?_
     try simp only [Act.put, List.setIfInBounds_toArray, List.set_cons_succ, List.set_cons_zero]
     refine held_one 4 rfl (by kernel_rfl) ?_
     refine step_load rfl 204 _ rfl _ (vW sj) rfl HLJ.out.now ?_
     refine ⟨trivial, ?_⟩
     try simp only [Act.put, List.setIfInBounds_toArray, List.set_cons_succ, List.set_cons_zero]
     refine held_take 6 (vW (sj + xj)) rfl (by kernel_rfl) (fun _ _ _ h => h) rfl (fun W _ => exec_addW rfl rfl rfl) (by assumption) ?_
     try simp only [Act.put, List.setIfInBounds_toArray, List.set_cons_succ, List.set_cons_zero]
     refine held_take 8 (.pointer (some ⟨g, j, none⟩)) rfl (by kernel_rfl) (fun _ _ _ h => h) rfl (fun W _ => exec_idx rfl rfl rfl (HIG.out j (by omega) W)) (by assumption) ?_
     try simp only [Act.put, List.setIfInBounds_toArray, List.set_cons_succ, List.set_cons_zero]
     refine held_one 9 rfl (by kernel_rfl) ?_
     refine Agg.step_store rfl rfl 204 _ _ rfl (.pointer (some ⟨g, j, none⟩)) (vW (sj + xj)) rfl rfl HRJ.out ?_
     refine ⟨trivial, ?_⟩
     try simp only [Act.put, List.setIfInBounds_toArray, List.set_cons_succ, List.set_cons_zero]
     refine held_end (by kernel_rfl) ?_
     go_wp2_with fail
     go_roundw
     case rel => exact ⟨j + 1, by omega, by go_num, HBJ.out, HOJ.out⟩
     case measure => simp [intOf]; omega
    ·obtain rfl : j = 8 := by omega
     go_wp2_with fail
     refine bodyPost_end (results_none rfl _ _ _) rfl ?_
     exact ⟨⟨_, rfl⟩, by rw [← HAD.out]; exact HB2.out, HO.out⟩
end Go.Proofs.YtdebbmembkbniaaGreat
/-! What hash.take needs: slices of arrays and of bytes, numbers of 64 bits, bytes copied into a sponge. -/
namespace Go.Agg
open Go.RowKit
variable {P : Program}
theorem run_sliceArr {e t : TypeId} {k : Nat} {w : World} (ht : P.underlying t = some (.array k e)) (hs : (P.info? e).map (·.size) = some 1) (g b l : Nat) (h : l < k) : (Instr.sliceAt t (.pointer (some ⟨g, b, none⟩)) (some (.int .i64 (l : Int))) none none).run P w = .ok (.slice (some ⟨g, b + l, none⟩) (k - l) (k - l)) w := by
 have hl : P.arrayLen t = k := by simp [Program.arrayLen, ht]
 have he : P.elem t = e := by simp [Program.elem, ht]
 cases hq : P.info? e with
 | none => simp [hq] at hs
 | some j =>
  have hj : j.size = 1 := by simpa [hq] using hs
  rw [run_sliceAt_array_l w t _ (by rw [hl, he]; exact ht) .i64 (l : Int) (by omega) (by rw [hl]; omega)]
  rw [hl, he]
  have hne : ¬ k = l := by omega
  simp [sizeOf, typeInfo, hq, hj, slicedAt, hne]
  first | rfl | simp [Addr.add]
theorem wpList_copyV {ops : Array Oper} {rest : List Oper} {o : Oper} {a : Act} {w w' : World} {Q : Exit → Act → World → Prop} {dT sT : TypeId} (hg : Region.wanted o (yielded ops a.tmps) = true) (d s : Operand) (ho : o.op = .call { callee := .builtin .copy, args := #[d, s], argTypes := #[dT, sT] }) (vd vs : Value) (hd : a.eval d = vd) (hs : a.eval s = vs) {v : Value}
  (hrun : (Builtin.copy_ #[dT, sT] o.type #[vd, vs]).run P w = .ok v w') (h : wpList P ops Q rest (a.put o.dst v) w') : wpList P ops Q (o :: rest) a w :=
 wpList_valw hg (by simp [execOp, ho, resolve, invoke, builtin, hd, hs, hrun]) h
theorem exec_slice {o : Oper} {a : Act} {w : World} {t : TypeId} {x y : Operand} {vx vy v : Value} (ho : o.op = .slice t x (some y) none none) (hx : a.eval x = vx) (hy : a.eval y = vy) (hr : (Instr.sliceAt t vx (some vy) none none).run P w = .ok v w) : (execOp a.eval o).run P w = .ok (.value v) w := by simp [execOp, ho, hx, hy, hr]
section
variable {o : Oper} {a : Act} {w : World} {t u : TypeId} {x y : Operand} {m n : Nat}
theorem wrap_u64N (n : Nat) (h : n < 18446744073709551616) : IntKind.u64.wrap (n : Int) = (n : Int) := by
 simp only [IntKind.wrap, IntKind.signed, IntKind.bits, Bool.false_and, Bool.false_eq_true, if_false]
 omega
theorem exec_addQ (h : m + n < 18446744073709551616) (ho : o.op = .binOp .add t x y u) (hx : a.eval x = .int .u64 (m : Int)) (hy : a.eval y = .int .u64 (n : Int)) : (execOp a.eval o).run P w = .ok (.value (.int .u64 ((m + n : Nat) : Int))) w := by
 have hc : (binOp .add t (.int .u64 (m : Int)) (.int .u64 (n : Int))).run P w = .ok (.int .u64 ((m + n : Nat) : Int)) w := by
  simp only [binOp, Op.intArith]
  refine congrArg (fun n => Result.ok (Value.int .u64 n) w) ?_
  rw [← Int.natCast_add]
  exact wrap_u64N _ h
 simp only [execOp, ho, hx, hy]
 simp [eqGuard, hc]
theorem exec_remQ (hn : 0 < n) (hm : m < 18446744073709551616) (ho : o.op = .binOp .rem t x y u) (hx : a.eval x = .int .u64 (m : Int)) (hy : a.eval y = .int .u64 (n : Int)) : (execOp a.eval o).run P w = .ok (.value (.int .u64 ((m % n : Nat) : Int))) w := by
 have hc : (binOp .rem t (.int .u64 (m : Int)) (.int .u64 (n : Int))).run P w = .ok (.int .u64 ((m % n : Nat) : Int)) w := by
  have hlt := Nat.mod_lt m hn
  have hne : ¬ (n : Int) = 0 := by omega
  have e : ((m : Int).tmod (n : Int)) = ((m % n : Nat) : Int) := by
   rw [Int.tmod_eq_emod_of_nonneg (by omega)]
   first | exact (Int.natCast_emod m n).symm | exact (Int.ofNat_emod m n).symm | (push_cast; rfl)
  simp only [binOp, Op.intDiv, if_neg hne]
  first
   | exact congrArg (fun n => Result.ok (Value.int .u64 n) w) (by rw [e]; exact wrap_u64N _ (by omega))
   | exact congrArg (fun n => Result.ok (Value.int .u64 n) w) e
   | simp [e, wrap_u64N _ (show m % n < 18446744073709551616 by omega), hne]
 simp only [execOp, ho, hx, hy]
 simp [eqGuard, hc]
end
end Go.Agg
namespace Go.Proofs.YtdebbmembkbniaaGreat
open Go.RowKit Pl Go.Agg Go.Sha
section
variable {o : Oper} {a : Act} {w : World} {x : Operand} {n : Nat}
theorem exec_cvQI (h : n < 9223372036854775808) (ho : o.op = .convert 151 3 x) (hx : a.eval x = .int .u64 (n : Int)) : (execOp a.eval o).run Tryz.prog w = .ok (.value (.int .i64 (n : Int))) w := by
 have hc : (convert 151 3 (.int .u64 (n : Int))).run Tryz.prog w = .ok (.int .i64 (n : Int)) w := by
  simp [convert]
  simp only [Conv.intToInt]
  exact congrArg (fun n => Result.ok (Value.int .i64 n) w) (wrap_i64N _ h)
 simp [execOp, ho, hx, hc]
theorem exec_cvIQ (h : n < 9223372036854775808) (ho : o.op = .convert 3 151 x) (hx : a.eval x = .int .i64 (n : Int)) : (execOp a.eval o).run Tryz.prog w = .ok (.value (.int .u64 (n : Int))) w := by
 have hc : (convert 3 151 (.int .i64 (n : Int))).run Tryz.prog w = .ok (.int .u64 (n : Int)) w := by
  simp [convert]
  simp only [Conv.intToInt]
  exact congrArg (fun n => Result.ok (Value.int .u64 n) w) (wrap_u64N _ (by omega))
 simp [execOp, ho, hx, hc]
end
theorem sliceOf_from {w : World} {u : Value} {l : List UInt8} (h : SliceOf EB w u l) (hc : ∀ p n c, u = .slice p n c → n ≤ c) (k : Nat) (hk : k ≤ l.length) :
  ∃ u', (∀ W, (Instr.sliceAt 23 u (some (.int .i64 (k : Int))) none none).run Tryz.prog W = .ok u' W) ∧ SliceOf EB w u' (l.drop k) ∧ (∀ b, u'.ownBlock = some b → u.ownBlock = some b) ∧ ∀ p n c, u' = .slice p n c → n ≤ c := by
 obtain ⟨p, c, hf⟩ := h.form
 have hle := hc _ _ _ hf
 have hund : Tryz.prog.underlying 23 = some (.slice (Tryz.prog.elem 23)) := by kernel_rfl
 have hsz : (Tryz.prog.info? (Tryz.prog.elem 23)).map (·.size) = some 1 := by kernel_rfl
 have hrun : ∀ W, (Instr.sliceAt 23 u (some (.int .i64 (k : Int))) none none).run Tryz.prog W = .ok (.slice (if c = k then p else p.map (·.add (k * 1))) (l.length - k) (c - k)) W := by
  intro W
  subst hf
  cases hq : Tryz.prog.info? (Tryz.prog.elem 23) with
  | none => simp [hq] at hsz
  | some j =>
   have hj : j.size = 1 := by simpa [hq] using hsz
   rw [run_sliceAt_slice W 23 _ _ _ _ hund, run_slice_l W 23 p l.length c hund .i64 (k : Int) (by omega) (by omega)]
   simp [sizeOf, typeInfo, hq, hj, sliced]
 refine ⟨_, hrun, ?_, ?_, ?_⟩
 ·rcases h with ⟨p', c', rfl, hl⟩ | ⟨q, c', rfl, hq, hcell⟩
  ·subst hl
   simp only [List.length_nil, Nat.le_zero] at hk
   subst hk
   injection hf with h1 h2 h3
   subst h1 h3
   exact .inl ⟨_, _, rfl, by simp⟩
  ·injection hf with h1 h2 h3
   subst h1 h3
   by_cases e : c' = k
   ·have : l.drop k = [] := List.drop_eq_nil_of_le (by omega)
    rw [this]
    exact .inl ⟨_, _, by rw [show l.length - k = 0 by omega], rfl⟩
   ·rw [if_neg e]
    refine .inr ⟨q.add k, c' - k, by simp, by rw [add_block]; exact hq, fun j v hj => ?_⟩
    rw [add_add]
    refine hcell _ _ ?_
    rw [flat_bytes] at hj ⊢
    simp only [Lib.byteCells, List.map_drop, List.getElem?_drop] at hj
    exact hj
 ·intro b hb
  subst hf
  cases p with
  | none => simp [Value.ownBlock] at hb
  | some q =>
   split at hb
   ·exact hb
   ·simpa [Value.ownBlock, add_block] using hb
 ·intro p' n' c'' e
  injection e with _ h2 h3
  omega
end Go.Proofs.YtdebbmembkbniaaGreat
