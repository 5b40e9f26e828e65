/- A cut behind a region: what it leaves, said once for all orders. (Several texts in one.) -/
import Derived.Test.YtdebbmembkbniaaGreatTAC
import Derived.StillTailTactics
import Derived.Test.YtdebbmembkbniaaGreatTAB
import Derived.Test.YtdebbmembkbniaaGreatTAD
/-! spencekit.mark, markByte; slices of slices of bytes -/
namespace Go.Agg
open Go.RowKit
variable {P : Program}
end Go.Agg
namespace Go.Proofs.YtdebbmembkbniaaGreat
open Go.RowKit Pl Go.Agg
theorem mark_any (k i : Nat) (hk : k ≤ 16777216) (hi : i ≤ 16777216) (w : World) : Calls Tryz.prog 74 #[.int .i64 (k : Int), .int .i64 (i : Int)] w fun e w' => e = .returned (.int .i64 ((1000003 * (k + 7) + i : Nat) : Int)) ∧ w = w' := by
 go_enter Tryz.func74, Tryz.ntmps74
 go_wp2_with fail
 go_ret
 exact ⟨by simp, rfl⟩
theorem markByte_any (k i : Nat) (hk : k ≤ 16777216) (hi : i ≤ 16777216) (w : World) : Calls Tryz.prog 31 #[.int .i64 (k : Int), .int .i64 (i : Int)] w fun e w' => e = .returned (.int .u8 ((mkB k i).toNat : Int)) ∧ w' = w := by
 go_enter Tryz.func31, Tryz.ntmps31
 go_wp2_with fail
 refine (mark_any k i hk hi _).mono ?_
 rintro e w1 ⟨rfl, rfl⟩
 go_wp2_with fail
 go_ret
 exact ⟨ret_u8 (mkB_int k i), rfl⟩
end Go.Proofs.YtdebbmembkbniaaGreat
/-! (of general use) spencekit.LentBytes. -/
namespace Go.Proofs.YtdebbmembkbniaaGreat
open Go.RowKit Pl Go.Agg
def Lent {α : Type} (E : Elem Tryz.prog α) (M : List α) (base : Nat) (w : World) (u : Value) (l : List α) : Prop :=
 ∃ g cap, u = .slice (some ⟨g, 0, none⟩) l.length cap ∧ base ≤ g ∧ l.length + M.length ≤ cap ∧ SliceOf E w (.slice (some ⟨g, 0, none⟩) (l.length + M.length) cap) (l ++ M)
def LentO {α : Type} (E : Elem Tryz.prog α) (M : List α) (base : Nat) (w : World) (u : Value) (l : List α) : Prop :=
 ∃ g cap, u = .slice (some ⟨g, 0, none⟩) l.length cap ∧ Own E base w (.slice (some ⟨g, 0, none⟩) (l.length + M.length) cap) (l ++ M)
theorem LentO.lent {α : Type} {E : Elem Tryz.prog α} {M l : List α} {base : Nat} {w : World} {u : Value} (h : LentO E M base w u l) (_hM : 0 < M.length) : Lent E M base w u l := by
 obtain ⟨g, cap, rfl, ho⟩ := h
 have hs := ho.slice
 obtain ⟨_, ⟨h, _⟩ | ⟨g', cap', cur, hv, hgb, hcur, hle, _⟩⟩ := ho
 ·cases h
 ·injection hv with h1 h2 h3
  injection h1 with h1
  injection h1 with h1
  subst h1 h3
  exact ⟨g, cap, rfl, hgb, by rw [← List.length_append]; exact hle, hs⟩
theorem LentO.of_own {α : Type} {E : Elem Tryz.prog α} {M l : List α} {base : Nat} {w : World} {v : Value} (h : Own E base w v (l ++ M)) (hM : 0 < M.length) : ∃ g cap, v = .slice (some ⟨g, 0, none⟩) (l.length + M.length) cap ∧ l.length + M.length ≤ cap ∧ LentO E M base w (.slice (some ⟨g, 0, none⟩) l.length cap) l := by
 have ho := h
 obtain ⟨hfl, ⟨rfl, h0⟩ | ⟨g, cap, cur, rfl, hgb, hcur, hle, _⟩⟩ := h
 ·rw [List.length_append] at h0; omega
 ·rw [List.length_append] at hle ho ⊢
  exact ⟨g, cap, rfl, hle, g, cap, rfl, ho⟩
theorem LentO.keepT {α : Type} {E : Elem Tryz.prog α} {M l : List α} {base : Nat} {w w' : World} {u : Value} (h : LentO E M base w u l) (hk : ∀ (g : Nat) (cur : Array Value) (fr : Nat × Nat), w.heap[g]? = some (Obj.cells cur E.ty fr) → w'.heap[g]? = some (Obj.cells cur E.ty fr)) : LentO E M base w' u l := by
 obtain ⟨g, cap, rfl, ho⟩ := h
 obtain ⟨hfl, h | ⟨g', cap', cur, hv, hb, hc, hr⟩⟩ := ho
 ·exact ⟨g, cap, rfl, hfl, .inl h⟩
 ·exact ⟨g, cap, rfl, hfl, .inr ⟨g', cap', cur, hv, hb, hk g' cur _ hc, hr⟩⟩
theorem LentO.below {α : Type} {E : Elem Tryz.prog α} {M l : List α} {base : Nat} {w w' : World} {u : Value} (h : LentO E M base w u l) (hb : Below w.heap.size w w') : LentO E M base w' u l := h.keepT fun _ _ _ hg => keep' hb hg
theorem LentO.lower {α : Type} {E : Elem Tryz.prog α} {M l : List α} {base b' : Nat} {w : World} {u : Value} (h : LentO E M base w u l) (hb : b' ≤ base) : LentO E M b' w u l := by
 obtain ⟨g, cap, rfl, ho⟩ := h
 exact ⟨g, cap, rfl, ho.lower hb⟩
theorem LentO.form {α : Type} {E : Elem Tryz.prog α} {M l : List α} {base : Nat} {w : World} {u : Value} (h : LentO E M base w u l) : ∃ p n c, u = .slice p n c := by
 obtain ⟨g, cap, rfl, _⟩ := h
 exact ⟨_, _, _, rfl⟩
end Go.Proofs.YtdebbmembkbniaaGreat
/-! spencekit.LentBytes. -/
namespace Go.Proofs.YtdebbmembkbniaaGreat
open Go.RowKit Pl Go.Agg
set_option maxRecDepth 100000 in
set_option maxHeartbeats 1000000 in
theorem lentBytes_own (v : Value) (b : List UInt8) (hb : b.length ≤ 1048576) (w : World) (he : BytesAt w v b) :
  Calls Tryz.prog 8 #[v] w fun e w' => ∃ u, e = .returned u ∧ Below w.heap.size w w' ∧ LentO EB (marks 1 12) w.heap.size w' u b := by
 have hlv := fun W => bytes_len he W
 have HE := Lib.hid he
 clear he
 have hc : b.length + 12 ≤ 1099511627776 / 8 := by omega
 go_enter Tryz.func8, Tryz.ntmps8
 go_wp2_with (first | (refine Agg.wpList_make0 (base := w.heap.size) EB rfl .i64 .i64 _ (b.length + 12) rfl rfl hc (by decide) (Nat.le_refl _) ?_; intro v1 w1 ho1 hx1) | (at_builtin; refine Agg.walk_stop ?_))
 refine ⟨?_, trivial⟩
 have h63 : ([] : List UInt8).length + b.length ≤ 1099511627776 / 8 := by simp; omega
 refine Agg.wpList_appendS (E := EB) rfl _ _ rfl v rfl rfl b ho1 (SliceOf.below HE.out hx1) h63 (by decide) hx1.size ?_
 intro v2 w2 ho2 hp2 _
 rw [List.nil_append] at ho2
 have hx2 := hx1.trans (hp2.below w.heap.size (Nat.le_refl _) hx1.size)
 simp only [Act.put, List.setIfInBounds_toArray, List.set_cons_succ, List.set_cons_zero]
 clear ho1 hp2 hx1
 go_wp2_with fail
 go_loopw [3, 4] (fun out i wr => ∃ k : Nat, k ≤ 12 ∧ i = .int .i64 k ∧ Own EB w.heap.size wr out (b ++ marks 1 k) ∧ Below w.heap.size w wr) (fun _ i _ => 12 - (intOf i).toNat)
 case atStart => exact ⟨0, by omega, rfl, by simpa [marks] using ho2, hx2⟩
 case round =>
  clear ho2 hx2
  obtain ⟨w3, rfl⟩ : ∃ w3 : World, w3 = wr := ⟨_, rfl⟩
  obtain ⟨k, hk, rfl, ho, hw⟩ := hrel
  have HO := Lib.hid ho
  have HW := Lib.hid hw
  clear ho hw
  by_cases hlt : k < 12
  ·have h63 : (b ++ marks 1 k).length + 1 ≤ 1099511627776 / 8 := by rw [List.length_append, marks_length]; omega
   have hsz := HW.out.size
   go_wp2_with fail
   refine (markByte_any 1 k (by omega) (by omega) _).mono ?_
   rintro e w4 ⟨rfl, rfl⟩
   go_wp2_with (first | (refine wpList_push (E := EB) (base := w.heap.size) rfl rfl 19 rfl _ rfl _ rfl (mkB 1 k) rfl (fun _ => rfl) (by simp) HO.out h63 (by decide) hsz ?_; intro u5 v5 w5 ho5 hp5))
   rw [List.append_assoc, ← marks_succ] at ho5
   go_wp2_with fail
   go_roundw
   case rel => exact ⟨k + 1, by omega, by go_num, ho5, HW.out.trans (hp5.below w.heap.size (Nat.le_refl _) hsz)⟩
   case measure => simp [intOf]; omega
  ·obtain rfl : k = 12 := by omega
   obtain ⟨g, cap, rfl, hcap, hlent⟩ := LentO.of_own HO.out (by rw [marks_length]; omega)
   rw [marks_length] at hcap
   have hcap2 : b.length ≤ cap := by omega
   have HLT := Lib.hid hlent
   clear hlent
   go_wp2_with fail
   go_ret
   exact ⟨_, rfl, HW.out, HLT.out⟩
end Go.Proofs.YtdebbmembkbniaaGreat
/-! (of general use) Steps of a region that draws: literals of two, new variables, whole rows stored. -/
namespace Go.Agg
open Go.RowKit
variable {P : Program} {ops : Array Oper} {o : Oper} {a : Act} {w : World} {Q : Exit → Act → World → Prop} {K : Act → World → Prop} {F : Prop}
theorem step_slice2B {α : Type} {E : Elem P α} (hg : o.guard = none) (x y : Operand) (ho : o.op = .buildSlice E.st 2 #[(0, x), (1, y)]) (vx vy : α) (hx : a.eval x = E.val vx) (hy : a.eval y = E.val vy)
  (h : ∀ v' w', SliceOf E w' v' [vx, vy] → (∀ b, v'.ownBlock = some b → b < w'.heap.size) → Below w.heap.size w w' → K (a.put o.dst v') w') : if Region.wanted o (yielded ops a.tmps) = true then o.wp P a w K Q else F :=
 step_val hg (v := .slice (some ⟨w.heap.size, 0, none⟩) 2 2) (w' := w.alloc (.cells ((E.val vx).cells ++ (E.val vy).cells) E.ty)) (by simp [execOp, ho, hx, hy, run_slice_two])
  (h _ _ (slice_of_block2 (Blk.new w E.ty _)) (fun b hb => by
   obtain rfl : w.heap.size = b := by simpa [Value.ownBlock] using hb
   simp) ((Below.refl _ _).alloc (Nat.le_refl _) _))
theorem step_zero (hg : o.guard = none) (ty : TypeId) (ho : o.op = .alloc ty) (cs : Array Value) (hz : (P.info? ty).map (·.zero) = some (some (.agg cs)))
  (h : ∀ g w', Blk w' g ty cs → Below w.heap.size w w' → w.heap.size ≤ g → K (a.put o.dst (.pointer (some ⟨g, 0, none⟩))) w') : if Region.wanted o (yielded ops a.tmps) = true then o.wp P a w K Q else F := by
 refine step_val hg (v := .pointer (some ⟨w.heap.size, 0, none⟩)) (w' := w.alloc (.cells cs ty)) ?_ (h _ _ (Blk.new w ty cs) ((Below.refl _ _).alloc (Nat.le_refl _) _) (Nat.le_refl _))
 cases hq : P.info? ty with
 | none => simp [hq] at hz
 | some i =>
  have hs : i.zero = some (.agg cs) := by simpa [hq] using hz
  simp [execOp, ho, Instr.alloc, zeroValue, typeInfo, hq, hs, newVar, newRow, Value.cells]
theorem step_put (hg : o.guard = none) (hd : o.dst = none) (ty : TypeId) (x y : Operand) (ho : o.op = .store ty x y) (g : Nat) (cs old : Array Value) (hx : a.eval x = .pointer (some ⟨g, 0, none⟩)) (hy : a.eval y = .agg cs)
  (hb : Blk w g ty old) (hi : (P.info? ty).map (·.size) = some cs.size) (hold : old.size = cs.size) (h1 : cs.all (·.oneCell') = true)
  (h : ∀ w', Blk w' g ty cs → Below g w w' → w'.heap.size = w.heap.size → (∀ k, k ≠ g → w'.heap[k]? = w.heap[k]?) → K a w') : if Region.wanted o (yielded ops a.tmps) = true then o.wp P a w K Q else F := by
 refine step_store hg hd ty x y ho _ _ hx hy (w' := w.setRow g cs) (by simp [Instr.storeAt, Instr.sureAddr, run_storeVar_row w g ty ty old cs hb hi hold h1]) ?_
 exact h _ (setRow_heap _ _ _ _ _ _ hb) (below_setRow (Below.refl _ _) (Nat.le_refl _)) (by simp) (fun k hk => setRow_other w g k cs hk)
end Go.Agg
/-! Operations of a region that draws, guarded ones too: each by its own law. -/
namespace Go.Agg
open Go.RowKit
variable {P : Program}
section
variable {ops : Array Oper} {o : Oper} {a : Act} {w : World} {Q : Exit → Act → World → Prop} {K : Act → World → Prop} {F : Prop}
theorem stepw_val {v : Value} {w' : World} (hw : Region.wanted o (yielded ops a.tmps) = true) (hrun : (execOp a.eval o).run P w = .ok (.value v) w') (h : K (a.put o.dst v) w') : if Region.wanted o (yielded ops a.tmps) = true then o.wp P a w K Q else F := by
 rw [if_pos hw]
 unfold Oper.wp
 rw [hrun]
 exact h
theorem stepw_call (hw : Region.wanted o (yielded ops a.tmps) = true) (f : FuncId) (xs : Array Operand) (ts : Array TypeId) (ho : o.op = .call { callee := .value (.func f), args := xs, argTypes := ts }) (vs : Array Value) (hv : xs.map a.eval = vs)
  (he : ∀ w, (callFunc f vs).run P w = .ok (.enter f vs) w) (h : Calls P f vs w fun e w' => ∃ v, e = .returned v ∧ K (a.put o.dst v) w') : if Region.wanted o (yielded ops a.tmps) = true then o.wp P a w K Q else F := by
 rw [if_pos hw]
 unfold Oper.wp
 have : (execOp a.eval o).run P w = .ok (.enter f vs) w := by
  subst hv
  have hf : a.eval (Operand.func f) = .func (.func f) #[] #[] := rfl
  simp [execOp, ho, resolve, invoke, hf, Deferred.ofValue, he]
 rw [this, Oper.upon_enter]
 refine h.mono ?_
 rintro e w' ⟨v, rfl, hk⟩
 exact hk
end
end Go.Agg
/-! Rows of slices and what they hold, as lists. -/
namespace Go.Agg
open Go.RowKit
section
variable {P : Program} {α : Type} {E : Elem P α}
def Cross (vs us : List SV) : Prop := ∀ b, SS vs b → ¬ SS us b
theorem Dist.append {vs us : List SV} (h : Dist vs) (k : Dist us) (hc : Cross vs us) : Dist (vs ++ us) := by
 have one : ∀ (i : Nat) (u : SV), (vs ++ us)[i]? = some u → (i < vs.length ∧ vs[i]? = some u) ∨ (vs.length ≤ i ∧ us[i - vs.length]? = some u) := fun i u h => by
  by_cases hi : i < vs.length
  ·rw [List.getElem?_append_left hi] at h; exact .inl ⟨hi, h⟩
  ·rw [List.getElem?_append_right (by omega)] at h; exact .inr ⟨by omega, h⟩
 intro i j u v hi hj hij b hu hv
 rcases one i u hi with ⟨h1, h2⟩ | ⟨h1, h2⟩ <;> rcases one j v hj with ⟨h3, h4⟩ | ⟨h3, h4⟩
 ·exact h i j u v h2 h4 hij b hu hv
 ·exact hc b ⟨_, u, h2, hu⟩ ⟨_, v, h4, hv⟩
 ·exact hc b ⟨_, v, h4, hv⟩ ⟨_, u, h2, hu⟩
 ·exact k _ _ u v h2 h4 (by omega) b hu hv
theorem ss_append {vs us : List SV} {b : Nat} (h : SS (vs ++ us) b) : SS vs b ∨ SS us b := by
 obtain ⟨i, u, hi, hb⟩ := h
 by_cases hl : i < vs.length
 ·rw [List.getElem?_append_left hl] at hi; exact .inl ⟨i, u, hi, hb⟩
 ·rw [List.getElem?_append_right (by omega)] at hi; exact .inr ⟨_, u, hi, hb⟩
theorem dist_one (v : SV) : Dist [v] := by
 intro i j u w hi hj hij
 match i, j, hi, hj with
 | 0, 0, _, _ => exact absurd rfl hij
 | 0, n + 1, _, hj => simp at hj
 | n + 1, _, hi, _ => simp at hi
theorem ss_one {v : SV} {b : Nat} (h : SS [v] b) : v.1.ownBlock = some b := by
 obtain ⟨i, u, hi, hb⟩ := h
 match i, hi with
 | 0, hi =>
  obtain rfl : v = u := by simpa using hi
  exact hb
structure RoomsL (E : Elem P α) (w : World) (vs : List SV) (fs : List (List α)) : Prop where
 len : vs.length = fs.length
 row : ∀ (k : Nat) (v : SV) (l : List α), vs[k]? = some v → fs[k]? = some l → RoomN E w v.1 l
theorem RoomsL.of {w : World} {vs : List SV} {fs : List (List α)} (h : RoomsL E w vs fs) : RoomsOf E w vs fun k => (fs[k]?).getD [] := fun k v hk => by
 obtain ⟨l, hl⟩ : ∃ l, fs[k]? = some l := ⟨_, List.getElem?_eq_getElem (by rw [← h.len]; exact (List.getElem?_eq_some_iff.1 hk).1)⟩
 show RoomN E w v.1 ((fs[k]?).getD [])
 rw [hl]
 exact h.row k v l hk hl
theorem RoomsL.append {w : World} {vs us : List SV} {fs gs : List (List α)} (h : RoomsL E w vs fs) (k : RoomsL E w us gs) : RoomsL E w (vs ++ us) (fs ++ gs) := by
 have h1 := h.len
 refine ⟨by simp [h.len, k.len], fun i s l hs hl => ?_⟩
 by_cases hi : i < vs.length
 ·rw [List.getElem?_append_left hi] at hs
  rw [List.getElem?_append_left (by omega)] at hl
  exact h.row i s l hs hl
 ·rw [List.getElem?_append_right (by omega)] at hs hl
  rw [show i - fs.length = i - vs.length by omega] at hl
  exact k.row _ s l hs hl
theorem RoomsL.one {w : World} {v : SV} {l : List α} (h : RoomN E w v.1 l) : RoomsL E w [v] [l] := ⟨rfl, fun k u m hk hm => by
 match k, hk, hm with
 | 0, hk, hm =>
  obtain rfl : v = u := by simpa using hk
  obtain rfl : l = m := by simpa using hm
  exact h⟩
end
end Go.Agg
/-! A cut behind a region: what it leaves, said once for all orders. -/
namespace Go.Agg
open Go.RowKit
variable {P : Program}
def ExPut : List Nat → Act → Act → Prop
 | [], a, a' => a' = a
 | k :: ks, a, a' => ∃ x, ExPut ks (a.put (some k) x) a'
theorem wp_cutR {c : Code} {Q : Exit → Act → World → Prop} {a : Act} {w : World} (R : Act → Act → World → Prop) (h1 : c.wp P (fun e a' w' => match e with | .normal => R a a' w' | _ => False) a w)
  (h2 : ∀ a' w', R a a' w' → Q .normal a' w') : c.wp P Q a w :=
 Code.wp_mono (fun e a' w' h => by
  cases e
  case normal => exact h2 a' w' h
  all_goals exact False.elim h) h1
section
variable {l : List Oper} {md : Region.Mode} {Q : Exit → Act → World → Prop} {S : World → Prop} {fuel : Nat} {listed : Array Bool} {a : Act} {w : World}
end
end Go.Agg
