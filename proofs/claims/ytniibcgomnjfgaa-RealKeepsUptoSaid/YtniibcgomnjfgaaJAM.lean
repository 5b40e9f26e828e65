/- real.path: a path put by a maker. (Several texts in one.) -/
import Derived.Test.YtniibcgomnjfgaaJAL
import Derived.Test.YtniibcgomnjfgaaJAE
import Derived.Test.YtniibcgomnjfgaaJAD
import Derived.Laws.CopyOwn
import Derived.Deep.RegionHeld3
import Derived.Test.YtniibcgomnjfgaaJAB
/-! bytes.Clone; code.Maker: Text, Done. -/
namespace Go.Proofs.Ytniibcgomnjfgaa
open Go.RowKit Pl Go.Agg
theorem nil_is (n c : Nat) (W : World) : (binOp .eql 46 (.slice none n c) (.slice none 0 0)).run Try.prog W = .ok (.bool true) W := by kernel_rfl
theorem nil_not (a : Addr) (n c : Nat) (W : World) : (binOp .eql 46 (.slice (some a) n c) (.slice none 0 0)).run Try.prog W = .ok (.bool false) W := by kernel_rfl
set_option maxRecDepth 100000 in
set_option maxHeartbeats 1000000 in
theorem bclone_any (x : Value) (l : List UInt8) (w : World) (hl : l.length ≤ 33554432) (hx : SliceOf EB w x l) :
    Calls Try.prog 50 #[x] w fun e w' => ∃ v', e = .returned v' ∧ Own EB w.heap.size w' v' l ∧ Below w.heap.size w w' := by
  have HX := Lib.hid hx
  have h63 : ([] : List UInt8).length + l.length ≤ 1099511627776 / 8 := by simp; omega
  obtain ⟨q, c, rfl⟩ := hx.form
  cases q with
  | none =>
    have hl0 : l = [] := by
      rcases hx with ⟨_, _, _, h⟩ | ⟨a, cap, e, _⟩
      · exact h
      · injection e with e; cases e
    subst hl0
    have hnl := nil_is 0 c
    clear hx
    go_enter Try.func50, Try.ntmps50
    go_wp2_with fail
    go_ret
    exact ⟨_, rfl, Own.nil _ _ _, Below.refl _ _⟩
  | some a =>
    have hnl := nil_not a l.length c
    clear hx
    go_enter Try.func50, Try.ntmps50
    go_wp2_with (first | (refine Agg.wpList_slice0 (base := w.heap.size) EB rfl rfl (Nat.le_refl _) ?_; intro v1 w1 ho1 hx1 _; have HO1 := Lib.hid ho1; have HX1 := Lib.hid (SliceOf.below HX.out hx1); have hsz := hx1.size; clear ho1) | (refine Agg.wpList_appendO (E := EB) (base := w.heap.size) rfl _ _ rfl (.slice (some a) l.length c) rfl rfl l HO1.out HX1.out h63 (by decide) hsz ?_; intro v2 w2 ho2 hp2 _; have HO2 := Lib.hid ho2; have HP2 := Lib.hid (hx1.trans (hp2.below w.heap.size (Nat.le_refl _) hsz)); clear ho2 hp2))
    go_ret
    exact ⟨_, rfl, by simpa using HO2.out, HP2.out⟩
set_option maxRecDepth 100000 in
set_option maxHeartbeats 1000000 in
theorem done_any (g : Nat) (v : Value) (b : List UInt8) (w : World) (hb : b.length ≤ 33554432) (hm : MkV g w v b) :
    Calls Try.prog 34 #[.pointer (some ⟨g, 0, none⟩)] w fun e w' => ∃ v', e = .returned (.tuple #[v', .int .i64 0]) ∧ Own EB w.heap.size w' v' b ∧ Below w.heap.size w w' := by
  have HM := Lib.hid hm
  clear hm
  go_enter Try.func34, Try.ntmps34
  go_wp2_with (first | (with_reducible refine Agg.wpList_loadL HM.out.load rfl _ rfl rfl ?_) | (with_reducible refine Agg.wpList_loadL HM.out.bad rfl _ rfl rfl ?_))
  refine (bclone_any v b w hb HM.out.own.slice).mono ?_
  rintro e w1 ⟨v1, rfl, ho, hx⟩
  have HO := Lib.hid ho
  clear ho
  go_wp2_with fail
  go_ret2
  exact ⟨_, rfl, HO.out, hx⟩
set_option maxRecDepth 100000 in
set_option maxHeartbeats 1000000 in
theorem text_any (g : Nat) (v x : Value) (s : SV) (l b : List UInt8) (w : World) (hb : b.length ≤ 4194304) (hl : l.length ≤ 1048576) (hx : Off EBB g w v x [s]) (hs : Off EB g w v s.1 l) (hm : MkV g w v b) :
    Calls Try.prog 47 #[.pointer (some ⟨g, 0, none⟩), x] w fun e w' => e = .returned (.pointer (some ⟨g, 0, none⟩)) ∧ ∃ v', MkV g w' v' (b ++ (encN l.length ++ l)) ∧ MkStep g w w' v v' := by
  have HM := Lib.hid hm
  have HS := Lib.hid hs
  have hlx := fun W => bb_len hx.slice W
  have hls := fun W => bytes_len hs.slice W
  obtain ⟨q, hadr0, hld⟩ := bb_at hx.slice 0 s rfl
  have hadr : ∀ W, (Instr.indexAt 105 x (.int .i64 0)).run Try.prog W = .ok (.pointer (some q)) W := hadr0
  clear hadr0
  have HL := Lib.hid hld
  have hlt := fun k hk => hm.lt k hk
  have HLT := Lib.hid hlt
  have hg := hm.blk.lt
  clear hm hs hx hld hlt
  go_enter Try.func47, Try.ntmps47
  go_wp2_with fail
  go_loopw [9] (fun i wr => (i = .int .i64 0 ∧ wr = w) ∨ (i = .int .i64 1 ∧ ∃ v', MkV g wr v' (b ++ (encN l.length ++ l)) ∧ MkStep g w wr v v')) (fun i _ => 1 - (intOf i).toNat)
  case atStart => exact .inl ⟨rfl, rfl⟩
  case round =>
    obtain ⟨w1, rfl⟩ : ∃ w1 : World, w1 = wr := ⟨_, rfl⟩
    rcases hrel with ⟨rfl, rfl⟩ | ⟨rfl, v', hm', hs'⟩
    · go_wp2_with (first | (with_reducible refine Agg.wpList_loadL HL.out rfl _ rfl rfl ?_))
      refine (allow_any g l.length 1048576 v b _ hl (by omega) HM.out).mono ?_
      rintro e w2 ⟨rfl, rfl⟩
      go_wp2_with (first | (refine Agg.wpList_slice1 (E := EI) (base := w2.heap.size) rfl _ rfl l.length rfl (Nat.le_refl _) ?_; intro xs w3 hxs hx3; have HXS := Lib.hid hxs; have HX3 := Lib.hid hx3; clear hxs hx3))
      have hx3 := HX3.out
      have hsz := hx3.size
      have hoff : Off EI g w3 v xs [l.length] := Off.behind (w0 := w2) HXS.out.slice (fun k hk => (HXS.out.block k hk).1) hg HLT.out
      refine (num_any g v xs [l.length] b w3 (by simp; omega) (by simp) (by omega) hoff (HM.out.below hx3)).mono ?_
      rintro e w4 ⟨rfl, v4, hm4, hs4⟩
      have hs24 : MkStep g w2 w4 v v4 := (MkStep.of_below hx3).trans hs4
      have hoff4 := HS.out.step hs24
      have he6 := encN_len (n := l.length) (by omega)
      have HM4 := Lib.hid hm4
      have HS4 := Lib.hid hs24
      clear hs4 hs24 hoff
      have hfl : b ++ [l.length].flatMap encN = b ++ encN l.length := by simp
      go_wp2_with fail
      refine (raw_any g v4 s.1 l _ w4 (by simp only [hfl, List.length_append]; omega) (by omega) hoff4.slice HM4.out).mono ?_
      rintro e w5 ⟨rfl, v5, hm5, hs5⟩
      have HM5 := Lib.hid (show MkV g w5 v5 (b ++ (encN l.length ++ l)) by rw [hfl, List.append_assoc] at hm5; exact hm5)
      have HS5 := Lib.hid (HS4.out.trans hs5)
      clear hm5 hs5 hm4 hoff4 hfl
      go_wp2_with fail
      go_roundw
      case rel => exact .inr ⟨by go_num, v5, HM5.out, HS5.out⟩
      case measure => simp [intOf]
    · have HM' := Lib.hid hm'
      have HS' := Lib.hid hs'
      clear hm' hs'
      go_wp2_with fail
      go_ret
      exact ⟨rfl, v', HM'.out, HS'.out⟩
end Go.Proofs.Ytniibcgomnjfgaa
/-! Operations of a region that draws: a store, a copy of bytes, literals. -/
namespace Go.Agg
open Go.RowKit
variable {P : Program}
section
variable {ops : Array Oper} {o : Oper} {a : Act} {w : World} {Q : Exit → Act → World → Prop} {K : Act → World → Prop} {F : Prop}
theorem step_store {w' : World} (hg : o.guard = none) (hd : o.dst = none) (ty : TypeId) (x y : Operand) (ho : o.op = .store ty x y) (p v : Value) (hx : a.eval x = p) (hy : a.eval y = v)
    (hrun : (Instr.storeAt ty p v).run P w = .ok () w') (h : K a w') : if Region.wanted o (yielded ops a.tmps) = true then o.wp P a w K Q else F := by
  rw [if_pos (by simp [Region.wanted, hg])]
  unfold Oper.wp
  have : (execOp a.eval o).run P w = .ok .skip w' := by simp [execOp, ho, hx, hy, hrun]
  rw [this, Oper.upon_skip, hd]
  exact h
theorem step_val {v : Value} {w' : World} (hg : o.guard = none) (hrun : (execOp a.eval o).run P w = .ok (.value v) w') (h : K (a.put o.dst v) w') : if Region.wanted o (yielded ops a.tmps) = true then o.wp P a w K Q else F := by
  rw [if_pos (by simp [Region.wanted, hg])]
  unfold Oper.wp
  rw [hrun]
  exact h
theorem step_slice1 {α : Type} {E : Elem P α} (hg : o.guard = none) (y : Operand) (ho : o.op = .buildSlice E.st 1 #[(0, y)]) (x : α) (hy : a.eval y = E.val x)
    (h : ∀ v' w', Own E w.heap.size w' v' [x] → Below w.heap.size w w' → K (a.put o.dst v') w') : if Region.wanted o (yielded ops a.tmps) = true then o.wp P a w K Q else F := by
  refine step_val hg (v := .slice (some ⟨w.heap.size, 0, none⟩) 1 1) (w' := w.alloc (.cells (E.val x).cells E.ty)) (by simp [execOp, ho, hy, run_slice_one]) (h _ _ ?_ ((Below.refl _ _).alloc (Nat.le_refl _) _))
  have hs := E.size x
  refine ⟨by rw [E.flat_one, E.cs_length]; simp, .inr ⟨_, 1, _, rfl, Nat.le_refl _, heap_alloc_new w _, Nat.le_refl _, by simp [maxLen], by rw [hs]; simp, ?_⟩⟩
  rw [E.flat_one, Elem.cs, List.take_of_length_le (by rw [Array.length_toList, hs]; simp)]
/-- '&T{..}' -/
theorem step_box (hg : o.guard = none) (ty : TypeId) (x : Operand) (ho : o.op = .box ty x) (cs : Array Value) (hx : a.eval x = .agg cs)
    (h : ∀ g w', Blk w' g ty cs → Below w.heap.size w w' → w.heap.size ≤ g → K (a.put o.dst (.pointer (some ⟨g, 0, none⟩))) w') : if Region.wanted o (yielded ops a.tmps) = true then o.wp P a w K Q else F :=
  step_val hg (v := .pointer (some ⟨w.heap.size, 0, none⟩)) (w' := w.alloc (.cells cs ty)) (by simp [execOp, ho, hx, Instr.box, newVar, newRow, Value.cells]) (h _ _ (Blk.new w ty cs) ((Below.refl _ _).alloc (Nat.le_refl _) _) (Nat.le_refl _))
end
end Go.Agg
namespace Go.Proofs.Ytniibcgomnjfgaa
open Go.RowKit Pl Go.Agg
theorem flat_bytes (l : List UInt8) : EB.flat l = Lib.byteCells l := by
  simp only [Elem.flat, Lib.byteCells]
  induction l with
  | nil => rfl
  | cons c t ih =>
    rw [List.flatMap_cons, ih]
    rfl
theorem run_copyB {w : World} {g n : Nat} {t : TypeId} {cur : List Value} {u : Value} {l : List UInt8} (ty : TypeId) (hu : SliceOf EB w u l) (hb : Blk w g t cur.toArray) (hn : cur.length = n) (hl : l.length ≤ n) :
    ∃ w', (Builtin.copy_ #[46, 46] ty #[.slice (some ⟨g, 0, none⟩) n n, u]).run Try.prog w = .ok (goInt l.length) w' ∧ Blk w' g t (Lib.byteCells l ++ cur.drop l.length).toArray ∧ Only (· = g) w w' := by
  have hund : Try.prog.underlying 46 = some (.slice 5) := by kernel_rfl
  have hsz : (Try.prog.info? 5).map (·.size) = some 1 := by kernel_rfl
  have hc : (Lib.byteCells l).length = l.length := by simp [Lib.byteCells]
  by_cases h0 : l.length = 0
  · obtain rfl : l = [] := List.length_eq_zero_iff.1 h0
    obtain ⟨p, c, hf⟩ := hu.form
    subst hf
    exact ⟨w, run_copy_none w _ _ _ 5 _ _ _ _ _ _ hund hsz (by simp), by simpa [Lib.byteCells] using hb, Only.refl _ _⟩
  · rcases hu with ⟨_, _, _, h1⟩ | ⟨q, c, rfl, hq, hcell⟩
    · exact absurd (by simp [h1]) h0
    · rw [flat_bytes] at hcell
      have hrun := run_copy_row (P := Try.prog) w 46 46 ty 5 g 0 n n q l.length c cur.toArray t (Lib.byteCells l) hund hsz hb (by rw [hc]; exact (Nat.min_eq_left hl).symm) hcell (by simp [hc]; omega)
        (fun v hv => by
          simp only [Lib.byteCells, List.mem_map] at hv
          obtain ⟨b, _, rfl⟩ := hv
          rfl)
      rw [hc] at hrun
      refine ⟨_, hrun, ?_, rfl, rfl, rfl, by simp [World.setRow], fun k _ hk => setRow_other w g k _ hk⟩
      have h1 := setRow_heap w g cur.toArray (List.take 0 cur.toArray.toList ++ Lib.byteCells l ++ List.drop (0 + l.length) cur.toArray.toList).toArray t _ hb
      refine Eq.trans h1 ?_
      simp
theorem step_copyB {ops : Array Oper} {o : Oper} {a : Act} {w : World} {Q : Exit → Act → World → Prop} {K : Act → World → Prop} {F : Prop} {g n : Nat} {t : TypeId} {cur : List Value} {u : Value} {l : List UInt8} (hg : o.guard = none) (d s : Operand)
    (ho : o.op = .call { callee := .builtin .copy, args := #[d, s], argTypes := #[46, 46] }) (hd : a.eval d = .slice (some ⟨g, 0, none⟩) n n) (hs : a.eval s = u) (hu : SliceOf EB w u l) (hb : Blk w g t cur.toArray) (hn : cur.length = n) (hl : l.length ≤ n)
    (h : ∀ w', Blk w' g t (Lib.byteCells l ++ cur.drop l.length).toArray → Only (· = g) w w' → K (a.put o.dst (goInt l.length)) w') : if Region.wanted o (yielded ops a.tmps) = true then o.wp Try.prog a w K Q else F := by
  obtain ⟨w', hrun, h1, h2⟩ := run_copyB o.type hu hb hn hl
  exact step_val hg (by simp [execOp, ho, resolve, invoke, builtin, hd, hs, hrun]) (h w' h1 h2)
end Go.Proofs.Ytniibcgomnjfgaa
/-! A region that draws its order, step by step: each operation that may come up, by its own law. -/
namespace Go.Agg
open Go.RowKit
variable {P : Program}
section
variable {l : List Oper} {md : Region.Mode} {Q : Exit → Act → World → Prop} {S : World → Prop} {fuel : Nat} {listed : Array Bool} {a : Act} {w : World}
def takeB (md : Region.Mode) (l : List Oper) (listed : Array Bool) (i : Nat) : Bool :=
  Region.noSelect l.toArray && Region.free md l.toArray listed i && (Region.ready md l.toArray listed).contains i
theorem any_take {o : Oper} (i : Nat) (v : Value) (ho : l[i]? = some o) (hB : takeB md l listed i = true) (hQ : ∀ c a w, Q (.panic c) (a.put o.dst v) w → Q (.panic c) a w) (hw : Region.wanted o (yielded l.toArray a.tmps) = true)
    (hy : ∀ w, (execOp a.eval o).run P w = .ok (.value v) w) (h : wpAny P md l.toArray Q fuel (listed.setIfInBounds i true) (a.put o.dst v) w) : wpAny P md l.toArray Q (fuel + 1) listed a w := by
  simp only [takeB, Bool.and_eq_true] at hB
  exact wpAny_take (by simpa using ho) hB.1.1 hB.1.2 hB.2 hQ (.inl ⟨hw, hy⟩) h
theorem any_ready (rs : List Nat) (hr : Region.ready md l.toArray listed = rs) (hne : rs ≠ []) (h : AllReady P md l.toArray Q fuel listed a w rs) : wpAny P md l.toArray Q (fuel + 1) listed a w := wpAny_ready hr hne h
theorem any_cons {o : Oper} {i : Nat} {rs : List Nat} (ho : l[i]? = some o)
    (h : if Region.wanted o (yielded l.toArray a.tmps) = true then Oper.wp P o a w (wpAny P md l.toArray Q fuel (listed.setIfInBounds i true)) Q else wpAny P md l.toArray Q fuel (listed.setIfInBounds i true) (a.put o.dst undef) w)
    (hs : AllReady P md l.toArray Q fuel listed a w rs) : AllReady P md l.toArray Q fuel listed a w (i :: rs) :=
  AllReady.cons (by simpa using ho) (fun K' hK => by
    split at h
    · rename_i hw; rw [if_pos hw]; exact Oper.wp_mono hK h
    · rename_i hw; rw [if_neg hw]; exact hK _ _ h) hs
theorem any_end (hr : Region.ready md l.toArray listed = []) (h : Q .normal a w) : wpAny P md l.toArray Q fuel listed a w := by
  cases fuel with
  | zero => exact ⟨hr, h⟩
  | succ n => exact ⟨fun _ => h, by rw [hr]; intro i hi; cases hi⟩
/-! .. while S holds -/
theorem held_take {o : Oper} (i : Nat) (v : Value) (ho : l[i]? = some o) (hB : takeB md l listed i = true) (hQ : ∀ c a w, Q (.panic c) (a.put o.dst v) w → Q (.panic c) a w) (hw : Region.wanted o (yielded l.toArray a.tmps) = true)
    (hy : ∀ w, S w → (execOp a.eval o).run P w = .ok (.value v) w) (hS : S w) (h : wpAnyH P md l.toArray Q S fuel (listed.setIfInBounds i true) (a.put o.dst v) w) : wpAnyH P md l.toArray Q S (fuel + 1) listed a w := by
  simp only [takeB, Bool.and_eq_true] at hB
  exact wpAnyH_take (by simpa using ho) hB.1.1 hB.1.2 hB.2 hQ (.inl ⟨hw, hy⟩) hS h
theorem held_ready (rs : List Nat) (hr : Region.ready md l.toArray listed = rs) (hne : rs ≠ []) (h : AllReadyH P md l.toArray Q S fuel listed a w rs) : wpAnyH P md l.toArray Q S (fuel + 1) listed a w := wpAnyH_ready hr hne h
theorem held_cons {o : Oper} {i : Nat} {rs : List Nat} (ho : l[i]? = some o)
    (h : if Region.wanted o (yielded l.toArray a.tmps) = true then Oper.wp P o a w (fun a' w' => S w' ∧ wpAnyH P md l.toArray Q S fuel (listed.setIfInBounds i true) a' w') Q else S w ∧ wpAnyH P md l.toArray Q S fuel (listed.setIfInBounds i true) (a.put o.dst undef) w)
    (hs : AllReadyH P md l.toArray Q S fuel listed a w rs) : AllReadyH P md l.toArray Q S fuel listed a w (i :: rs) :=
  AllReadyH.cons (by simpa using ho) (fun K' hK => by
    split at h
    · rename_i hw; rw [if_pos hw]; exact Oper.wp_mono (fun a w h => hK.out a w h.1 fun _ => h.2) h
    · rename_i hw; rw [if_neg hw]; exact hK.out _ _ h.1 fun _ => h.2) hs
theorem held_end (hr : Region.ready md l.toArray listed = []) (h : Q .normal a w) : wpAnyH P md l.toArray Q S fuel listed a w := by
  cases fuel with
  | zero => exact ⟨hr, h⟩
  | succ n => exact ⟨fun _ => h, by rw [hr]; intro i hi; cases hi⟩
end
section
variable {ops : Array Oper} {o : Oper} {a : Act} {w : World} {Q : Exit → Act → World → Prop} {K : Act → World → Prop} {F : Prop}
/-- a call of a Go function, by its contract -/
theorem step_call (hg : o.guard = none) (f : FuncId) (xs : Array Operand) (ts : Array TypeId) (ho : o.op = .call { callee := .value (.func f), args := xs, argTypes := ts }) (vs : Array Value) (hv : xs.map a.eval = vs)
    (he : ∀ w, (callFunc f vs).run P w = .ok (.enter f vs) w) (h : Calls P f vs w fun e w' => ∃ v, e = .returned v ∧ K (a.put o.dst v) w') : if Region.wanted o (yielded ops a.tmps) = true then o.wp P a w K Q else F := by
  rw [if_pos (by simp [Region.wanted, hg])]
  unfold Oper.wp
  have : (execOp a.eval o).run P w = .ok (.enter f vs) w := by
    subst hv
    have hf : a.eval (Operand.func f) = .func (.func f) #[] #[] := rfl
    simp [execOp, ho, resolve, invoke, hf, Deferred.ofValue, he]
  rw [this, Oper.upon_enter]
  refine h.mono ?_
  rintro e w' ⟨v, rfl, hk⟩
  exact hk
/-- a load whose answer is known -/
theorem step_load (hg : o.guard = none) (ty : TypeId) (x : Operand) (ho : o.op = .load ty x) (p v : Value) (hx : a.eval x = p) (hrun : (Instr.loadAt ty p).run P w = .ok v w) (h : K (a.put o.dst v) w) : if Region.wanted o (yielded ops a.tmps) = true then o.wp P a w K Q else F :=
  step_val hg (by simp [execOp, ho, hx, hrun]) h
end
end Go.Agg
/-! real.path: a path put by a maker. -/
namespace Go.Agg
open Go.RowKit
theorem exec_loadB {P : Program} {o : Oper} {a : Act} {w : World} {ty : TypeId} {x : Operand} {p v : Value} (ho : o.op = .load ty x) (hx : a.eval x = p) (hrun : (Instr.loadAt ty p).run P w = .ok v w) : (execOp a.eval o).run P w = .ok (.value v) w := by simp [execOp, ho, hx, hrun]
theorem Blk.onlyP {w w' : World} {S : Nat → Prop} {g : Nat} {t : TypeId} {cs : Array Value} (h : Blk w g t cs) (ho : Only S w w') (hS : ¬ S g) : Blk w' g t cs := (ho.block g h.lt hS).trans h
end Go.Agg
namespace Go.Proofs.Ytniibcgomnjfgaa
open Go.RowKit Pl Go.Agg
theorem newBytes_ownB {w w' : World} {v : Value} {s : List UInt8} (h : NewBytes w w' v s) : ∀ k, v.ownBlock = some k → w.heap.size ≤ k := by
  obtain ⟨cap, fr, rfl, _⟩ := h
  intro k hk
  simp only [Value.ownBlock, Option.some.injEq] at hk
  omega
theorem bytes_svB {w : World} {v : Value} {l : List UInt8} (h : BytesAt w v l) : ∃ s : SV, v = s.1 := by
  obtain ⟨p, c, hf⟩ := h.form
  exact ⟨⟨v, p, _, c, hf⟩, rfl⟩
theorem step_toBytes {ops : Array Oper} {o : Oper} {a : Act} {w : World} {Q : Exit → Act → World → Prop} {K : Act → World → Prop} {F : Prop} (hg : o.guard = none) (x : Operand) (ho : o.op = .convert 9 46 x) (s : List UInt8) (hx : a.eval x = .string ⟨s.toArray⟩)
    (h : ∀ v' w', NewBytes w w' v' s → Below w.heap.size w w' → K (a.put o.dst v') w') : if Region.wanted o (yielded ops a.tmps) = true then o.wp Try.prog a w K Q else F := by
  obtain ⟨v', w', hr, h1, h2⟩ := run_toBytes w s
  exact step_val hg (v := v') (w' := w') (by simp [execOp, ho, hx, hr]) (h v' w' h1 h2)
theorem path_slice {w : World} {b : Nat} {ph pn : List UInt8} (h : Blk w b 32 (pC ph pn)) (hl : ph.length = 20) : SliceOf EB w (.slice (some ⟨b, 0, none⟩) 20 20) ph := by
  refine .inr ⟨_, 20, by rw [hl], h.lt, fun j v hj => ?_⟩
  rw [add_plain, h.cell]
  refine pC_hash ph pn j v ?_
  rw [flat_bytes] at hj
  simpa [hC] using hj
set_option maxRecDepth 100000 in
set_option maxHeartbeats 8000000 in
theorem path22_any (g : Nat) (v : Value) (b ph pn : List UInt8) (hl : ph.length = 20) (hpn : pn.length ≤ 1000) (hb : b.length ≤ 1000) (w : World) (hm : MkV g w v b) :
    Calls Try.prog 31 #[.pointer (some ⟨g, 0, none⟩), .agg (pC ph pn)] w fun e w' => (∃ r, e = .returned r) ∧ ∃ v', MkV g w' v' ((b ++ ph) ++ (encN pn.length ++ pn)) ∧ MkStep g w w' v v' := by
  have HER := Lib.hid (enters_of Try.func33 (by kernel_rfl) rfl : ∀ args w, (callFunc 33 args).run Try.prog w = .ok (.enter 33 args) w)
  have HET := Lib.hid (enters_of Try.func47 (by kernel_rfl) rfl : ∀ args w, (callFunc 47 args).run Try.prog w = .ok (.enter 47 args) w)
  have HMM := Lib.hid hm
  clear hm
  go_enter Try.func31, Try.ntmps31
  go_wp2_with (first | (with_reducible refine wpList_box rfl 32 _ rfl (pC ph pn) rfl ?_; intro b3 w3 hb3 hx3 hg3; have HB3 := Lib.hid hb3; have HX3w := Lib.hid hx3; have HG3 := Lib.hid hg3; clear hb3 hx3 hg3))
  try simp only [Act.put, List.setIfInBounds_toArray, List.set_cons_succ, List.set_cons_zero]
  obtain ⟨w0, hw0⟩ : ∃ W, W = w3.drew := ⟨_, rfl⟩
  have hd : Below w3.heap.size w3 w0 := by rw [hw0]; exact (Below.refl _ _).drew
  have HS0 := Lib.hid (HB3.out.below hd)
  have hx0 := Agg.belowThen HX3w.out (Nat.le_refl _) hd
  have HX3 := Lib.hid (MkStep.of_below (g := g) (v := v) hx0)
  have HM0 := Lib.hid (HMM.out.below hx0)
  have HK0 := Lib.hid (MkStep.refl g w0 v)
  have HNG := Lib.hid (show b3 ≠ g ∧ v.ownBlock ≠ some b3 from ⟨fun e => (by have := HMM.out.blk.lt; have := HG3.out; omega), fun e => (by have := HMM.out.lt b3 e; have := HG3.out; omega)⟩)
  refine wp_region_held_drew (S := fun W => Blk W b3 32 (pC ph pn)) (by kernel_rfl) (by rw [← hw0]; exact HS0.out) (fun hHeld => ?_)
  rw [← hw0] at hHeld ⊢
  clear hw0 hd hx0
  refine Agg.held_take 0 (.pointer (some ⟨g, 0, none⟩)) rfl (by kernel_rfl) (fun _ _ _ h => h) rfl (fun W _ => by kernel_rfl) (by assumption) ?_
  try simp only [Act.put, List.setIfInBounds_toArray, List.set_cons_succ, List.set_cons_zero]
  refine Agg.held_take 1 (.pointer (some ⟨b3, 0, none⟩)) rfl (by kernel_rfl) (fun _ _ _ h => h) rfl (fun W _ => by kernel_rfl) (by assumption) ?_
  try simp only [Act.put, List.setIfInBounds_toArray, List.set_cons_succ, List.set_cons_zero]
  refine Agg.held_take 2 (.slice (some ⟨b3, 0, none⟩) 20 20) rfl (by kernel_rfl) (fun _ _ _ h => h) rfl (fun W _ => by kernel_rfl) (by assumption) ?_
  try simp only [Act.put, List.setIfInBounds_toArray, List.set_cons_succ, List.set_cons_zero]
  refine Agg.held_take 4 (.pointer (some ⟨b3, 20, none⟩)) rfl (by kernel_rfl) (fun _ _ _ h => h) rfl (fun W _ => by kernel_rfl) (by assumption) ?_
  try simp only [Act.put, List.setIfInBounds_toArray, List.set_cons_succ, List.set_cons_zero]
  refine Agg.held_take 5 (.string ⟨pn.toArray⟩) rfl (by kernel_rfl) (fun _ _ _ h => h) rfl (fun W hS => exec_loadB rfl rfl (hS.one (ty := 9) 20 (pC_name ph pn hl) Try.underlying9 rfl).now) (by assumption) ?_
  try simp only [Act.put, List.setIfInBounds_toArray, List.set_cons_succ, List.set_cons_zero]
  refine Agg.held_ready [3, 6] (by kernel_rfl) (by simp) ?_
  refine Agg.held_cons rfl ?_ ?_
  · refine Agg.step_call rfl 33 _ _ rfl #[.pointer (some ⟨g, 0, none⟩), .slice (some ⟨b3, 0, none⟩) 20 20] (by simp only [List.map_toArray, List.map_cons, List.map_nil]; rfl) (fun W => HER.out _ W) ?_
    refine (raw_any g v _ ph b _ (by omega) (by omega) (path_slice HS0.out hl) HM0.out).mono ?_
    rintro x w_3 ⟨rfl, va, hm, hs⟩
    have HM_3 := Lib.hid hm
    have HK_3 := Lib.hid (HK0.out.trans hs)
    have HS_3 := Lib.hid (HS0.out.onlyP hs.only (fun h => h.elim HNG.out.1 HNG.out.2))
    have HNB_3 := Lib.hid (show va.ownBlock ≠ some b3 from fun e => by rcases hs.grew _ e with h | h <;> first | exact HNG.out.2 h | (have := HS0.out.lt; omega))
    clear hm hs
    refine ⟨_, rfl, ?_⟩
    refine ⟨HS_3.out, ?_⟩
    try simp only [Act.put, List.setIfInBounds_toArray, List.set_cons_succ, List.set_cons_zero]
    refine Agg.held_ready [6] (by kernel_rfl) (by simp) ?_
    refine Agg.held_cons rfl ?_ ?_
    · refine step_toBytes rfl _ rfl pn rfl ?_
      intro v6 w_3_6 hn hx
      obtain ⟨sv, rfl⟩ := bytes_svB hn.slice
      have HSO_3_6 := Lib.hid (Off.behind (w0 := w_3) hn.slice (fun k hk => newBytes_ownB hn k hk) HM_3.out.blk.lt HM_3.out.lt)
      have HM_3_6 := Lib.hid (HM_3.out.below hx)
      have HK_3_6 := Lib.hid (HK_3.out.trans (MkStep.of_below hx))
      have HS_3_6 := Lib.hid (HS_3.out.below hx)
      have HNB_3_6 := HNB_3
      clear hn hx
      refine ⟨HS_3_6.out, ?_⟩
      try simp only [Act.put, List.setIfInBounds_toArray, List.set_cons_succ, List.set_cons_zero]
      refine Agg.held_ready [7] (by kernel_rfl) (by simp) ?_
      refine Agg.held_cons rfl ?_ ?_
      · refine Agg.step_slice1 (E := EBB) rfl _ rfl sv rfl ?_
        intro ys w_3_6_7 hys hx
        have HYO_3_6_7 := Lib.hid (Off.behind (w0 := w_3_6) hys.slice (fun k hk => (hys.block k hk).1) HM_3_6.out.blk.lt HM_3_6.out.lt)
        have HM_3_6_7 := Lib.hid (HM_3_6.out.below hx)
        have HK_3_6_7 := Lib.hid (HK_3_6.out.trans (MkStep.of_below hx))
        have HSO_3_6_7 := Lib.hid (HSO_3_6.out.step (MkStep.of_below hx))
        have HS_3_6_7 := Lib.hid (HS_3_6.out.below hx)
        have HNB_3_6_7 := HNB_3_6
        clear hys hx
        refine ⟨HS_3_6_7.out, ?_⟩
        try simp only [Act.put, List.setIfInBounds_toArray, List.set_cons_succ, List.set_cons_zero]
        refine Agg.held_ready [8] (by kernel_rfl) (by simp) ?_
        refine Agg.held_cons rfl ?_ ?_
        · refine Agg.step_call rfl 47 _ _ rfl #[.pointer (some ⟨g, 0, none⟩), ys] (by simp only [List.map_toArray, List.map_cons, List.map_nil]; rfl) (fun W => HET.out _ W) ?_
          refine (text_any g va ys sv pn (b ++ ph) _ (by simp only [List.length_append]; omega) (by omega) HYO_3_6_7.out HSO_3_6_7.out HM_3_6_7.out).mono ?_
          rintro x w_3_6_7_8 ⟨rfl, vb, hm, hs⟩
          have HM_3_6_7_8 := Lib.hid hm
          have HK_3_6_7_8 := Lib.hid (HK_3_6_7.out.trans hs)
          have HS_3_6_7_8 := Lib.hid (HS_3_6_7.out.onlyP hs.only (fun h => h.elim HNG.out.1 (HNB_3_6_7.out)))
          clear hm hs
          refine ⟨_, rfl, ?_⟩
          refine ⟨HS_3_6_7_8.out, ?_⟩
          try simp only [Act.put, List.setIfInBounds_toArray, List.set_cons_succ, List.set_cons_zero]
          refine Agg.held_end (by kernel_rfl) ?_
          go_wp2_with fail
          refine bodyPost_end (results_none rfl _ _ _) rfl ?_
          exact ⟨⟨_, rfl⟩, vb, HM_3_6_7_8.out, HX3.out.trans HK_3_6_7_8.out⟩
        exact AllReadyH.nil
      exact AllReadyH.nil
    exact AllReadyH.nil
  refine Agg.held_cons rfl ?_ ?_
  · refine step_toBytes rfl _ rfl pn rfl ?_
    intro v6 w_6 hn hx
    obtain ⟨sv, rfl⟩ := bytes_svB hn.slice
    have HSO_6 := Lib.hid (Off.behind (w0 := w0) hn.slice (fun k hk => newBytes_ownB hn k hk) HM0.out.blk.lt HM0.out.lt)
    have HM_6 := Lib.hid (HM0.out.below hx)
    have HK_6 := Lib.hid (HK0.out.trans (MkStep.of_below hx))
    have HS_6 := Lib.hid (HS0.out.below hx)
    clear hn hx
    refine ⟨HS_6.out, ?_⟩
    try simp only [Act.put, List.setIfInBounds_toArray, List.set_cons_succ, List.set_cons_zero]
    refine Agg.held_ready [3, 7] (by kernel_rfl) (by simp) ?_
    refine Agg.held_cons rfl ?_ ?_
    · refine Agg.step_call rfl 33 _ _ rfl #[.pointer (some ⟨g, 0, none⟩), .slice (some ⟨b3, 0, none⟩) 20 20] (by simp only [List.map_toArray, List.map_cons, List.map_nil]; rfl) (fun W => HER.out _ W) ?_
      refine (raw_any g v _ ph b _ (by omega) (by omega) (path_slice HS_6.out hl) HM_6.out).mono ?_
      rintro x w_3_6 ⟨rfl, va, hm, hs⟩
      have HM_3_6 := Lib.hid hm
      have HK_3_6 := Lib.hid (HK_6.out.trans hs)
      have HSO_3_6 := Lib.hid (HSO_6.out.step hs)
      have HS_3_6 := Lib.hid (HS_6.out.onlyP hs.only (fun h => h.elim HNG.out.1 HNG.out.2))
      have HNB_3_6 := Lib.hid (show va.ownBlock ≠ some b3 from fun e => by rcases hs.grew _ e with h | h <;> first | exact HNG.out.2 h | (have := HS_6.out.lt; omega))
      clear hm hs
      refine ⟨_, rfl, ?_⟩
      refine ⟨HS_3_6.out, ?_⟩
      try simp only [Act.put, List.setIfInBounds_toArray, List.set_cons_succ, List.set_cons_zero]
      refine Agg.held_ready [7] (by kernel_rfl) (by simp) ?_
      refine Agg.held_cons rfl ?_ ?_
      · refine Agg.step_slice1 (E := EBB) rfl _ rfl sv rfl ?_
        intro ys w_3_6_7 hys hx
        have HYO_3_6_7 := Lib.hid (Off.behind (w0 := w_3_6) hys.slice (fun k hk => (hys.block k hk).1) HM_3_6.out.blk.lt HM_3_6.out.lt)
        have HM_3_6_7 := Lib.hid (HM_3_6.out.below hx)
        have HK_3_6_7 := Lib.hid (HK_3_6.out.trans (MkStep.of_below hx))
        have HSO_3_6_7 := Lib.hid (HSO_3_6.out.step (MkStep.of_below hx))
        have HS_3_6_7 := Lib.hid (HS_3_6.out.below hx)
        have HNB_3_6_7 := HNB_3_6
        clear hys hx
        refine ⟨HS_3_6_7.out, ?_⟩
        try simp only [Act.put, List.setIfInBounds_toArray, List.set_cons_succ, List.set_cons_zero]
        refine Agg.held_ready [8] (by kernel_rfl) (by simp) ?_
        refine Agg.held_cons rfl ?_ ?_
        · refine Agg.step_call rfl 47 _ _ rfl #[.pointer (some ⟨g, 0, none⟩), ys] (by simp only [List.map_toArray, List.map_cons, List.map_nil]; rfl) (fun W => HET.out _ W) ?_
          refine (text_any g va ys sv pn (b ++ ph) _ (by simp only [List.length_append]; omega) (by omega) HYO_3_6_7.out HSO_3_6_7.out HM_3_6_7.out).mono ?_
          rintro x w_3_6_7_8 ⟨rfl, vb, hm, hs⟩
          have HM_3_6_7_8 := Lib.hid hm
          have HK_3_6_7_8 := Lib.hid (HK_3_6_7.out.trans hs)
          have HS_3_6_7_8 := Lib.hid (HS_3_6_7.out.onlyP hs.only (fun h => h.elim HNG.out.1 (HNB_3_6_7.out)))
          clear hm hs
          refine ⟨_, rfl, ?_⟩
          refine ⟨HS_3_6_7_8.out, ?_⟩
          try simp only [Act.put, List.setIfInBounds_toArray, List.set_cons_succ, List.set_cons_zero]
          refine Agg.held_end (by kernel_rfl) ?_
          go_wp2_with fail
          refine bodyPost_end (results_none rfl _ _ _) rfl ?_
          exact ⟨⟨_, rfl⟩, vb, HM_3_6_7_8.out, HX3.out.trans HK_3_6_7_8.out⟩
        exact AllReadyH.nil
      exact AllReadyH.nil
    refine Agg.held_cons rfl ?_ ?_
    · refine Agg.step_slice1 (E := EBB) rfl _ rfl sv rfl ?_
      intro ys w_6_7 hys hx
      have HYO_6_7 := Lib.hid (Off.behind (w0 := w_6) hys.slice (fun k hk => (hys.block k hk).1) HM_6.out.blk.lt HM_6.out.lt)
      have HM_6_7 := Lib.hid (HM_6.out.below hx)
      have HK_6_7 := Lib.hid (HK_6.out.trans (MkStep.of_below hx))
      have HSO_6_7 := Lib.hid (HSO_6.out.step (MkStep.of_below hx))
      have HS_6_7 := Lib.hid (HS_6.out.below hx)
      clear hys hx
      refine ⟨HS_6_7.out, ?_⟩
      try simp only [Act.put, List.setIfInBounds_toArray, List.set_cons_succ, List.set_cons_zero]
      refine Agg.held_ready [3] (by kernel_rfl) (by simp) ?_
      refine Agg.held_cons rfl ?_ ?_
      · refine Agg.step_call rfl 33 _ _ rfl #[.pointer (some ⟨g, 0, none⟩), .slice (some ⟨b3, 0, none⟩) 20 20] (by simp only [List.map_toArray, List.map_cons, List.map_nil]; rfl) (fun W => HER.out _ W) ?_
        refine (raw_any g v _ ph b _ (by omega) (by omega) (path_slice HS_6_7.out hl) HM_6_7.out).mono ?_
        rintro x w_3_6_7 ⟨rfl, va, hm, hs⟩
        have HM_3_6_7 := Lib.hid hm
        have HK_3_6_7 := Lib.hid (HK_6_7.out.trans hs)
        have HSO_3_6_7 := Lib.hid (HSO_6_7.out.step hs)
        have HYO_3_6_7 := Lib.hid (HYO_6_7.out.step hs)
        have HS_3_6_7 := Lib.hid (HS_6_7.out.onlyP hs.only (fun h => h.elim HNG.out.1 HNG.out.2))
        have HNB_3_6_7 := Lib.hid (show va.ownBlock ≠ some b3 from fun e => by rcases hs.grew _ e with h | h <;> first | exact HNG.out.2 h | (have := HS_6_7.out.lt; omega))
        clear hm hs
        refine ⟨_, rfl, ?_⟩
        refine ⟨HS_3_6_7.out, ?_⟩
        try simp only [Act.put, List.setIfInBounds_toArray, List.set_cons_succ, List.set_cons_zero]
        refine Agg.held_ready [8] (by kernel_rfl) (by simp) ?_
        refine Agg.held_cons rfl ?_ ?_
        · refine Agg.step_call rfl 47 _ _ rfl #[.pointer (some ⟨g, 0, none⟩), ys] (by simp only [List.map_toArray, List.map_cons, List.map_nil]; rfl) (fun W => HET.out _ W) ?_
          refine (text_any g va ys sv pn (b ++ ph) _ (by simp only [List.length_append]; omega) (by omega) HYO_3_6_7.out HSO_3_6_7.out HM_3_6_7.out).mono ?_
          rintro x w_3_6_7_8 ⟨rfl, vb, hm, hs⟩
          have HM_3_6_7_8 := Lib.hid hm
          have HK_3_6_7_8 := Lib.hid (HK_3_6_7.out.trans hs)
          have HS_3_6_7_8 := Lib.hid (HS_3_6_7.out.onlyP hs.only (fun h => h.elim HNG.out.1 (HNB_3_6_7.out)))
          clear hm hs
          refine ⟨_, rfl, ?_⟩
          refine ⟨HS_3_6_7_8.out, ?_⟩
          try simp only [Act.put, List.setIfInBounds_toArray, List.set_cons_succ, List.set_cons_zero]
          refine Agg.held_end (by kernel_rfl) ?_
          go_wp2_with fail
          refine bodyPost_end (results_none rfl _ _ _) rfl ?_
          exact ⟨⟨_, rfl⟩, vb, HM_3_6_7_8.out, HX3.out.trans HK_3_6_7_8.out⟩
        exact AllReadyH.nil
      exact AllReadyH.nil
    exact AllReadyH.nil
  exact AllReadyH.nil
end Go.Proofs.Ytniibcgomnjfgaa
