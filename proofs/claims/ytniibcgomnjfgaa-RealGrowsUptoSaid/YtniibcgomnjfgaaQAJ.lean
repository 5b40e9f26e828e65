/- Laws of no program for slices.Insert: slices of many cells cut, grown by zeros; copies whose runs are known. (Several texts in one.) -/
import Derived.Test.YtniibcgomnjfgaaQAI
import Derived.Test.YtniibcgomnjfgaaQAH
import Derived.Test.YtniibcgomnjfgaaQAE
import Derived.Test.YtniibcgomnjfgaaQAD
import Derived.Laws.CopyRow
import Derived.Lib.AppendZerosOnto
import Derived.Lib.Overlaps
/-! code.Maker's block; what a step of a maker leaves alone. -/
namespace Go.Agg
open Go.RowKit
theorem encN_len' : ∀ (m n : Nat), 0 < m → n < 128 ^ m → (encN n).length ≤ m := by
  intro m
  induction m with
  | zero => intro n h; omega
  | succ m ih =>
    intro n _ hn
    by_cases h : n < 128
    · rw [encN_lt h]; simp
    · rw [encN_ge (by omega), List.length_cons]
      have hm : 0 < m := by
        rcases Nat.eq_zero_or_pos m with h0 | h0
        · subst h0; simp at hn; omega
        · exact h0
      have := ih (n / 128) hm (by rw [Nat.pow_succ] at hn; exact Nat.div_lt_of_lt_mul (by rw [Nat.mul_comm]; exact hn))
      omega
theorem encN_len {n : Nat} (h : n ≤ 1099511627776) : (encN n).length ≤ 6 := encN_len' 6 n (by omega) (by omega)
section
variable {P : Program} {α : Type} {E : Elem P α} {ops : Array Oper} {rest : List Oper} {o o2 : Oper} {a : Act} {w : World} {Q : Exit → Act → World → Prop} {base : Nat} {v : Value} {l : List α}
/-- where a grown slice lies -/
def Grew (w : World) (v v' : Value) : Prop := ∀ k, v'.ownBlock = some k → v.ownBlock = some k ∨ w.heap.size ≤ k
theorem Grew.refl (w : World) (v : Value) : Grew w v v := fun _ h => .inl h
theorem grew_of {w0 w : World} {v v' : Value} (hs : w0.heap.size ≤ w.heap.size) (h : v'.ownBlock = v.ownBlock ∨ v'.ownBlock = some w.heap.size) : Grew w0 v v' := fun k hk => by
  rcases h with h | h
  · rw [h] at hk; exact .inl hk
  · rw [h] at hk; obtain rfl := Option.some.inj hk; exact .inr hs
theorem wpList_pushO (hg : o.guard = none) (hg2 : o2.guard = none) (d : Tmp) (hd : o.dst = some d) (y : Operand) (ho : o.op = .buildSlice E.st 1 #[(0, y)]) (s : Operand)
    (ho2 : o2.op = .call { callee := .builtin .append, args := #[s, .tmp d], argTypes := #[E.st, E.st] }) (x : α) (hy : a.eval y = E.val x) (hs : ∀ p, (a.put o.dst p).eval s = v) (hsz : d < a.tmps.size)
    (hown : Own E base w v l) (h63 : l.length + 1 ≤ 1099511627776 / 8) (hby : E.bytes ≤ 1000) (hbase : base ≤ w.heap.size)
    (h : ∀ u v' w', Own E base w' v' (l ++ [x]) → Pushed E base w w' v → Grew w v v' → wpList P ops Q rest ((a.put o.dst u).put o2.dst v') w') : wpList P ops Q (o :: o2 :: rest) a w := by
  refine wpList_val hg (v := .slice (some ⟨w.heap.size, 0, none⟩) 1 1) (w' := w.alloc (.cells (E.val x).cells E.ty)) (by simp [execOp, ho, hy, run_slice_one]) ?_
  have hb1 : Below w.heap.size w (w.alloc (.cells (E.val x).cells E.ty)) := (Below.refl _ _).alloc (Nat.le_refl _) _
  have hown1 := hown.below hb1
  obtain ⟨v', w', hrun, h2, h3, h4, _⟩ := run_append (ty := o2.type) hown1 _ [x] (slice_of_block (Blk.new w E.ty (E.val x).cells)) (by simpa using h63) hby (Nat.le_trans hbase hb1.size)
  have hp := pushed_of hown1 h3
  have hpu : Pushed E base w w' v := {
    below := fun B hB hs => (hb1.mono hs).trans (hp.below B hB (Nat.le_trans hs hb1.size))
    other := fun g hlt hne => (hp.other g (Nat.lt_of_lt_of_le hlt hb1.size) hne).trans (hb1.block g hlt)
    blk := fun g t cs fr hne hb => hp.blk g t cs fr hne (keep' hb1 hb)
    map := fun g es c hb => hp.map g es c (keep' hb1 hb)
    size := Nat.le_trans hb1.size hp.size }
  refine wpList_val hg2 (v := v') (w' := w') ?_ (h _ v' w' h2 hpu (grew_of hb1.size h4))
  have e2 : (a.put o.dst (.slice (some ⟨w.heap.size, 0, none⟩) 1 1)).eval (.tmp d) = .slice (some ⟨w.heap.size, 0, none⟩) 1 1 := by rw [hd]; simp [Act.put, Act.eval, hsz]
  simp [execOp, ho2, resolve, invoke, builtin, hs, e2, hrun]
theorem wpList_appendO (hg : o.guard = none) (s x : Operand) (ho : o.op = .call { callee := .builtin .append, args := #[s, x], argTypes := #[E.st, E.st] }) (vx : Value) (hs : a.eval s = v) (hx : a.eval x = vx) (m : List α)
    (hown : Own E base w v l) (hm : SliceOf E w vx m) (h63 : l.length + m.length ≤ 1099511627776 / 8) (hby : E.bytes ≤ 1000) (hbase : base ≤ w.heap.size)
    (h : ∀ v' w', Own E base w' v' (l ++ m) → Pushed E base w w' v → Grew w v v' → wpList P ops Q rest (a.put o.dst v') w') : wpList P ops Q (o :: rest) a w := by
  obtain ⟨v', w', hrun, h2, h3, h4, _⟩ := run_append (ty := o.type) hown _ m hm h63 hby hbase
  refine wpList_val hg (v := v') (w' := w') ?_ (h v' w' h2 (pushed_of hown h3) (grew_of (Nat.le_refl _) h4))
  simp [execOp, ho, resolve, invoke, builtin, hs, hx, hrun]
theorem Pushed.only {w' : World} (h : Pushed E base w w' v) : Only (fun k => v.ownBlock = some k) w w' where
  os := (h.below 0 (Nat.zero_le _) (Nat.zero_le _)).os
  tape := (h.below 0 (Nat.zero_le _) (Nat.zero_le _)).tape
  output := (h.below 0 (Nat.zero_le _) (Nat.zero_le _)).output
  size := h.size
  block := fun k hk hne => h.other k hk (fun e => hne e.symm)
/-- a step of what lies at g, of which the slice v grows -/
structure MkStep (g : Nat) (w w' : World) (v v' : Value) : Prop where
  only : Only (fun k => k = g ∨ v.ownBlock = some k) w w'
  grew : Grew w v v'
variable {g : Nat} {w1 w2 : World} {v1 v2 : Value}
theorem MkStep.refl (g : Nat) (w : World) (v : Value) : MkStep g w w v v := ⟨Only.refl _ _, Grew.refl _ _⟩
theorem MkStep.trans (h : MkStep g w w1 v v1) (k : MkStep g w1 w2 v1 v2) : MkStep g w w2 v v2 where
  only := h.only.trans k.only fun i hi hT => by
    rcases hT with rfl | hT
    · exact .inl rfl
    · rcases h.grew i hT with h | h
      · exact .inr h
      · omega
  grew := fun i hi => by
    rcases k.grew i hi with h1 | h1
    · exact h.grew i h1
    · exact .inr (Nat.le_trans h.only.size h1)
theorem MkStep.later (h : MkStep g w w1 v v1) (hb : Below w1.heap.size w1 w2) : MkStep g w w2 v v1 := ⟨h.only.trans (Only.of_below (S := fun _ => False) hb) (fun _ _ h => h.elim), h.grew⟩
theorem MkStep.of_below (hb : Below w.heap.size w w1) : MkStep g w w1 v v := ⟨(Only.of_below (S := fun _ => False) hb).mono (fun _ _ h => h.elim), Grew.refl _ _⟩
theorem MkStep.below (h : MkStep g w w1 v v1) (hg : g ≤ w.heap.size) (hv : ∀ k, v.ownBlock = some k → g ≤ k) : Below g w w1 := h.only.below hg fun i hi => by
  rcases hi with rfl | hi
  · exact Nat.le_refl _
  · exact hv i hi
/-- a slice that a maker does not touch -/
def Off {β : Type} (F : Elem P β) (g : Nat) (w : World) (mv x : Value) (l : List β) : Prop := SliceOf F w x l ∧ (l = [] ∨ ∀ k, x.ownBlock = some k → k < w.heap.size ∧ k ≠ g ∧ mv.ownBlock ≠ some k)
theorem SliceOf.nil_any {β : Type} {F : Elem P β} {x : Value} (h : SliceOf F w x []) (w' : World) : SliceOf F w' x [] := by
  rcases h with ⟨p, c, rfl, _⟩ | ⟨p, cap, rfl, _⟩
  · exact SliceOf.nil _ _ _
  · exact SliceOf.nil _ _ _
theorem Off.step {β : Type} {F : Elem P β} {x : Value} {l : List β} (h : Off F g w v x l) (k : MkStep g w w1 v v1) : Off F g w1 v1 x l := by
  obtain ⟨h1, rfl | h2⟩ := h
  · exact ⟨h1.nil_any _, .inl rfl⟩
  · refine ⟨h1.onlyS k.only fun b hb hS => ?_, .inr fun b hb => ?_⟩
    · obtain ⟨_, h3, h4⟩ := h2 b hb
      rcases hS with rfl | hS
      · exact h3 rfl
      · exact h4 hS
    · obtain ⟨h5, h3, h4⟩ := h2 b hb
      refine ⟨Nat.lt_of_lt_of_le h5 k.only.size, h3, fun e => ?_⟩
      rcases k.grew b e with h | h
      · exact h4 h
      · omega
theorem Off.slice {β : Type} {F : Elem P β} {x : Value} {l : List β} (h : Off F g w v x l) : SliceOf F w x l := h.1
/-- what was there before the maker -/
theorem Off.before {β : Type} {F : Elem P β} {w0 : World} {x : Value} {l : List β} (h : SliceOf F w0 x l) (hb : Below w0.heap.size w0 w) (hg : w0.heap.size ≤ g) (hv : ∀ k, v.ownBlock = some k → w0.heap.size ≤ k) : Off F g w v x l := by
  refine ⟨h.below hb, ?_⟩
  rcases h with ⟨_, _, _, rfl⟩ | ⟨p, cap, rfl, hp, _⟩
  · exact .inl rfl
  · refine .inr fun k hk => ?_
    obtain rfl : p.block = k := by simpa [Value.ownBlock] using hk
    have := hb.size
    exact ⟨by omega, by omega, fun e => by have := hv _ e; omega⟩
/-- what came behind the maker's last step -/
theorem Off.behind {β : Type} {F : Elem P β} {w0 : World} {x : Value} {l : List β} (h : SliceOf F w x l) (hx : ∀ k, x.ownBlock = some k → w0.heap.size ≤ k) (hg : g < w0.heap.size) (hv : ∀ k, v.ownBlock = some k → k < w0.heap.size) : Off F g w v x l := by
  refine ⟨h, ?_⟩
  rcases h with ⟨_, _, _, rfl⟩ | ⟨p, cap, rfl, hp, _⟩
  · exact .inl rfl
  · refine .inr fun k hk => ?_
    have hk' := hk
    obtain rfl : p.block = k := by simpa [Value.ownBlock] using hk
    have := hx _ hk'
    exact ⟨hp, by omega, fun e => by have := hv _ e; omega⟩
end
end Go.Agg
namespace Go.Proofs.Ytniibcgomnjfgaa
open Go.RowKit Pl Go.Agg
def mkC (v : Value) : Array Value := #[v, .bool false]
/-- a maker: its bytes so far -/
structure MkV (g : Nat) (w : World) (v : Value) (b : List UInt8) : Prop where
  blk : Blk w g 72 (mkC v)
  own : Own EB (g + 1) w v b
section
variable {g : Nat} {w w' : World} {v : Value} {b : List UInt8}
theorem MkV.load (h : MkV g w v b) : LoadsL Try.prog w 46 (some ⟨g, 0, none⟩) v :=
  h.blk.one (P := Try.prog) 0 rfl (by kernel_rfl : Try.prog.underlying 46 = some (.slice 5)) rfl
theorem MkV.bad (h : MkV g w v b) : LoadsL Try.prog w 4 (some ⟨g, 1, none⟩) (.bool false) :=
  h.blk.one (P := Try.prog) 1 rfl Try.underlying4 rfl
theorem MkV.below (h : MkV g w v b) (hb : Below w.heap.size w w') : MkV g w' v b := ⟨h.blk.below hb, h.own.below hb⟩
theorem MkV.ge (h : MkV g w v b) : ∀ k, v.ownBlock = some k → g ≤ k := fun k hk => by have := (h.own.block k hk).1; omega
theorem MkV.lt (h : MkV g w v b) : ∀ k, v.ownBlock = some k → k < w.heap.size := fun k hk => by
  obtain ⟨_, cur, hc⟩ := h.own.block k hk
  exact Agg.heap_lt hc
theorem MkV.put {w1 : World} {v1 : Value} {l : List UInt8} (h : MkV g w v b) (ho : Own EB (g + 1) w1 v1 l) (hp : Pushed EB (g + 1) w w1 v) (hgr : Grew w v v1) :
    ∃ w2, (Instr.storeAt 46 (.pointer (some ⟨g, 0, none⟩)) v1).run Try.prog w1 = .ok () w2 ∧ MkV g w2 v1 l ∧ MkStep g w w2 v v1 := by
  have h1 : Blk w1 g 72 (mkC v) := hp.blk g _ _ _ (by decide) h.blk
  obtain ⟨p, c, rfl⟩ := ho.slice.form
  refine ⟨_, h1.run_put 0 (by simp [mkC]) _ rfl rfl (by kernel_rfl), ⟨h1.set 0 _, ho.keep fun k cur t fr hk hb => ?_⟩, ⟨?_, hgr⟩⟩
  · rw [Below.heap_setCell _ _ _ _ (by show k ≠ g; omega)]; exact hb
  · refine (hp.only.mono fun _ _ h => .inr h).trans (T := fun k => k = g) ⟨rfl, rfl, rfl, by simp [World.setCell], fun k _ hk => Below.heap_setCell _ _ _ _ hk⟩ fun _ _ h => .inl h
theorem MkV.stepBelow {v1 : Value} (h : MkV g w v b) (hs : MkStep g w w' v v1) : Below g w w' := hs.below (Nat.le_of_lt h.blk.lt) h.ge
end
/-- numbers -/
def EI : Elem Try.prog Nat where
  ty := 3
  st := 92
  n := 1
  bytes := 8
  val := fun c => .int .i64 (c : Int)
  zero := .int .i64 0
  pos := by omega
  small := by omega
  size := fun x => rfl
  one := fun x v hv => by
    obtain rfl : v = .int .i64 (x : Int) := by simpa [Value.cells] using hv
    rfl
  zsize := rfl
  slice := by kernel_rfl
  info := info_of (by kernel_rfl) (by kernel_rfl) (by kernel_rfl)
  load := fun w a x hp h => LoadsL.of_cell (by have := h 0 _ rfl; rwa [show a.add 0 = a from rfl] at this) Try.underlying3 rfl
theorem ints_len {w : World} {v : Value} {l : List Nat} (h : SliceOf EI w v l) (W : World) : (Builtin.len_ #[92] 3 #[v]).run Try.prog W = .ok (.int .i64 (l.length : Int)) W := h.len W
theorem int_at {w : World} {v : Value} {l : List Nat} (h : SliceOf EI w v l) (k : Nat) (x : Nat) (hx : l[k]? = some x) :
    ∃ p : Addr, (∀ W, (Instr.indexAt 92 v (.int .i64 (k : Int))).run Try.prog W = .ok (.pointer (some p)) W) ∧ LoadsL Try.prog w 3 (some p) (.int .i64 (x : Int)) := by
  obtain ⟨p, h1, _, _, h4⟩ := h.at_ k x hx
  exact ⟨p, h1, h4⟩
end Go.Proofs.Ytniibcgomnjfgaa
/-! slices.Clone of what was made; real.owned. -/
namespace Go.Agg
open Go.RowKit
section
variable {P : Program} {α : Type} {E : Elem P α} {base : Nat} {w w' : World} {v : Value} {l : List α}
theorem Own.keepE (h : Own E base w v l) (hk : ∀ (g : Nat) (cur : Array Value) (fr : Nat × Nat), w.heap[g]? = some (Obj.cells cur E.ty fr) → w'.heap[g]? = some (Obj.cells cur E.ty fr)) : Own E base w' v l := by
  obtain ⟨hfl, h | ⟨g, cap, cur, hv, hb, hc, hr⟩⟩ := h
  · exact ⟨hfl, .inl h⟩
  · exact ⟨hfl, .inr ⟨g, cap, cur, hv, hb, hk g cur _ hc, hr⟩⟩
/-- a write into a block of another type -/
theorem Own.onlyT {g : Nat} {t : TypeId} {cs : Array Value} (h : Own E base w v l) (hb : w.heap[g]? = some (.cells cs t (0, 0))) (ht : t ≠ E.ty) (ho : ∀ k, k < w.heap.size → k ≠ g → w'.heap[k]? = w.heap[k]?) : Own E base w' v l :=
  h.keepE fun k cur fr hk => (ho k (heap_lt hk) fun e => by
    subst e
    rw [hb] at hk
    injection hk with hk
    injection hk with _ h2
    exact ht h2).trans hk
theorem Own.pushedT {α' : Type} {E' : Elem P α'} {b' : Nat} {u : Value} (h : Own E base w v l) (hp : Pushed E' b' w w' u) (ht : E.ty ≠ E'.ty) : Own E base w' v l := h.keepE fun g _ _ hg => hp.blk g _ _ _ ht hg
theorem Blk.onlyB {S : Nat → Prop} {g : Nat} {t : TypeId} {cs : Array Value} (h : Blk w g t cs) (ho : Only S w w') (hS : ¬ S g) : Blk w' g t cs := (ho.block g h.lt hS).trans h
end
end Go.Agg
namespace Go.Proofs.Ytniibcgomnjfgaa
open Go.RowKit Pl Go.Agg
theorem mnil_is (n c : Nat) (W : World) : (binOp .eql 33 (.slice none n c) (.slice none 0 0)).run Try.prog W = .ok (.bool true) W := by kernel_rfl
theorem mnil_not (a : Addr) (n c : Nat) (W : World) : (binOp .eql 33 (.slice (some a) n c) (.slice none 0 0)).run Try.prog W = .ok (.bool false) W := by kernel_rfl
set_option maxRecDepth 100000 in
set_option maxHeartbeats 1000000 in
theorem mclone_any (x : Value) (l : List Md) (w : World) (hl : l.length ≤ 1048576) (hx : SliceOf EMd w x l) :
    Calls Try.prog 53 #[x] w fun e w' => ∃ v', e = .returned v' ∧ Own EMd w.heap.size w' v' l ∧ Below w.heap.size w w' := by
  have HX := Lib.hid hx
  have h63 : ([] : List Md).length + l.length ≤ 1099511627776 / 8 := by simp; omega
  obtain ⟨q, c, rfl⟩ := hx.form
  cases q with
  | none =>
    have hl0 : l = [] := by
      rcases hx with ⟨_, _, _, h⟩ | ⟨a, cap, e, _⟩
      · exact h
      · injection e with e; cases e
    subst hl0
    have hnl := mnil_is 0 c
    clear hx
    go_enter Try.func53, Try.ntmps53
    go_wp2_with fail
    go_ret
    exact ⟨_, rfl, Own.nil _ _ _, Below.refl _ _⟩
  | some a =>
    have hnl := mnil_not a l.length c
    clear hx
    go_enter Try.func53, Try.ntmps53
    go_wp2_with (first | (refine Agg.wpList_slice0 (base := w.heap.size) EMd rfl rfl (Nat.le_refl _) ?_; intro v1 w1 ho1 hx1 _; have HO1 := Lib.hid ho1; have HX1 := Lib.hid (SliceOf.below HX.out hx1); have hsz := hx1.size; clear ho1) | (refine Agg.wpList_appendO (E := EMd) (base := w.heap.size) rfl _ _ rfl (.slice (some a) l.length c) rfl rfl l HO1.out HX1.out h63 (by decide) hsz ?_; intro v2 w2 ho2 hp2 _; have HO2 := Lib.hid ho2; have HP2 := Lib.hid (hx1.trans (hp2.below w.heap.size (Nat.le_refl _) hsz)); clear ho2 hp2))
    go_ret
    exact ⟨_, rfl, by simpa using HO2.out, HP2.out⟩
theorem bC_ins (x : BuV) (iv : IV) : (bC x).setIfInBounds 62 (ivV iv) = bC (x.1, iv) := by
  unfold bC
  rw [Array.setIfInBounds_append_right (by rw [hC_size, x.1.cl.2]; omega), hC_size, x.1.cl.2, Array.setIfInBounds_append_right (by rw [hC_size, x.1.ky.2]; omega), hC_size, x.1.ky.2, Array.setIfInBounds_append_right (by rw [pC_size, x.1.pa.2]; omega), pC_size, x.1.pa.2]
  rfl
theorem buB_ins {w : World} {b : Nat} {x : BuV} (h : Blk w b 35 (bC x)) (iv : IV) : ∃ w', (Instr.storeAt 33 (.pointer (some ⟨b, 62, none⟩)) (ivV iv)).run Try.prog w = .ok () w' ∧ Blk w' b 35 (bC (x.1, iv)) ∧ Only (· = b) w w' :=
  h.run_one 62 (by rw [bC_size]; omega) _ rfl rfl (by kernel_rfl) _ (bC_ins x iv)
set_option maxRecDepth 100000 in
set_option maxHeartbeats 4000000 in
theorem owned_any (x : BuV) (w : World) (hl : x.1.ins.length ≤ 1048576) (hi : InsAt w x) :
    Calls Try.prog 39 #[.agg (bC x)] w fun e w' => ∃ iv : IV, e = .returned (.agg (bC (x.1, iv))) ∧ Own EMd w.heap.size w' (ivV iv) x.1.ins ∧ Below w.heap.size w w' := by
  have HI := Lib.hid (show MdsAt w (ivV x.2) x.1.ins from hi)
  clear hi
  go_enter Try.func39, Try.ntmps39
  go_wp2_with (first | (with_reducible refine wpList_box rfl 35 _ rfl (bC x) rfl ?_; intro g1 w1 hb1 hx1 hg1; have HB1 := Lib.hid hb1; have HX1 := Lib.hid hx1; have HG1 := Lib.hid hg1; clear hb1 hx1 hg1) | (with_reducible refine wpList_zero rfl 35 rfl (bC (zB, none, 0, 0)) bC_zero ?_; intro g2 w2 hb2 hx2 hg2; have HB2 := Lib.hid hb2; have HB12 := Lib.hid (HB1.out.below hx2); have HL2 := Lib.hid (BuG.of_blk HB12.out); have HX2 := Lib.hid (Agg.belowThen HX1.out (Nat.le_refl _) hx2); have HG2 := Lib.hid (Nat.le_trans HX1.out.size hg2); have HNE := Lib.hid (show g2 ≠ g1 from fun e => by have := HB1.out.lt; omega); clear hb2 hx2 hg2) | (with_reducible refine wpList_loadL HL2.out.ins rfl _ rfl rfl ?_))
  refine (mclone_any _ x.1.ins w2 hl (HI.out.below HX2.out)).mono ?_
  rintro e w3 ⟨v3, rfl, ho3, hx3⟩
  obtain ⟨ip, ic, rfl⟩ := ho3.slice.form
  obtain ⟨w4, hr4, hb4, ho4⟩ := buB_ins (HB12.out.below hx3) (ip, x.1.ins.length, ic)
  have HO4 := Lib.hid (ho3.onlyT (HB12.out.below hx3) (by decide) (fun k h1 h2 => ho4.block k h1 h2))
  have HB24 := Lib.hid ((HB2.out.below hx3).onlyB ho4 HNE.out)
  have HL4 := Lib.hid (BuG.of_blk hb4)
  have HX3 := Lib.hid (Agg.belowThen HX2.out (Nat.le_refl _) hx3)
  have HX4 := Lib.hid (HX3.out.trans (ho4.below (B := w.heap.size) HX3.out.size (fun i hi => by subst hi; exact HG1.out)))
  have HR4 := Lib.hid (show (Instr.storeAt 33 (.pointer (some ⟨g1, 62, none⟩)) (.slice ip x.1.ins.length ic)).run Try.prog w3 = .ok () w4 from hr4)
  have HS2 := Lib.hid HX2.out.size
  clear ho3 hx3 hr4 hb4 ho4
  go_wp2_with (first | (with_reducible refine wpList_store rfl rfl 33 _ _ rfl (.pointer (some ⟨g1, 62, none⟩)) (.slice ip x.1.ins.length ic) rfl rfl HR4.out ?_) | (with_reducible refine wpList_loadL HL4.out.all rfl _ rfl rfl ?_) | ((with_reducible refine wpList_put rfl rfl 35 _ _ rfl g2 (bC (x.1, ip, x.1.ins.length, ic)) (bC (zB, none, 0, 0)) rfl rfl HB24.out (bC_info _) (by rw [bC_size, bC_size]) (bC_one _) ?_); intro w5 hb5 hx5 hs5 hk5; have HB5 := Lib.hid hb5; have HO5 := Lib.hid (HO4.out.onlyT HB24.out (by decide) (fun k _ h2 => hk5 k h2)); have HX5 := Lib.hid (HX4.out.trans (hx5.mono HG2.out)); clear hb5 hx5 hs5 hk5))
  exact post_row rfl rfl HB5.out bC_under rfl (bC_info _) rfl ⟨(ip, x.1.ins.length, ic), rfl, HO5.out.lower HS2.out, HX5.out⟩
end Go.Proofs.Ytniibcgomnjfgaa
/-! real.some, where all are asked for. -/
namespace Go.Proofs.Ytniibcgomnjfgaa
open Go.RowKit Pl Go.Agg
/-- builts in memory of the call's own, each with inputs of its own -/
structure OwnBus (base : Nat) (w : World) (v : Value) (l : List BuV) : Prop where
  row : Own EBu base w v l
  ins : ∀ x ∈ l, Own EMd base w (ivV x.2) x.1.ins
theorem OwnBus.at_ {base : Nat} {w : World} {v : Value} {l : List BuV} (h : OwnBus base w v l) : BusAt w v l := ⟨h.row.slice, fun x hx => (h.ins x hx).slice⟩
theorem OwnBus.below {base : Nat} {w w' : World} {v : Value} {l : List BuV} (h : OwnBus base w v l) (hb : Below w.heap.size w w') : OwnBus base w' v l := ⟨h.row.below hb, fun x hx => (h.ins x hx).below hb⟩
theorem OwnBus.nil (base : Nat) (w : World) : OwnBus base w (.slice none 0 0) [] := ⟨Own.nil _ _ _, by simp⟩
theorem OwnBus.push {base : Nat} {w w' : World} {v v' : Value} {l : List BuV} {x : BuV} (h : OwnBus base w v l) (hx : Own EMd base w (ivV x.2) x.1.ins) (hr : Own EBu base w' v' (l ++ [x])) (hp : Pushed EBu base w w' v) : OwnBus base w' v' (l ++ [x]) :=
  ⟨hr, fun y hy => by
    rcases List.mem_append.1 hy with hy | hy
    · exact (h.ins y hy).pushedT hp (by decide)
    · obtain rfl := List.mem_singleton.1 hy
      exact hx.pushedT hp (by decide)⟩
theorem addTrue_any (x : BuV) (w : World) : Calls Try.prog 37 #[.agg (bC x)] w fun e w' => e = .returned (.bool true) ∧ Below w.heap.size w w' := by
  go_enter Try.func37, Try.ntmps37
  go_wp2_with (first | (with_reducible refine wpList_box rfl 35 _ rfl (bC x) rfl ?_; intro g1 w1 hb1 hx1 hg1; have HX1 := Lib.hid hx1; clear hb1 hx1 hg1))
  go_ret
  exact ⟨rfl, HX1.out⟩
set_option maxRecDepth 100000 in
set_option maxHeartbeats 4000000 in
theorem someAll_any (v : Value) (l : List BuV) (hn : l.length ≤ 1048576) (hni : ∀ x ∈ l, x.1.ins.length ≤ 1048576) (w : World) (hs : BusAt w v l) :
    Calls Try.prog 26 #[v, .func (.func 37) #[] #[]] w fun e w' => ∃ v' lv, e = .returned v' ∧ OwnBus w.heap.size w' v' lv ∧ lv.map (·.1) = l.map (·.1) ∧ Below w.heap.size w w' := by
  have HS := Lib.hid hs
  have hlv := fun W => bus_len hs W
  clear hs
  go_enter Try.func26, Try.ntmps26
  go_wp2_with fail
  go_loopw [4, 9] (fun out i wr => ∃ (k : Nat) (lv : List BuV), k ≤ l.length ∧ i = .int .i64 k ∧ OwnBus w.heap.size wr out lv ∧ lv.map (·.1) = (l.take k).map (·.1) ∧ Below w.heap.size w wr) (fun _ i _ => l.length - (intOf i).toNat)
  case atStart => exact ⟨0, [], by omega, rfl, OwnBus.nil _ _, rfl, Below.refl _ _⟩
  case round =>
    obtain ⟨wr1, rfl⟩ : ∃ y : World, y = wr := ⟨_, rfl⟩
    obtain ⟨k, lv, hk, rfl, ho, hm, hw⟩ := hrel
    have hll : lv.length ≤ 1048576 := by have := congrArg List.length hm; simp at this; omega
    have HO := Lib.hid ho
    have HM := Lib.hid hm
    have HW := Lib.hid hw
    clear hm hw ho
    by_cases hlt : k < l.length
    · have hd : decide ((k : Int) < (l.length : Int)) = true := by simp; omega
      obtain ⟨x, hxk⟩ : ∃ x, l[k]? = some x := ⟨_, List.getElem?_eq_getElem hlt⟩
      obtain ⟨q, hadr, hq, hin⟩ := (HS.out.below HW.out).at_ k x hxk
      have HNI := Lib.hid (hni x (List.mem_of_getElem? hxk))
      have HQ := Lib.hid hq
      have HX := Lib.hid hxk
      have HI := Lib.hid hin
      clear hq hxk hin
      go_wp2_with (first | (with_reducible refine wpList_loadL HQ.out.all rfl _ rfl rfl ?_) | (refine wpList_new rfl rfl rfl 35 6 12 rfl rfl rfl (by decide) (bC (zB, none, 0, 0)) (bC x) bC_zero (by rw [bC_size, bC_size]) (bC_info x) (bC_one x) rfl (by simp [Act.put]) ?_; intro g2 w2 hb2 hx2 hg2; have HL2 := Lib.hid (BuG.of_blk hb2); have HX2 := Lib.hid hx2; clear hb2 hx2 hg2) | (with_reducible refine wpList_loadL HL2.out.all rfl _ rfl rfl ?_))
      refine (addTrue_any x _).mono ?_
      rintro e w3 ⟨rfl, hx3⟩
      have HL3 := Lib.hid (HL2.out.below hx3)
      have HX3 := Lib.hid (Agg.belowThen HX2.out (Nat.le_refl _) hx3)
      clear hx3
      go_wp2_with (first | (with_reducible refine wpList_loadL HL3.out.all rfl _ rfl rfl ?_))
      refine (owned_any x w3 HNI.out (HI.out.below HX3.out)).mono ?_
      rintro e w4 ⟨iv, rfl, ho4, hx4⟩
      have hX4 := Agg.belowThen HX3.out (Nat.le_refl _) hx4
      have hW4 := Agg.belowThen HW.out (Nat.le_refl _) hX4
      have HO4 := Lib.hid (HO.out.below hX4)
      have HN4 := Lib.hid (ho4.lower (Agg.belowThen HW.out (Nat.le_refl _) HX3.out).size)
      have HW4 := Lib.hid hW4
      clear ho4 hx4 hX4 hW4
      go_wp2_with (first | (refine wpList_push (E := EBu) (base := w.heap.size) rfl rfl 19 rfl _ rfl _ rfl (x.1, iv) rfl (fun _ => rfl) (by simp) HO4.out.row (by omega) (by decide) HW4.out.size ?_; intro u5 v5 w5 ho5 hp5; have HO5 := Lib.hid (HO4.out.push (x := (x.1, iv)) HN4.out ho5 hp5); have HW5 := Lib.hid (HW4.out.trans (hp5.below w.heap.size (Nat.le_refl _) HW4.out.size)); clear ho5 hp5))
      go_roundw
      case rel => exact ⟨k + 1, lv ++ [(x.1, iv)], by omega, by go_num, HO5.out, by rw [List.take_add_one, HX.out]; simp [HM.out], HW5.out⟩
      case measure => simp [intOf]; omega
    · obtain rfl : k = l.length := by omega
      go_wp2_with fail
      go_ret
      exact ⟨_, rfl, lv, HO.out, by rw [HM.out, List.take_length], HW.out⟩
end Go.Proofs.Ytniibcgomnjfgaa
/-! 'copy' into a row of the call's own, at elements of many cells. -/
namespace Go.Agg
open Go.RowKit
section
variable {P : Program} {α : Type} {E : Elem P α} {w : World} {base : Nat}
theorem Elem.flat_take (l : List α) (k : Nat) (hk : k ≤ l.length) : (E.flat l).take (k * E.n) = E.flat (l.take k) := by
  have h : E.flat l = E.flat (l.take k) ++ E.flat (l.drop k) := by rw [← E.flat_append, List.take_append_drop]
  rw [h, List.take_left' (by rw [E.flat_length, List.length_take, Nat.min_eq_left hk])]
theorem Elem.flat_drop (l : List α) (k : Nat) (hk : k ≤ l.length) : (E.flat l).drop (k * E.n) = E.flat (l.drop k) := by
  have h : E.flat l = E.flat (l.take k) ++ E.flat (l.drop k) := by rw [← E.flat_append, List.take_append_drop]
  rw [h, List.drop_left' (by rw [E.flat_length, List.length_take, Nat.min_eq_left hk])]
theorem run_copyE (w : World) (sT ty : TypeId) (g o dLen dCap : Nat) (a : Addr) (sLen sCap : Nat) (cur : Array Value) (t : TypeId) (cs : List Value)
    (hg : w.heap[g]? = some (.cells cur t (0, 0))) (hn : cs.length = Nat.min sLen dLen * E.n)
    (hsrc : ∀ j v, cs[j]? = some v → w.cell? (a.add j) = some v) (hfit : o + cs.length ≤ cur.size) (h1 : ∀ v ∈ cs, v.oneCell' = true) :
    (Builtin.copy_ #[E.st, sT] ty #[.slice (some ⟨g, o, none⟩) dLen dCap, .slice (some a) sLen sCap]).run P w =
      .ok (goInt (Nat.min sLen dLen : Nat)) (w.setRow g (cur.toList.take o ++ cs ++ cur.toList.drop (o + cs.length)).toArray) := by
  obtain ⟨i, hi, _, hs, _⟩ := E.info
  have hl := run_loadCells_list (P := P) w a cs hsrc
  have hst := run_storeCells_at P g o t cs 0 cur w hg (by simpa using hfit) h1
  simp [Builtin.copy_, run_underlying E.slice, Builtin.lenOf, Builtin.firstCells, sizeOf, typeInfo, hi, hs, ← hn, hl, hst]
theorem splice_take {β : Type} (C cs : List β) (o N : Nat) (h1 : o + cs.length ≤ N) (h2 : N ≤ C.length) : (C.take o ++ cs ++ C.drop (o + cs.length)).take N = (C.take N).take o ++ cs ++ (C.take N).drop (o + cs.length) := by
  rw [List.take_append, List.take_of_length_le (by simp; omega)]
  congr 1
  · rw [List.take_take, Nat.min_eq_left (by omega)]
  · rw [List.drop_take]; congr 1; simp; omega
theorem run_copy_put {g n c : Nat} {sv : Value} {l m : List α} (hown : Own E base w (.slice (some ⟨g, 0, none⟩) n c) l) (hs : SliceOf E w sv m) (hne : m ≠ []) (k dl dc : Nat) (hk : k + m.length ≤ l.length) (hdl : m.length ≤ dl) (ty : TypeId) :
    ∃ cur, (Builtin.copy_ #[E.st, E.st] ty #[.slice (some ⟨g, k * E.n, none⟩) dl dc, sv]).run P w = .ok (goInt (m.length : Nat)) (w.setRow g cur) ∧ Own E base (w.setRow g cur) (.slice (some ⟨g, 0, none⟩) n c) (l.take k ++ m ++ l.drop (k + m.length)) := by
  obtain ⟨hfl, ⟨h0, _⟩ | ⟨g', cap, cur, hv, hgb, hcur, hle, hmx, hsz, htk⟩⟩ := hown
  · cases h0
  · obtain ⟨rfl, rfl, rfl⟩ : g = g' ∧ n = l.length ∧ c = cap := by injection hv with e1 e2 e3; injection e1 with e1; injection e1 with e1; exact ⟨e1, e2, e3⟩
    rcases hs with ⟨p, c', rfl, rfl⟩ | ⟨p, sc, rfl, hp, hsc⟩
    · exact absurd rfl hne
    · have hml : (E.flat m).length = m.length * E.n := E.flat_length m
      have hkm : k * E.n + m.length * E.n ≤ l.length * E.n := by rw [← Nat.add_mul]; exact Nat.mul_le_mul_right _ hk
      have hlc : l.length * E.n ≤ c * E.n := Nat.mul_le_mul_right _ hle
      have hmd : Nat.min m.length dl = m.length := Nat.min_eq_left hdl
      refine ⟨_, (run_copyE w E.st ty g (k * E.n) dl dc p m.length sc cur E.ty (E.flat m) hcur (by rw [hml, hmd]) hsc (by rw [hml, hsz]; omega) (E.flat_one' m)).trans (by rw [hmd]), ?_⟩
      refine ⟨E.flat_length _, .inr ⟨g, c, _, by congr 1; simp; omega, hgb, setRow_heap _ _ _ _ _ _ hcur, by simp; omega, hmx, ?_, ?_⟩⟩
      · simp [hml]
        rw [← hsz] at *; omega
      · rw [show (l.take k ++ m ++ l.drop (k + m.length)).length = l.length by simp; omega, splice_take _ _ _ _ (by rw [hml]; exact hkm) (by rw [show cur.toList.length = cur.size from Array.length_toList, hsz]; exact hlc), htk, E.flat_append, E.flat_append, hml, ← Nat.add_mul, E.flat_take _ _ (by omega), E.flat_drop _ _ hk]
theorem run_copy_up {g n c : Nat} {l : List α} (hown : Own E base w (.slice (some ⟨g, 0, none⟩) n c) l) (hroom : n + 1 ≤ c) (k dl dc sl sc : Nat) (hk : k < n) (hdl : dl = n - k) (hsl : sl = n + 1 - k) (ty : TypeId) :
    ∃ cur, (Builtin.copy_ #[E.st, E.st] ty #[.slice (some ⟨g, (k + 1) * E.n, none⟩) dl dc, .slice (some ⟨g, k * E.n, none⟩) sl sc]).run P w = .ok (goInt ((n - k : Nat) : Nat)) (w.setRow g cur) ∧ Own E base (w.setRow g cur) (.slice (some ⟨g, 0, none⟩) (n + 1) c) (l.take (k + 1) ++ l.drop k) := by
  obtain ⟨hfl, ⟨h0, _⟩ | ⟨g', cap, cur, hv, hgb, hcur, hle, hmx, hsz, htk⟩⟩ := hown
  · cases h0
  · obtain ⟨rfl, rfl, rfl⟩ : g = g' ∧ n = l.length ∧ c = cap := by injection hv with e1 e2 e3; injection e1 with e1; injection e1 with e1; exact ⟨e1, e2, e3⟩
    subst hdl hsl
    have hml : (E.flat (l.drop k)).length = (l.length - k) * E.n := by rw [E.flat_length, List.length_drop]
    have hkn : (k + 1) * E.n + (l.length - k) * E.n = (l.length + 1) * E.n := by rw [← Nat.add_mul]; congr 1; omega
    have hlc : (l.length + 1) * E.n ≤ c * E.n := Nat.mul_le_mul_right _ hroom
    have hmn : Nat.min (l.length + 1 - k) (l.length - k) = l.length - k := Nat.min_eq_right (by omega)
    refine ⟨_, (run_copyE w E.st ty g ((k + 1) * E.n) (l.length - k) dc ⟨g, k * E.n, none⟩ (l.length + 1 - k) sc cur E.ty (E.flat (l.drop k)) hcur (by rw [hml, hmn]) ?_ (by rw [hml, hsz]; omega) (E.flat_one' _)).trans (by rw [hmn]), ?_⟩
    · intro j u hj
      rw [add_plain, cell_of_row _ _ _ _ _ _ hcur]
      rw [← E.flat_drop _ _ (by omega), ← htk, List.getElem?_drop, List.getElem?_take] at hj
      split at hj
      · simpa using hj
      · cases hj
    · have hl1 : (l.take (k + 1) ++ l.drop k).length = l.length + 1 := by simp; omega
      refine ⟨by rw [E.flat_length, hl1], .inr ⟨g, c, _, by rw [hl1], hgb, setRow_heap _ _ _ _ _ _ hcur, by omega, hmx, ?_, ?_⟩⟩
      · simp [hml]; rw [← hsz] at hlc ⊢; omega
      · rw [hl1, List.take_append_of_le_length (by simp [hml]; rw [← hsz] at hlc; omega), List.take_of_length_le (by simp [hml]; omega), E.flat_append, ← E.flat_take _ _ (by omega), ← htk, List.take_take, Nat.min_eq_left (Nat.mul_le_mul_right _ (by omega))]
end
end Go.Agg
/-! Laws of no program for slices.Insert: slices of many cells cut, grown by zeros; copies whose runs are known. -/
namespace Go.Agg
open Go.RowKit
section
variable {P : Program} {α : Type} (E : Elem P α)
theorem Elem.runLow (p : Option Addr) (n c k : Nat) (hk : k ≤ n) (W : World) : (Instr.sliceAt E.st (.slice p n c) (some (.int .i64 (k : Int))) none none).run P W = .ok (.slice (if c = k then p else p.map (·.add (k * E.n))) (n - k) (c - k)) W := by
  simp [Instr.sliceAt, Instr.slice, Instr.sliceBounds, Instr.sliceBound, run_underlying E.slice, Sem.run_bind, asIntOf, run_sizeOf_elem]
  intro h
  omega
theorem Elem.runCut (g n c k : Nat) (hk : k ≤ n) (hc : k < c) (W : World) : (Instr.sliceAt E.st (.slice (some ⟨g, 0, none⟩) n c) (some (.int .i64 (k : Int))) none none).run P W = .ok (.slice (some ⟨g, k * E.n, none⟩) (n - k) (c - k)) W := by
  rw [E.runLow _ n c k hk W, if_neg (by omega)]
  simp only [Option.map_some, add_plain, Nat.zero_add]
theorem Elem.runHigh (p : Option Addr) (n c k : Nat) (hk : k ≤ c) (W : World) : (Instr.sliceAt E.st (.slice p n c) none (some (.int .i64 (k : Int))) none).run P W = .ok (.slice p k c) W := by
  have hp : (p.map fun x => x.add 0) = p := by cases p <;> rfl
  simp [Instr.sliceAt, Instr.slice, Instr.sliceBounds, Instr.sliceBound, run_underlying E.slice, Sem.run_bind, asIntOf, hk, hp, run_sizeOf_elem]
variable {E}
/-- zeros, as elements -/
theorem zeroCells_flat (z : α) (hz : E.val z = E.zero) (n : Nat) : (Builtin.zeroCells E.zero.cells n).toList = E.flat (List.replicate n z) := by
  have hs := E.zsize
  have hpos := E.pos
  refine List.ext_getElem? fun j => ?_
  by_cases hj : j < n * E.n
  · have hq : j % E.n < E.n := Nat.mod_lt _ hpos
    have hk : j / E.n < n := (Nat.div_lt_iff_lt_mul hpos).2 hj
    have h4 : (E.val z).cells[j % E.n]? = some E.zero.cells[j % E.n]! := by
      rw [hz, getElem!_def, Array.getElem?_eq_getElem (by omega)]
    have h5 := E.flat_get (List.replicate n z) (j / E.n) z (j % E.n) _ (by simp [hk]) h4
    rw [show j / E.n * E.n + j % E.n = j by rw [Nat.mul_comm]; exact Nat.div_add_mod j E.n] at h5
    rw [h5]
    simp [Builtin.zeroCells, hs, hj]
  · rw [List.getElem?_eq_none (by simp [Builtin.zeroCells, hs]; omega), List.getElem?_eq_none (by rw [E.flat_length]; simp; omega)]
/-- 'append(s, make([]T, n)...)' where there is no room -/
theorem run_append_zerosE {base : Nat} {w : World} {g c : Nat} {l : List α} (z : α) (hz : E.val z = E.zero) (hown : Own E base w (.slice (some ⟨g, 0, none⟩) l.length c) l) (tn : TypeId) (htn : P.underlying tn = some (.int .i64)) (n : Nat) (hn : 0 < n) (hg : c < l.length + n) (h63 : l.length + n ≤ 1099511627776 / 8) (hby : E.bytes ≤ 1000) (hbase : base ≤ w.heap.size) (ty : TypeId) :
    ∃ cap w', (Builtin.append_ #[E.st, tn] ty #[.slice (some ⟨g, 0, none⟩) l.length c, .int .i64 (n : Int)]).run P w = .ok (.slice (some ⟨w.heap.size, 0, none⟩) (l.length + n) cap) w' ∧ Own E base w' (.slice (some ⟨w.heap.size, 0, none⟩) (l.length + n) cap) (l ++ List.replicate n z) ∧ Below w.heap.size w w' ∧ w'.heap.size = w.heap.size + 1 := by
  obtain ⟨i, hi, hzi, hs, hb⟩ := E.info
  have hsl := hown.slice
  obtain ⟨_, ⟨h0, _⟩ | ⟨g', cap, cur, hv, hgb, hcur, hle, hmx, hsz, htk⟩⟩ := hown
  · cases h0
  · obtain ⟨rfl, rfl⟩ : g = g' ∧ c = cap := by injection hv with e1 e2 e3; injection e1 with e1; injection e1 with e1; exact ⟨e1, e3⟩
    have hmul : (l.length + n) * E.bytes ≤ 140737488355328 := Nat.le_trans (Nat.mul_le_mul h63 hby) (by omega)
    have hmul2 : n * E.bytes ≤ 140737488355328 := Nat.le_trans (Nat.mul_le_mul_right _ (by omega)) hmul
    have hold : (Builtin.firstCells i.size l.length (.slice (some ⟨g, 0, none⟩) l.length c)).run P w.drew = .ok (E.flat l).toArray w.drew := by
      rw [hs]
      refine run_firstCells_some w.drew E.n l.length ⟨g, 0, none⟩ l.length c (E.flat l) (E.flat_length l) fun j u hj => ?_
      rw [add_plain, Nat.zero_add]
      rw [← htk, List.getElem?_take] at hj
      split at hj
      · show w.cell? _ = _
        rw [cell_of_row _ _ _ _ _ _ hcur]
        simpa using hj
      · cases hj
    have hr := Lib.run_append_grow_zeros (P := P) w E.st tn ty E.ty i E.zero .i64 .i64 E.slice htn hi hzi (some ⟨g, 0, none⟩) l.length c (E.flat l) hold n hn (by rw [hs]; exact E.pos) hg (by omega) (by rw [hb]; omega) (by rw [hb]; exact growslice_fits hg hmul)
    refine ⟨_, _, hr, ⟨E.flat_length _, .inr ⟨w.heap.size, grownCap w (l.length + n) c E.ty, _, by rw [List.length_append, List.length_replicate], hbase, heap_alloc_new _ _, by rw [List.length_append, List.length_replicate]; exact grownCap_ge w _ _ _, grownCap_le_maxLen w (l.length + n) c E.ty (by unfold maxLen; omega), ?_, ?_⟩⟩, (Below.refl _ _).drew.alloc (Nat.le_refl _) _, Array.size_push _⟩
    · have h1 := grownCap_ge w (l.length + n) c E.ty
      have h2 : (E.flat l).length = l.length * E.n := E.flat_length l
      simp only [Array.size_append, List.size_toArray, h2, Builtin.zeroCells, Array.size_map, Array.size_range, E.zsize]
      rw [← Nat.add_mul, ← Nat.add_mul]
      congr 1
      omega
    · rw [Array.toList_append, Array.toList_append, zeroCells_flat z hz, zeroCells_flat z hz, ← E.flat_append, ← E.flat_append, List.append_assoc]
      have := E.flat_take ((l ++ List.replicate n z) ++ List.replicate (grownCap w (l.length + n) c E.ty - (l.length + n)) z) (l ++ List.replicate n z).length (by simp)
      rw [List.take_left] at this
      rw [← List.append_assoc]
      exact this
section
variable {ops : Array Oper} {rest : List Oper} {o : Oper} {a : Act} {w : World} {Q : Exit → Act → World → Prop}
theorem wpList_copyR (hgd : o.guard = none) (d s : Operand) (t t' : TypeId)
    (ho : o.op = .call { callee := .builtin .copy, args := #[d, s], argTypes := #[t, t'] }) (v u : Value) (hd : a.eval d = v) (hs : a.eval s = u) {v' : Value} {w' : World}
    (hr : (Builtin.copy_ #[t, t'] o.type #[v, u]).run P w = .ok v' w') (h : wpList P ops Q rest (a.put o.dst v') w') : wpList P ops Q (o :: rest) a w := by
  refine wpList_val hgd (v := v') (w' := w') ?_ h
  simp only [execOp, ho, resolve, invoke, builtin, Sem.run_bind, Sem.run_pure, Result.andThen_ok, List.map_toArray, List.map_cons, List.map_nil, hd, hs, hr]
theorem wpList_appendR (hgd : o.guard = none) (s x : Operand) (t tn : TypeId)
    (ho : o.op = .call { callee := .builtin .append, args := #[s, x], argTypes := #[t, tn] }) (vs vx : Value) (hs : a.eval s = vs) (hx : a.eval x = vx) {v' : Value} {w' : World}
    (hr : (Builtin.append_ #[t, tn] o.type #[vs, vx]).run P w = .ok v' w') (h : wpList P ops Q rest (a.put o.dst v') w') : wpList P ops Q (o :: rest) a w := by
  refine wpList_val hgd (v := v') (w' := w') ?_ h
  simp only [execOp, ho, resolve, invoke, builtin, Sem.run_bind, Sem.run_pure, Result.andThen_ok, List.map_toArray, List.map_cons, List.map_nil, hs, hx, hr]
end
theorem Pushed.of_only {base : Nat} {w w' : World} {v : Value} {l : List α} (h : Own E base w v l) (ho : Only (fun k => v.ownBlock = some k) w w') : Pushed E base w w' v :=
  pushed_of h ⟨ho.os, ho.tape, ho.output, ho.size, fun k hk hne => ho.block k hk fun e => hne e.symm⟩
end
end Go.Agg
