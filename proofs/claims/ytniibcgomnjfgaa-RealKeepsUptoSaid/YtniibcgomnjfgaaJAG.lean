/- '==' of what was made, of hashes, of paths; slices.Equal, spencekit.SameMades, SameBuilt, SameBuilts. (Several texts in one.) -/
import Derived.Test.YtniibcgomnjfgaaJAF
import Derived.Test.YtniibcgomnjfgaaJAE
import Derived.Test.YtniibcgomnjfgaaJAB
/-! code.Maker's block; what a step of a maker leaves alone. -/
namespace Go.Agg
open Go.RowKit
theorem encN_len' : ∀ (m n : Nat), 0 < m → n < 128 ^ m → (encN n).length ≤ m := by
  intro m
  induction m with
  | zero => intro n h; omega
  | succ m ih =>
    intro n _ hn
    by_cases h : n < 128
    · rw [encN_lt h]; simp
    · rw [encN_ge (by omega), List.length_cons]
      have hm : 0 < m := by
        rcases Nat.eq_zero_or_pos m with h0 | h0
        · subst h0; simp at hn; omega
        · exact h0
      have := ih (n / 128) hm (by rw [Nat.pow_succ] at hn; exact Nat.div_lt_of_lt_mul (by rw [Nat.mul_comm]; exact hn))
      omega
theorem encN_len {n : Nat} (h : n ≤ 1099511627776) : (encN n).length ≤ 6 := encN_len' 6 n (by omega) (by omega)
section
variable {P : Program} {α : Type} {E : Elem P α} {ops : Array Oper} {rest : List Oper} {o o2 : Oper} {a : Act} {w : World} {Q : Exit → Act → World → Prop} {base : Nat} {v : Value} {l : List α}
/-- where a grown slice lies -/
def Grew (w : World) (v v' : Value) : Prop := ∀ k, v'.ownBlock = some k → v.ownBlock = some k ∨ w.heap.size ≤ k
theorem Grew.refl (w : World) (v : Value) : Grew w v v := fun _ h => .inl h
theorem grew_of {w0 w : World} {v v' : Value} (hs : w0.heap.size ≤ w.heap.size) (h : v'.ownBlock = v.ownBlock ∨ v'.ownBlock = some w.heap.size) : Grew w0 v v' := fun k hk => by
  rcases h with h | h
  · rw [h] at hk; exact .inl hk
  · rw [h] at hk; obtain rfl := Option.some.inj hk; exact .inr hs
theorem wpList_pushO (hg : o.guard = none) (hg2 : o2.guard = none) (d : Tmp) (hd : o.dst = some d) (y : Operand) (ho : o.op = .buildSlice E.st 1 #[(0, y)]) (s : Operand)
    (ho2 : o2.op = .call { callee := .builtin .append, args := #[s, .tmp d], argTypes := #[E.st, E.st] }) (x : α) (hy : a.eval y = E.val x) (hs : ∀ p, (a.put o.dst p).eval s = v) (hsz : d < a.tmps.size)
    (hown : Own E base w v l) (h63 : l.length + 1 ≤ 1099511627776 / 8) (hby : E.bytes ≤ 1000) (hbase : base ≤ w.heap.size)
    (h : ∀ u v' w', Own E base w' v' (l ++ [x]) → Pushed E base w w' v → Grew w v v' → wpList P ops Q rest ((a.put o.dst u).put o2.dst v') w') : wpList P ops Q (o :: o2 :: rest) a w := by
  refine wpList_val hg (v := .slice (some ⟨w.heap.size, 0, none⟩) 1 1) (w' := w.alloc (.cells (E.val x).cells E.ty)) (by simp [execOp, ho, hy, run_slice_one]) ?_
  have hb1 : Below w.heap.size w (w.alloc (.cells (E.val x).cells E.ty)) := (Below.refl _ _).alloc (Nat.le_refl _) _
  have hown1 := hown.below hb1
  obtain ⟨v', w', hrun, h2, h3, h4, _⟩ := run_append (ty := o2.type) hown1 _ [x] (slice_of_block (Blk.new w E.ty (E.val x).cells)) (by simpa using h63) hby (Nat.le_trans hbase hb1.size)
  have hp := pushed_of hown1 h3
  have hpu : Pushed E base w w' v := {
    below := fun B hB hs => (hb1.mono hs).trans (hp.below B hB (Nat.le_trans hs hb1.size))
    other := fun g hlt hne => (hp.other g (Nat.lt_of_lt_of_le hlt hb1.size) hne).trans (hb1.block g hlt)
    blk := fun g t cs fr hne hb => hp.blk g t cs fr hne (keep' hb1 hb)
    map := fun g es c hb => hp.map g es c (keep' hb1 hb)
    size := Nat.le_trans hb1.size hp.size }
  refine wpList_val hg2 (v := v') (w' := w') ?_ (h _ v' w' h2 hpu (grew_of hb1.size h4))
  have e2 : (a.put o.dst (.slice (some ⟨w.heap.size, 0, none⟩) 1 1)).eval (.tmp d) = .slice (some ⟨w.heap.size, 0, none⟩) 1 1 := by rw [hd]; simp [Act.put, Act.eval, hsz]
  simp [execOp, ho2, resolve, invoke, builtin, hs, e2, hrun]
theorem wpList_appendO (hg : o.guard = none) (s x : Operand) (ho : o.op = .call { callee := .builtin .append, args := #[s, x], argTypes := #[E.st, E.st] }) (vx : Value) (hs : a.eval s = v) (hx : a.eval x = vx) (m : List α)
    (hown : Own E base w v l) (hm : SliceOf E w vx m) (h63 : l.length + m.length ≤ 1099511627776 / 8) (hby : E.bytes ≤ 1000) (hbase : base ≤ w.heap.size)
    (h : ∀ v' w', Own E base w' v' (l ++ m) → Pushed E base w w' v → Grew w v v' → wpList P ops Q rest (a.put o.dst v') w') : wpList P ops Q (o :: rest) a w := by
  obtain ⟨v', w', hrun, h2, h3, h4, _⟩ := run_append (ty := o.type) hown _ m hm h63 hby hbase
  refine wpList_val hg (v := v') (w' := w') ?_ (h v' w' h2 (pushed_of hown h3) (grew_of (Nat.le_refl _) h4))
  simp [execOp, ho, resolve, invoke, builtin, hs, hx, hrun]
theorem Pushed.only {w' : World} (h : Pushed E base w w' v) : Only (fun k => v.ownBlock = some k) w w' where
  os := (h.below 0 (Nat.zero_le _) (Nat.zero_le _)).os
  tape := (h.below 0 (Nat.zero_le _) (Nat.zero_le _)).tape
  output := (h.below 0 (Nat.zero_le _) (Nat.zero_le _)).output
  size := h.size
  block := fun k hk hne => h.other k hk (fun e => hne e.symm)
/-- a step of what lies at g, of which the slice v grows -/
structure MkStep (g : Nat) (w w' : World) (v v' : Value) : Prop where
  only : Only (fun k => k = g ∨ v.ownBlock = some k) w w'
  grew : Grew w v v'
variable {g : Nat} {w1 w2 : World} {v1 v2 : Value}
theorem MkStep.refl (g : Nat) (w : World) (v : Value) : MkStep g w w v v := ⟨Only.refl _ _, Grew.refl _ _⟩
theorem MkStep.trans (h : MkStep g w w1 v v1) (k : MkStep g w1 w2 v1 v2) : MkStep g w w2 v v2 where
  only := h.only.trans k.only fun i hi hT => by
    rcases hT with rfl | hT
    · exact .inl rfl
    · rcases h.grew i hT with h | h
      · exact .inr h
      · omega
  grew := fun i hi => by
    rcases k.grew i hi with h1 | h1
    · exact h.grew i h1
    · exact .inr (Nat.le_trans h.only.size h1)
theorem MkStep.later (h : MkStep g w w1 v v1) (hb : Below w1.heap.size w1 w2) : MkStep g w w2 v v1 := ⟨h.only.trans (Only.of_below (S := fun _ => False) hb) (fun _ _ h => h.elim), h.grew⟩
theorem MkStep.of_below (hb : Below w.heap.size w w1) : MkStep g w w1 v v := ⟨(Only.of_below (S := fun _ => False) hb).mono (fun _ _ h => h.elim), Grew.refl _ _⟩
theorem MkStep.below (h : MkStep g w w1 v v1) (hg : g ≤ w.heap.size) (hv : ∀ k, v.ownBlock = some k → g ≤ k) : Below g w w1 := h.only.below hg fun i hi => by
  rcases hi with rfl | hi
  · exact Nat.le_refl _
  · exact hv i hi
/-- a slice that a maker does not touch -/
def Off {β : Type} (F : Elem P β) (g : Nat) (w : World) (mv x : Value) (l : List β) : Prop := SliceOf F w x l ∧ (l = [] ∨ ∀ k, x.ownBlock = some k → k < w.heap.size ∧ k ≠ g ∧ mv.ownBlock ≠ some k)
theorem SliceOf.nil_any {β : Type} {F : Elem P β} {x : Value} (h : SliceOf F w x []) (w' : World) : SliceOf F w' x [] := by
  rcases h with ⟨p, c, rfl, _⟩ | ⟨p, cap, rfl, _⟩
  · exact SliceOf.nil _ _ _
  · exact SliceOf.nil _ _ _
theorem Off.step {β : Type} {F : Elem P β} {x : Value} {l : List β} (h : Off F g w v x l) (k : MkStep g w w1 v v1) : Off F g w1 v1 x l := by
  obtain ⟨h1, rfl | h2⟩ := h
  · exact ⟨h1.nil_any _, .inl rfl⟩
  · refine ⟨h1.onlyS k.only fun b hb hS => ?_, .inr fun b hb => ?_⟩
    · obtain ⟨_, h3, h4⟩ := h2 b hb
      rcases hS with rfl | hS
      · exact h3 rfl
      · exact h4 hS
    · obtain ⟨h5, h3, h4⟩ := h2 b hb
      refine ⟨Nat.lt_of_lt_of_le h5 k.only.size, h3, fun e => ?_⟩
      rcases k.grew b e with h | h
      · exact h4 h
      · omega
theorem Off.slice {β : Type} {F : Elem P β} {x : Value} {l : List β} (h : Off F g w v x l) : SliceOf F w x l := h.1
/-- what was there before the maker -/
theorem Off.before {β : Type} {F : Elem P β} {w0 : World} {x : Value} {l : List β} (h : SliceOf F w0 x l) (hb : Below w0.heap.size w0 w) (hg : w0.heap.size ≤ g) (hv : ∀ k, v.ownBlock = some k → w0.heap.size ≤ k) : Off F g w v x l := by
  refine ⟨h.below hb, ?_⟩
  rcases h with ⟨_, _, _, rfl⟩ | ⟨p, cap, rfl, hp, _⟩
  · exact .inl rfl
  · refine .inr fun k hk => ?_
    obtain rfl : p.block = k := by simpa [Value.ownBlock] using hk
    have := hb.size
    exact ⟨by omega, by omega, fun e => by have := hv _ e; omega⟩
/-- what came behind the maker's last step -/
theorem Off.behind {β : Type} {F : Elem P β} {w0 : World} {x : Value} {l : List β} (h : SliceOf F w x l) (hx : ∀ k, x.ownBlock = some k → w0.heap.size ≤ k) (hg : g < w0.heap.size) (hv : ∀ k, v.ownBlock = some k → k < w0.heap.size) : Off F g w v x l := by
  refine ⟨h, ?_⟩
  rcases h with ⟨_, _, _, rfl⟩ | ⟨p, cap, rfl, hp, _⟩
  · exact .inl rfl
  · refine .inr fun k hk => ?_
    have hk' := hk
    obtain rfl : p.block = k := by simpa [Value.ownBlock] using hk
    have := hx _ hk'
    exact ⟨hp, by omega, fun e => by have := hv _ e; omega⟩
end
end Go.Agg
namespace Go.Proofs.Ytniibcgomnjfgaa
open Go.RowKit Pl Go.Agg
def mkC (v : Value) : Array Value := #[v, .bool false]
/-- a maker: its bytes so far -/
structure MkV (g : Nat) (w : World) (v : Value) (b : List UInt8) : Prop where
  blk : Blk w g 72 (mkC v)
  own : Own EB (g + 1) w v b
section
variable {g : Nat} {w w' : World} {v : Value} {b : List UInt8}
theorem MkV.load (h : MkV g w v b) : LoadsL Try.prog w 46 (some ⟨g, 0, none⟩) v :=
  h.blk.one (P := Try.prog) 0 rfl (by kernel_rfl : Try.prog.underlying 46 = some (.slice 5)) rfl
theorem MkV.bad (h : MkV g w v b) : LoadsL Try.prog w 4 (some ⟨g, 1, none⟩) (.bool false) :=
  h.blk.one (P := Try.prog) 1 rfl Try.underlying4 rfl
theorem MkV.below (h : MkV g w v b) (hb : Below w.heap.size w w') : MkV g w' v b := ⟨h.blk.below hb, h.own.below hb⟩
theorem MkV.ge (h : MkV g w v b) : ∀ k, v.ownBlock = some k → g ≤ k := fun k hk => by have := (h.own.block k hk).1; omega
theorem MkV.lt (h : MkV g w v b) : ∀ k, v.ownBlock = some k → k < w.heap.size := fun k hk => by
  obtain ⟨_, cur, hc⟩ := h.own.block k hk
  exact Agg.heap_lt hc
theorem MkV.put {w1 : World} {v1 : Value} {l : List UInt8} (h : MkV g w v b) (ho : Own EB (g + 1) w1 v1 l) (hp : Pushed EB (g + 1) w w1 v) (hgr : Grew w v v1) :
    ∃ w2, (Instr.storeAt 46 (.pointer (some ⟨g, 0, none⟩)) v1).run Try.prog w1 = .ok () w2 ∧ MkV g w2 v1 l ∧ MkStep g w w2 v v1 := by
  have h1 : Blk w1 g 72 (mkC v) := hp.blk g _ _ _ (by decide) h.blk
  obtain ⟨p, c, rfl⟩ := ho.slice.form
  refine ⟨_, h1.run_put 0 (by simp [mkC]) _ rfl rfl (by kernel_rfl), ⟨h1.set 0 _, ho.keep fun k cur t fr hk hb => ?_⟩, ⟨?_, hgr⟩⟩
  · rw [Below.heap_setCell _ _ _ _ (by show k ≠ g; omega)]; exact hb
  · refine (hp.only.mono fun _ _ h => .inr h).trans (T := fun k => k = g) ⟨rfl, rfl, rfl, by simp [World.setCell], fun k _ hk => Below.heap_setCell _ _ _ _ hk⟩ fun _ _ h => .inl h
theorem MkV.stepBelow {v1 : Value} (h : MkV g w v b) (hs : MkStep g w w' v v1) : Below g w w' := hs.below (Nat.le_of_lt h.blk.lt) h.ge
end
/-- numbers -/
def EI : Elem Try.prog Nat where
  ty := 3
  st := 92
  n := 1
  bytes := 8
  val := fun c => .int .i64 (c : Int)
  zero := .int .i64 0
  pos := by omega
  small := by omega
  size := fun x => rfl
  one := fun x v hv => by
    obtain rfl : v = .int .i64 (x : Int) := by simpa [Value.cells] using hv
    rfl
  zsize := rfl
  slice := by kernel_rfl
  info := info_of (by kernel_rfl) (by kernel_rfl) (by kernel_rfl)
  load := fun w a x hp h => LoadsL.of_cell (by have := h 0 _ rfl; rwa [show a.add 0 = a from rfl] at this) Try.underlying3 rfl
theorem ints_len {w : World} {v : Value} {l : List Nat} (h : SliceOf EI w v l) (W : World) : (Builtin.len_ #[92] 3 #[v]).run Try.prog W = .ok (.int .i64 (l.length : Int)) W := h.len W
theorem int_at {w : World} {v : Value} {l : List Nat} (h : SliceOf EI w v l) (k : Nat) (x : Nat) (hx : l[k]? = some x) :
    ∃ p : Addr, (∀ W, (Instr.indexAt 92 v (.int .i64 (k : Int))).run Try.prog W = .ok (.pointer (some p)) W) ∧ LoadsL Try.prog w 3 (some p) (.int .i64 (x : Int)) := by
  obtain ⟨p, h1, _, _, h4⟩ := h.at_ k x hx
  exact ⟨p, h1, h4⟩
end Go.Proofs.Ytniibcgomnjfgaa
/-! slices.Clone of what was made; real.owned. -/
namespace Go.Agg
open Go.RowKit
section
variable {P : Program} {α : Type} {E : Elem P α} {base : Nat} {w w' : World} {v : Value} {l : List α}
theorem Own.keepE (h : Own E base w v l) (hk : ∀ (g : Nat) (cur : Array Value) (fr : Nat × Nat), w.heap[g]? = some (Obj.cells cur E.ty fr) → w'.heap[g]? = some (Obj.cells cur E.ty fr)) : Own E base w' v l := by
  obtain ⟨hfl, h | ⟨g, cap, cur, hv, hb, hc, hr⟩⟩ := h
  · exact ⟨hfl, .inl h⟩
  · exact ⟨hfl, .inr ⟨g, cap, cur, hv, hb, hk g cur _ hc, hr⟩⟩
/-- a write into a block of another type -/
theorem Own.onlyT {g : Nat} {t : TypeId} {cs : Array Value} (h : Own E base w v l) (hb : w.heap[g]? = some (.cells cs t (0, 0))) (ht : t ≠ E.ty) (ho : ∀ k, k < w.heap.size → k ≠ g → w'.heap[k]? = w.heap[k]?) : Own E base w' v l :=
  h.keepE fun k cur fr hk => (ho k (heap_lt hk) fun e => by
    subst e
    rw [hb] at hk
    injection hk with hk
    injection hk with _ h2
    exact ht h2).trans hk
theorem Own.pushedT {α' : Type} {E' : Elem P α'} {b' : Nat} {u : Value} (h : Own E base w v l) (hp : Pushed E' b' w w' u) (ht : E.ty ≠ E'.ty) : Own E base w' v l := h.keepE fun g _ _ hg => hp.blk g _ _ _ ht hg
theorem Blk.onlyB {S : Nat → Prop} {g : Nat} {t : TypeId} {cs : Array Value} (h : Blk w g t cs) (ho : Only S w w') (hS : ¬ S g) : Blk w' g t cs := (ho.block g h.lt hS).trans h
end
end Go.Agg
namespace Go.Proofs.Ytniibcgomnjfgaa
open Go.RowKit Pl Go.Agg
theorem mnil_is (n c : Nat) (W : World) : (binOp .eql 33 (.slice none n c) (.slice none 0 0)).run Try.prog W = .ok (.bool true) W := by kernel_rfl
theorem mnil_not (a : Addr) (n c : Nat) (W : World) : (binOp .eql 33 (.slice (some a) n c) (.slice none 0 0)).run Try.prog W = .ok (.bool false) W := by kernel_rfl
set_option maxRecDepth 100000 in
set_option maxHeartbeats 1000000 in
theorem mclone_any (x : Value) (l : List Md) (w : World) (hl : l.length ≤ 1048576) (hx : SliceOf EMd w x l) :
    Calls Try.prog 53 #[x] w fun e w' => ∃ v', e = .returned v' ∧ Own EMd w.heap.size w' v' l ∧ Below w.heap.size w w' := by
  have HX := Lib.hid hx
  have h63 : ([] : List Md).length + l.length ≤ 1099511627776 / 8 := by simp; omega
  obtain ⟨q, c, rfl⟩ := hx.form
  cases q with
  | none =>
    have hl0 : l = [] := by
      rcases hx with ⟨_, _, _, h⟩ | ⟨a, cap, e, _⟩
      · exact h
      · injection e with e; cases e
    subst hl0
    have hnl := mnil_is 0 c
    clear hx
    go_enter Try.func53, Try.ntmps53
    go_wp2_with fail
    go_ret
    exact ⟨_, rfl, Own.nil _ _ _, Below.refl _ _⟩
  | some a =>
    have hnl := mnil_not a l.length c
    clear hx
    go_enter Try.func53, Try.ntmps53
    go_wp2_with (first | (refine Agg.wpList_slice0 (base := w.heap.size) EMd rfl rfl (Nat.le_refl _) ?_; intro v1 w1 ho1 hx1 _; have HO1 := Lib.hid ho1; have HX1 := Lib.hid (SliceOf.below HX.out hx1); have hsz := hx1.size; clear ho1) | (refine Agg.wpList_appendO (E := EMd) (base := w.heap.size) rfl _ _ rfl (.slice (some a) l.length c) rfl rfl l HO1.out HX1.out h63 (by decide) hsz ?_; intro v2 w2 ho2 hp2 _; have HO2 := Lib.hid ho2; have HP2 := Lib.hid (hx1.trans (hp2.below w.heap.size (Nat.le_refl _) hsz)); clear ho2 hp2))
    go_ret
    exact ⟨_, rfl, by simpa using HO2.out, HP2.out⟩
theorem bC_ins (x : BuV) (iv : IV) : (bC x).setIfInBounds 62 (ivV iv) = bC (x.1, iv) := by
  unfold bC
  rw [Array.setIfInBounds_append_right (by rw [hC_size, x.1.cl.2]; omega), hC_size, x.1.cl.2, Array.setIfInBounds_append_right (by rw [hC_size, x.1.ky.2]; omega), hC_size, x.1.ky.2, Array.setIfInBounds_append_right (by rw [pC_size, x.1.pa.2]; omega), pC_size, x.1.pa.2]
  rfl
theorem buB_ins {w : World} {b : Nat} {x : BuV} (h : Blk w b 35 (bC x)) (iv : IV) : ∃ w', (Instr.storeAt 33 (.pointer (some ⟨b, 62, none⟩)) (ivV iv)).run Try.prog w = .ok () w' ∧ Blk w' b 35 (bC (x.1, iv)) ∧ Only (· = b) w w' :=
  h.run_one 62 (by rw [bC_size]; omega) _ rfl rfl (by kernel_rfl) _ (bC_ins x iv)
set_option maxRecDepth 100000 in
set_option maxHeartbeats 4000000 in
theorem owned_any (x : BuV) (w : World) (hl : x.1.ins.length ≤ 1048576) (hi : InsAt w x) :
    Calls Try.prog 39 #[.agg (bC x)] w fun e w' => ∃ iv : IV, e = .returned (.agg (bC (x.1, iv))) ∧ Own EMd w.heap.size w' (ivV iv) x.1.ins ∧ Below w.heap.size w w' := by
  have HI := Lib.hid (show MdsAt w (ivV x.2) x.1.ins from hi)
  clear hi
  go_enter Try.func39, Try.ntmps39
  go_wp2_with (first | (with_reducible refine wpList_box rfl 35 _ rfl (bC x) rfl ?_; intro g1 w1 hb1 hx1 hg1; have HB1 := Lib.hid hb1; have HX1 := Lib.hid hx1; have HG1 := Lib.hid hg1; clear hb1 hx1 hg1) | (with_reducible refine wpList_zero rfl 35 rfl (bC (zB, none, 0, 0)) bC_zero ?_; intro g2 w2 hb2 hx2 hg2; have HB2 := Lib.hid hb2; have HB12 := Lib.hid (HB1.out.below hx2); have HL2 := Lib.hid (BuG.of_blk HB12.out); have HX2 := Lib.hid (Agg.belowThen HX1.out (Nat.le_refl _) hx2); have HG2 := Lib.hid (Nat.le_trans HX1.out.size hg2); have HNE := Lib.hid (show g2 ≠ g1 from fun e => by have := HB1.out.lt; omega); clear hb2 hx2 hg2) | (with_reducible refine wpList_loadL HL2.out.ins rfl _ rfl rfl ?_))
  refine (mclone_any _ x.1.ins w2 hl (HI.out.below HX2.out)).mono ?_
  rintro e w3 ⟨v3, rfl, ho3, hx3⟩
  obtain ⟨ip, ic, rfl⟩ := ho3.slice.form
  obtain ⟨w4, hr4, hb4, ho4⟩ := buB_ins (HB12.out.below hx3) (ip, x.1.ins.length, ic)
  have HO4 := Lib.hid (ho3.onlyT (HB12.out.below hx3) (by decide) (fun k h1 h2 => ho4.block k h1 h2))
  have HB24 := Lib.hid ((HB2.out.below hx3).onlyB ho4 HNE.out)
  have HL4 := Lib.hid (BuG.of_blk hb4)
  have HX3 := Lib.hid (Agg.belowThen HX2.out (Nat.le_refl _) hx3)
  have HX4 := Lib.hid (HX3.out.trans (ho4.below (B := w.heap.size) HX3.out.size (fun i hi => by subst hi; exact HG1.out)))
  have HR4 := Lib.hid (show (Instr.storeAt 33 (.pointer (some ⟨g1, 62, none⟩)) (.slice ip x.1.ins.length ic)).run Try.prog w3 = .ok () w4 from hr4)
  have HS2 := Lib.hid HX2.out.size
  clear ho3 hx3 hr4 hb4 ho4
  go_wp2_with (first | (with_reducible refine wpList_store rfl rfl 33 _ _ rfl (.pointer (some ⟨g1, 62, none⟩)) (.slice ip x.1.ins.length ic) rfl rfl HR4.out ?_) | (with_reducible refine wpList_loadL HL4.out.all rfl _ rfl rfl ?_) | ((with_reducible refine wpList_put rfl rfl 35 _ _ rfl g2 (bC (x.1, ip, x.1.ins.length, ic)) (bC (zB, none, 0, 0)) rfl rfl HB24.out (bC_info _) (by rw [bC_size, bC_size]) (bC_one _) ?_); intro w5 hb5 hx5 hs5 hk5; have HB5 := Lib.hid hb5; have HO5 := Lib.hid (HO4.out.onlyT HB24.out (by decide) (fun k _ h2 => hk5 k h2)); have HX5 := Lib.hid (HX4.out.trans (hx5.mono HG2.out)); clear hb5 hx5 hs5 hk5))
  exact post_row rfl rfl HB5.out bC_under rfl (bC_info _) rfl ⟨(ip, x.1.ins.length, ic), rfl, HO5.out.lower HS2.out, HX5.out⟩
end Go.Proofs.Ytniibcgomnjfgaa
/-! real.some, where all are asked for. -/
namespace Go.Proofs.Ytniibcgomnjfgaa
open Go.RowKit Pl Go.Agg
/-- builts in memory of the call's own, each with inputs of its own -/
structure OwnBus (base : Nat) (w : World) (v : Value) (l : List BuV) : Prop where
  row : Own EBu base w v l
  ins : ∀ x ∈ l, Own EMd base w (ivV x.2) x.1.ins
theorem OwnBus.at_ {base : Nat} {w : World} {v : Value} {l : List BuV} (h : OwnBus base w v l) : BusAt w v l := ⟨h.row.slice, fun x hx => (h.ins x hx).slice⟩
theorem OwnBus.below {base : Nat} {w w' : World} {v : Value} {l : List BuV} (h : OwnBus base w v l) (hb : Below w.heap.size w w') : OwnBus base w' v l := ⟨h.row.below hb, fun x hx => (h.ins x hx).below hb⟩
theorem OwnBus.nil (base : Nat) (w : World) : OwnBus base w (.slice none 0 0) [] := ⟨Own.nil _ _ _, by simp⟩
theorem OwnBus.push {base : Nat} {w w' : World} {v v' : Value} {l : List BuV} {x : BuV} (h : OwnBus base w v l) (hx : Own EMd base w (ivV x.2) x.1.ins) (hr : Own EBu base w' v' (l ++ [x])) (hp : Pushed EBu base w w' v) : OwnBus base w' v' (l ++ [x]) :=
  ⟨hr, fun y hy => by
    rcases List.mem_append.1 hy with hy | hy
    · exact (h.ins y hy).pushedT hp (by decide)
    · obtain rfl := List.mem_singleton.1 hy
      exact hx.pushedT hp (by decide)⟩
theorem addTrue_any (x : BuV) (w : World) : Calls Try.prog 37 #[.agg (bC x)] w fun e w' => e = .returned (.bool true) ∧ Below w.heap.size w w' := by
  go_enter Try.func37, Try.ntmps37
  go_wp2_with (first | (with_reducible refine wpList_box rfl 35 _ rfl (bC x) rfl ?_; intro g1 w1 hb1 hx1 hg1; have HX1 := Lib.hid hx1; clear hb1 hx1 hg1))
  go_ret
  exact ⟨rfl, HX1.out⟩
set_option maxRecDepth 100000 in
set_option maxHeartbeats 4000000 in
theorem someAll_any (v : Value) (l : List BuV) (hn : l.length ≤ 1048576) (hni : ∀ x ∈ l, x.1.ins.length ≤ 1048576) (w : World) (hs : BusAt w v l) :
    Calls Try.prog 26 #[v, .func (.func 37) #[] #[]] w fun e w' => ∃ v' lv, e = .returned v' ∧ OwnBus w.heap.size w' v' lv ∧ lv.map (·.1) = l.map (·.1) ∧ Below w.heap.size w w' := by
  have HS := Lib.hid hs
  have hlv := fun W => bus_len hs W
  clear hs
  go_enter Try.func26, Try.ntmps26
  go_wp2_with fail
  go_loopw [4, 9] (fun out i wr => ∃ (k : Nat) (lv : List BuV), k ≤ l.length ∧ i = .int .i64 k ∧ OwnBus w.heap.size wr out lv ∧ lv.map (·.1) = (l.take k).map (·.1) ∧ Below w.heap.size w wr) (fun _ i _ => l.length - (intOf i).toNat)
  case atStart => exact ⟨0, [], by omega, rfl, OwnBus.nil _ _, rfl, Below.refl _ _⟩
  case round =>
    obtain ⟨wr1, rfl⟩ : ∃ y : World, y = wr := ⟨_, rfl⟩
    obtain ⟨k, lv, hk, rfl, ho, hm, hw⟩ := hrel
    have hll : lv.length ≤ 1048576 := by have := congrArg List.length hm; simp at this; omega
    have HO := Lib.hid ho
    have HM := Lib.hid hm
    have HW := Lib.hid hw
    clear hm hw ho
    by_cases hlt : k < l.length
    · have hd : decide ((k : Int) < (l.length : Int)) = true := by simp; omega
      obtain ⟨x, hxk⟩ : ∃ x, l[k]? = some x := ⟨_, List.getElem?_eq_getElem hlt⟩
      obtain ⟨q, hadr, hq, hin⟩ := (HS.out.below HW.out).at_ k x hxk
      have HNI := Lib.hid (hni x (List.mem_of_getElem? hxk))
      have HQ := Lib.hid hq
      have HX := Lib.hid hxk
      have HI := Lib.hid hin
      clear hq hxk hin
      go_wp2_with (first | (with_reducible refine wpList_loadL HQ.out.all rfl _ rfl rfl ?_) | (refine wpList_new rfl rfl rfl 35 6 12 rfl rfl rfl (by decide) (bC (zB, none, 0, 0)) (bC x) bC_zero (by rw [bC_size, bC_size]) (bC_info x) (bC_one x) rfl (by simp [Act.put]) ?_; intro g2 w2 hb2 hx2 hg2; have HL2 := Lib.hid (BuG.of_blk hb2); have HX2 := Lib.hid hx2; clear hb2 hx2 hg2) | (with_reducible refine wpList_loadL HL2.out.all rfl _ rfl rfl ?_))
      refine (addTrue_any x _).mono ?_
      rintro e w3 ⟨rfl, hx3⟩
      have HL3 := Lib.hid (HL2.out.below hx3)
      have HX3 := Lib.hid (Agg.belowThen HX2.out (Nat.le_refl _) hx3)
      clear hx3
      go_wp2_with (first | (with_reducible refine wpList_loadL HL3.out.all rfl _ rfl rfl ?_))
      refine (owned_any x w3 HNI.out (HI.out.below HX3.out)).mono ?_
      rintro e w4 ⟨iv, rfl, ho4, hx4⟩
      have hX4 := Agg.belowThen HX3.out (Nat.le_refl _) hx4
      have hW4 := Agg.belowThen HW.out (Nat.le_refl _) hX4
      have HO4 := Lib.hid (HO.out.below hX4)
      have HN4 := Lib.hid (ho4.lower (Agg.belowThen HW.out (Nat.le_refl _) HX3.out).size)
      have HW4 := Lib.hid hW4
      clear ho4 hx4 hX4 hW4
      go_wp2_with (first | (refine wpList_push (E := EBu) (base := w.heap.size) rfl rfl 19 rfl _ rfl _ rfl (x.1, iv) rfl (fun _ => rfl) (by simp) HO4.out.row (by omega) (by decide) HW4.out.size ?_; intro u5 v5 w5 ho5 hp5; have HO5 := Lib.hid (HO4.out.push (x := (x.1, iv)) HN4.out ho5 hp5); have HW5 := Lib.hid (HW4.out.trans (hp5.below w.heap.size (Nat.le_refl _) HW4.out.size)); clear ho5 hp5))
      go_roundw
      case rel => exact ⟨k + 1, lv ++ [(x.1, iv)], by omega, by go_num, HO5.out, by rw [List.take_add_one, HX.out]; simp [HM.out], HW5.out⟩
      case measure => simp [intOf]; omega
    · obtain rfl : k = l.length := by omega
      go_wp2_with fail
      go_ret
      exact ⟨_, rfl, lv, HO.out, by rw [HM.out, List.take_length], HW.out⟩
end Go.Proofs.Ytniibcgomnjfgaa
/-! '==' of what was made, of hashes, of paths; slices.Equal, spencekit.SameMades, SameBuilt, SameBuilts. -/
namespace Go.Proofs.Ytniibcgomnjfgaa
open Go.RowKit Pl Go.Agg
theorem eqlInP (d : Nat) (p q : P20) (w : World) : (Op.equalIn (d + 3) 32 (.agg (pC p.1.1 p.1.2)) (.agg (pC q.1.1 q.1.2))).run Try.prog w = .ok (decide (p = q)) w := by
  rw [run_equalIn_struct w (d + 2) 32 _ _ pC_under (by kernel_rfl)]
  have hf := path_fields
  generalize (Try.prog.fieldsOf 32).toList = fs at hf ⊢
  cases fs with
  | nil => exact absurd hf (by simp)
  | cons f1 fs =>
  cases fs with
  | nil => exact absurd hf (by simp)
  | cons f2 fs =>
  cases fs with
  | cons f3 fs => exact absurd hf (by simp)
  | nil =>
    simp only [List.map_cons, List.map_nil, List.cons.injEq, Prod.mk.injEq, and_true] at hf
    obtain ⟨⟨a1, a2, a3⟩, b1, b2, b3⟩ := hf
    have e : decide (p = q) = (p.1.1 == q.1.1 && p.1.2 == q.1.2) := by
      rw [Bool.eq_iff_iff]
      simp [Subtype.ext_iff, Prod.ext_iff]
    rw [e]
    simp only [Op.eqFields, a1, a2, a3, b1, b2, b3, Sem.run_bind, Sem.run_ite, part_hash _ _ p.2, part_hash _ _ q.2, part_name _ _ p.2, part_name _ _ q.2, Result.andThen_ok, eqlIn_hash d _ _ p.2 q.2, run_equalIn_string w (d + 1) 9 _ _ Try.underlying9, Agg.bytes_toList]
    cases p.1.1 == q.1.1 <;> cases p.1.2 == q.1.2 <;> simp
theorem partAgg {ty : TypeId} {n : Nat} (ha : ∀ w, (isAgg ty).run Try.prog w = .ok true w) (hs : ∀ w, (sizeOf ty).run Try.prog w = .ok n w) (cs ds : Array Value) (off : Nat) (hn : ds.size = n) (h : ∀ j v, ds[j]? = some v → cs[off + j]? = some v) (w : World) :
    (Go.part ty cs off).run Try.prog w = .ok (.agg ds) w := by
  unfold Go.part
  simp only [Sem.run_bind, ha, Result.andThen_ok, if_true, hs, Sem.run_pure]
  congr 2
  apply Array.ext_getElem?
  intro j
  by_cases hj : j < n
  · have h1 : ds[j]? = some (ds[j]'(by omega)) := Array.getElem?_eq_getElem _
    have h2 := h j _ h1
    have h3 := (Array.getElem?_eq_some_iff.1 h2).1
    rw [h1, Array.getElem?_extract]
    rw [if_pos (by omega)]
    exact h2
  · rw [Array.getElem?_eq_none (xs := ds) (by omega), Array.getElem?_eq_none (by simp; omega)]
theorem made_fields : (Try.prog.fieldsOf 55).toList.map (fun f => (f.name, f.type, f.offset)) = [("Class", 30, 0), ("Path", 32, 20)] := by kernel_rfl
theorem isAggP (w : World) : (isAgg 32).run Try.prog w = .ok true w := by kernel_rfl
theorem sizeP (w : World) : (sizeOf 32).run Try.prog w = .ok 21 w := by kernel_rfl
theorem part_mcl (x : Md) (w : World) : (Go.part 30 (mC x) 0).run Try.prog w = .ok (.agg (hC x.1.1)) w := partAgg isAgg_hash size_hash _ _ 0 (by rw [hC_size, x.1.2]) (mC_cl x) w
theorem part_mpa (x : Md) (w : World) : (Go.part 32 (mC x) 20).run Try.prog w = .ok (.agg (pC x.2.1.1 x.2.1.2)) w := partAgg isAggP sizeP _ _ 20 (by rw [pC_size, x.2.2]) (mC_pa x) w
theorem eqlInM (d : Nat) (x y : Md) (w : World) : (Op.equalIn (d + 4) 55 (.agg (mC x)) (.agg (mC y))).run Try.prog w = .ok (decide (x = y)) w := by
  rw [run_equalIn_struct w (d + 3) 55 _ _ mC_under (by kernel_rfl)]
  have hf := made_fields
  generalize (Try.prog.fieldsOf 55).toList = fs at hf ⊢
  cases fs with
  | nil => exact absurd hf (by simp)
  | cons f1 fs =>
  cases fs with
  | nil => exact absurd hf (by simp)
  | cons f2 fs =>
  cases fs with
  | cons f3 fs => exact absurd hf (by simp)
  | nil =>
    simp only [List.map_cons, List.map_nil, List.cons.injEq, Prod.mk.injEq, and_true] at hf
    obtain ⟨⟨a1, a2, a3⟩, b1, b2, b3⟩ := hf
    have e : decide (x = y) = (x.1.1 == y.1.1 && decide (x.2 = y.2)) := by
      rw [Bool.eq_iff_iff]
      simp [Subtype.ext_iff, Prod.ext_iff]
    rw [e]
    simp only [Op.eqFields, a1, a2, a3, b1, b2, b3, Sem.run_bind, Sem.run_ite, part_mcl, part_mpa, Result.andThen_ok, eqlIn_hash (d + 1) _ _ x.1.2 y.1.2, eqlInP d]
    cases x.1.1 == y.1.1 <;> cases decide (x.2 = y.2) <;> simp
theorem neqM (x y : Md) (w : World) : (binOp .neq 55 (.agg (mC x)) (.agg (mC y))).run Try.prog w = .ok (.bool (!decide (x = y))) w := by rw [run_neq_struct, eqlInM 9996]; rfl
theorem eqlHB (x y : H20) (w : World) : (binOp .eql 30 (.agg (hC x.1)) (.agg (hC y.1))).run Try.prog w = .ok (.bool (decide (x = y))) w := by
  rw [eql_hash _ _ x.2 y.2]
  congr 2
  rw [Bool.eq_iff_iff]; simp [Subtype.ext_iff]
theorem eqlPB (x y : P20) (w : World) : (binOp .eql 32 (.agg (pC x.1.1 x.1.2)) (.agg (pC y.1.1 y.1.2))).run Try.prog w = .ok (.bool (decide (x = y))) w := by rw [run_eql_struct, eqlInP 9997]; rfl
theorem neqPB (x y : P20) (w : World) : (binOp .neq 32 (.agg (pC x.1.1 x.1.2)) (.agg (pC y.1.1 y.1.2))).run Try.prog w = .ok (.bool (!decide (x = y))) w := by rw [run_neq_struct, eqlInP 9997]; rfl
/-- alike up to a place -/
def AlikeU {α : Type} (l m : List α) (k : Nat) : Prop := ∀ (j : Nat), j < k → l[j]? = m[j]?
theorem alikeU_all {α : Type} {l m : List α} (hl : l.length = m.length) (h : AlikeU l m l.length) : l = m := by
  refine List.ext_getElem? fun j => ?_
  by_cases hj : j < l.length
  · exact h j hj
  · rw [List.getElem?_eq_none (by omega), List.getElem?_eq_none (by omega)]
theorem alikeU_succ {α : Type} {l m : List α} {k : Nat} (h : AlikeU l m k) (hk : l[k]? = m[k]?) : AlikeU l m (k + 1) := fun j hj => by
  by_cases e : j = k
  · subst e; exact hk
  · exact h j (by omega)
set_option maxRecDepth 100000 in
set_option maxHeartbeats 4000000 in
theorem mEqual_any (v u : Value) (l m : List Md) (hl : l.length ≤ 1048576) (w : World) (hs : MdsAt w v l) (ht : MdsAt w u m) :
    Calls Try.prog 40 #[v, u] w fun e w' => e = .returned (.bool (decide (l = m))) ∧ Below w.heap.size w w' := by
  have HS := Lib.hid hs
  have HT := Lib.hid ht
  have hlv := fun W => mds_len hs W
  have hlu := fun W => mds_len ht W
  clear hs ht
  by_cases hlm : l.length = m.length
  · have hd0 : ((l.length : Int) != (m.length : Int)) = false := by simp; omega
    go_enter Try.func40, Try.ntmps40
    go_wp2_with fail
    go_loopw [13] (fun i wr => ∃ k : Nat, k ≤ l.length ∧ i = .int .i64 (k : Int) ∧ AlikeU l m k ∧ Below w.heap.size w wr) (fun i _ => l.length - (intOf i).toNat)
    case atStart => exact ⟨0, by omega, rfl, fun j hj => absurd hj (by omega), Below.refl _ _⟩
    case round =>
      obtain ⟨wr1, rfl⟩ : ∃ y : World, y = wr := ⟨_, rfl⟩
      obtain ⟨k, hk, rfl, ha, hw⟩ := hrel
      have HA := Lib.hid ha
      have HW := Lib.hid hw
      clear ha hw
      by_cases hlt : k < l.length
      · have hd : decide ((k : Int) < (l.length : Int)) = true := by simp; omega
        obtain ⟨x, hxk⟩ : ∃ x, l[k]? = some x := ⟨_, List.getElem?_eq_getElem hlt⟩
        obtain ⟨y, hyk⟩ : ∃ y, m[k]? = some y := ⟨_, List.getElem?_eq_getElem (by omega)⟩
        obtain ⟨q, hadr, hq⟩ := mds_at (HS.out.below HW.out) k x hxk
        obtain ⟨q2, hadr2, hq2⟩ := mds_at (HT.out.below HW.out) k y hyk
        have HQ := Lib.hid hq
        have HQ2 := Lib.hid hq2
        have HX := Lib.hid hxk
        have HY := Lib.hid hyk
        clear hq hq2 hxk hyk
        obtain ⟨e, he⟩ : ∃ e, decide (x = y) = e := ⟨_, rfl⟩
        have HN := Lib.hid (fun W => (show (binOp .neq 55 (.agg (mC x)) (.agg (mC y))).run Try.prog W = .ok (.bool (!e)) W by rw [neqM, he]))
        have HE := Lib.hid he
        clear he
        cases e with
        | false =>
          go_wp2_with fail
          try simp only [Act.put, List.setIfInBounds_toArray, List.set_cons_succ, List.set_cons_zero]
          refine Agg.wp_region_later_lit (by kernel_rfl) (by kernel_rfl) ?_
          repeat (first | go_big_quiet_skip | ((first | (with_reducible refine Agg.wpQuiet_loadL HQ.out.all rfl _ rfl rfl ?_) | (with_reducible refine Agg.wpQuiet_loadL HQ2.out.all rfl _ rfl rfl ?_) | (with_reducible refine Agg.wpQuiet_neq 55 55 _ _ rfl rfl (mC x) (mC y) rfl rfl _ (by kernel_rfl) HN.out ?_)); simp only [Act.put, List.setIfInBounds_toArray, List.set_cons_succ, List.set_cons_zero]) | go_big_quiet_step (fail))
          refine wpQuiet_nil ?_
          intro _ hw'
          obtain ⟨x4, rfl⟩ := hw'
          go_wp2_with fail
          go_ret
          refine ⟨ret_bool (Eq.symm (decide_eq_false fun e => ?_)), Agg.belowThen HW.out (Nat.le_refl _) x4.h⟩
          subst e
          have h1 := HX.out
          rw [HY.out] at h1
          exact of_decide_eq_false HE.out (Option.some.inj h1).symm
        | true =>
          go_wp2_with fail
          try simp only [Act.put, List.setIfInBounds_toArray, List.set_cons_succ, List.set_cons_zero]
          refine Agg.wp_region_later_lit (by kernel_rfl) (by kernel_rfl) ?_
          repeat (first | go_big_quiet_skip | ((first | (with_reducible refine Agg.wpQuiet_loadL HQ.out.all rfl _ rfl rfl ?_) | (with_reducible refine Agg.wpQuiet_loadL HQ2.out.all rfl _ rfl rfl ?_) | (with_reducible refine Agg.wpQuiet_neq 55 55 _ _ rfl rfl (mC x) (mC y) rfl rfl _ (by kernel_rfl) HN.out ?_)); simp only [Act.put, List.setIfInBounds_toArray, List.set_cons_succ, List.set_cons_zero]) | go_big_quiet_step (fail))
          refine wpQuiet_nil ?_
          intro _ hw'
          obtain ⟨x4, rfl⟩ := hw'
          go_wp2_with fail
          go_roundw
          case rel => exact ⟨k + 1, by omega, by go_num, alikeU_succ HA.out (by rw [HX.out, HY.out, of_decide_eq_true HE.out]), Agg.belowThen HW.out (Nat.le_refl _) x4.h⟩
          case measure => simp [intOf]; omega
      · obtain rfl : k = l.length := by omega
        go_wp2_with fail
        go_ret
        exact ⟨ret_bool (Eq.symm (decide_eq_true (alikeU_all hlm HA.out))), HW.out⟩
  · have hd0 : ((l.length : Int) != (m.length : Int)) = true := by simp; omega
    go_enter Try.func40, Try.ntmps40
    go_wp2_with fail
    go_ret
    exact ⟨ret_bool (Eq.symm (decide_eq_false fun e => hlm (by rw [e]))), Below.refl _ _⟩
set_option maxRecDepth 100000 in
set_option maxHeartbeats 4000000 in
theorem sameMades_any (v u : Value) (l m : List Md) (hl : l.length ≤ 1048576) (w : World) (hs : MdsAt w v l) (ht : MdsAt w u m) :
    Calls Try.prog 25 #[v, u] w fun e w' => e = .returned (.bool (decide (l = m))) ∧ Below w.heap.size w w' := by
  have HS := Lib.hid hs
  have HT := Lib.hid ht
  have hlv := fun W => mds_len hs W
  have hlu := fun W => mds_len ht W
  clear hs ht
  by_cases hlm : l.length = m.length
  · have hd0 : ((l.length : Int) != (m.length : Int)) = false := by simp; omega
    go_enter Try.func25, Try.ntmps25
    go_wp2_with fail
    go_loopw [5] (fun i wr => ∃ k : Nat, k ≤ l.length ∧ i = .int .i64 (k : Int) ∧ AlikeU l m k ∧ Below w.heap.size w wr) (fun i _ => l.length - (intOf i).toNat)
    case atStart => exact ⟨0, by omega, rfl, fun j hj => absurd hj (by omega), Below.refl _ _⟩
    case round =>
      obtain ⟨wr1, rfl⟩ : ∃ y : World, y = wr := ⟨_, rfl⟩
      obtain ⟨k, hk, rfl, ha, hw⟩ := hrel
      have HA := Lib.hid ha
      have HW := Lib.hid hw
      clear ha hw
      by_cases hlt : k < l.length
      · have hd : decide ((k : Int) < (l.length : Int)) = true := by simp; omega
        obtain ⟨x, hxk⟩ : ∃ x, l[k]? = some x := ⟨_, List.getElem?_eq_getElem hlt⟩
        obtain ⟨y, hyk⟩ : ∃ y, m[k]? = some y := ⟨_, List.getElem?_eq_getElem (by omega)⟩
        obtain ⟨q, hadr, hq⟩ := mds_at (HS.out.below HW.out) k x hxk
        obtain ⟨q2, hadr2, hq2⟩ := mds_at (HT.out.below HW.out) k y hyk
        have HQ := Lib.hid hq
        have HQ2 := Lib.hid hq2
        have HX := Lib.hid hxk
        have HY := Lib.hid hyk
        clear hq hq2 hxk hyk
        obtain ⟨e, he⟩ : ∃ e, decide (x = y) = e := ⟨_, rfl⟩
        have HN := Lib.hid (fun W => (show (binOp .neq 55 (.agg (mC x)) (.agg (mC y))).run Try.prog W = .ok (.bool (!e)) W by rw [neqM, he]))
        have HE := Lib.hid he
        clear he
        cases e with
        | false =>
          go_wp2_with fail
          try simp only [Act.put, List.setIfInBounds_toArray, List.set_cons_succ, List.set_cons_zero]
          refine Agg.wp_region_later_lit (by kernel_rfl) (by kernel_rfl) ?_
          repeat (first | go_big_quiet_skip | ((first | (with_reducible refine Agg.wpQuiet_loadL HQ.out.all rfl _ rfl rfl ?_) | (with_reducible refine Agg.wpQuiet_loadL HQ2.out.all rfl _ rfl rfl ?_) | (with_reducible refine Agg.wpQuiet_neq 55 55 _ _ rfl rfl (mC x) (mC y) rfl rfl _ (by kernel_rfl) HN.out ?_)); simp only [Act.put, List.setIfInBounds_toArray, List.set_cons_succ, List.set_cons_zero]) | go_big_quiet_step (fail))
          refine wpQuiet_nil ?_
          intro _ hw'
          obtain ⟨x4, rfl⟩ := hw'
          go_wp2_with fail
          go_ret
          refine ⟨ret_bool (Eq.symm (decide_eq_false fun e => ?_)), Agg.belowThen HW.out (Nat.le_refl _) x4.h⟩
          subst e
          have h1 := HX.out
          rw [HY.out] at h1
          exact of_decide_eq_false HE.out (Option.some.inj h1).symm
        | true =>
          go_wp2_with fail
          try simp only [Act.put, List.setIfInBounds_toArray, List.set_cons_succ, List.set_cons_zero]
          refine Agg.wp_region_later_lit (by kernel_rfl) (by kernel_rfl) ?_
          repeat (first | go_big_quiet_skip | ((first | (with_reducible refine Agg.wpQuiet_loadL HQ.out.all rfl _ rfl rfl ?_) | (with_reducible refine Agg.wpQuiet_loadL HQ2.out.all rfl _ rfl rfl ?_) | (with_reducible refine Agg.wpQuiet_neq 55 55 _ _ rfl rfl (mC x) (mC y) rfl rfl _ (by kernel_rfl) HN.out ?_)); simp only [Act.put, List.setIfInBounds_toArray, List.set_cons_succ, List.set_cons_zero]) | go_big_quiet_step (fail))
          refine wpQuiet_nil ?_
          intro _ hw'
          obtain ⟨x4, rfl⟩ := hw'
          go_wp2_with fail
          go_roundw
          case rel => exact ⟨k + 1, by omega, by go_num, alikeU_succ HA.out (by rw [HX.out, HY.out, of_decide_eq_true HE.out]), Agg.belowThen HW.out (Nat.le_refl _) x4.h⟩
          case measure => simp [intOf]; omega
      · obtain rfl : k = l.length := by omega
        go_wp2_with fail
        go_ret
        exact ⟨ret_bool (Eq.symm (decide_eq_true (alikeU_all hlm HA.out))), HW.out⟩
  · have hd0 : ((l.length : Int) != (m.length : Int)) = true := by simp; omega
    go_enter Try.func25, Try.ntmps25
    go_wp2_with fail
    go_ret
    exact ⟨ret_bool (Eq.symm (decide_eq_false fun e => hlm (by rw [e]))), Below.refl _ _⟩

end Go.Proofs.Ytniibcgomnjfgaa
