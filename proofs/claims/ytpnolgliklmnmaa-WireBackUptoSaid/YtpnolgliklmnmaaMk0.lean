/- code.Maker's block; what a step of a maker leaves alone. -/
import Derived.Test.YtpnolgliklmnmaaMark
import Derived.Test.YtpnolgliklmnmaaFrames
import Derived.Test.YtpnolgliklmnmaaPut1
namespace Go.Agg
open Go.RowKit
theorem encN_len' : ∀ (m n : Nat), 0 < m → n < 128 ^ m → (encN n).length ≤ m := by
  intro m
  induction m with
  | zero => intro n h; omega
  | succ m ih =>
    intro n _ hn
    by_cases h : n < 128
    · rw [encN_lt h]; simp
    · rw [encN_ge (by omega), List.length_cons]
      have hm : 0 < m := by
        rcases Nat.eq_zero_or_pos m with h0 | h0
        · subst h0; simp at hn; omega
        · exact h0
      have := ih (n / 128) hm (by rw [Nat.pow_succ] at hn; exact Nat.div_lt_of_lt_mul (by rw [Nat.mul_comm]; exact hn))
      omega
theorem encN_len {n : Nat} (h : n ≤ 1099511627776) : (encN n).length ≤ 6 := encN_len' 6 n (by omega) (by omega)
section
variable {P : Program} {α : Type} {E : Elem P α} {ops : Array Oper} {rest : List Oper} {o o2 : Oper} {a : Act} {w : World} {Q : Exit → Act → World → Prop} {base : Nat} {v : Value} {l : List α}
/-- where a grown slice lies -/
def Grew (w : World) (v v' : Value) : Prop := ∀ k, v'.ownBlock = some k → v.ownBlock = some k ∨ w.heap.size ≤ k
theorem Grew.refl (w : World) (v : Value) : Grew w v v := fun _ h => .inl h
theorem grew_of {w0 w : World} {v v' : Value} (hs : w0.heap.size ≤ w.heap.size) (h : v'.ownBlock = v.ownBlock ∨ v'.ownBlock = some w.heap.size) : Grew w0 v v' := fun k hk => by
  rcases h with h | h
  · rw [h] at hk; exact .inl hk
  · rw [h] at hk; obtain rfl := Option.some.inj hk; exact .inr hs
theorem wpList_pushO (hg : o.guard = none) (hg2 : o2.guard = none) (d : Tmp) (hd : o.dst = some d) (y : Operand) (ho : o.op = .buildSlice E.st 1 #[(0, y)]) (s : Operand)
    (ho2 : o2.op = .call { callee := .builtin .append, args := #[s, .tmp d], argTypes := #[E.st, E.st] }) (x : α) (hy : a.eval y = E.val x) (hs : ∀ p, (a.put o.dst p).eval s = v) (hsz : d < a.tmps.size)
    (hown : Own E base w v l) (h63 : l.length + 1 ≤ 1099511627776 / 8) (hby : E.bytes ≤ 1000) (hbase : base ≤ w.heap.size)
    (h : ∀ u v' w', Own E base w' v' (l ++ [x]) → Pushed E base w w' v → Grew w v v' → wpList P ops Q rest ((a.put o.dst u).put o2.dst v') w') : wpList P ops Q (o :: o2 :: rest) a w := by
  refine wpList_val hg (v := .slice (some ⟨w.heap.size, 0, none⟩) 1 1) (w' := w.alloc (.cells (E.val x).cells E.ty)) (by simp [execOp, ho, hy, run_slice_one]) ?_
  have hb1 : Below w.heap.size w (w.alloc (.cells (E.val x).cells E.ty)) := (Below.refl _ _).alloc (Nat.le_refl _) _
  have hown1 := hown.below hb1
  obtain ⟨v', w', hrun, h2, h3, h4, _⟩ := run_append (ty := o2.type) hown1 _ [x] (slice_of_block (Blk.new w E.ty (E.val x).cells)) (by simpa using h63) hby (Nat.le_trans hbase hb1.size)
  have hp := pushed_of hown1 h3
  have hpu : Pushed E base w w' v := {
    below := fun B hB hs => (hb1.mono hs).trans (hp.below B hB (Nat.le_trans hs hb1.size))
    other := fun g hlt hne => (hp.other g (Nat.lt_of_lt_of_le hlt hb1.size) hne).trans (hb1.block g hlt)
    blk := fun g t cs fr hne hb => hp.blk g t cs fr hne (keep' hb1 hb)
    map := fun g es c hb => hp.map g es c (keep' hb1 hb)
    size := Nat.le_trans hb1.size hp.size }
  refine wpList_val hg2 (v := v') (w' := w') ?_ (h _ v' w' h2 hpu (grew_of hb1.size h4))
  have e2 : (a.put o.dst (.slice (some ⟨w.heap.size, 0, none⟩) 1 1)).eval (.tmp d) = .slice (some ⟨w.heap.size, 0, none⟩) 1 1 := by rw [hd]; simp [Act.put, Act.eval, hsz]
  simp [execOp, ho2, resolve, invoke, builtin, hs, e2, hrun]
theorem wpList_appendO (hg : o.guard = none) (s x : Operand) (ho : o.op = .call { callee := .builtin .append, args := #[s, x], argTypes := #[E.st, E.st] }) (vx : Value) (hs : a.eval s = v) (hx : a.eval x = vx) (m : List α)
    (hown : Own E base w v l) (hm : SliceOf E w vx m) (h63 : l.length + m.length ≤ 1099511627776 / 8) (hby : E.bytes ≤ 1000) (hbase : base ≤ w.heap.size)
    (h : ∀ v' w', Own E base w' v' (l ++ m) → Pushed E base w w' v → Grew w v v' → wpList P ops Q rest (a.put o.dst v') w') : wpList P ops Q (o :: rest) a w := by
  obtain ⟨v', w', hrun, h2, h3, h4, _⟩ := run_append (ty := o.type) hown _ m hm h63 hby hbase
  refine wpList_val hg (v := v') (w' := w') ?_ (h v' w' h2 (pushed_of hown h3) (grew_of (Nat.le_refl _) h4))
  simp [execOp, ho, resolve, invoke, builtin, hs, hx, hrun]
theorem Pushed.only {w' : World} (h : Pushed E base w w' v) : Only (fun k => v.ownBlock = some k) w w' where
  os := (h.below 0 (Nat.zero_le _) (Nat.zero_le _)).os
  tape := (h.below 0 (Nat.zero_le _) (Nat.zero_le _)).tape
  output := (h.below 0 (Nat.zero_le _) (Nat.zero_le _)).output
  size := h.size
  block := fun k hk hne => h.other k hk (fun e => hne e.symm)
/-- a step of what lies at g, of which the slice v grows -/
structure MkStep (g : Nat) (w w' : World) (v v' : Value) : Prop where
  only : Only (fun k => k = g ∨ v.ownBlock = some k) w w'
  grew : Grew w v v'
variable {g : Nat} {w1 w2 : World} {v1 v2 : Value}
theorem MkStep.refl (g : Nat) (w : World) (v : Value) : MkStep g w w v v := ⟨Only.refl _ _, Grew.refl _ _⟩
theorem MkStep.trans (h : MkStep g w w1 v v1) (k : MkStep g w1 w2 v1 v2) : MkStep g w w2 v v2 where
  only := h.only.trans k.only fun i hi hT => by
    rcases hT with rfl | hT
    · exact .inl rfl
    · rcases h.grew i hT with h | h
      · exact .inr h
      · omega
  grew := fun i hi => by
    rcases k.grew i hi with h1 | h1
    · exact h.grew i h1
    · exact .inr (Nat.le_trans h.only.size h1)
theorem MkStep.later (h : MkStep g w w1 v v1) (hb : Below w1.heap.size w1 w2) : MkStep g w w2 v v1 := ⟨h.only.trans (Only.of_below (S := fun _ => False) hb) (fun _ _ h => h.elim), h.grew⟩
theorem MkStep.of_below (hb : Below w.heap.size w w1) : MkStep g w w1 v v := ⟨(Only.of_below (S := fun _ => False) hb).mono (fun _ _ h => h.elim), Grew.refl _ _⟩
theorem MkStep.below (h : MkStep g w w1 v v1) (hg : g ≤ w.heap.size) (hv : ∀ k, v.ownBlock = some k → g ≤ k) : Below g w w1 := h.only.below hg fun i hi => by
  rcases hi with rfl | hi
  · exact Nat.le_refl _
  · exact hv i hi
/-- a slice that a maker does not touch -/
def Off {β : Type} (F : Elem P β) (g : Nat) (w : World) (mv x : Value) (l : List β) : Prop := SliceOf F w x l ∧ (l = [] ∨ ∀ k, x.ownBlock = some k → k < w.heap.size ∧ k ≠ g ∧ mv.ownBlock ≠ some k)
theorem SliceOf.nil_any {β : Type} {F : Elem P β} {x : Value} (h : SliceOf F w x []) (w' : World) : SliceOf F w' x [] := by
  rcases h with ⟨p, c, rfl, _⟩ | ⟨p, cap, rfl, _⟩
  · exact SliceOf.nil _ _ _
  · exact SliceOf.nil _ _ _
theorem Off.step {β : Type} {F : Elem P β} {x : Value} {l : List β} (h : Off F g w v x l) (k : MkStep g w w1 v v1) : Off F g w1 v1 x l := by
  obtain ⟨h1, rfl | h2⟩ := h
  · exact ⟨h1.nil_any _, .inl rfl⟩
  · refine ⟨h1.onlyS k.only fun b hb hS => ?_, .inr fun b hb => ?_⟩
    · obtain ⟨_, h3, h4⟩ := h2 b hb
      rcases hS with rfl | hS
      · exact h3 rfl
      · exact h4 hS
    · obtain ⟨h5, h3, h4⟩ := h2 b hb
      refine ⟨Nat.lt_of_lt_of_le h5 k.only.size, h3, fun e => ?_⟩
      rcases k.grew b e with h | h
      · exact h4 h
      · omega
theorem Off.slice {β : Type} {F : Elem P β} {x : Value} {l : List β} (h : Off F g w v x l) : SliceOf F w x l := h.1
/-- what was there before the maker -/
theorem Off.before {β : Type} {F : Elem P β} {w0 : World} {x : Value} {l : List β} (h : SliceOf F w0 x l) (hb : Below w0.heap.size w0 w) (hg : w0.heap.size ≤ g) (hv : ∀ k, v.ownBlock = some k → w0.heap.size ≤ k) : Off F g w v x l := by
  refine ⟨h.below hb, ?_⟩
  rcases h with ⟨_, _, _, rfl⟩ | ⟨p, cap, rfl, hp, _⟩
  · exact .inl rfl
  · refine .inr fun k hk => ?_
    obtain rfl : p.block = k := by simpa [Value.ownBlock] using hk
    have := hb.size
    exact ⟨by omega, by omega, fun e => by have := hv _ e; omega⟩
/-- what came behind the maker's last step -/
theorem Off.behind {β : Type} {F : Elem P β} {w0 : World} {x : Value} {l : List β} (h : SliceOf F w x l) (hx : ∀ k, x.ownBlock = some k → w0.heap.size ≤ k) (hg : g < w0.heap.size) (hv : ∀ k, v.ownBlock = some k → k < w0.heap.size) : Off F g w v x l := by
  refine ⟨h, ?_⟩
  rcases h with ⟨_, _, _, rfl⟩ | ⟨p, cap, rfl, hp, _⟩
  · exact .inl rfl
  · refine .inr fun k hk => ?_
    have hk' := hk
    obtain rfl : p.block = k := by simpa [Value.ownBlock] using hk
    have := hx _ hk'
    exact ⟨hp, by omega, fun e => by have := hv _ e; omega⟩
end
end Go.Agg
namespace Go.Proofs.Ytpnolgliklmnmaa
open Go.RowKit Pl Go.Agg
def mkC (v : Value) : Array Value := #[v, .bool false]
/-- a maker: its bytes so far -/
structure MkV (g : Nat) (w : World) (v : Value) (b : List UInt8) : Prop where
  blk : Blk w g 74 (mkC v)
  own : Own EB (g + 1) w v b
section
variable {g : Nat} {w w' : World} {v : Value} {b : List UInt8}
theorem MkV.load (h : MkV g w v b) : LoadsL Try.prog w 23 (some ⟨g, 0, none⟩) v :=
  h.blk.one (P := Try.prog) 0 rfl (by kernel_rfl : Try.prog.underlying 23 = some (.slice 5)) rfl
theorem MkV.bad (h : MkV g w v b) : LoadsL Try.prog w 4 (some ⟨g, 1, none⟩) (.bool false) :=
  h.blk.one (P := Try.prog) 1 rfl Try.underlying4 rfl
theorem MkV.below (h : MkV g w v b) (hb : Below w.heap.size w w') : MkV g w' v b := ⟨h.blk.below hb, h.own.below hb⟩
theorem MkV.ge (h : MkV g w v b) : ∀ k, v.ownBlock = some k → g ≤ k := fun k hk => by have := (h.own.block k hk).1; omega
theorem MkV.lt (h : MkV g w v b) : ∀ k, v.ownBlock = some k → k < w.heap.size := fun k hk => by
  obtain ⟨_, cur, hc⟩ := h.own.block k hk
  exact Agg.heap_lt hc
theorem MkV.put {w1 : World} {v1 : Value} {l : List UInt8} (h : MkV g w v b) (ho : Own EB (g + 1) w1 v1 l) (hp : Pushed EB (g + 1) w w1 v) (hgr : Grew w v v1) :
    ∃ w2, (Instr.storeAt 23 (.pointer (some ⟨g, 0, none⟩)) v1).run Try.prog w1 = .ok () w2 ∧ MkV g w2 v1 l ∧ MkStep g w w2 v v1 := by
  have h1 : Blk w1 g 74 (mkC v) := hp.blk g _ _ _ (by decide) h.blk
  obtain ⟨p, c, rfl⟩ := ho.slice.form
  refine ⟨_, h1.run_put 0 (by simp [mkC]) _ rfl rfl (by kernel_rfl), ⟨h1.set 0 _, ho.keep fun k cur t fr hk hb => ?_⟩, ⟨?_, hgr⟩⟩
  · rw [Below.heap_setCell _ _ _ _ (by show k ≠ g; omega)]; exact hb
  · refine (hp.only.mono fun _ _ h => .inr h).trans (T := fun k => k = g) ⟨rfl, rfl, rfl, by simp [World.setCell], fun k _ hk => Below.heap_setCell _ _ _ _ hk⟩ fun _ _ h => .inl h
theorem MkV.stepBelow {v1 : Value} (h : MkV g w v b) (hs : MkStep g w w' v v1) : Below g w w' := hs.below (Nat.le_of_lt h.blk.lt) h.ge
end
/-- numbers -/
def EI : Elem Try.prog Nat where
  ty := 3
  st := 64
  n := 1
  bytes := 8
  val := fun c => .int .i64 (c : Int)
  zero := .int .i64 0
  pos := by omega
  small := by omega
  size := fun x => rfl
  one := fun x v hv => by
    obtain rfl : v = .int .i64 (x : Int) := by simpa [Value.cells] using hv
    rfl
  zsize := rfl
  slice := by kernel_rfl
  info := info_of (by kernel_rfl) (by kernel_rfl) (by kernel_rfl)
  load := fun w a x hp h => LoadsL.of_cell (by have := h 0 _ rfl; rwa [show a.add 0 = a from rfl] at this) Try.underlying3 rfl
theorem ints_len {w : World} {v : Value} {l : List Nat} (h : SliceOf EI w v l) (W : World) : (Builtin.len_ #[64] 3 #[v]).run Try.prog W = .ok (.int .i64 (l.length : Int)) W := h.len W
theorem int_at {w : World} {v : Value} {l : List Nat} (h : SliceOf EI w v l) (k : Nat) (x : Nat) (hx : l[k]? = some x) :
    ∃ p : Addr, (∀ W, (Instr.indexAt 64 v (.int .i64 (k : Int))).run Try.prog W = .ok (.pointer (some p)) W) ∧ LoadsL Try.prog w 3 (some p) (.int .i64 (x : Int)) := by
  obtain ⟨p, h1, _, _, h4⟩ := h.at_ k x hx
  exact ⟨p, h1, h4⟩
end Go.Proofs.Ytpnolgliklmnmaa
