/- Blocks that a step leaves alone. (Several texts in one.) -/
import Derived.Test.YtdebbmembkbniaaGreatTAC
import Derived.Test.YtdebbmembkbniaaGreatTAA
import Derived.Test.YtdebbmembkbniaaGreatShelf
import Derived.Test.YtdebbmembkbniaaGreatTAB
/-! code.Maker's block; what a step of a maker leaves alone. -/
namespace Go.Agg
open Go.RowKit
theorem encN_len' : ∀ (m n : Nat), 0 < m → n < 128 ^ m → (encN n).length ≤ m := by
 intro m
 induction m with
 | zero => intro n h; omega
 | succ m ih =>
  intro n _ hn
  by_cases h : n < 128
  ·rw [encN_lt h]; simp
  ·rw [encN_ge (by omega), List.length_cons]
   have hm : 0 < m := by
    rcases Nat.eq_zero_or_pos m with h0 | h0
    ·subst h0; simp at hn; omega
    ·exact h0
   have := ih (n / 128) hm (by rw [Nat.pow_succ] at hn; exact Nat.div_lt_of_lt_mul (by rw [Nat.mul_comm]; exact hn))
   omega
theorem encN_len {n : Nat} (h : n ≤ 1099511627776) : (encN n).length ≤ 6 := encN_len' 6 n (by omega) (by omega)
section
variable {P : Program} {α : Type} {E : Elem P α} {ops : Array Oper} {rest : List Oper} {o o2 : Oper} {a : Act} {w : World} {Q : Exit → Act → World → Prop} {base : Nat} {v : Value} {l : List α}
def Grew (w : World) (v v' : Value) : Prop := ∀ k, v'.ownBlock = some k → v.ownBlock = some k ∨ w.heap.size ≤ k
theorem Grew.refl (w : World) (v : Value) : Grew w v v := fun _ h => .inl h
theorem grew_of {w0 w : World} {v v' : Value} (hs : w0.heap.size ≤ w.heap.size) (h : v'.ownBlock = v.ownBlock ∨ v'.ownBlock = some w.heap.size) : Grew w0 v v' := fun k hk => by
 rcases h with h | h
 ·rw [h] at hk; exact .inl hk
 ·rw [h] at hk; obtain rfl := Option.some.inj hk; exact .inr hs
theorem wpList_pushO (hg : o.guard = none) (hg2 : o2.guard = none) (d : Tmp) (hd : o.dst = some d) (y : Operand) (ho : o.op = .buildSlice E.st 1 #[(0, y)]) (s : Operand)
  (ho2 : o2.op = .call { callee := .builtin .append, args := #[s, .tmp d], argTypes := #[E.st, E.st] }) (x : α) (hy : a.eval y = E.val x) (hs : ∀ p, (a.put o.dst p).eval s = v) (hsz : d < a.tmps.size)
  (hown : Own E base w v l) (h63 : l.length + 1 ≤ 1099511627776 / 8) (hby : E.bytes ≤ 1000) (hbase : base ≤ w.heap.size)
  (h : ∀ u v' w', Own E base w' v' (l ++ [x]) → Pushed E base w w' v → Grew w v v' → wpList P ops Q rest ((a.put o.dst u).put o2.dst v') w') : wpList P ops Q (o :: o2 :: rest) a w := by
 refine wpList_val hg (v := .slice (some ⟨w.heap.size, 0, none⟩) 1 1) (w' := w.alloc (.cells (E.val x).cells E.ty)) (by simp [execOp, ho, hy, run_slice_one]) ?_
 have hb1 : Below w.heap.size w (w.alloc (.cells (E.val x).cells E.ty)) := (Below.refl _ _).alloc (Nat.le_refl _) _
 have hown1 := hown.below hb1
 obtain ⟨v', w', hrun, h2, h3, h4, _⟩ := run_append (ty := o2.type) hown1 _ [x] (slice_of_block (Blk.new w E.ty (E.val x).cells)) (by simpa using h63) hby (Nat.le_trans hbase hb1.size)
 have hp := pushed_of hown1 h3
 have hpu : Pushed E base w w' v := {
  below := fun B hB hs => (hb1.mono hs).trans (hp.below B hB (Nat.le_trans hs hb1.size))
  other := fun g hlt hne => (hp.other g (Nat.lt_of_lt_of_le hlt hb1.size) hne).trans (hb1.block g hlt)
  blk := fun g t cs fr hne hb => hp.blk g t cs fr hne (keep' hb1 hb)
  map := fun g es c hb => hp.map g es c (keep' hb1 hb)
  size := Nat.le_trans hb1.size hp.size }
 refine wpList_val hg2 (v := v') (w' := w') ?_ (h _ v' w' h2 hpu (grew_of hb1.size h4))
 have e2 : (a.put o.dst (.slice (some ⟨w.heap.size, 0, none⟩) 1 1)).eval (.tmp d) = .slice (some ⟨w.heap.size, 0, none⟩) 1 1 := by rw [hd]; simp [Act.put, Act.eval, hsz]
 simp [execOp, ho2, resolve, invoke, builtin, hs, e2, hrun]
theorem wpList_appendO (hg : o.guard = none) (s x : Operand) (ho : o.op = .call { callee := .builtin .append, args := #[s, x], argTypes := #[E.st, E.st] }) (vx : Value) (hs : a.eval s = v) (hx : a.eval x = vx) (m : List α)
  (hown : Own E base w v l) (hm : SliceOf E w vx m) (h63 : l.length + m.length ≤ 1099511627776 / 8) (hby : E.bytes ≤ 1000) (hbase : base ≤ w.heap.size)
  (h : ∀ v' w', Own E base w' v' (l ++ m) → Pushed E base w w' v → Grew w v v' → wpList P ops Q rest (a.put o.dst v') w') : wpList P ops Q (o :: rest) a w := by
 obtain ⟨v', w', hrun, h2, h3, h4, _⟩ := run_append (ty := o.type) hown _ m hm h63 hby hbase
 refine wpList_val hg (v := v') (w' := w') ?_ (h v' w' h2 (pushed_of hown h3) (grew_of (Nat.le_refl _) h4))
 simp [execOp, ho, resolve, invoke, builtin, hs, hx, hrun]
theorem Pushed.only {w' : World} (h : Pushed E base w w' v) : Only (fun k => v.ownBlock = some k) w w' where
 os := (h.below 0 (Nat.zero_le _) (Nat.zero_le _)).os
 tape := (h.below 0 (Nat.zero_le _) (Nat.zero_le _)).tape
 output := (h.below 0 (Nat.zero_le _) (Nat.zero_le _)).output
 size := h.size
 block := fun k hk hne => h.other k hk (fun e => hne e.symm)
structure MkStep (g : Nat) (w w' : World) (v v' : Value) : Prop where
 only : Only (fun k => k = g ∨ v.ownBlock = some k) w w'
 grew : Grew w v v'
variable {g : Nat} {w1 w2 : World} {v1 v2 : Value}
theorem MkStep.refl (g : Nat) (w : World) (v : Value) : MkStep g w w v v := ⟨Only.refl _ _, Grew.refl _ _⟩
theorem MkStep.trans (h : MkStep g w w1 v v1) (k : MkStep g w1 w2 v1 v2) : MkStep g w w2 v v2 where
 only := h.only.trans k.only fun i hi hT => by
  rcases hT with rfl | hT
  ·exact .inl rfl
  ·rcases h.grew i hT with h | h
   ·exact .inr h
   ·omega
 grew := fun i hi => by
  rcases k.grew i hi with h1 | h1
  ·exact h.grew i h1
  ·exact .inr (Nat.le_trans h.only.size h1)
theorem MkStep.of_below (hb : Below w.heap.size w w1) : MkStep g w w1 v v := ⟨(Only.of_below (S := fun _ => False) hb).mono (fun _ _ h => h.elim), Grew.refl _ _⟩
theorem MkStep.below (h : MkStep g w w1 v v1) (hg : g ≤ w.heap.size) (hv : ∀ k, v.ownBlock = some k → g ≤ k) : Below g w w1 := h.only.below hg fun i hi => by
 rcases hi with rfl | hi
 ·exact Nat.le_refl _
 ·exact hv i hi
def Off {β : Type} (F : Elem P β) (g : Nat) (w : World) (mv x : Value) (l : List β) : Prop := SliceOf F w x l ∧ (l = [] ∨ ∀ k, x.ownBlock = some k → k < w.heap.size ∧ k ≠ g ∧ mv.ownBlock ≠ some k)
theorem SliceOf.nil_any {β : Type} {F : Elem P β} {x : Value} (h : SliceOf F w x []) (w' : World) : SliceOf F w' x [] := by
 rcases h with ⟨p, c, rfl, _⟩ | ⟨p, cap, rfl, _⟩
 ·exact SliceOf.nil _ _ _
 ·exact SliceOf.nil _ _ _
theorem Off.step {β : Type} {F : Elem P β} {x : Value} {l : List β} (h : Off F g w v x l) (k : MkStep g w w1 v v1) : Off F g w1 v1 x l := by
 obtain ⟨h1, rfl | h2⟩ := h
 ·exact ⟨h1.nil_any _, .inl rfl⟩
 ·refine ⟨h1.onlyS k.only fun b hb hS => ?_, .inr fun b hb => ?_⟩
  ·obtain ⟨_, h3, h4⟩ := h2 b hb
   rcases hS with rfl | hS
   ·exact h3 rfl
   ·exact h4 hS
  ·obtain ⟨h5, h3, h4⟩ := h2 b hb
   refine ⟨Nat.lt_of_lt_of_le h5 k.only.size, h3, fun e => ?_⟩
   rcases k.grew b e with h | h
   ·exact h4 h
   ·omega
theorem Off.slice {β : Type} {F : Elem P β} {x : Value} {l : List β} (h : Off F g w v x l) : SliceOf F w x l := h.1
theorem Off.before {β : Type} {F : Elem P β} {w0 : World} {x : Value} {l : List β} (h : SliceOf F w0 x l) (hb : Below w0.heap.size w0 w) (hg : w0.heap.size ≤ g) (hv : ∀ k, v.ownBlock = some k → w0.heap.size ≤ k) : Off F g w v x l := by
 refine ⟨h.below hb, ?_⟩
 rcases h with ⟨_, _, _, rfl⟩ | ⟨p, cap, rfl, hp, _⟩
 ·exact .inl rfl
 ·refine .inr fun k hk => ?_
  obtain rfl : p.block = k := by simpa [Value.ownBlock] using hk
  have := hb.size
  exact ⟨by omega, by omega, fun e => by have := hv _ e; omega⟩
theorem Off.behind {β : Type} {F : Elem P β} {w0 : World} {x : Value} {l : List β} (h : SliceOf F w x l) (hx : ∀ k, x.ownBlock = some k → w0.heap.size ≤ k) (hg : g < w0.heap.size) (hv : ∀ k, v.ownBlock = some k → k < w0.heap.size) : Off F g w v x l := by
 refine ⟨h, ?_⟩
 rcases h with ⟨_, _, _, rfl⟩ | ⟨p, cap, rfl, hp, _⟩
 ·exact .inl rfl
 ·refine .inr fun k hk => ?_
  have hk' := hk
  obtain rfl : p.block = k := by simpa [Value.ownBlock] using hk
  have := hx _ hk'
  exact ⟨hp, by omega, fun e => by have := hv _ e; omega⟩
end
end Go.Agg
namespace Go.Proofs.YtdebbmembkbniaaGreat
open Go.RowKit Pl Go.Agg
def mkC (v : Value) : Array Value := #[v, .bool false]
structure MkV (g : Nat) (w : World) (v : Value) (b : List UInt8) : Prop where
 blk : Blk w g 85 (mkC v)
 own : Own EB (g + 1) w v b
section
variable {g : Nat} {w w' : World} {v : Value} {b : List UInt8}
theorem MkV.load (h : MkV g w v b) : LoadsL Tryz.prog w 23 (some ⟨g, 0, none⟩) v :=
 h.blk.one (P := Tryz.prog) 0 rfl (by kernel_rfl : Tryz.prog.underlying 23 = some (.slice 5)) rfl
theorem MkV.bad (h : MkV g w v b) : LoadsL Tryz.prog w 4 (some ⟨g, 1, none⟩) (.bool false) :=
 h.blk.one (P := Tryz.prog) 1 rfl Tryz.underlying4 rfl
theorem MkV.below (h : MkV g w v b) (hb : Below w.heap.size w w') : MkV g w' v b := ⟨h.blk.below hb, h.own.below hb⟩
theorem MkV.ge (h : MkV g w v b) : ∀ k, v.ownBlock = some k → g ≤ k := fun k hk => by have := (h.own.block k hk).1; omega
theorem MkV.lt (h : MkV g w v b) : ∀ k, v.ownBlock = some k → k < w.heap.size := fun k hk => by
 obtain ⟨_, cur, hc⟩ := h.own.block k hk
 exact Agg.heap_lt hc
theorem MkV.put {w1 : World} {v1 : Value} {l : List UInt8} (h : MkV g w v b) (ho : Own EB (g + 1) w1 v1 l) (hp : Pushed EB (g + 1) w w1 v) (hgr : Grew w v v1) :
  ∃ w2, (Instr.storeAt 23 (.pointer (some ⟨g, 0, none⟩)) v1).run Tryz.prog w1 = .ok () w2 ∧ MkV g w2 v1 l ∧ MkStep g w w2 v v1 := by
 have h1 : Blk w1 g 85 (mkC v) := hp.blk g _ _ _ (by decide) h.blk
 obtain ⟨p, c, rfl⟩ := ho.slice.form
 refine ⟨_, h1.run_put 0 (by simp [mkC]) _ rfl rfl (by kernel_rfl), ⟨h1.set 0 _, ho.keep fun k cur t fr hk hb => ?_⟩, ⟨?_, hgr⟩⟩
 ·rw [Below.heap_setCell _ _ _ _ (by show k ≠ g; omega)]; exact hb
 ·refine (hp.only.mono fun _ _ h => .inr h).trans (T := fun k => k = g) ⟨rfl, rfl, rfl, by simp [World.setCell], fun k _ hk => Below.heap_setCell _ _ _ _ hk⟩ fun _ _ h => .inl h
theorem MkV.stepBelow {v1 : Value} (h : MkV g w v b) (hs : MkStep g w w' v v1) : Below g w w' := hs.below (Nat.le_of_lt h.blk.lt) h.ge
end
def EI : Elem Tryz.prog Nat where
 ty := 3
 st := 155
 n := 1
 bytes := 8
 val := fun c => .int .i64 (c : Int)
 zero := .int .i64 0
 pos := by omega
 small := by omega
 size := fun x => rfl
 one := fun x v hv => by
  obtain rfl : v = .int .i64 (x : Int) := by simpa [Value.cells] using hv
  rfl
 zsize := rfl
 slice := by kernel_rfl
 info := info_of (by kernel_rfl) (by kernel_rfl) (by kernel_rfl)
 load := fun w a x hp h => LoadsL.of_cell (by have := h 0 _ rfl; rwa [show a.add 0 = a from rfl] at this) Tryz.underlying3 rfl
theorem ints_len {w : World} {v : Value} {l : List Nat} (h : SliceOf EI w v l) (W : World) : (Builtin.len_ #[155] 3 #[v]).run Tryz.prog W = .ok (.int .i64 (l.length : Int)) W := h.len W
theorem int_at {w : World} {v : Value} {l : List Nat} (h : SliceOf EI w v l) (k : Nat) (x : Nat) (hx : l[k]? = some x) :
  ∃ p : Addr, (∀ W, (Instr.indexAt 155 v (.int .i64 (k : Int))).run Tryz.prog W = .ok (.pointer (some p)) W) ∧ LoadsL Tryz.prog w 3 (some p) (.int .i64 (x : Int)) := by
 obtain ⟨p, h1, _, _, h4⟩ := h.at_ k x hx
 exact ⟨p, h1, h4⟩
end Go.Proofs.YtdebbmembkbniaaGreat
/-! code.Maker: numbers and texts as bytes. -/
namespace Go.Proofs.YtdebbmembkbniaaGreat
open Go.RowKit Pl Go.Agg
theorem or128 (k : Nat) : bits .or .u8 ((k : Int) % 256) 128 = ((UInt8.ofNat (k % 128 + 128)).toNat : Int) := by
 have h : ∀ m : Nat, m < 256 → bits .or .u8 (m : Int) 128 = ((UInt8.ofNat (m % 128 + 128)).toNat : Int) := by decide +kernel
 have := h (k % 256) (by omega)
 rw [show k % 256 % 128 = k % 128 by omega] at this
 rw [← this]
 congr 1
set_option maxRecDepth 100000 in
set_option maxHeartbeats 1000000 in
theorem number_any (g n : Nat) (v0 : Value) (b : List UInt8) (w : World) (hn : n ≤ 1099511627776) (hb : b.length ≤ 16777216) (hm : MkV g w v0 b) :
  Calls Tryz.prog 76 #[.pointer (some ⟨g, 0, none⟩), .int .u64 (n : Int)] w fun e w' => (∃ r, e = .returned r) ∧ ∃ v', MkV g w' v' (b ++ encN n) ∧ MkStep g w w' v0 v' := by
 have HM0 := Lib.hid hm
 clear hm
 go_enter Tryz.func76, Tryz.ntmps76
 go_wp2_with fail
 go_loopw [1] (fun x wr => ∃ k : Nat, x = .int .u64 (k : Int) ∧ k ≤ 1099511627776 ∧ ∃ bs v, MkV g wr v bs ∧ bs ++ encN k = b ++ encN n ∧ MkStep g w wr v0 v) (fun x _ => (intOf x).toNat)
 case atStart => exact ⟨n, rfl, hn, b, v0, HM0.out, rfl, MkStep.refl _ _ _⟩
 case round =>
  obtain ⟨w1, rfl⟩ : ∃ w1 : World, w1 = wr := ⟨_, rfl⟩
  obtain ⟨k, rfl, hk, bs, v, hm, heq, hw⟩ := hrel
  have hbs : bs.length ≤ 33554432 := by
   have h1 := congrArg List.length heq
   have h2 := encN_len hn
   simp only [List.length_append] at h1
   omega
  have h63 : bs.length + 1 ≤ 1099511627776 / 8 := by omega
  have hbase : g + 1 ≤ w1.heap.size := hm.blk.lt
  have HM := Lib.hid hm
  have HO := Lib.hid hm.own
  have HEQ := Lib.hid heq
  have HW := Lib.hid hw
  clear hm heq hw
  by_cases hlt : 128 ≤ k
  ·have hI : (128 : Int) ≤ (k : Int) := by omega
   have hor := or128 k
   obtain ⟨c, hc⟩ : ∃ c, UInt8.ofNat (k % 128 + 128) = c := ⟨_, rfl⟩
   rw [hc] at hor
   have HE : Hid (bs ++ [c] ++ encN (k / 128) = b ++ encN n) := Lib.hid (by rw [← hc, ← HEQ.out, encN_ge hlt, List.append_assoc]; rfl)
   clear hlt hc
   go_wp2_with (first | (with_reducible refine wpList_loadL HM.out.load rfl _ rfl rfl ?_) | (refine Agg.wpList_pushO (E := EB) (base := g + 1) rfl rfl 16 rfl _ rfl _ rfl (c) rfl (fun _ => rfl) (by simp) HO.out h63 (by decide) hbase ?_; intro u1 v1 w2 ho1 hp1 hgr1; obtain ⟨w3, hrun, hmk, hst⟩ := MkV.put HM.out ho1 hp1 hgr1; have HMK := Lib.hid hmk; have HST := Lib.hid hst; clear ho1 hp1 hgr1 hmk hst) | (refine wpList_store rfl rfl 23 _ _ rfl (.pointer (some ⟨g, 0, none⟩)) _ rfl rfl hrun ?_))
   go_roundw
   case rel => exact ⟨k / 128, by go_num, by omega, _, _, HMK.out, HE.out, HW.out.trans HST.out⟩
   case measure => simp [intOf]; omega
  ·obtain ⟨c, rfl⟩ : ∃ c : UInt8, k = c.toNat := ⟨UInt8.ofNat k, by simp; omega⟩
   have hI : ¬ (128 : Int) ≤ (c.toNat : Int) := by omega
   have HE : Hid (bs ++ [c] = b ++ encN n) := Lib.hid (by rw [← HEQ.out, encN_lt (by omega), UInt8.ofNat_toNat])
   clear hlt
   go_wp2_with (first | (with_reducible refine wpList_loadL HM.out.load rfl _ rfl rfl ?_) | (refine Agg.wpList_pushO (E := EB) (base := g + 1) rfl rfl 27 rfl _ rfl _ rfl (c) rfl (fun _ => rfl) (by simp) HO.out h63 (by decide) hbase ?_; intro u1 v1 w2 ho1 hp1 hgr1; obtain ⟨w3, hrun, hmk, hst⟩ := MkV.put HM.out ho1 hp1 hgr1; have HMK := Lib.hid hmk; have HST := Lib.hid hst; clear ho1 hp1 hgr1 hmk hst) | (refine wpList_store rfl rfl 23 _ _ rfl (.pointer (some ⟨g, 0, none⟩)) _ rfl rfl hrun ?_))
   refine bodyPost_end (results_none rfl _ _ _) rfl ?_
   exact ⟨⟨_, rfl⟩, _, by rw [← HE.out]; exact HMK.out, HW.out.trans HST.out⟩
set_option maxRecDepth 100000 in
set_option maxHeartbeats 1000000 in
theorem allow_any (g n m : Nat) (v : Value) (b : List UInt8) (w : World) (hn : n ≤ m) (hm : m ≤ 1099511627776) (hv : MkV g w v b) :
  Calls Tryz.prog 75 #[.pointer (some ⟨g, 0, none⟩), .int .i64 (n : Int), .int .i64 (m : Int)] w fun e w' => e = .returned (.bool true) ∧ w' = w := by
 have HB := Lib.hid hv.bad
 clear hv
 have hI : ¬ (m : Int) < (n : Int) := by omega
 go_enter Tryz.func75, Tryz.ntmps75
 go_wp2_with (first | (with_reducible refine wpList_loadL HB.out rfl _ rfl rfl ?_))
 go_ret
 exact ⟨rfl, rfl⟩
set_option maxRecDepth 100000 in
set_option maxHeartbeats 1000000 in
theorem num_any (g : Nat) (v0 x : Value) (ns : List Nat) (b : List UInt8) (w : World) (hall : ∀ n ∈ ns, n ≤ 1099511627776) (hl : ns.length ≤ 16) (hb : b.length ≤ 8388608) (hx : Off EI g w v0 x ns) (hm : MkV g w v0 b) :
  Calls Tryz.prog 33 #[.pointer (some ⟨g, 0, none⟩), x] w fun e w' => e = .returned (.pointer (some ⟨g, 0, none⟩)) ∧ ∃ v', MkV g w' v' (b ++ ns.flatMap encN) ∧ MkStep g w w' v0 v' := by
 have HM0 := Lib.hid hm
 have hlx := fun W => ints_len hx.slice W
 have HX := Lib.hid hx
 clear hm hx
 go_enter Tryz.func33, Tryz.ntmps33
 go_wp2_with fail
 go_loopw [11] (fun i wr => ∃ k : Nat, k ≤ ns.length ∧ i = .int .i64 (k : Int) ∧ ∃ v, MkV g wr v (b ++ (ns.take k).flatMap encN) ∧ MkStep g w wr v0 v) (fun i _ => ns.length - (intOf i).toNat)
 case atStart => exact ⟨0, by omega, rfl, v0, by simpa using HM0.out, MkStep.refl _ _ _⟩
 case round =>
  obtain ⟨w1, rfl⟩ : ∃ w1 : World, w1 = wr := ⟨_, rfl⟩
  obtain ⟨k, hk, rfl, v, hm, hst⟩ := hrel
  have HM := Lib.hid hm
  have HS := Lib.hid hst
  clear hm hst
  by_cases hlt : k < ns.length
  ·obtain ⟨y, hyk⟩ : ∃ y, ns[k]? = some y := ⟨_, List.getElem?_eq_getElem hlt⟩
   have hy : y ≤ 1099511627776 := hall y (List.mem_of_getElem? hyk)
   obtain ⟨p, hadr, hld⟩ := int_at (HX.out.step HS.out).slice k y hyk
   have HL := Lib.hid hld
   have hbl : (b ++ (ns.take k).flatMap encN).length ≤ 16777216 := by
    have : ∀ l : List Nat, (∀ n ∈ l, n ≤ 1099511627776) → (l.flatMap encN).length ≤ l.length * 6 := by
     intro l
     induction l with
     | nil => intro _; simp
     | cons a l ih =>
      intro h
      have h1 := encN_len (h a (by simp))
      have h2 := ih fun n hn => h n (by simp [hn])
      simp only [List.flatMap_cons, List.length_append, List.length_cons]
      omega
    have h1 := this (ns.take k) fun n hn => hall n (List.mem_of_mem_take hn)
    simp only [List.length_append]
    have : (ns.take k).length ≤ 16 := by simp; omega
    omega
   have hfl : b ++ (ns.take k).flatMap encN ++ encN y = b ++ (ns.take (k + 1)).flatMap encN := by rw [List.take_add_one, hyk]; simp
   have HF := Lib.hid hfl
   have hbn : ((y : Int) % 18446744073709551616) = (y : Int) := by omega
   clear hld hyk hfl
   go_wp2_with (first | (with_reducible refine wpList_loadL HL.out rfl _ rfl rfl ?_))
   refine (allow_any g y 1099511627776 v _ w1 hy (by omega) HM.out).mono ?_
   rintro e w2 ⟨rfl, rfl⟩
   go_wp2_with fail
   refine (number_any g y v _ _ hy hbl HM.out).mono ?_
   rintro e w3 ⟨⟨r, rfl⟩, v3, hm3, hs3⟩
   rw [HF.out] at hm3
   have HM3 := Lib.hid hm3
   have HS3 := Lib.hid hs3
   clear hm3 hs3
   go_wp2_with fail
   go_roundw
   case rel => exact ⟨k + 1, by omega, by go_num, v3, HM3.out, HS.out.trans HS3.out⟩
   case measure => simp [intOf]; omega
  ·obtain rfl : k = ns.length := by omega
   have HMT := Lib.hid (show MkV g w1 v (b ++ ns.flatMap encN) by have := HM.out; rwa [List.take_length] at this)
   go_wp2_with fail
   go_ret
   exact ⟨rfl, v, HMT.out, HS.out⟩
set_option maxRecDepth 100000 in
set_option maxHeartbeats 1000000 in
theorem raw_any (g : Nat) (v x : Value) (l b : List UInt8) (w : World) (hb : b.length ≤ 16777216) (hl : l.length ≤ 16777216) (hx : SliceOf EB w x l) (hm : MkV g w v b) :
  Calls Tryz.prog 34 #[.pointer (some ⟨g, 0, none⟩), x] w fun e w' => e = .returned (.pointer (some ⟨g, 0, none⟩)) ∧ ∃ v', MkV g w' v' (b ++ l) ∧ MkStep g w w' v v' := by
 have HM := Lib.hid hm
 have HX := Lib.hid hx
 have HO := Lib.hid hm.own
 have h63 : b.length + l.length ≤ 1099511627776 / 8 := by omega
 have hbase : g + 1 ≤ w.heap.size := hm.blk.lt
 clear hm hx
 go_enter Tryz.func34, Tryz.ntmps34
 go_wp2_with (first | (with_reducible refine wpList_loadL HM.out.load rfl _ rfl rfl ?_) | (refine Agg.wpList_appendO (E := EB) (base := g + 1) rfl _ _ rfl x rfl rfl l HO.out HX.out h63 (by decide) hbase ?_; intro v1 w2 ho1 hp1 hgr1; obtain ⟨w3, hrun, hmk, hst⟩ := MkV.put HM.out ho1 hp1 hgr1; have HMK := Lib.hid hmk; have HST := Lib.hid hst; clear ho1 hp1 hgr1 hmk hst) | (refine wpList_store rfl rfl 23 _ _ rfl (.pointer (some ⟨g, 0, none⟩)) _ rfl rfl hrun ?_))
 go_ret
 exact ⟨rfl, v1, HMK.out, HST.out⟩
end Go.Proofs.YtdebbmembkbniaaGreat
/-! bytes.Clone; code.Maker: Text, Done. -/
namespace Go.Proofs.YtdebbmembkbniaaGreat
open Go.RowKit Pl Go.Agg
theorem nil_is (n c : Nat) (W : World) : (binOp .eql 23 (.slice none n c) (.slice none 0 0)).run Tryz.prog W = .ok (.bool true) W := by kernel_rfl
theorem nil_not (a : Addr) (n c : Nat) (W : World) : (binOp .eql 23 (.slice (some a) n c) (.slice none 0 0)).run Tryz.prog W = .ok (.bool false) W := by kernel_rfl
set_option maxRecDepth 100000 in
set_option maxHeartbeats 1000000 in
theorem bclone_any (x : Value) (l : List UInt8) (w : World) (hl : l.length ≤ 33554432) (hx : SliceOf EB w x l) :
  Calls Tryz.prog 77 #[x] w fun e w' => ∃ v', e = .returned v' ∧ Own EB w.heap.size w' v' l ∧ Below w.heap.size w w' := by
 have HX := Lib.hid hx
 have h63 : ([] : List UInt8).length + l.length ≤ 1099511627776 / 8 := by simp; omega
 obtain ⟨q, c, rfl⟩ := hx.form
 cases q with
 | none =>
  have hl0 : l = [] := by
   rcases hx with ⟨_, _, _, h⟩ | ⟨a, cap, e, _⟩
   ·exact h
   ·injection e with e; cases e
  subst hl0
  have hnl := nil_is 0 c
  clear hx
  go_enter Tryz.func77, Tryz.ntmps77
  go_wp2_with fail
  go_ret
  exact ⟨_, rfl, Own.nil _ _ _, Below.refl _ _⟩
 | some a =>
  have hnl := nil_not a l.length c
  clear hx
  go_enter Tryz.func77, Tryz.ntmps77
  go_wp2_with (first | (refine wpList_slice0 (base := w.heap.size) EB rfl rfl (Nat.le_refl _) ?_; intro v1 w1 ho1 hx1 _; have HO1 := Lib.hid ho1; have HX1 := Lib.hid (SliceOf.below HX.out hx1); have hsz := hx1.size; clear ho1) | (refine Agg.wpList_appendO (E := EB) (base := w.heap.size) rfl _ _ rfl (.slice (some a) l.length c) rfl rfl l HO1.out HX1.out h63 (by decide) hsz ?_; intro v2 w2 ho2 hp2 _; have HO2 := Lib.hid ho2; have HP2 := Lib.hid (hx1.trans (hp2.below w.heap.size (Nat.le_refl _) hsz)); clear ho2 hp2))
  go_ret
  exact ⟨_, rfl, by simpa using HO2.out, HP2.out⟩
set_option maxRecDepth 100000 in
set_option maxHeartbeats 1000000 in
theorem done_any (g : Nat) (v : Value) (b : List UInt8) (w : World) (hb : b.length ≤ 33554432) (hm : MkV g w v b) :
  Calls Tryz.prog 35 #[.pointer (some ⟨g, 0, none⟩)] w fun e w' => ∃ v', e = .returned (.tuple #[v', .int .i64 0]) ∧ Own EB w.heap.size w' v' b ∧ Below w.heap.size w w' := by
 have HM := Lib.hid hm
 clear hm
 go_enter Tryz.func35, Tryz.ntmps35
 go_wp2_with (first | (with_reducible refine wpList_loadL HM.out.load rfl _ rfl rfl ?_) | (with_reducible refine wpList_loadL HM.out.bad rfl _ rfl rfl ?_))
 refine (bclone_any v b w hb HM.out.own.slice).mono ?_
 rintro e w1 ⟨v1, rfl, ho, hx⟩
 have HO := Lib.hid ho
 clear ho
 go_wp2_with fail
 go_ret2
 exact ⟨_, rfl, HO.out, hx⟩
set_option maxRecDepth 100000 in
set_option maxHeartbeats 1000000 in
theorem text_any (g : Nat) (v x : Value) (s : SV) (l b : List UInt8) (w : World) (hb : b.length ≤ 4194304) (hl : l.length ≤ 1048576) (hx : Off EBB g w v x [s]) (hs : Off EB g w v s.1 l) (hm : MkV g w v b) :
  Calls Tryz.prog 32 #[.pointer (some ⟨g, 0, none⟩), x] w fun e w' => e = .returned (.pointer (some ⟨g, 0, none⟩)) ∧ ∃ v', MkV g w' v' (b ++ (encN l.length ++ l)) ∧ MkStep g w w' v v' := by
 have HM := Lib.hid hm
 have HS := Lib.hid hs
 have hlx := fun W => bb_len hx.slice W
 have hls := fun W => bytes_len hs.slice W
 obtain ⟨q, hadr0, hld⟩ := bb_at hx.slice 0 s rfl
 have hadr : ∀ W, (Instr.indexAt 62 x (.int .i64 0)).run Tryz.prog W = .ok (.pointer (some q)) W := hadr0
 clear hadr0
 have HL := Lib.hid hld
 have hlt := fun k hk => hm.lt k hk
 have HLT := Lib.hid hlt
 have hg := hm.blk.lt
 clear hm hs hx hld hlt
 go_enter Tryz.func32, Tryz.ntmps32
 go_wp2_with fail
 go_loopw [9] (fun i wr => (i = .int .i64 0 ∧ wr = w) ∨ (i = .int .i64 1 ∧ ∃ v', MkV g wr v' (b ++ (encN l.length ++ l)) ∧ MkStep g w wr v v')) (fun i _ => 1 - (intOf i).toNat)
 case atStart => exact .inl ⟨rfl, rfl⟩
 case round =>
  obtain ⟨w1, rfl⟩ : ∃ w1 : World, w1 = wr := ⟨_, rfl⟩
  rcases hrel with ⟨rfl, rfl⟩ | ⟨rfl, v', hm', hs'⟩
  ·go_wp2_with (first | (with_reducible refine wpList_loadL HL.out rfl _ rfl rfl ?_))
   refine (allow_any g l.length 1048576 v b _ hl (by omega) HM.out).mono ?_
   rintro e w2 ⟨rfl, rfl⟩
   go_wp2_with (first | (refine wpList_slice1 (E := EI) (base := w2.heap.size) rfl _ rfl l.length rfl (Nat.le_refl _) ?_; intro xs w3 hxs hx3; have HXS := Lib.hid hxs; have HX3 := Lib.hid hx3; clear hxs hx3))
   have hx3 := HX3.out
   have hsz := hx3.size
   have hoff : Off EI g w3 v xs [l.length] := Off.behind (w0 := w2) HXS.out.slice (fun k hk => (HXS.out.block k hk).1) hg HLT.out
   refine (num_any g v xs [l.length] b w3 (by simp; omega) (by simp) (by omega) hoff (HM.out.below hx3)).mono ?_
   rintro e w4 ⟨rfl, v4, hm4, hs4⟩
   have hs24 : MkStep g w2 w4 v v4 := (MkStep.of_below hx3).trans hs4
   have hoff4 := HS.out.step hs24
   have he6 := encN_len (n := l.length) (by omega)
   have HM4 := Lib.hid hm4
   have HS4 := Lib.hid hs24
   clear hs4 hs24 hoff
   have hfl : b ++ [l.length].flatMap encN = b ++ encN l.length := by simp
   go_wp2_with fail
   refine (raw_any g v4 s.1 l _ w4 (by simp only [hfl, List.length_append]; omega) (by omega) hoff4.slice HM4.out).mono ?_
   rintro e w5 ⟨rfl, v5, hm5, hs5⟩
   have HM5 := Lib.hid (show MkV g w5 v5 (b ++ (encN l.length ++ l)) by rw [hfl, List.append_assoc] at hm5; exact hm5)
   have HS5 := Lib.hid (HS4.out.trans hs5)
   clear hm5 hs5 hm4 hoff4 hfl
   go_wp2_with fail
   go_roundw
   case rel => exact .inr ⟨by go_num, v5, HM5.out, HS5.out⟩
   case measure => simp [intOf]
  ·have HM' := Lib.hid hm'
   have HS' := Lib.hid hs'
   clear hm' hs'
   go_wp2_with fail
   go_ret
   exact ⟨rfl, v', HM'.out, HS'.out⟩
end Go.Proofs.YtdebbmembkbniaaGreat
/-! slices.Clone at bytes. -/
namespace Go.Proofs.YtdebbmembkbniaaGreat
open Go.RowKit Pl Go.Agg
set_option maxRecDepth 100000 in
set_option maxHeartbeats 1000000 in
theorem sclone_any (x : Value) (l : List UInt8) (w : World) (hl : l.length ≤ 33554432) (hx : SliceOf EB w x l) :
  Calls Tryz.prog 73 #[x] w fun e w' => ∃ v', e = .returned v' ∧ Own EB w.heap.size w' v' l ∧ Below w.heap.size w w' := by
 have HX := Lib.hid hx
 have h63 : ([] : List UInt8).length + l.length ≤ 1099511627776 / 8 := by simp; omega
 obtain ⟨q, c, rfl⟩ := hx.form
 cases q with
 | none =>
  have hl0 : l = [] := by
   rcases hx with ⟨_, _, _, h⟩ | ⟨a, cap, e, _⟩
   ·exact h
   ·injection e with e; cases e
  subst hl0
  have hnl := nil_is 0 c
  clear hx
  go_enter Tryz.func73, Tryz.ntmps73
  go_wp2_with fail
  go_ret
  exact ⟨_, rfl, Own.nil _ _ _, Below.refl _ _⟩
 | some a =>
  have hnl := nil_not a l.length c
  clear hx
  go_enter Tryz.func73, Tryz.ntmps73
  go_wp2_with (first | (refine wpList_slice0 (base := w.heap.size) EB rfl rfl (Nat.le_refl _) ?_; intro v1 w1 ho1 hx1 _; have HO1 := Lib.hid ho1; have HX1 := Lib.hid (SliceOf.below HX.out hx1); have hsz := hx1.size; clear ho1) | (refine Agg.wpList_appendO (E := EB) (base := w.heap.size) rfl _ _ rfl (.slice (some a) l.length c) rfl rfl l HO1.out HX1.out h63 (by decide) hsz ?_; intro v2 w2 ho2 hp2 _; have HO2 := Lib.hid ho2; have HP2 := Lib.hid (hx1.trans (hp2.below w.heap.size (Nat.le_refl _) hsz)); clear ho2 hp2))
  go_ret
  exact ⟨_, rfl, by simpa using HO2.out, HP2.out⟩
end Go.Proofs.YtdebbmembkbniaaGreat
/-! (of general use) wire.Frame. -/
namespace Go.Proofs.YtdebbmembkbniaaGreat
open Go.RowKit Pl Go.Agg
end Go.Proofs.YtdebbmembkbniaaGreat
/-! (of general use) wire.begin. -/
namespace Go.Proofs.YtdebbmembkbniaaGreat
open Go.RowKit Pl Go.Agg
theorem sliceOf_taken {α : Type} {E : Elem Tryz.prog α} {w : World} {p : Option Addr} {c : Nat} {l : List α} (h : SliceOf E w (.slice p l.length c) l) (n : Nat) (hn : n ≤ l.length) : SliceOf E w (.slice p n c) (l.take n) := by
 rcases h with ⟨q, d, e, rfl⟩ | ⟨q, d, e, hq, hc⟩
 ·obtain rfl : n = 0 := by simpa using hn
  exact SliceOf.nil _ _ _
 ·simp only [Value.slice.injEq] at e
  obtain ⟨rfl, _, rfl⟩ := e
  refine .inr ⟨q, c, by rw [List.length_take, Nat.min_eq_left hn], hq, fun j u hj => hc j u ?_⟩
  have : E.flat l = E.flat (l.take n) ++ E.flat (l.drop n) := by rw [← Elem.flat_append, List.take_append_drop]
  rw [this, List.getElem?_append_left (List.getElem?_eq_some_iff.1 hj).1]
  exact hj
end Go.Proofs.YtdebbmembkbniaaGreat
/-! (of general use) wire.Frames. -/
namespace Go.Agg
open Go.RowKit
variable {P : Program} {α : Type} {E : Elem P α} {base : Nat} {w w' : World} {v : Value} {l : List α}
theorem Own.keepT (h : Own E base w v l) (hk : ∀ (g : Nat) (cur : Array Value) (fr : Nat × Nat), w.heap[g]? = some (Obj.cells cur E.ty fr) → w'.heap[g]? = some (Obj.cells cur E.ty fr)) : Own E base w' v l := by
 obtain ⟨hfl, h | ⟨g, cap, cur, hv, hb, hc, hr⟩⟩ := h
 ·exact ⟨hfl, .inl h⟩
 ·exact ⟨hfl, .inr ⟨g, cap, cur, hv, hb, hk g cur _ hc, hr⟩⟩
end Go.Agg
namespace Go.Proofs.YtdebbmembkbniaaGreat
open Go.RowKit Pl Go.Agg
section
variable {base : Nat} {w w' : World} {vs : List SV} {ls : List (List UInt8)} {v : Value} {r : List UInt8}
def Rest (base : Nat) (w : World) (v : Value) (r : List UInt8) : Prop :=
 (v = .slice none 0 0 ∧ r = []) ∨ ∃ g off cap cs, v = .slice (some ⟨g, off, none⟩) r.length cap ∧ r.length ≤ cap ∧ base ≤ g ∧ Blk w g 5 cs ∧ off + cap ≤ cs.size ∧ ∀ j u, (EB.flat r)[j]? = some u → cs[off + j]? = some u
theorem Rest.of_own (h : Own EB base w v r) : Rest base w v r := by
 obtain ⟨hfl, ⟨rfl, h0⟩ | ⟨g, cap, cur, rfl, hgb, hcur, hle, _, hsz, htk⟩⟩ := h
 ·exact .inl ⟨rfl, List.length_eq_zero_iff.1 h0⟩
 ·refine .inr ⟨g, 0, cap, cur, rfl, hle, hgb, hcur, by rw [hsz, show EB.n = 1 from rfl]; omega, fun j u hj => ?_⟩
  rw [← htk, List.getElem?_take] at hj
  split at hj
  ·simpa using hj
  ·cases hj
theorem Rest.slice (h : Rest base w v r) : BytesAt w v r := by
 rcases h with ⟨rfl, rfl⟩ | ⟨g, off, cap, cs, rfl, _, _, hb, _, hc⟩
 ·exact SliceOf.nil _ _ _
 ·exact .inr ⟨_, cap, rfl, hb.lt, fun j u hj => by rw [add_plain, hb.cell]; exact hc j u hj⟩
theorem Rest.cap (h : Rest base w v r) : ∀ p n c, v = .slice p n c → n ≤ c := by
 rcases h with ⟨rfl, rfl⟩ | ⟨g, off, cap, cs, rfl, hle, _⟩
 ·intro p n c e; injection e with _ h1 h2; omega
 ·intro p n c e; injection e with _ h1 h2; omega
theorem Rest.below (h : Rest base w v r) (hb : Below w.heap.size w w') : Rest base w' v r := by
 rcases h with h | ⟨g, off, cap, cs, rfl, hle, hg, hk, hc⟩
 ·exact .inl h
 ·exact .inr ⟨g, off, cap, cs, rfl, hle, hg, hk.below hb, hc⟩
theorem Rest.drop {g off cap : Nat} (h : Rest base w (.slice (some ⟨g, off, none⟩) r.length cap) r) (k : Nat) (hk : k ≤ r.length) : Rest base w (.slice (some ⟨g, off + k, none⟩) (r.length - k) (cap - k)) (r.drop k) := by
 rcases h with ⟨h, _⟩ | ⟨g', off', cap', cs, h, hle, hg, hb, hsz, hc⟩
 ·cases h
 ·simp only [Value.slice.injEq, Option.some.injEq, Addr.mk.injEq] at h
  obtain ⟨⟨rfl, rfl, _⟩, _, rfl⟩ := h
  refine .inr ⟨g, off + k, cap - k, cs, by rw [List.length_drop], by simp; omega, hg, hb, by omega, fun j u hj => ?_⟩
  have e : EB.flat r = EB.flat (r.take k) ++ EB.flat (r.drop k) := by rw [← Elem.flat_append, List.take_append_drop]
  have hlen : (EB.flat (r.take k)).length = k := by rw [Elem.flat_length, show EB.n = 1 from rfl, List.length_take]; omega
  have := hc (k + j) u (by rw [e, List.getElem?_append_right (by omega), hlen, show k + j - k = j by omega]; exact hj)
  rwa [← Nat.add_assoc] at this
theorem Rest.zero {g off cap : Nat} (h : Rest base w (.slice (some ⟨g, off, none⟩) r.length cap) r) : Rest base w (.slice (some ⟨g, off, none⟩) 0 0) [] := by
 rcases h with ⟨h, _⟩ | ⟨g', off', cap', cs, h, hle, hg, hb, hsz, hc⟩
 ·cases h
 ·simp only [Value.slice.injEq, Option.some.injEq, Addr.mk.injEq] at h
  obtain ⟨⟨rfl, rfl, _⟩, _, rfl⟩ := h
  exact .inr ⟨g, off, 0, cs, rfl, Nat.le_refl _, hg, hb, by omega, fun j u hj => by simp [Elem.flat] at hj⟩
theorem Rest.empty {g off cap : Nat} (h : Rest base w (.slice (some ⟨g, off, none⟩) r.length cap) r) {m : List UInt8} (hm : m = []) : Rest base w (.slice (some ⟨g, off, none⟩) 0 0) m := by
 rw [hm]; exact h.zero
end
end Go.Proofs.YtdebbmembkbniaaGreat
/-! A load by its run; a block behind changes elsewhere. -/
namespace Go.Agg
open Go.RowKit
theorem exec_loadB {P : Program} {o : Oper} {a : Act} {w : World} {ty : TypeId} {x : Operand} {p v : Value} (ho : o.op = .load ty x) (hx : a.eval x = p) (hrun : (Instr.loadAt ty p).run P w = .ok v w) : (execOp a.eval o).run P w = .ok (.value v) w := by simp [execOp, ho, hx, hrun]
theorem Blk.onlyP {w w' : World} {S : Nat → Prop} {g : Nat} {t : TypeId} {cs : Array Value} (h : Blk w g t cs) (ho : Only S w w') (hS : ¬ S g) : Blk w' g t cs := (ho.block g h.lt hS).trans h
end Go.Agg
/-! A resolved derivation in a block. -/
namespace Go.Agg
open Go.RowKit
theorem Blk.onlyQ {w w' : World} {S : Nat → Prop} {g : Nat} {t : TypeId} {cs : Array Value} (h : Blk w g t cs) (ho : Only S w w') (hS : ¬ S g) : Blk w' g t cs := (ho.block g h.lt hS).trans h
theorem Blk.pushedB {P : Program} {α : Type} {E : Elem P α} {base g : Nat} {w w' : World} {v : Value} {t : TypeId} {cs : Array Value} (h : Blk w g t cs) (hp : Pushed E base w w' v) (hne : t ≠ E.ty) : Blk w' g t cs := hp.blk g _ _ _ hne h
theorem Own.onlyB {P : Program} {α : Type} {E : Elem P α} {base g : Nat} {w w' : World} {v : Value} {l : List α} {t : TypeId} {cs : Array Value} (h : Own E base w v l) (ho : Only (· = g) w w') (hb : Blk w g t cs) (hne : t ≠ E.ty) : Own E base w' v l := by
 refine h.keepT fun k cur fr hk => (ho.block k (heap_lt hk) ?_).trans hk
 rintro rfl
 rw [show w.heap[k]? = _ from hb] at hk
 injection hk with hk
 injection hk with _ ht
 exact hne ht
end Go.Agg
namespace Go.Proofs.YtdebbmembkbniaaGreat
open Go.RowKit Pl Go.Agg
def rsC (n : List UInt8) (vi vr : Value) : Array Value := #[.string ⟨n.toArray⟩, vi, vr]
theorem rsC_one {w1 w2 : World} {vi vr : Value} {l : List Rin} {b : List UInt8} (n : List UInt8) (h1 : SliceOf ERi w1 vi l) (h2 : SliceOf EB w2 vr b) : (rsC n vi vr).all (·.oneCell') = true := by
 obtain ⟨p, c, rfl⟩ := h1.form
 obtain ⟨q, e, rfl⟩ := h2.form
 simp [rsC, Value.oneCell']
theorem rsC_z : (rsC [] (.slice none 0 0) (.slice none 0 0)).all (·.oneCell') = true := by simp [rsC, Value.oneCell']
theorem rsC_ss (n m : List UInt8) (a b c d : Value) : (rsC n a b).size = (rsC m c d).size := rfl
theorem rsC_lt (n : List UInt8) (a b : Value) (i : Nat) (h : i < 3) : i < (rsC n a b).size := h
theorem rsC_info (n : List UInt8) (a b : Value) : (Tryz.prog.info? 25).map (·.size) = some (rsC n a b).size := by kernel_rfl
theorem rsC_zero : (Tryz.prog.info? 25).map (·.zero) = some (some (.agg (rsC [] (.slice none 0 0) (.slice none 0 0)))) := by kernel_rfl
end Go.Proofs.YtdebbmembkbniaaGreat
/-! Regions that draw their order, in which a maker takes texts. -/
namespace Go.Agg
open Go.RowKit
theorem exec_loadC {P : Program} {o : Oper} {a : Act} {w : World} {ty : TypeId} {x : Operand} {p v : Value} (ho : o.op = .load ty x) (hx : a.eval x = p) (hrun : (Instr.loadAt ty p).run P w = .ok v w) : (execOp a.eval o).run P w = .ok (.value v) w := by simp [execOp, ho, hx, hrun]
theorem exec_lenC {P : Program} {o : Oper} {a : Act} {w : World} {st : TypeId} {x : Operand} {v r : Value} (ho : o.op = .call { callee := .builtin .len, args := #[x], argTypes := #[st] }) (hx : a.eval x = v) (hrun : (Builtin.len_ #[st] o.type #[v]).run P w = .ok r w) : (execOp a.eval o).run P w = .ok (.value r) w := by
 simp [execOp, ho, resolve, invoke, builtin, hx, hrun]
theorem exec_build0C {P : Program} {o : Oper} {a : Act} {w : World} {ty : TypeId} {v : Value} (ho : o.op = .build ty #[]) (hrun : (Instr.build ty #[]).run P w = .ok v w) : (execOp a.eval o).run P w = .ok (.value v) w := by simp [execOp, ho, hrun]
theorem Blk.onlyC {w w' : World} {S : Nat → Prop} {g : Nat} {t : TypeId} {cs : Array Value} (h : Blk w g t cs) (ho : Only S w w') (hS : ¬ S g) : Blk w' g t cs := (ho.block g h.lt hS).trans h
end Go.Agg
namespace Go.Proofs.YtdebbmembkbniaaGreat
open Go.RowKit Pl Go.Agg
theorem mk_keeps {g b2 : Nat} {w w' : World} {v v' : Value} {cs : Array Value} {l : List UInt8} {t : TypeId} (hm : MkV g w v l) (hb : Blk w b2 t cs) (ht : t ≠ 5) (hs : MkStep g w w' v v') (hne : b2 ≠ g) : Blk w' b2 t cs :=
 hb.onlyC hs.only fun h => h.elim hne fun e => by
  obtain ⟨_, cur, hc⟩ := hm.own.block _ e
  unfold Blk at hb
  rw [hb] at hc
  injection hc with hc
  injection hc with _ h2
  exact ht h2
theorem newBytes_ownB {w w' : World} {v : Value} {s : List UInt8} (h : NewBytes w w' v s) : ∀ k, v.ownBlock = some k → w.heap.size ≤ k := by
 obtain ⟨cap, fr, rfl, _, _, _⟩ := h
 intro k hk
 obtain rfl : w.heap.size = k := by simpa [Value.ownBlock] using hk
 exact Nat.le_refl _
theorem bytes_svB {w : World} {v : Value} {l : List UInt8} (h : BytesAt w v l) : ∃ s : SV, v = s.1 := by
 obtain ⟨p, c, hf⟩ := h.form
 exact ⟨⟨v, p, _, c, hf⟩, rfl⟩
theorem step_toBytes {ops : Array Oper} {o : Oper} {a : Act} {w : World} {Q : Exit → Act → World → Prop} {K : Act → World → Prop} {F : Prop} (hg : o.guard = none) (x : Operand) (ho : o.op = .convert 9 23 x) (s : List UInt8) (hx : a.eval x = .string ⟨s.toArray⟩)
  (h : ∀ v' w', NewBytes w w' v' s → Below w.heap.size w w' → K (a.put o.dst v') w') : if Region.wanted o (yielded ops a.tmps) = true then o.wp Tryz.prog a w K Q else F := by
 obtain ⟨v', w', hr, h1, h2⟩ := run_toBytes w s
 exact step_val hg (v := v') (w' := w') (by simp [execOp, ho, hx, hr]) (h v' w' h1 h2)
theorem maker_build (w : World) : (Instr.build 85 #[]).run Tryz.prog w = .ok (.agg (mkC (.slice none 0 0))) w := by kernel_rfl
theorem hash_slice {w : World} {b i : Nat} {t : TypeId} {cs : Array Value} {h : List UInt8} (hb : Blk w b t cs) (hl : h.length = 20) (hc : ∀ j v, (hC h)[j]? = some v → cs[i + j]? = some v) : SliceOf EB w (.slice (some ⟨b, i, none⟩) 20 20) h := by
 refine .inr ⟨_, 20, by rw [hl], hb.lt, fun j v hj => ?_⟩
 rw [add_plain, hb.cell]
 refine hc j v ?_
 rw [flat_bytes] at hj
 simpa [hC] using hj
end Go.Proofs.YtdebbmembkbniaaGreat
/-! spencekit.SameBytes. -/
namespace Go.Proofs.YtdebbmembkbniaaGreat
open Go.RowKit Pl Go.Agg
theorem take_eq_succ {α : Type} {a b : List α} {k : Nat} {x y : α} (hx : a[k]? = some x) (hy : b[k]? = some y) (h : a.take k = b.take k) (hxy : x = y) : a.take (k + 1) = b.take (k + 1) := by
 rw [List.take_add_one, List.take_add_one, hx, hy, h, hxy]
theorem ne_at {α : Type} {a b : List α} {k : Nat} {x y : α} (hx : a[k]? = some x) (hy : b[k]? = some y) (hxy : x ≠ y) : a ≠ b := by
 rintro rfl
 exact hxy (Option.some.inj (hx.symm.trans hy))
set_option maxRecDepth 100000 in
set_option maxHeartbeats 1000000 in
theorem sameBytes_any (v u : Value) (a b : List UInt8) (_ha : a.length ≤ 1048576) (hb : b.length ≤ 1048576) (w : World) (he : BytesAt w v a) (hf : BytesAt w u b) :
  Calls Tryz.prog 20 #[v, u] w fun e w' => e = .returned (.bool (decide (a = b))) ∧ Below w.heap.size w w' := by
 have hlv := fun W => bytes_len he W
 have hlu := fun W => bytes_len hf W
 have HE := Lib.hid he
 have HF := Lib.hid hf
 clear he hf
 by_cases hlen : a.length = b.length
 ·have hne : ((a.length : Int) != (b.length : Int)) = false := by simp [hlen]
  have HLEN := Lib.hid hlen
  rw [hlen] at hlv hne
  clear hlen
  go_enter Tryz.func20, Tryz.ntmps20
  go_wp2_with fail
  go_loopw [5] (fun i wr => ∃ k : Nat, k ≤ b.length ∧ i = .int .i64 k ∧ a.take k = b.take k ∧ Below w.heap.size w wr) (fun i _ => b.length - (intOf i).toNat)
  case atStart => exact ⟨0, by omega, rfl, rfl, Below.refl _ _⟩
  case round =>
   obtain ⟨w1, rfl⟩ : ∃ w1 : World, w1 = wr := ⟨_, rfl⟩
   obtain ⟨k, hk, rfl, htk, hw⟩ := hrel
   have HTK := Lib.hid htk
   clear htk
   by_cases hlt : k < b.length
   ·obtain ⟨y, hyk⟩ : ∃ y, b[k]? = some y := ⟨_, List.getElem?_eq_getElem hlt⟩
    obtain ⟨x, hxk⟩ : ∃ x, a[k]? = some x := ⟨_, List.getElem?_eq_getElem (by rw [HLEN.out]; exact hlt)⟩
    obtain ⟨p, hadr, hld⟩ := byte_at (HE.out.below hw) k x hxk
    obtain ⟨q, hadq, hlq⟩ := byte_at (HF.out.below hw) k y hyk
    have HLX := Lib.hid hld
    have HLY := Lib.hid hlq
    clear hld hlq
    have HX := Lib.hid hxk
    have HY := Lib.hid hyk
    clear hxk hyk
    by_cases hxy : x = y
    ·have HXY := Lib.hid hxy
     have hq : ((x.toNat : Int) != (y.toNat : Int)) = false := by simp [hxy]
     clear hxy
     go_wp2_with fail
     try simp only [Act.put, List.setIfInBounds_toArray, List.set_cons_succ, List.set_cons_zero]
     refine wp_region_later_lit (by kernel_rfl) (by kernel_rfl) ?_
     repeat (first | go_big_quiet_skip | ((first | (with_reducible refine wpQuiet_loadL HLX.out rfl _ rfl rfl ?_) | (with_reducible refine wpQuiet_loadL HLY.out rfl _ rfl rfl ?_)); simp only [Act.put, List.setIfInBounds_toArray, List.set_cons_succ, List.set_cons_zero]) | go_big_quiet_step (fail))
     refine wpQuiet_nil ?_
     intro _ hw'
     obtain ⟨x1, rfl⟩ := hw'
     go_wp2_with fail
     go_roundw
     case rel => exact ⟨k + 1, by omega, by go_num, take_eq_succ HX.out HY.out HTK.out HXY.out, belowThen hw (Nat.le_refl _) x1.h⟩
     case measure => simp [intOf]; omega
    ·have HXY := Lib.hid hxy
     have hq : ((x.toNat : Int) != (y.toNat : Int)) = true := by rw [bne_iff_ne]; intro e; exact hxy (UInt8.toNat_inj.1 (by omega))
     clear hxy
     go_wp2_with fail
     try simp only [Act.put, List.setIfInBounds_toArray, List.set_cons_succ, List.set_cons_zero]
     refine wp_region_later_lit (by kernel_rfl) (by kernel_rfl) ?_
     repeat (first | go_big_quiet_skip | ((first | (with_reducible refine wpQuiet_loadL HLX.out rfl _ rfl rfl ?_) | (with_reducible refine wpQuiet_loadL HLY.out rfl _ rfl rfl ?_)); simp only [Act.put, List.setIfInBounds_toArray, List.set_cons_succ, List.set_cons_zero]) | go_big_quiet_step (fail))
     refine wpQuiet_nil ?_
     intro _ hw'
     obtain ⟨x1, rfl⟩ := hw'
     have hres : decide (a = b) = false := by simpa using ne_at HX.out HY.out HXY.out
     have HR := Lib.hid hres
     clear hres
     go_wp2_with fail
     go_ret
     exact ⟨ret_bool HR.out.symm, belowThen hw (Nat.le_refl _) x1.h⟩
   ·obtain rfl : k = b.length := by omega
    have hres : decide (a = b) = true := by
     have := HTK.out
     rw [List.take_length, List.take_of_length_le (by rw [HLEN.out]; omega)] at this
     simpa using this
    have HR := Lib.hid hres
    clear hres
    go_wp2_with fail
    go_ret
    exact ⟨ret_bool HR.out.symm, hw⟩
 ·have hne : ((a.length : Int) != (b.length : Int)) = true := by rw [bne_iff_ne]; omega
  have hres : decide (a = b) = false := by simp; exact fun e => hlen (by rw [e])
  have HR := Lib.hid hres
  clear hres
  go_enter Tryz.func20, Tryz.ntmps20
  go_wp2_with fail
  go_ret
  exact ⟨ret_bool HR.out.symm, Below.refl _ _⟩
end Go.Proofs.YtdebbmembkbniaaGreat
/-! Builts, and what was made: their cells; both as elements of slices. -/
namespace Go.Proofs.YtdebbmembkbniaaGreat
open Go.RowKit Pl Go.Agg
abbrev Md : Type := H20 × P20
instance : DecidableEq Md := inferInstance
instance : DecidableEq (List Md) := inferInstance
def mC (x : Md) : Array Value := hC x.1.1 ++ pC x.2.1.1 x.2.1.2
def zM : Md := (⟨z20, rfl⟩, ⟨(z20, []), rfl⟩)
theorem mC_size (x : Md) : (mC x).size = 41 := by simp [mC, pC_size, hC_size, x.1.2, x.2.2]
theorem mC_one (x : Md) : (mC x).all (·.oneCell') = true := by rw [mC, Array.all_append, pC_one, hC_one]; rfl
theorem mC_cl (x : Md) (j : Nat) (v : Value) (h : (hC x.1.1)[j]? = some v) : (mC x)[0 + j]? = some v := by
 have := (Array.getElem?_eq_some_iff.1 h).1
 rw [mC, Nat.zero_add, Array.getElem?_append_left this]; exact h
theorem mC_pa (x : Md) (j : Nat) (v : Value) (h : (pC x.2.1.1 x.2.1.2)[j]? = some v) : (mC x)[20 + j]? = some v := by
 rw [mC, Array.getElem?_append_right (by rw [hC_size, x.1.2]; omega), hC_size, x.1.2, show 20 + j - 20 = j by omega]; exact h
theorem mC_zero : (Tryz.prog.info? 75).map (·.zero) = some (some (.agg (mC zM))) := by kernel_rfl
theorem mC_info (x : Md) : (Tryz.prog.info? 75).map (·.size) = some (mC x).size := by rw [mC_size]; kernel_rfl
theorem mC_under : Tryz.prog.underlying 75 = some (.struct (Tryz.prog.fieldsOf 75)) := by kernel_rfl
theorem made_under : Tryz.prog.underlying 67 = some (.slice 75) := by kernel_rfl
def EMd : Elem Tryz.prog Md where
 ty := 75
 st := 67
 n := 41
 bytes := 64
 val := fun x => .agg (mC x)
 zero := .agg (mC zM)
 pos := by omega
 small := by omega
 size := fun x => by simp [Value.cells, mC_size]
 one := fun x v hv => one_of (mC_one x) v hv
 zsize := by simp [Value.cells, mC_size]
 slice := by kernel_rfl
 info := info_of mC_zero (by kernel_rfl) (by kernel_rfl)
 load := fun w a x hp h => LoadsL.of_cells hp h mC_under rfl (mC_info x)
abbrev MdsAt (w : World) (v : Value) (l : List Md) : Prop := SliceOf EMd w v l
theorem mds_len {w : World} {v : Value} {l : List Md} (h : MdsAt w v l) (W : World) : (Builtin.len_ #[67] 3 #[v]).run Tryz.prog W = .ok (.int .i64 (l.length : Int)) W := h.len W
end Go.Proofs.YtdebbmembkbniaaGreat
/-! '==' of what was made, of hashes, of paths; slices.Equal, spencekit.SameMades, SameBuilt, SameBuilts. -/
namespace Go.Proofs.YtdebbmembkbniaaGreat
open Go.RowKit Pl Go.Agg
theorem eqlInP (d : Nat) (p q : P20) (w : World) : (Op.equalIn (d + 3) 48 (.agg (pC p.1.1 p.1.2)) (.agg (pC q.1.1 q.1.2))).run Tryz.prog w = .ok (decide (p = q)) w := by
 rw [run_equalIn_struct w (d + 2) 48 _ _ pC_under (by kernel_rfl)]
 have hf := path_fields
 generalize (Tryz.prog.fieldsOf 48).toList = fs at hf ⊢
 cases fs with
 | nil => exact absurd hf (by simp)
 | cons f1 fs =>
 cases fs with
 | nil => exact absurd hf (by simp)
 | cons f2 fs =>
 cases fs with
 | cons f3 fs => exact absurd hf (by simp)
 | nil =>
  simp only [List.map_cons, List.map_nil, List.cons.injEq, Prod.mk.injEq, and_true] at hf
  obtain ⟨⟨a1, a2, a3⟩, b1, b2, b3⟩ := hf
  have e : decide (p = q) = (p.1.1 == q.1.1 && p.1.2 == q.1.2) := by
   rw [Bool.eq_iff_iff]
   simp [Subtype.ext_iff, Prod.ext_iff]
  rw [e]
  simp only [Op.eqFields, a1, a2, a3, b1, b2, b3, Sem.run_bind, Sem.run_ite, part_hash _ _ p.2, part_hash _ _ q.2, part_name _ _ p.2, part_name _ _ q.2, Result.andThen_ok, eqlIn_hash d _ _ p.2 q.2, run_equalIn_string w (d + 1) 9 _ _ Tryz.underlying9, Agg.bytes_toList]
  cases p.1.1 == q.1.1 <;> cases p.1.2 == q.1.2 <;> simp
theorem eqlHB (x y : H20) (w : World) : (binOp .eql 43 (.agg (hC x.1)) (.agg (hC y.1))).run Tryz.prog w = .ok (.bool (decide (x = y))) w := by
 rw [eql_hash _ _ x.2 y.2]
 congr 2
 rw [Bool.eq_iff_iff]; simp [Subtype.ext_iff]
theorem eqlPB (x y : P20) (w : World) : (binOp .eql 48 (.agg (pC x.1.1 x.1.2)) (.agg (pC y.1.1 y.1.2))).run Tryz.prog w = .ok (.bool (decide (x = y))) w := by rw [run_eql_struct, eqlInP 9997]; rfl
theorem neqPB (x y : P20) (w : World) : (binOp .neq 48 (.agg (pC x.1.1 x.1.2)) (.agg (pC y.1.1 y.1.2))).run Tryz.prog w = .ok (.bool (!decide (x = y))) w := by rw [run_neq_struct, eqlInP 9997]; rfl

end Go.Proofs.YtdebbmembkbniaaGreat
/-! Comparison of strings, as operations. -/
namespace Go.Agg
open Go.RowKit
section
variable {P : Program} {ops : Array Oper} {rest : List Oper} {o : Oper} {a : Act} {w : World} {Q : Exit → Act → World → Prop} {t u : TypeId} {x y : Operand} {s r : List UInt8}
theorem exec_geqS (ho : o.op = .binOp .geq t x y u) (hx : a.eval x = .string ⟨s.toArray⟩) (hy : a.eval y = .string ⟨r.toArray⟩) : (execOp a.eval o).run P w = .ok (.value (.bool (!Op.bytesLess s r))) w := by
 simp only [execOp, ho, hx, hy]
 simp only [binOp, Op.stringOp, bytes_toList, eqGuard]
 first | rfl | simp
theorem exec_neqS (ho : o.op = .binOp .neq t x y u) (hx : a.eval x = .string ⟨s.toArray⟩) (hy : a.eval y = .string ⟨r.toArray⟩) : (execOp a.eval o).run P w = .ok (.value (.bool (!decide (s = r)))) w := by
 rw [← show (s == r) = decide (s = r) from by by_cases h : s = r <;> simp [h]]
 simp only [execOp, ho, hx, hy]
 simp only [binOp, Op.stringOp, bytes_toList, eqGuard]
 first | rfl | simp
theorem wpQuiet_geqS {C : World → Prop} {Q : Act → Prop} (hw : Region.wanted o (yielded ops a.tmps) = true) (ho : o.op = .binOp .geq t x y u) (hx : a.eval x = .string ⟨s.toArray⟩) (hy : a.eval y = .string ⟨r.toArray⟩) (b : Bool) (hb : (!Op.bytesLess s r) = b)
  (h : wpQuiet P ops C Q rest (a.put o.dst (.bool b))) : wpQuiet P ops C Q (o :: rest) a := by
 subst hb
 exact wpQuiet_val hw _ (fun _ _ => exec_geqS ho hx hy) h
theorem wpQuiet_neqS {C : World → Prop} {Q : Act → Prop} (hw : Region.wanted o (yielded ops a.tmps) = true) (ho : o.op = .binOp .neq t x y u) (hx : a.eval x = .string ⟨s.toArray⟩) (hy : a.eval y = .string ⟨r.toArray⟩) (b : Bool) (hb : (!decide (s = r)) = b)
  (h : wpQuiet P ops C Q rest (a.put o.dst (.bool b))) : wpQuiet P ops C Q (o :: rest) a := by
 subst hb
 exact wpQuiet_val hw _ (fun _ _ => exec_neqS ho hx hy) h
theorem wpList_neqS (hw : Region.wanted o (yielded ops a.tmps) = true) (ho : o.op = .binOp .neq t x y u) (hx : a.eval x = .string ⟨s.toArray⟩) (hy : a.eval y = .string ⟨r.toArray⟩) (b : Bool) (hb : (!decide (s = r)) = b) (h : wpList P ops Q rest (a.put o.dst (.bool b)) w) : wpList P ops Q (o :: rest) a w := by
 subst hb
 exact wpList_valw hw (exec_neqS ho hx hy) h
end
end Go.Agg
/-! Blocks that a step leaves alone. -/
namespace Go.Agg
open Go.RowKit
variable {P : Program}
theorem Blk.type {w : World} {g : Nat} {t t' : TypeId} {cs cs' : Array Value} (h : Blk w g t cs) (h' : Blk w g t' cs') : t = t' := by
 unfold Blk at h h'
 rw [h] at h'
 injection h' with h'
 injection h' with _ h'
theorem Blk.only {w w' : World} {S : Nat → Prop} {g : Nat} {t : TypeId} {cs : Array Value} (h : Blk w g t cs) (ho : Only S w w') (hS : ¬ S g) : Blk w' g t cs := (ho.block g h.lt hS).trans h
theorem Only.of_eq {w w' : World} {g : Nat} {S : Nat → Prop} (hb : Below g w w') (hs : w'.heap.size = w.heap.size) (hk : ∀ k, k ≠ g → w'.heap[k]? = w.heap[k]?) (hg : S g) : Only S w w' :=
 ⟨hb.os, hb.tape, hb.output, Nat.le_of_eq hs.symm, fun k _ hn => hk k (fun e => hn (e ▸ hg))⟩
end Go.Agg
