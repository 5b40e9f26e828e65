/- Operations of a region that draws, guarded ones too: each by its own law. (Several texts in one.) -/
import Derived.Test.YtnlilmiakddlaaaBAK
import Derived.Test.YtnlilmiakddlaaaBAG
import Derived.Test.YtnlilmiakddlaaaBAA
import Derived.Test.YtnlilmiakddlaaaShelf
import Derived.Test.YtnlilmiakddlaaaBAF
/-! code.Maker's block; what a step of a maker leaves alone. -/
namespace Go.Agg
open Go.RowKit
theorem encN_len' : ∀ (m n : Nat), 0 < m → n < 128 ^ m → (encN n).length ≤ m := by
  intro m
  induction m with
  | zero => intro n h; omega
  | succ m ih =>
    intro n _ hn
    by_cases h : n < 128
    · rw [encN_lt h]; simp
    · rw [encN_ge (by omega), List.length_cons]
      have hm : 0 < m := by
        rcases Nat.eq_zero_or_pos m with h0 | h0
        · subst h0; simp at hn; omega
        · exact h0
      have := ih (n / 128) hm (by rw [Nat.pow_succ] at hn; exact Nat.div_lt_of_lt_mul (by rw [Nat.mul_comm]; exact hn))
      omega
theorem encN_len {n : Nat} (h : n ≤ 1099511627776) : (encN n).length ≤ 6 := encN_len' 6 n (by omega) (by omega)
section
variable {P : Program} {α : Type} {E : Elem P α} {ops : Array Oper} {rest : List Oper} {o o2 : Oper} {a : Act} {w : World} {Q : Exit → Act → World → Prop} {base : Nat} {v : Value} {l : List α}
/-- where a grown slice lies -/
def Grew (w : World) (v v' : Value) : Prop := ∀ k, v'.ownBlock = some k → v.ownBlock = some k ∨ w.heap.size ≤ k
theorem Grew.refl (w : World) (v : Value) : Grew w v v := fun _ h => .inl h
theorem grew_of {w0 w : World} {v v' : Value} (hs : w0.heap.size ≤ w.heap.size) (h : v'.ownBlock = v.ownBlock ∨ v'.ownBlock = some w.heap.size) : Grew w0 v v' := fun k hk => by
  rcases h with h | h
  · rw [h] at hk; exact .inl hk
  · rw [h] at hk; obtain rfl := Option.some.inj hk; exact .inr hs
theorem wpList_pushO (hg : o.guard = none) (hg2 : o2.guard = none) (d : Tmp) (hd : o.dst = some d) (y : Operand) (ho : o.op = .buildSlice E.st 1 #[(0, y)]) (s : Operand)
    (ho2 : o2.op = .call { callee := .builtin .append, args := #[s, .tmp d], argTypes := #[E.st, E.st] }) (x : α) (hy : a.eval y = E.val x) (hs : ∀ p, (a.put o.dst p).eval s = v) (hsz : d < a.tmps.size)
    (hown : Own E base w v l) (h63 : l.length + 1 ≤ 1099511627776 / 8) (hby : E.bytes ≤ 1000) (hbase : base ≤ w.heap.size)
    (h : ∀ u v' w', Own E base w' v' (l ++ [x]) → Pushed E base w w' v → Grew w v v' → wpList P ops Q rest ((a.put o.dst u).put o2.dst v') w') : wpList P ops Q (o :: o2 :: rest) a w := by
  refine wpList_val hg (v := .slice (some ⟨w.heap.size, 0, none⟩) 1 1) (w' := w.alloc (.cells (E.val x).cells E.ty)) (by simp [execOp, ho, hy, run_slice_one]) ?_
  have hb1 : Below w.heap.size w (w.alloc (.cells (E.val x).cells E.ty)) := (Below.refl _ _).alloc (Nat.le_refl _) _
  have hown1 := hown.below hb1
  obtain ⟨v', w', hrun, h2, h3, h4, _⟩ := run_append (ty := o2.type) hown1 _ [x] (slice_of_block (Blk.new w E.ty (E.val x).cells)) (by simpa using h63) hby (Nat.le_trans hbase hb1.size)
  have hp := pushed_of hown1 h3
  have hpu : Pushed E base w w' v := {
    below := fun B hB hs => (hb1.mono hs).trans (hp.below B hB (Nat.le_trans hs hb1.size))
    other := fun g hlt hne => (hp.other g (Nat.lt_of_lt_of_le hlt hb1.size) hne).trans (hb1.block g hlt)
    blk := fun g t cs fr hne hb => hp.blk g t cs fr hne (keep' hb1 hb)
    map := fun g es c hb => hp.map g es c (keep' hb1 hb)
    size := Nat.le_trans hb1.size hp.size }
  refine wpList_val hg2 (v := v') (w' := w') ?_ (h _ v' w' h2 hpu (grew_of hb1.size h4))
  have e2 : (a.put o.dst (.slice (some ⟨w.heap.size, 0, none⟩) 1 1)).eval (.tmp d) = .slice (some ⟨w.heap.size, 0, none⟩) 1 1 := by rw [hd]; simp [Act.put, Act.eval, hsz]
  simp [execOp, ho2, resolve, invoke, builtin, hs, e2, hrun]
theorem wpList_appendO (hg : o.guard = none) (s x : Operand) (ho : o.op = .call { callee := .builtin .append, args := #[s, x], argTypes := #[E.st, E.st] }) (vx : Value) (hs : a.eval s = v) (hx : a.eval x = vx) (m : List α)
    (hown : Own E base w v l) (hm : SliceOf E w vx m) (h63 : l.length + m.length ≤ 1099511627776 / 8) (hby : E.bytes ≤ 1000) (hbase : base ≤ w.heap.size)
    (h : ∀ v' w', Own E base w' v' (l ++ m) → Pushed E base w w' v → Grew w v v' → wpList P ops Q rest (a.put o.dst v') w') : wpList P ops Q (o :: rest) a w := by
  obtain ⟨v', w', hrun, h2, h3, h4, _⟩ := run_append (ty := o.type) hown _ m hm h63 hby hbase
  refine wpList_val hg (v := v') (w' := w') ?_ (h v' w' h2 (pushed_of hown h3) (grew_of (Nat.le_refl _) h4))
  simp [execOp, ho, resolve, invoke, builtin, hs, hx, hrun]
theorem Pushed.only {w' : World} (h : Pushed E base w w' v) : Only (fun k => v.ownBlock = some k) w w' where
  os := (h.below 0 (Nat.zero_le _) (Nat.zero_le _)).os
  tape := (h.below 0 (Nat.zero_le _) (Nat.zero_le _)).tape
  output := (h.below 0 (Nat.zero_le _) (Nat.zero_le _)).output
  size := h.size
  block := fun k hk hne => h.other k hk (fun e => hne e.symm)
/-- a step of what lies at g, of which the slice v grows -/
structure MkStep (g : Nat) (w w' : World) (v v' : Value) : Prop where
  only : Only (fun k => k = g ∨ v.ownBlock = some k) w w'
  grew : Grew w v v'
variable {g : Nat} {w1 w2 : World} {v1 v2 : Value}
theorem MkStep.refl (g : Nat) (w : World) (v : Value) : MkStep g w w v v := ⟨Only.refl _ _, Grew.refl _ _⟩
theorem MkStep.trans (h : MkStep g w w1 v v1) (k : MkStep g w1 w2 v1 v2) : MkStep g w w2 v v2 where
  only := h.only.trans k.only fun i hi hT => by
    rcases hT with rfl | hT
    · exact .inl rfl
    · rcases h.grew i hT with h | h
      · exact .inr h
      · omega
  grew := fun i hi => by
    rcases k.grew i hi with h1 | h1
    · exact h.grew i h1
    · exact .inr (Nat.le_trans h.only.size h1)
theorem MkStep.later (h : MkStep g w w1 v v1) (hb : Below w1.heap.size w1 w2) : MkStep g w w2 v v1 := ⟨h.only.trans (Only.of_below (S := fun _ => False) hb) (fun _ _ h => h.elim), h.grew⟩
theorem MkStep.of_below (hb : Below w.heap.size w w1) : MkStep g w w1 v v := ⟨(Only.of_below (S := fun _ => False) hb).mono (fun _ _ h => h.elim), Grew.refl _ _⟩
theorem MkStep.below (h : MkStep g w w1 v v1) (hg : g ≤ w.heap.size) (hv : ∀ k, v.ownBlock = some k → g ≤ k) : Below g w w1 := h.only.below hg fun i hi => by
  rcases hi with rfl | hi
  · exact Nat.le_refl _
  · exact hv i hi
/-- a slice that a maker does not touch -/
def Off {β : Type} (F : Elem P β) (g : Nat) (w : World) (mv x : Value) (l : List β) : Prop := SliceOf F w x l ∧ (l = [] ∨ ∀ k, x.ownBlock = some k → k < w.heap.size ∧ k ≠ g ∧ mv.ownBlock ≠ some k)
theorem SliceOf.nil_any {β : Type} {F : Elem P β} {x : Value} (h : SliceOf F w x []) (w' : World) : SliceOf F w' x [] := by
  rcases h with ⟨p, c, rfl, _⟩ | ⟨p, cap, rfl, _⟩
  · exact SliceOf.nil _ _ _
  · exact SliceOf.nil _ _ _
theorem Off.step {β : Type} {F : Elem P β} {x : Value} {l : List β} (h : Off F g w v x l) (k : MkStep g w w1 v v1) : Off F g w1 v1 x l := by
  obtain ⟨h1, rfl | h2⟩ := h
  · exact ⟨h1.nil_any _, .inl rfl⟩
  · refine ⟨h1.onlyS k.only fun b hb hS => ?_, .inr fun b hb => ?_⟩
    · obtain ⟨_, h3, h4⟩ := h2 b hb
      rcases hS with rfl | hS
      · exact h3 rfl
      · exact h4 hS
    · obtain ⟨h5, h3, h4⟩ := h2 b hb
      refine ⟨Nat.lt_of_lt_of_le h5 k.only.size, h3, fun e => ?_⟩
      rcases k.grew b e with h | h
      · exact h4 h
      · omega
theorem Off.slice {β : Type} {F : Elem P β} {x : Value} {l : List β} (h : Off F g w v x l) : SliceOf F w x l := h.1
/-- what was there before the maker -/
theorem Off.before {β : Type} {F : Elem P β} {w0 : World} {x : Value} {l : List β} (h : SliceOf F w0 x l) (hb : Below w0.heap.size w0 w) (hg : w0.heap.size ≤ g) (hv : ∀ k, v.ownBlock = some k → w0.heap.size ≤ k) : Off F g w v x l := by
  refine ⟨h.below hb, ?_⟩
  rcases h with ⟨_, _, _, rfl⟩ | ⟨p, cap, rfl, hp, _⟩
  · exact .inl rfl
  · refine .inr fun k hk => ?_
    obtain rfl : p.block = k := by simpa [Value.ownBlock] using hk
    have := hb.size
    exact ⟨by omega, by omega, fun e => by have := hv _ e; omega⟩
/-- what came behind the maker's last step -/
theorem Off.behind {β : Type} {F : Elem P β} {w0 : World} {x : Value} {l : List β} (h : SliceOf F w x l) (hx : ∀ k, x.ownBlock = some k → w0.heap.size ≤ k) (hg : g < w0.heap.size) (hv : ∀ k, v.ownBlock = some k → k < w0.heap.size) : Off F g w v x l := by
  refine ⟨h, ?_⟩
  rcases h with ⟨_, _, _, rfl⟩ | ⟨p, cap, rfl, hp, _⟩
  · exact .inl rfl
  · refine .inr fun k hk => ?_
    have hk' := hk
    obtain rfl : p.block = k := by simpa [Value.ownBlock] using hk
    have := hx _ hk'
    exact ⟨hp, by omega, fun e => by have := hv _ e; omega⟩
end
end Go.Agg
namespace Go.Proofs.Ytnlilmiakddlaaa
open Go.RowKit Pl Go.Agg
def mkC (v : Value) : Array Value := #[v, .bool false]
section
variable {g : Nat} {w w' : World} {v : Value} {b : List UInt8}
end
end Go.Proofs.Ytnlilmiakddlaaa
/-! code.Maker: numbers and texts as bytes. -/
namespace Go.Proofs.Ytnlilmiakddlaaa
open Go.RowKit Pl Go.Agg
theorem or128 (k : Nat) : bits .or .u8 ((k : Int) % 256) 128 = ((UInt8.ofNat (k % 128 + 128)).toNat : Int) := by
  have h : ∀ m : Nat, m < 256 → bits .or .u8 (m : Int) 128 = ((UInt8.ofNat (m % 128 + 128)).toNat : Int) := by decide +kernel
  have := h (k % 256) (by omega)
  rw [show k % 256 % 128 = k % 128 by omega] at this
  rw [← this]
  congr 1
end Go.Proofs.Ytnlilmiakddlaaa
/-! bytes.Clone; code.Maker: Text, Done. -/
namespace Go.Proofs.Ytnlilmiakddlaaa
open Go.RowKit Pl Go.Agg
theorem nil_is (n c : Nat) (W : World) : (binOp .eql 23 (.slice none n c) (.slice none 0 0)).run Try.prog W = .ok (.bool true) W := by kernel_rfl
theorem nil_not (a : Addr) (n c : Nat) (W : World) : (binOp .eql 23 (.slice (some a) n c) (.slice none 0 0)).run Try.prog W = .ok (.bool false) W := by kernel_rfl
end Go.Proofs.Ytnlilmiakddlaaa
/-! slices.Clone at bytes. -/
namespace Go.Proofs.Ytnlilmiakddlaaa
open Go.RowKit Pl Go.Agg
end Go.Proofs.Ytnlilmiakddlaaa
/-! (of general use) wire.Frame. -/
namespace Go.Proofs.Ytnlilmiakddlaaa
open Go.RowKit Pl Go.Agg
/-- a slice of slices of bytes, and what lies in each -/
structure RowsIn (w : World) (vs : List SV) (ls : List (List UInt8)) : Prop where
  len : vs.length = ls.length
  row : ∀ (k : Nat) (s : SV) (l : List UInt8), vs[k]? = some s → ls[k]? = some l → BytesAt w s.1 l
theorem RowsIn.below {w w' : World} {vs : List SV} {ls : List (List UInt8)} (h : RowsIn w vs ls) (hb : Below w.heap.size w w') : RowsIn w' vs ls := ⟨h.len, fun k s l h1 h2 => (h.row k s l h1 h2).below hb⟩
theorem framed_take {ls : List (List UInt8)} {k : Nat} {l : List UInt8} (h : ls[k]? = some l) : framed (ls.take k) ++ (encN l.length ++ l) = framed (ls.take (k + 1)) := by
  rw [List.take_add_one, h]; simp [framed]
theorem framed_le (ls : List (List UInt8)) (k : Nat) : (framed (ls.take k)).length ≤ (framed ls).length := by
  have : framed ls = framed (ls.take k) ++ framed (ls.drop k) := by
    unfold framed; rw [← List.flatMap_append, List.take_append_drop]
  rw [this, List.length_append]; omega
end Go.Proofs.Ytnlilmiakddlaaa
/-! (of general use) wire.begin. -/
namespace Go.Proofs.Ytnlilmiakddlaaa
open Go.RowKit Pl Go.Agg
theorem sliceOf_taken {α : Type} {E : Elem Try.prog α} {w : World} {p : Option Addr} {c : Nat} {l : List α} (h : SliceOf E w (.slice p l.length c) l) (n : Nat) (hn : n ≤ l.length) : SliceOf E w (.slice p n c) (l.take n) := by
  rcases h with ⟨q, d, e, rfl⟩ | ⟨q, d, e, hq, hc⟩
  · obtain rfl : n = 0 := by simpa using hn
    exact SliceOf.nil _ _ _
  · simp only [Value.slice.injEq] at e
    obtain ⟨rfl, _, rfl⟩ := e
    refine .inr ⟨q, c, by rw [List.length_take, Nat.min_eq_left hn], hq, fun j u hj => hc j u ?_⟩
    have : E.flat l = E.flat (l.take n) ++ E.flat (l.drop n) := by rw [← Elem.flat_append, List.take_append_drop]
    rw [this, List.getElem?_append_left (List.getElem?_eq_some_iff.1 hj).1]
    exact hj
theorem and127 (b : UInt8) : bits .and .u8 (b.toNat : Int) 127 = ((b.toNat % 128 : Nat) : Int) := by
  have h : ∀ m : Nat, m < 256 → bits .and .u8 (m : Int) 127 = ((m % 128 : Nat) : Int) := by decide +kernel
  exact h _ b.toNat_lt
theorem and128 (b : UInt8) : bits .and .u8 (b.toNat : Int) 128 = ((b.toNat / 128 * 128 : Nat) : Int) := by
  have h : ∀ m : Nat, m < 256 → bits .and .u8 (m : Int) 128 = ((m / 128 * 128 : Nat) : Int) := by decide +kernel
  exact h _ b.toNat_lt
theorem i64_or_nat (a b : Nat) (ha : a < 9223372036854775808) (hb : b < 9223372036854775808) : bits .or .i64 (a : Int) (b : Int) = ((a ||| b : Nat) : Int) := by
  have hx : a ||| b < 2 ^ 63 := Nat.or_lt_two_pow (by omega) (by omega)
  show IntKind.i64.wrap ((BitVec.ofInt 64 (a : Int) ||| BitVec.ofInt 64 (b : Int)).toNat : Int) = _
  rw [BitVec.toNat_or, ofInt_u64 a (by omega), ofInt_u64 b (by omega), IntKind.wrap_i64]
  omega
theorem or_add (N x k : Nat) (hx : x < 128) (hN : N < 2 ^ (7 * k)) (hk : k < 4) : bits .or .i64 (N : Int) ((x * 2 ^ (7 * k) : Nat) : Int) = ((N + x * 2 ^ (7 * k) : Nat) : Int) := by
  have h5 : 2 ^ (7 * k) ≤ 2 ^ 21 := Nat.pow_le_pow_right (by omega) (by omega)
  have hp : x * 2 ^ (7 * k) ≤ 128 * 2 ^ 21 := Nat.mul_le_mul (by omega) h5
  rw [i64_or_nat _ _ (by omega) (by omega), Nat.or_comm, Nat.mul_comm, ← Nat.two_pow_add_eq_or_of_lt hN, Nat.add_comm]
end Go.Proofs.Ytnlilmiakddlaaa
/-! (of general use) wire.Frames. -/
namespace Go.Agg
open Go.RowKit
variable {P : Program} {α : Type} {E : Elem P α} {base : Nat} {w w' : World} {v : Value} {l : List α}
theorem Own.keepT (h : Own E base w v l) (hk : ∀ (g : Nat) (cur : Array Value) (fr : Nat × Nat), w.heap[g]? = some (Obj.cells cur E.ty fr) → w'.heap[g]? = some (Obj.cells cur E.ty fr)) : Own E base w' v l := by
  obtain ⟨hfl, h | ⟨g, cap, cur, hv, hb, hc, hr⟩⟩ := h
  · exact ⟨hfl, .inl h⟩
  · exact ⟨hfl, .inr ⟨g, cap, cur, hv, hb, hk g cur _ hc, hr⟩⟩
theorem Own.cap (h : Own E base w v l) : ∀ p n c, v = .slice p n c → n ≤ c := by
  obtain ⟨_, ⟨rfl, _⟩ | ⟨g, cap, cur, rfl, _, _, hle, _⟩⟩ := h
  · intro p n c e; injection e with _ h1 h2; omega
  · intro p n c e; injection e with _ h1 h2; omega
end Go.Agg
namespace Go.Proofs.Ytnlilmiakddlaaa
open Go.RowKit Pl Go.Agg
/-- rows of bytes, each in a block of its own -/
structure RowsOwn (base : Nat) (w : World) (vs : List SV) (ls : List (List UInt8)) : Prop where
  len : vs.length = ls.length
  row : ∀ (k : Nat) (s : SV) (l : List UInt8), vs[k]? = some s → ls[k]? = some l → Own EB base w s.1 l
section
variable {base : Nat} {w w' : World} {vs : List SV} {ls : List (List UInt8)} {v : Value} {r : List UInt8}
theorem RowsOwn.below (h : RowsOwn base w vs ls) (hb : Below w.heap.size w w') : RowsOwn base w' vs ls := ⟨h.len, fun k s l h1 h2 => (h.row k s l h1 h2).below hb⟩
theorem RowsOwn.rows (h : RowsOwn base w vs ls) : RowsIn w vs ls := ⟨h.len, fun k s l h1 h2 => (h.row k s l h1 h2).slice⟩
theorem RowsOwn.push {s : SV} {l : List UInt8} (h : RowsOwn base w vs ls) (hs : Own EB base w s.1 l) : RowsOwn base w (vs ++ [s]) (ls ++ [l]) := by
  refine ⟨by simp [h.len], fun k t m h1 h2 => ?_⟩
  have hl := h.len
  by_cases hk : k < vs.length
  · rw [List.getElem?_append_left hk] at h1
    rw [List.getElem?_append_left (by omega)] at h2
    exact h.row k t m h1 h2
  · rw [List.getElem?_append_right (by omega)] at h1 h2
    by_cases hk0 : k - vs.length = 0
    · rw [hk0] at h1
      rw [show k - ls.length = 0 by omega] at h2
      obtain rfl : s = t := by simpa using h1
      obtain rfl : l = m := by simpa using h2
      exact hs
    · rw [List.getElem?_eq_none (by simp; omega)] at h1; cases h1
/-- what is left of a clone -/
def Rest (base : Nat) (w : World) (v : Value) (r : List UInt8) : Prop :=
  (v = .slice none 0 0 ∧ r = []) ∨ ∃ g off cap cs, v = .slice (some ⟨g, off, none⟩) r.length cap ∧ r.length ≤ cap ∧ base ≤ g ∧ Blk w g 5 cs ∧ off + cap ≤ cs.size ∧ ∀ j u, (EB.flat r)[j]? = some u → cs[off + j]? = some u
theorem Rest.of_own (h : Own EB base w v r) : Rest base w v r := by
  obtain ⟨hfl, ⟨rfl, h0⟩ | ⟨g, cap, cur, rfl, hgb, hcur, hle, _, hsz, htk⟩⟩ := h
  · exact .inl ⟨rfl, List.length_eq_zero_iff.1 h0⟩
  · refine .inr ⟨g, 0, cap, cur, rfl, hle, hgb, hcur, by rw [hsz, show EB.n = 1 from rfl]; omega, fun j u hj => ?_⟩
    rw [← htk, List.getElem?_take] at hj
    split at hj
    · simpa using hj
    · cases hj
theorem Rest.slice (h : Rest base w v r) : BytesAt w v r := by
  rcases h with ⟨rfl, rfl⟩ | ⟨g, off, cap, cs, rfl, _, _, hb, _, hc⟩
  · exact SliceOf.nil _ _ _
  · exact .inr ⟨_, cap, rfl, hb.lt, fun j u hj => by rw [add_plain, hb.cell]; exact hc j u hj⟩
theorem Rest.room (h : Rest base w v r) : RoomN EB w v r := by
  rcases h with ⟨rfl, rfl⟩ | ⟨g, off, cap, cs, rfl, hle, _, hb, hsz, hc⟩
  · exact .inl ⟨rfl, rfl⟩
  · refine .inr ⟨g, off, cap, rfl, hle, hb.lt, fun j hj => ?_, fun j _ => frozen_of_row _ _ _ _ _ hb, fun j u hj => by rw [hb.cell]; exact hc j u hj⟩
    rw [show EB.n = 1 from rfl, Nat.mul_one] at hj
    rw [hb.cell, Array.getElem?_eq_getElem (by omega)]; rfl
theorem Rest.block (h : Rest base w v r) : ∀ k, v.ownBlock = some k → base ≤ k ∧ k < w.heap.size := by
  rcases h with ⟨rfl, rfl⟩ | ⟨g, off, cap, cs, rfl, _, hg, hb, _⟩
  · intro k hk; simp [Value.ownBlock] at hk
  · intro k hk
    obtain rfl : g = k := by simpa [Value.ownBlock] using hk
    exact ⟨hg, hb.lt⟩
theorem Rest.cap (h : Rest base w v r) : ∀ p n c, v = .slice p n c → n ≤ c := by
  rcases h with ⟨rfl, rfl⟩ | ⟨g, off, cap, cs, rfl, hle, _⟩
  · intro p n c e; injection e with _ h1 h2; omega
  · intro p n c e; injection e with _ h1 h2; omega
theorem Rest.below (h : Rest base w v r) (hb : Below w.heap.size w w') : Rest base w' v r := by
  rcases h with h | ⟨g, off, cap, cs, rfl, hle, hg, hk, hc⟩
  · exact .inl h
  · exact .inr ⟨g, off, cap, cs, rfl, hle, hg, hk.below hb, hc⟩
theorem Rest.drop {g off cap : Nat} (h : Rest base w (.slice (some ⟨g, off, none⟩) r.length cap) r) (k : Nat) (hk : k ≤ r.length) : Rest base w (.slice (some ⟨g, off + k, none⟩) (r.length - k) (cap - k)) (r.drop k) := by
  rcases h with ⟨h, _⟩ | ⟨g', off', cap', cs, h, hle, hg, hb, hsz, hc⟩
  · cases h
  · simp only [Value.slice.injEq, Option.some.injEq, Addr.mk.injEq] at h
    obtain ⟨⟨rfl, rfl, _⟩, _, rfl⟩ := h
    refine .inr ⟨g, off + k, cap - k, cs, by rw [List.length_drop], by simp; omega, hg, hb, by omega, fun j u hj => ?_⟩
    have e : EB.flat r = EB.flat (r.take k) ++ EB.flat (r.drop k) := by rw [← Elem.flat_append, List.take_append_drop]
    have hlen : (EB.flat (r.take k)).length = k := by rw [Elem.flat_length, show EB.n = 1 from rfl, List.length_take]; omega
    have := hc (k + j) u (by rw [e, List.getElem?_append_right (by omega), hlen, show k + j - k = j by omega]; exact hj)
    rwa [← Nat.add_assoc] at this
theorem Rest.zero {g off cap : Nat} (h : Rest base w (.slice (some ⟨g, off, none⟩) r.length cap) r) : Rest base w (.slice (some ⟨g, off, none⟩) 0 0) [] := by
  rcases h with ⟨h, _⟩ | ⟨g', off', cap', cs, h, hle, hg, hb, hsz, hc⟩
  · cases h
  · simp only [Value.slice.injEq, Option.some.injEq, Addr.mk.injEq] at h
    obtain ⟨⟨rfl, rfl, _⟩, _, rfl⟩ := h
    exact .inr ⟨g, off, 0, cs, rfl, Nat.le_refl _, hg, hb, by omega, fun j u hj => by simp [Elem.flat] at hj⟩
theorem Rest.empty {g off cap : Nat} (h : Rest base w (.slice (some ⟨g, off, none⟩) r.length cap) r) {m : List UInt8} (hm : m = []) : Rest base w (.slice (some ⟨g, off, none⟩) 0 0) m := by
  rw [hm]; exact h.zero
end
theorem dist_push {vs : List SV} {s : SV} {B : Nat} (h : Dist vs) (hv : ∀ b, SS vs b → b < B) (hs : ∀ b, s.1.ownBlock = some b → B ≤ b) : Dist (vs ++ [s]) := by
  intro i j u v hi hj hij b hu hv'
  have one : ∀ (i : Nat) (u : SV), (vs ++ [s])[i]? = some u → (i < vs.length ∧ vs[i]? = some u) ∨ (i = vs.length ∧ u = s) := fun i u h => by
    by_cases hi : i < vs.length
    · rw [List.getElem?_append_left hi] at h; exact .inl ⟨hi, h⟩
    · rw [List.getElem?_append_right (by omega)] at h
      by_cases h0 : i - vs.length = 0
      · rw [h0] at h
        obtain rfl : s = u := by simpa using h
        exact .inr ⟨by omega, rfl⟩
      · rw [List.getElem?_eq_none (by simp; omega)] at h; cases h
  rcases one i u hi with ⟨h1, h2⟩ | ⟨h1, rfl⟩ <;> rcases one j v hj with ⟨h3, h4⟩ | ⟨h3, rfl⟩
  · exact h i j u v h2 h4 hij b hu hv'
  · have := hv b ⟨i, u, h2, hu⟩; have := hs b hv'; omega
  · have := hv b ⟨j, v, h4, hv'⟩; have := hs b hu; omega
  · omega
theorem ss_push {vs : List SV} {s : SV} {b : Nat} (h : SS (vs ++ [s]) b) : SS vs b ∨ s.1.ownBlock = some b := by
  obtain ⟨i, u, hi, hb⟩ := h
  by_cases hl : i < vs.length
  · rw [List.getElem?_append_left hl] at hi; exact .inl ⟨i, u, hi, hb⟩
  · rw [List.getElem?_append_right (by omega)] at hi
    by_cases h0 : i - vs.length = 0
    · rw [h0] at hi
      obtain rfl : s = u := by simpa using hi
      exact .inr hb
    · rw [List.getElem?_eq_none (by simp; omega)] at hi; cases hi
theorem RowsOwn.lt {base : Nat} {w : World} {vs : List SV} {ls : List (List UInt8)} (h : RowsOwn base w vs ls) : ∀ b, SS vs b → base ≤ b ∧ b < w.heap.size := by
  rintro b ⟨k, s, hk, hb⟩
  obtain ⟨l, hl⟩ : ∃ l, ls[k]? = some l := ⟨_, List.getElem?_eq_getElem (by rw [← h.len]; exact (List.getElem?_eq_some_iff.1 hk).1)⟩
  obtain ⟨h1, cur, hc⟩ := (h.row k s l hk hl).block b hb
  exact ⟨h1, Agg.heap_lt hc⟩
end Go.Proofs.Ytnlilmiakddlaaa
/-! A resolved derivation in a block. -/
namespace Go.Agg
open Go.RowKit
theorem Blk.onlyQ {w w' : World} {S : Nat → Prop} {g : Nat} {t : TypeId} {cs : Array Value} (h : Blk w g t cs) (ho : Only S w w') (hS : ¬ S g) : Blk w' g t cs := (ho.block g h.lt hS).trans h
theorem Blk.pushedB {P : Program} {α : Type} {E : Elem P α} {base g : Nat} {w w' : World} {v : Value} {t : TypeId} {cs : Array Value} (h : Blk w g t cs) (hp : Pushed E base w w' v) (hne : t ≠ E.ty) : Blk w' g t cs := hp.blk g _ _ _ hne h
theorem Own.onlyB {P : Program} {α : Type} {E : Elem P α} {base g : Nat} {w w' : World} {v : Value} {l : List α} {t : TypeId} {cs : Array Value} (h : Own E base w v l) (ho : Only (· = g) w w') (hb : Blk w g t cs) (hne : t ≠ E.ty) : Own E base w' v l := by
  refine h.keepT fun k cur fr hk => (ho.block k (heap_lt hk) ?_).trans hk
  rintro rfl
  rw [show w.heap[k]? = _ from hb] at hk
  injection hk with hk
  injection hk with _ ht
  exact hne ht
end Go.Agg
namespace Go.Proofs.Ytnlilmiakddlaaa
open Go.RowKit Pl Go.Agg
def rsC (n : List UInt8) (vi vr : Value) : Array Value := #[.string ⟨n.toArray⟩, vi, vr]
theorem rsC_z : (rsC [] (.slice none 0 0) (.slice none 0 0)).all (·.oneCell') = true := by simp [rsC, Value.oneCell']
theorem rsC_ss (n m : List UInt8) (a b c d : Value) : (rsC n a b).size = (rsC m c d).size := rfl
theorem rsC_lt (n : List UInt8) (a b : Value) (i : Nat) (h : i < 3) : i < (rsC n a b).size := h
end Go.Proofs.Ytnlilmiakddlaaa
/-! (of general use) Steps of a region that draws: literals of two, new variables, whole rows stored. -/
namespace Go.Agg
open Go.RowKit
variable {P : Program} {ops : Array Oper} {o : Oper} {a : Act} {w : World} {Q : Exit → Act → World → Prop} {K : Act → World → Prop} {F : Prop}
theorem step_slice2B {α : Type} {E : Elem P α} (hg : o.guard = none) (x y : Operand) (ho : o.op = .buildSlice E.st 2 #[(0, x), (1, y)]) (vx vy : α) (hx : a.eval x = E.val vx) (hy : a.eval y = E.val vy)
    (h : ∀ v' w', SliceOf E w' v' [vx, vy] → (∀ b, v'.ownBlock = some b → b < w'.heap.size) → Below w.heap.size w w' → K (a.put o.dst v') w') : if Region.wanted o (yielded ops a.tmps) = true then o.wp P a w K Q else F :=
  step_val hg (v := .slice (some ⟨w.heap.size, 0, none⟩) 2 2) (w' := w.alloc (.cells ((E.val vx).cells ++ (E.val vy).cells) E.ty)) (by simp [execOp, ho, hx, hy, run_slice_two])
    (h _ _ (slice_of_block2 (Blk.new w E.ty _)) (fun b hb => by
      obtain rfl : w.heap.size = b := by simpa [Value.ownBlock] using hb
      simp) ((Below.refl _ _).alloc (Nat.le_refl _) _))
theorem step_zero (hg : o.guard = none) (ty : TypeId) (ho : o.op = .alloc ty) (cs : Array Value) (hz : (P.info? ty).map (·.zero) = some (some (.agg cs)))
    (h : ∀ g w', Blk w' g ty cs → Below w.heap.size w w' → w.heap.size ≤ g → K (a.put o.dst (.pointer (some ⟨g, 0, none⟩))) w') : if Region.wanted o (yielded ops a.tmps) = true then o.wp P a w K Q else F := by
  refine step_val hg (v := .pointer (some ⟨w.heap.size, 0, none⟩)) (w' := w.alloc (.cells cs ty)) ?_ (h _ _ (Blk.new w ty cs) ((Below.refl _ _).alloc (Nat.le_refl _) _) (Nat.le_refl _))
  cases hq : P.info? ty with
  | none => simp [hq] at hz
  | some i =>
    have hs : i.zero = some (.agg cs) := by simpa [hq] using hz
    simp [execOp, ho, Instr.alloc, zeroValue, typeInfo, hq, hs, newVar, newRow, Value.cells]
theorem step_put (hg : o.guard = none) (hd : o.dst = none) (ty : TypeId) (x y : Operand) (ho : o.op = .store ty x y) (g : Nat) (cs old : Array Value) (hx : a.eval x = .pointer (some ⟨g, 0, none⟩)) (hy : a.eval y = .agg cs)
    (hb : Blk w g ty old) (hi : (P.info? ty).map (·.size) = some cs.size) (hold : old.size = cs.size) (h1 : cs.all (·.oneCell') = true)
    (h : ∀ w', Blk w' g ty cs → Below g w w' → w'.heap.size = w.heap.size → (∀ k, k ≠ g → w'.heap[k]? = w.heap[k]?) → K a w') : if Region.wanted o (yielded ops a.tmps) = true then o.wp P a w K Q else F := by
  refine step_store hg hd ty x y ho _ _ hx hy (w' := w.setRow g cs) (by simp [Instr.storeAt, Instr.sureAddr, run_storeVar_row w g ty ty old cs hb hi hold h1]) ?_
  exact h _ (setRow_heap _ _ _ _ _ _ hb) (below_setRow (Below.refl _ _) (Nat.le_refl _)) (by simp) (fun k hk => setRow_other w g k cs hk)
end Go.Agg
/-! Operations of a region that draws, guarded ones too: each by its own law. -/
namespace Go.Agg
open Go.RowKit
variable {P : Program}
section
variable {ops : Array Oper} {o : Oper} {a : Act} {w : World} {Q : Exit → Act → World → Prop} {K : Act → World → Prop} {F : Prop}
theorem stepw_val {v : Value} {w' : World} (hw : Region.wanted o (yielded ops a.tmps) = true) (hrun : (execOp a.eval o).run P w = .ok (.value v) w') (h : K (a.put o.dst v) w') : if Region.wanted o (yielded ops a.tmps) = true then o.wp P a w K Q else F := by
  rw [if_pos hw]
  unfold Oper.wp
  rw [hrun]
  exact h
theorem stepw_store {w' : World} (hw : Region.wanted o (yielded ops a.tmps) = true) (hd : o.dst = none) (ty : TypeId) (x y : Operand) (ho : o.op = .store ty x y) (p v : Value) (hx : a.eval x = p) (hy : a.eval y = v)
    (hrun : (Instr.storeAt ty p v).run P w = .ok () w') (h : K a w') : if Region.wanted o (yielded ops a.tmps) = true then o.wp P a w K Q else F := by
  rw [if_pos hw]
  unfold Oper.wp
  have : (execOp a.eval o).run P w = .ok .skip w' := by simp [execOp, ho, hx, hy, hrun]
  rw [this, Oper.upon_skip, hd]
  exact h
theorem stepw_load (hw : Region.wanted o (yielded ops a.tmps) = true) (ty : TypeId) (x : Operand) (ho : o.op = .load ty x) (p v : Value) (hx : a.eval x = p) (hrun : (Instr.loadAt ty p).run P w = .ok v w) (h : K (a.put o.dst v) w) : if Region.wanted o (yielded ops a.tmps) = true then o.wp P a w K Q else F :=
  stepw_val hw (by simp [execOp, ho, hx, hrun]) h
/-- a call of a Go function, by its contract -/
theorem stepw_call (hw : Region.wanted o (yielded ops a.tmps) = true) (f : FuncId) (xs : Array Operand) (ts : Array TypeId) (ho : o.op = .call { callee := .value (.func f), args := xs, argTypes := ts }) (vs : Array Value) (hv : xs.map a.eval = vs)
    (he : ∀ w, (callFunc f vs).run P w = .ok (.enter f vs) w) (h : Calls P f vs w fun e w' => ∃ v, e = .returned v ∧ K (a.put o.dst v) w') : if Region.wanted o (yielded ops a.tmps) = true then o.wp P a w K Q else F := by
  rw [if_pos hw]
  unfold Oper.wp
  have : (execOp a.eval o).run P w = .ok (.enter f vs) w := by
    subst hv
    have hf : a.eval (Operand.func f) = .func (.func f) #[] #[] := rfl
    simp [execOp, ho, resolve, invoke, hf, Deferred.ofValue, he]
  rw [this, Oper.upon_enter]
  refine h.mono ?_
  rintro e w' ⟨v, rfl, hk⟩
  exact hk
theorem stepw_slice1 {α : Type} {E : Elem P α} (hw : Region.wanted o (yielded ops a.tmps) = true) (y : Operand) (ho : o.op = .buildSlice E.st 1 #[(0, y)]) (x : α) (hy : a.eval y = E.val x)
    (h : ∀ v' w', Own E w.heap.size w' v' [x] → Below w.heap.size w w' → K (a.put o.dst v') w') : if Region.wanted o (yielded ops a.tmps) = true then o.wp P a w K Q else F := by
  refine stepw_val hw (v := .slice (some ⟨w.heap.size, 0, none⟩) 1 1) (w' := w.alloc (.cells (E.val x).cells E.ty)) (by simp [execOp, ho, hy, run_slice_one]) (h _ _ ?_ ((Below.refl _ _).alloc (Nat.le_refl _) _))
  have hs := E.size x
  refine ⟨by rw [E.flat_one, E.cs_length]; simp, .inr ⟨_, 1, _, rfl, Nat.le_refl _, heap_alloc_new w _, Nat.le_refl _, by simp [maxLen], by rw [hs]; simp, ?_⟩⟩
  rw [E.flat_one, Elem.cs, List.take_of_length_le (by rw [Array.length_toList, hs]; simp)]
/-- 'append(v, u...)', where it came in -/
theorem stepw_append {α : Type} {E : Elem P α} (hw : Region.wanted o (yielded ops a.tmps) = true) (s x : Operand) (ho : o.op = .call { callee := .builtin .append, args := #[s, x], argTypes := #[E.st, E.st] }) (v : Value) (l : List α) (u : Value) (m : List α)
    (hs : a.eval s = v) (hx : a.eval x = u) (hr : RoomN E w v l) (hu : SliceOf E w u m) (h63 : l.length + m.length ≤ 1099511627776 / 8) (hby : E.bytes ≤ 1000)
    (h : ∀ v' w', RoomN E w' v' (l ++ m) → RoomN E w' v l → Only (fun b => v.ownBlock = some b) w w' → (∀ b, v'.ownBlock = some b → v.ownBlock = some b ∨ w.heap.size ≤ b) → K (a.put o.dst v') w') :
    if Region.wanted o (yielded ops a.tmps) = true then o.wp P a w K Q else F := by
  obtain ⟨v', w', hrun, h1, h2, h3, h4, _⟩ := run_append_room hr u m hu h63 hby o.type
  exact stepw_val hw (by simp [execOp, ho, resolve, invoke, builtin, hs, hx, hrun]) (h v' w' h1 h2 h3 h4)
end
end Go.Agg
