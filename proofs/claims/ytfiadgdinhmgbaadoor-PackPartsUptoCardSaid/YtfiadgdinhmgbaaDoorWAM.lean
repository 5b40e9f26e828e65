/- (*tree.looker).right: whether a tree is right, so many nodes behind, so deep down; looked, Right. (Several texts in one.) -/
import Derived.Test.YtfiadgdinhmgbaaDoorWAL
import Derived.Test.YtfiadgdinhmgbaaDoorWAH
import Derived.Test.YtfiadgdinhmgbaaDoorWAF
import Derived.Test.YtfiadgdinhmgbaaDoorWAG
/-! A resolved derivation in a block. -/
namespace Go.Agg
open Go.RowKit
theorem Blk.onlyQ {w w' : World} {S : Nat → Prop} {g : Nat} {t : TypeId} {cs : Array Value} (h : Blk w g t cs) (ho : Only S w w') (hS : ¬ S g) : Blk w' g t cs := (ho.block g h.lt hS).trans h
theorem Blk.pushedB {P : Program} {α : Type} {E : Elem P α} {base g : Nat} {w w' : World} {v : Value} {t : TypeId} {cs : Array Value} (h : Blk w g t cs) (hp : Pushed E base w w' v) (hne : t ≠ E.ty) : Blk w' g t cs := hp.blk g _ _ _ hne h
theorem Own.onlyB {P : Program} {α : Type} {E : Elem P α} {base g : Nat} {w w' : World} {v : Value} {l : List α} {t : TypeId} {cs : Array Value} (h : Own E base w v l) (ho : Only (· = g) w w') (hb : Blk w g t cs) (hne : t ≠ E.ty) : Own E base w' v l := by
  refine h.keepT fun k cur fr hk => (ho.block k (heap_lt hk) ?_).trans hk
  rintro rfl
  rw [show w.heap[k]? = _ from hb] at hk
  injection hk with hk
  injection hk with _ ht
  exact hne ht
end Go.Agg
namespace Go.Proofs.YtfiadgdinhmgbaaDoor
open Go.RowKit Pl Go.Agg
def rsC (n : List UInt8) (vi vr : Value) : Array Value := #[.string ⟨n.toArray⟩, vi, vr]
theorem rsC_z : (rsC [] (.slice none 0 0) (.slice none 0 0)).all (·.oneCell') = true := by simp [rsC, Value.oneCell']
theorem rsC_ss (n m : List UInt8) (a b c d : Value) : (rsC n a b).size = (rsC m c d).size := rfl
theorem rsC_lt (n : List UInt8) (a b : Value) (i : Nat) (h : i < 3) : i < (rsC n a b).size := h
end Go.Proofs.YtfiadgdinhmgbaaDoor
/-! (of general use) Steps of a region that draws: literals of two, new variables, whole rows stored. -/
namespace Go.Agg
open Go.RowKit
variable {P : Program} {ops : Array Oper} {o : Oper} {a : Act} {w : World} {Q : Exit → Act → World → Prop} {K : Act → World → Prop} {F : Prop}
theorem step_slice2B {α : Type} {E : Elem P α} (hg : o.guard = none) (x y : Operand) (ho : o.op = .buildSlice E.st 2 #[(0, x), (1, y)]) (vx vy : α) (hx : a.eval x = E.val vx) (hy : a.eval y = E.val vy)
    (h : ∀ v' w', SliceOf E w' v' [vx, vy] → (∀ b, v'.ownBlock = some b → b < w'.heap.size) → Below w.heap.size w w' → K (a.put o.dst v') w') : if Region.wanted o (yielded ops a.tmps) = true then o.wp P a w K Q else F :=
  step_val hg (v := .slice (some ⟨w.heap.size, 0, none⟩) 2 2) (w' := w.alloc (.cells ((E.val vx).cells ++ (E.val vy).cells) E.ty)) (by simp [execOp, ho, hx, hy, run_slice_two])
    (h _ _ (slice_of_block2 (Blk.new w E.ty _)) (fun b hb => by
      obtain rfl : w.heap.size = b := by simpa [Value.ownBlock] using hb
      simp) ((Below.refl _ _).alloc (Nat.le_refl _) _))
theorem step_zero (hg : o.guard = none) (ty : TypeId) (ho : o.op = .alloc ty) (cs : Array Value) (hz : (P.info? ty).map (·.zero) = some (some (.agg cs)))
    (h : ∀ g w', Blk w' g ty cs → Below w.heap.size w w' → w.heap.size ≤ g → K (a.put o.dst (.pointer (some ⟨g, 0, none⟩))) w') : if Region.wanted o (yielded ops a.tmps) = true then o.wp P a w K Q else F := by
  refine step_val hg (v := .pointer (some ⟨w.heap.size, 0, none⟩)) (w' := w.alloc (.cells cs ty)) ?_ (h _ _ (Blk.new w ty cs) ((Below.refl _ _).alloc (Nat.le_refl _) _) (Nat.le_refl _))
  cases hq : P.info? ty with
  | none => simp [hq] at hz
  | some i =>
    have hs : i.zero = some (.agg cs) := by simpa [hq] using hz
    simp [execOp, ho, Instr.alloc, zeroValue, typeInfo, hq, hs, newVar, newRow, Value.cells]
theorem step_put (hg : o.guard = none) (hd : o.dst = none) (ty : TypeId) (x y : Operand) (ho : o.op = .store ty x y) (g : Nat) (cs old : Array Value) (hx : a.eval x = .pointer (some ⟨g, 0, none⟩)) (hy : a.eval y = .agg cs)
    (hb : Blk w g ty old) (hi : (P.info? ty).map (·.size) = some cs.size) (hold : old.size = cs.size) (h1 : cs.all (·.oneCell') = true)
    (h : ∀ w', Blk w' g ty cs → Below g w w' → w'.heap.size = w.heap.size → (∀ k, k ≠ g → w'.heap[k]? = w.heap[k]?) → K a w') : if Region.wanted o (yielded ops a.tmps) = true then o.wp P a w K Q else F := by
  refine step_store hg hd ty x y ho _ _ hx hy (w' := w.setRow g cs) (by simp [Instr.storeAt, Instr.sureAddr, run_storeVar_row w g ty ty old cs hb hi hold h1]) ?_
  exact h _ (setRow_heap _ _ _ _ _ _ hb) (below_setRow (Below.refl _ _) (Nat.le_refl _)) (by simp) (fun k hk => setRow_other w g k cs hk)
end Go.Agg
/-! Blocks that a step leaves alone. -/
namespace Go.Agg
open Go.RowKit
variable {P : Program}
theorem Blk.type {w : World} {g : Nat} {t t' : TypeId} {cs cs' : Array Value} (h : Blk w g t cs) (h' : Blk w g t' cs') : t = t' := by
  unfold Blk at h h'
  rw [h] at h'
  injection h' with h'
  injection h' with _ h'
theorem Blk.only {w w' : World} {S : Nat → Prop} {g : Nat} {t : TypeId} {cs : Array Value} (h : Blk w g t cs) (ho : Only S w w') (hS : ¬ S g) : Blk w' g t cs := (ho.block g h.lt hS).trans h
theorem Only.of_eq {w w' : World} {g : Nat} {S : Nat → Prop} (hb : Below g w w') (hs : w'.heap.size = w.heap.size) (hk : ∀ k, k ≠ g → w'.heap[k]? = w.heap[k]?) (hg : S g) : Only S w w' :=
  ⟨hb.os, hb.tape, hb.output, Nat.le_of_eq hs.symm, fun k _ hn => hk k (fun e => hn (e ▸ hg))⟩
end Go.Agg
/-! (of general use) Arms: one cell, a row of cells, stored into a block; a look-up at a step of a region that draws; a literal of two in a list of operations. -/
namespace Go.Agg
open Go.RowKit
section
variable {P : Program} {ops : Array Oper} {rest : List Oper} {o : Oper} {a : Act} {w : World} {Q : Exit → Act → World → Prop}
theorem wpList_put1 (hg : o.guard = none) (hd : o.dst = none) (ty : TypeId) (x y : Operand) (ho : o.op = .store ty x y) (g i : Nat) (v : Value) (hx : a.eval x = .pointer (some ⟨g, i, none⟩)) (hy : a.eval y = v)
    {t : TypeId} {cs : Array Value} (hb : Blk w g t cs) (hi : i < cs.size) (hv : v.cells = #[v]) (h1 : v.oneCell' = true) (hs : (P.info? ty).map (·.size) = some 1) (ds : Array Value) (he : cs.setIfInBounds i v = ds)
    (h : ∀ w', Blk w' g t ds → Only (· = g) w w' → w'.heap.size = w.heap.size → wpList P ops Q rest a w') : wpList P ops Q (o :: rest) a w := by
  subst he
  exact wpList_store hg hd ty x y ho _ v hx hy (hb.run_put i hi v hv h1 hs) (h _ (hb.set i v) ⟨rfl, rfl, rfl, by simp [World.setCell], fun k _ hk => Below.heap_setCell _ _ _ _ hk⟩ (by simp [World.setCell]))
theorem wpList_putRow (hg : o.guard = none) (hd : o.dst = none) (ty : TypeId) (x y : Operand) (ho : o.op = .store ty x y) (g i : Nat) (xs ys zs ds : Array Value) (hx : a.eval x = .pointer (some ⟨g, i, none⟩)) (hy : a.eval y = .agg ds)
    {t : TypeId} (hb : Blk w g t (xs ++ (ys ++ zs))) (hl : ys.size = ds.size) (hi : i = xs.size) (hs : (P.info? ty).map (·.size) = some ds.size) (h1 : ds.all (·.oneCell') = true)
    (h : ∀ w', Blk w' g t (xs ++ (ds ++ zs)) → Only (· = g) w w' → wpList P ops Q rest a w') : wpList P ops Q (o :: rest) a w := by
  obtain ⟨w', hr, h2, h3⟩ := hb.run_row xs ys zs ds hl hs h1 hi
  exact wpList_store hg hd ty x y ho _ _ hx hy hr (h w' h2 h3)
theorem Blk.keepO {S : Nat → Prop} {w' : World} {g : Nat} {t : TypeId} {cs : Array Value} (h : Blk w g t cs) (ho : Only S w w') (hS : ¬ S g) : Blk w' g t cs := (ho.block g h.lt hS).trans h
theorem Only.ofBelow {S : Nat → Prop} {w w' : World} (h : Below w.heap.size w w') : Only S w w' := Only.of_below h
/-- behind a step of what lies at g, another one, or new blocks -/
theorem Only.more {g : Nat} {w w' w'' : World} (h : Only (· = g) w w') (k : Only (· = g) w' w'') : Only (· = g) w w'' := h.trans k (fun _ _ h => h)
theorem Only.new {g : Nat} {w w' w'' : World} (h : Only (· = g) w w') (k : Below w'.heap.size w' w'') : Only (· = g) w w'' := h.trans (Only.of_below (S := fun _ => False) k) (fun _ _ h => h.elim)
end
end Go.Agg
namespace Go.Mp
open Go.RowKit Go.Instr
theorem exec_hit {P : Program} {α β : Type} [DecidableEq α] {o : Oper} {a : Act} {w : World} {mo xo : Operand} {t K E : TypeId} (ho : o.op = Op.lookup t mo xo true) (ht : P.underlying t = some (.map K E)) {κ : α → Value} {ν : β → Value} {z : Value}
    (hK : KeyEq P K κ) (hz : ∀ w, (zeroValue E).run P w = .ok z w) {b : Nat} {m : List (α × β)} (hm : a.eval mo = .map (some b)) (h : MapIs w b κ ν m) (x : α) (hx : a.eval xo = κ x) (v : β) (hr : mget m x = some v) :
    (execOp a.eval o).run P w = .ok (.value (.tuple #[ν v, .bool true])) w := by
  simp [execOp, ho, hm, hx, run_lookup_ok ht hK hz h x, Result.andThen, hr]
theorem exec_miss {P : Program} {α β : Type} [DecidableEq α] {o : Oper} {a : Act} {w : World} {mo xo : Operand} {t K E : TypeId} (ho : o.op = Op.lookup t mo xo true) (ht : P.underlying t = some (.map K E)) {κ : α → Value} {ν : β → Value} {z : Value}
    (hK : KeyEq P K κ) (hz : ∀ w, (zeroValue E).run P w = .ok z w) {b : Nat} {m : List (α × β)} (hm : a.eval mo = .map (some b)) (h : MapIs w b κ ν m) (x : α) (hx : a.eval xo = κ x) (hr : mget m x = none) :
    (execOp a.eval o).run P w = .ok (.value (.tuple #[z, .bool false])) w := by
  simp [execOp, ho, hm, hx, run_lookup_ok ht hK hz h x, Result.andThen, hr]
end Go.Mp
/-! (*tree.looker).right: whether a tree is right, so many nodes behind, so deep down; looked, Right. -/
namespace Go.Tr
open Go.Proofs.YtfiadgdinhmgbaaDoor
theorem alone_none {k : Int} {b : List UInt8} {l : List K} (h : kindOf k = none) : alone (.mk k b l) = false := by
  unfold kindOf at h
  split at h
  · cases h
  · split at h
    · cases h
    · split at h
      · cases h
      · split at h
        · cases h
        · next h4 h3 h2 h1 => simp [alone, h1, h2, h3, h4]
theorem named_nil (b : Option (List UInt8)) : named b [] = true := rfl
theorem alone_some {k : Int} {b : List UInt8} {l : List K} {bd : Bd} (h : kindOf k = some bd) :
    alone (.mk k b l) = (decide (bd.1 ≤ (b.length : Int)) && (decide ((b.length : Int) ≤ bd.2.1) && (decide (l.length ≤ 200) && ((bd.2.2 || l.isEmpty) && named none l)))) := by
  unfold kindOf at h
  rw [Bool.eq_iff_iff]
  split at h
  · next h4 =>
    obtain rfl := Option.some.inj h
    subst h4
    simp [alone, and_assoc]
  · split at h
    · next h4 h3 =>
      obtain rfl := Option.some.inj h
      subst h3
      cases l with
      | nil => simp [alone, named_nil]; omega
      | cons x l => simp [alone]
    · split at h
      · next h4 h3 h2 =>
        obtain rfl := Option.some.inj h
        subst h2
        cases l with
        | nil => simp [alone, named_nil]; omega
        | cons x l => simp [alone]
      · split at h
        · next h4 h3 h2 h1 =>
          obtain rfl := Option.some.inj h
          subst h1
          cases l with
          | nil => simp [alone, named_nil]; omega
          | cons x l => simp [alone]
        · cases h
theorem look_alone {t : T} {n d : Nat} (h : alone t = false) : lookB t n d = false := by
  obtain ⟨k, b, l⟩ := t
  simp [lookB, ok, h]
theorem look_nodes {t : T} {n d : Nat} (h : 200 < n + 1) : lookB t n d = false := by
  have := count_pos t
  have h1 : ¬ n + count t ≤ 200 := by omega
  simp [lookB, h1]
theorem look_deep {t : T} {n d : Nat} (h : 8 < d) : lookB t n d = false := by
  have := deep_pos t
  have h1 : ¬ d + deep t ≤ 9 := by omega
  simp [lookB, h1]
theorem look_parts {t : T} {n d : Nat} (h : lookB t n d = true) : ok t = true ∧ n + count t ≤ 200 ∧ d + deep t ≤ 9 := by
  simp only [lookB, Bool.and_eq_true, decide_eq_true_eq] at h
  exact ⟨h.1.1, h.1.2, h.2⟩
theorem countL_snoc {l : List K} {k : Nat} {x : K} (h : l[k]? = some x) : countL (l.take (k + 1)) = countL (l.take k) + count x.2 := by
  obtain ⟨n, t⟩ := x
  rw [take_succ' h, countL_append]
  simp [countL]
theorem deepL_snoc {l : List K} {k : Nat} {x : K} (h : l[k]? = some x) : deepL (l.take (k + 1)) = max (deepL (l.take k)) (deep x.2) := by
  obtain ⟨n, t⟩ := x
  rw [take_succ' h, deepL_append]
  simp [deepL]
theorem okL_snoc {l : List K} {k : Nat} {x : K} (h : l[k]? = some x) : okL (l.take (k + 1)) = (okL (l.take k) && ok x.2) := by
  obtain ⟨n, t⟩ := x
  rw [take_succ' h, okL_append]
  simp [okL]
end Go.Tr
namespace Go.Proofs.YtfiadgdinhmgbaaDoor
open Go.RowKit Pl Go.Agg Go.Tr Go.Mp
def lkC (gm n d : Nat) : Array Value := #[.map (some gm), .int .i64 (n : Int), .int .i64 (d : Int)]
theorem lk_info (gm n d : Nat) : (Tryd.prog.info? 76).map (·.size) = some (lkC gm n d).size := by kernel_rfl
theorem lk_max (gm n d e : Nat) : (lkC gm n d).setIfInBounds 2 (.int .i64 (max (d : Int) (e : Int))) = lkC gm n (max d e) := by
  have : max (d : Int) (e : Int) = ((max d e : Nat) : Int) := by omega
  rw [this]; rfl
/-- what lies in a looker's block -/
structure LkL (w : World) (g gm n d : Nat) : Prop where
  known : LoadsL Tryd.prog w 74 (some ⟨g, 0, none⟩) (.map (some gm))
  nodes : LoadsL Tryd.prog w 3 (some ⟨g, 1, none⟩) (.int .i64 (n : Int))
  deep : LoadsL Tryd.prog w 3 (some ⟨g, 2, none⟩) (.int .i64 (d : Int))
theorem LkL.of_blk {w : World} {g gm n d : Nat} (h : Blk w g 76 (lkC gm n d)) : LkL w g gm n d :=
  ⟨h.one 0 rfl kinds_under rfl, h.one 1 rfl Tryd.underlying3 rfl, h.one 2 rfl Tryd.underlying3 rfl⟩
/-- what lies in a block of bounds -/
structure BdL (w : World) (g : Nat) (x : Bd) : Prop where
  least : LoadsL Tryd.prog w 3 (some ⟨g, 0, none⟩) (.int .i64 x.1)
  most : LoadsL Tryd.prog w 3 (some ⟨g, 1, none⟩) (.int .i64 x.2.1)
  kids : LoadsL Tryd.prog w 4 (some ⟨g, 2, none⟩) (.bool x.2.2)
theorem BdL.of_blk {w : World} {g : Nat} {x : Bd} (h : Blk w g 124 (bdC x)) : BdL w g x :=
  ⟨h.one 0 rfl Tryd.underlying3 rfl, h.one 1 rfl Tryd.underlying3 rfl, h.one 2 rfl Tryd.underlying4 rfl⟩
theorem bd_zeroV (w : World) : (zeroValue 124).run Tryd.prog w = .ok (bdV (0, 0, false)) w := by kernel_rfl
theorem map_keepO {w w' : World} {g gm : Nat} {m : List (Int × Bd)} (h : MapIs w gm kK bdV m) (ho : Only (· = g) w w') (hn : gm ≠ g) : MapIs w' gm kK bdV m := h.keep (ho.block gm h.lt hn)
theorem map_ne {w : World} {g gm : Nat} {t : TypeId} {cs : Array Value} {m : List (Int × Bd)} (h : MapIs w gm kK bdV m) (hb : Blk w g t cs) : gm ≠ g := by
  rintro rfl
  obtain ⟨es, c, he, _⟩ := h
  unfold Blk at hb
  rw [he] at hb
  injection hb with hb
  cases hb
theorem kid_node {w : World} {g : Nat} {y : KdV} (h : Blk w g 51 (kdC y)) : LoadsL Tryd.prog w 26 (some ⟨g, 1, none⟩) (.agg (ndC y.2)) :=
  h.sub 1 _ (fun j v hj => by
    match j, hj with
    | 0, hj => exact hj
    | 1, hj => exact hj
    | 2, hj => exact hj
    | j + 3, hj => simp [ndC] at hj) nd_under rfl (nd_info y.2)
theorem KdL.ofB {w : World} {g : Nat} {y : KdV} (h : Blk w g 51 (kdC y)) : KdL w ⟨g, 0, none⟩ y :=
  KdL.of_cells h.lt (fun j u hj => by rw [add_plain, Nat.zero_add, h.cell]; exact hj)

set_option maxRecDepth 100000 in
set_option maxHeartbeats 16000000 in
theorem right_any : ∀ (N : Nat) (t : T) (_ : count t ≤ N) (v : Value) (w0 w : World) (gl gm n d dp : Nat) (_ : n ≤ 200) (_ : 1 ≤ d) (_ : d ≤ 9) (_ : NodeAt w0 v t) (_ : Below w0.heap.size w0 w) (_ : w0.heap.size ≤ gl) (_ : Blk w gl 76 (lkC gm n dp)) (_ : MapIs w gm kK bdV kindsM),
    Calls Tryd.prog 77 #[.pointer (some ⟨gl, 0, none⟩), v, .int .i64 (d : Int)] w fun e w' => e = .returned (.bool (lookB t n d)) ∧ Only (· = gl) w w' ∧ (lookB t n d = true → Blk w' gl 76 (lkC gm (n + count t) (max dp (d - 1 + deep t)))) := by
  intro N
  induction N with
  | zero => intro t h; have := count_pos t; omega
  | succ N ih =>
  intro t hc v w0 w gl gm n d dp hn hd1 hd9 hv hx0 hgl hl hm
  obtain ⟨x, rfl, hx⟩ := hv
  obtain ⟨k, b, l⟩ := t
  obtain ⟨hk, hby, ks, hsl, hkv⟩ := hx
  have hkn := hkv.nms
  have hkl := hkv.len
  have hlb := fun W => bytes_len (hby.below hx0) W
  have hlk := fun W => kds_len (hsl.below hx0) W
  rw [hkl] at hlk
  have HGE := Lib.hid (show gl < w.heap.size from hl.lt)
  have HNE := Lib.hid (map_ne hm hl)
  have HX0 := Lib.hid hx0
  have HKV := Lib.hid hkv
  have HSL := Lib.hid hsl
  have HKN := Lib.hid hkn
  have HL := Lib.hid hl
  have HM := Lib.hid hm
  have HK := Lib.hid hk
  have HIH := Lib.hid ih
  have HC := Lib.hid hc
  clear hx0 hkv hby hsl hkn hl hm hk ih hc
  have fin : ∀ w', Only (· = gl) w w' → lookB (.mk k b l) n d = false → Ending.returned (.bool false) = .returned (.bool (lookB (.mk k b l) n d)) ∧ Only (· = gl) w w' ∧ (lookB (.mk k b l) n d = true → Blk w' gl 76 (lkC gm (n + count (.mk k b l)) (max dp (d - 1 + deep (.mk k b l))))) := fun w' h1 h2 => by
    rw [h2]
    exact ⟨rfl, h1, fun h => by cases h⟩
  have FIN := Lib.hid fin
  clear fin
  go_enter Tryd.func77, Tryd.ntmps77
  go_wp2_with (first | (refine Agg.wpList_box rfl 26 _ rfl (ndC x) rfl ?_; intro g4 w1 hb hx hg; have HB1 := Lib.hid hb; have HL1 := Lib.hid (HL.out.below hx); have HM1 := Lib.hid (HM.out.keep (hx.block gm HM.out.lt)); have HO1 := Lib.hid (Only.ofBelow (S := (· = gl)) hx); have HG4 := Lib.hid (show w.heap.size ≤ g4 from hg); have HG4n := Lib.hid (show g4 ≠ gl from fun e => by have := HGE.out; omega); clear hb hx hg) | (with_reducible refine Agg.wpList_loadL (LkL.of_blk HL1.out).nodes rfl _ rfl rfl ?_) | (refine wpList_put1 rfl rfl 3 _ _ rfl gl 1 (.int .i64 ((n : Int) + 1)) rfl rfl HL1.out (by show 1 < 3; omega) rfl rfl (by kernel_rfl) (lkC gm (n + 1) dp) (by rfl) ?_; intro w2 hb ho hs; have HL2 := Lib.hid hb; have HB2 := Lib.hid (HB1.out.keepO ho HG4n.out); have HM2 := Lib.hid (map_keepO HM1.out ho HNE.out); have HO2 := Lib.hid (HO1.out.more ho); clear hb ho hs) | (with_reducible refine Agg.wpList_loadL (LkL.of_blk HL2.out).deep rfl _ rfl rfl ?_) | (refine wpList_put1 rfl rfl 3 _ _ rfl gl 2 (.int .i64 (max (dp : Int) (d : Int))) rfl rfl HL2.out (by show 2 < 3; omega) rfl rfl (by kernel_rfl) (lkC gm (n + 1) (max dp d)) (lk_max _ _ _ _) ?_; intro w3 hb ho hs; have HL3 := Lib.hid hb; have HB3 := Lib.hid (HB2.out.keepO ho HG4n.out); have HM3 := Lib.hid (map_keepO HM2.out ho HNE.out); have HO3 := Lib.hid (HO2.out.more ho); clear hb ho hs))
  cases hko : kindOf k with
  | none =>
    have HGT := Lib.hid (show mget kindsM x.1 = none by rw [kinds_get, HK.out]; exact hko)
    have HR := Lib.hid (look_alone (n := n) (d := d) (alone_none (b := b) (l := l) hko))
    clear hko
    try simp only [Act.put, List.setIfInBounds_toArray, List.set_cons_succ, List.set_cons_zero]
    obtain ⟨w4, hw4⟩ : ∃ W, W = w3.drew := ⟨_, rfl⟩
    have hd4 : Below w3.heap.size w3 w4 := by rw [hw4]; exact (Below.refl _ _).drew
    have HS4 := Lib.hid (show (fun W => Blk W gl 76 (lkC gm (n + 1) (max dp d)) ∧ Blk W g4 26 (ndC x) ∧ MapIs W gm kK bdV kindsM) w4 from ⟨HL3.out.below hd4, HB3.out.below hd4, HM3.out.keep (hd4.block gm HM3.out.lt)⟩)
    have HO4 := Lib.hid (HO3.out.new hd4)
    refine wp_region_held_drew (S := fun W => Blk W gl 76 (lkC gm (n + 1) (max dp d)) ∧ Blk W g4 26 (ndC x) ∧ MapIs W gm kK bdV kindsM) (by kernel_rfl) (by rw [← hw4]; exact HS4.out) (fun hHeld => ?_)
    rw [← hw4] at hHeld ⊢
    clear hw4 hd4
    refine Agg.held_take 0 (.pointer (some ⟨gl, 0, none⟩)) rfl (by kernel_rfl) (fun _ _ _ h => h) rfl (fun W _ => by kernel_rfl) (by assumption) ?_
    try simp only [Act.put, List.setIfInBounds_toArray, List.set_cons_succ, List.set_cons_zero]
    refine Agg.held_take 1 (.pointer (some ⟨gl, 0, none⟩)) rfl (by kernel_rfl) (fun _ _ _ h => h) rfl (fun W _ => by kernel_rfl) (by assumption) ?_
    try simp only [Act.put, List.setIfInBounds_toArray, List.set_cons_succ, List.set_cons_zero]
    refine Agg.held_take 2 (.pointer (some ⟨gl, 0, none⟩)) rfl (by kernel_rfl) (fun _ _ _ h => h) rfl (fun W _ => by kernel_rfl) (by assumption) ?_
    try simp only [Act.put, List.setIfInBounds_toArray, List.set_cons_succ, List.set_cons_zero]
    refine Agg.held_take 3 (.map (some gm)) rfl (by kernel_rfl) (fun _ _ _ h => h) rfl (fun W hS => exec_loadB rfl rfl (LkL.of_blk hS.1).known.now) (by assumption) ?_
    try simp only [Act.put, List.setIfInBounds_toArray, List.set_cons_succ, List.set_cons_zero]
    refine Agg.held_take 4 (.pointer (some ⟨g4, 0, none⟩)) rfl (by kernel_rfl) (fun _ _ _ h => h) rfl (fun W _ => by kernel_rfl) (by assumption) ?_
    try simp only [Act.put, List.setIfInBounds_toArray, List.set_cons_succ, List.set_cons_zero]
    refine Agg.held_take 5 (.int .i64 x.1) rfl (by kernel_rfl) (fun _ _ _ h => h) rfl (fun W hS => exec_loadB rfl rfl (NdL.of_blk hS.2.1).kind.now) (by assumption) ?_
    try simp only [Act.put, List.setIfInBounds_toArray, List.set_cons_succ, List.set_cons_zero]
    refine Agg.held_take 6 (.tuple #[bdV (0, 0, false), .bool false]) rfl (by kernel_rfl) (fun _ _ _ h => h) rfl (fun W hS => exec_miss rfl kinds_under kind_key bd_zeroV rfl hS.2.2 x.1 rfl HGT.out) (by assumption) ?_
    try simp only [Act.put, List.setIfInBounds_toArray, List.set_cons_succ, List.set_cons_zero]
    refine Agg.held_take 7 (.tuple #[bdV (0, 0, false), .bool false]) rfl (by kernel_rfl) (fun _ _ _ h => h) rfl (fun W _ => by kernel_rfl) (by assumption) ?_
    try simp only [Act.put, List.setIfInBounds_toArray, List.set_cons_succ, List.set_cons_zero]
    refine Agg.held_take 8 (bdV (0, 0, false)) rfl (by kernel_rfl) (fun _ _ _ h => h) rfl (fun W _ => by kernel_rfl) (by assumption) ?_
    try simp only [Act.put, List.setIfInBounds_toArray, List.set_cons_succ, List.set_cons_zero]
    refine Agg.held_take 9 (.bool false) rfl (by kernel_rfl) (fun _ _ _ h => h) rfl (fun W _ => by kernel_rfl) (by assumption) ?_
    try simp only [Act.put, List.setIfInBounds_toArray, List.set_cons_succ, List.set_cons_zero]
    refine Agg.held_one 10 rfl (by kernel_rfl) ?_
    refine step_zero rfl 124 rfl (bdC (0, 0, false)) bd_zero ?_
    intro g7 w5 hb hx hg
    have HBD5 := Lib.hid hb
    have HS5 := Lib.hid (show (fun W => Blk W gl 76 (lkC gm (n + 1) (max dp d)) ∧ Blk W g4 26 (ndC x) ∧ MapIs W gm kK bdV kindsM) w5 from ⟨HS4.out.1.below hx, HS4.out.2.1.below hx, HS4.out.2.2.keep (hx.block gm HS4.out.2.2.lt)⟩)
    have HO5 := Lib.hid (HO4.out.new hx)
    have HG7 := Lib.hid (show g7 ≠ gl ∧ g7 ≠ g4 ∧ w.heap.size ≤ g7 from ⟨fun e => (by have := HS4.out.1.lt; omega), fun e => (by have := HS4.out.2.1.lt; omega), Nat.le_trans HO4.out.size hg⟩)
    clear hb hx hg
    refine ⟨HS5.out, ?_⟩
    try simp only [Act.put, List.setIfInBounds_toArray, List.set_cons_succ, List.set_cons_zero]
    refine Agg.held_one 11 rfl (by kernel_rfl) ?_
    refine step_put rfl rfl 124 _ _ rfl g7 (bdC (0, 0, false)) (bdC (0, 0, false)) rfl rfl HBD5.out (bd_info _) rfl (bd_one _) ?_
    intro w6 hb hx hs hk
    have ho := Only.of_eq (S := (· = g7)) hx hs hk rfl
    have HBD6 := Lib.hid hb
    have HS6 := Lib.hid (show (fun W => Blk W gl 76 (lkC gm (n + 1) (max dp d)) ∧ Blk W g4 26 (ndC x) ∧ MapIs W gm kK bdV kindsM) w6 from ⟨HS5.out.1.keepO ho (fun e => HG7.out.1 e.symm), HS5.out.2.1.keepO ho (fun e => HG7.out.2.1 e.symm), HS5.out.2.2.keep (ho.block gm HS5.out.2.2.lt (map_ne HS5.out.2.2 HBD5.out))⟩)
    have HO6 := Lib.hid (show Only (· = gl) w w6 from HO5.out.trans (T := (· = g7)) ho (fun i hi h => by have := HG7.out.2.2; subst h; omega))
    clear hb hx hs hk ho
    refine ⟨HS6.out, ?_⟩
    try simp only [Act.put, List.setIfInBounds_toArray, List.set_cons_succ, List.set_cons_zero]
    refine Agg.held_one 12 rfl (by kernel_rfl) ?_
    refine step_val rfl (v := .bool false) (w' := w6) (by kernel_rfl) ?_
    refine ⟨HS6.out, ?_⟩
    try simp only [Act.put, List.setIfInBounds_toArray, List.set_cons_succ, List.set_cons_zero]
    refine Agg.held_end (by kernel_rfl) ?_
    go_wp2_with fail
    go_ret
    exact FIN.out _ HO6.out HR.out
  | some bd =>
    have HGT := Lib.hid (show mget kindsM x.1 = some bd by rw [kinds_get, HK.out]; exact hko)
    have HAL := Lib.hid (alone_some (b := b) (l := l) hko)
    clear hko
    try simp only [Act.put, List.setIfInBounds_toArray, List.set_cons_succ, List.set_cons_zero]
    obtain ⟨w4, hw4⟩ : ∃ W, W = w3.drew := ⟨_, rfl⟩
    have hd4 : Below w3.heap.size w3 w4 := by rw [hw4]; exact (Below.refl _ _).drew
    have HS4 := Lib.hid (show (fun W => Blk W gl 76 (lkC gm (n + 1) (max dp d)) ∧ Blk W g4 26 (ndC x) ∧ MapIs W gm kK bdV kindsM) w4 from ⟨HL3.out.below hd4, HB3.out.below hd4, HM3.out.keep (hd4.block gm HM3.out.lt)⟩)
    have HO4 := Lib.hid (HO3.out.new hd4)
    refine wp_region_held_drew (S := fun W => Blk W gl 76 (lkC gm (n + 1) (max dp d)) ∧ Blk W g4 26 (ndC x) ∧ MapIs W gm kK bdV kindsM) (by kernel_rfl) (by rw [← hw4]; exact HS4.out) (fun hHeld => ?_)
    rw [← hw4] at hHeld ⊢
    clear hw4 hd4
    refine Agg.held_take 0 (.pointer (some ⟨gl, 0, none⟩)) rfl (by kernel_rfl) (fun _ _ _ h => h) rfl (fun W _ => by kernel_rfl) (by assumption) ?_
    try simp only [Act.put, List.setIfInBounds_toArray, List.set_cons_succ, List.set_cons_zero]
    refine Agg.held_take 1 (.pointer (some ⟨gl, 0, none⟩)) rfl (by kernel_rfl) (fun _ _ _ h => h) rfl (fun W _ => by kernel_rfl) (by assumption) ?_
    try simp only [Act.put, List.setIfInBounds_toArray, List.set_cons_succ, List.set_cons_zero]
    refine Agg.held_take 2 (.pointer (some ⟨gl, 0, none⟩)) rfl (by kernel_rfl) (fun _ _ _ h => h) rfl (fun W _ => by kernel_rfl) (by assumption) ?_
    try simp only [Act.put, List.setIfInBounds_toArray, List.set_cons_succ, List.set_cons_zero]
    refine Agg.held_take 3 (.map (some gm)) rfl (by kernel_rfl) (fun _ _ _ h => h) rfl (fun W hS => exec_loadB rfl rfl (LkL.of_blk hS.1).known.now) (by assumption) ?_
    try simp only [Act.put, List.setIfInBounds_toArray, List.set_cons_succ, List.set_cons_zero]
    refine Agg.held_take 4 (.pointer (some ⟨g4, 0, none⟩)) rfl (by kernel_rfl) (fun _ _ _ h => h) rfl (fun W _ => by kernel_rfl) (by assumption) ?_
    try simp only [Act.put, List.setIfInBounds_toArray, List.set_cons_succ, List.set_cons_zero]
    refine Agg.held_take 5 (.int .i64 x.1) rfl (by kernel_rfl) (fun _ _ _ h => h) rfl (fun W hS => exec_loadB rfl rfl (NdL.of_blk hS.2.1).kind.now) (by assumption) ?_
    try simp only [Act.put, List.setIfInBounds_toArray, List.set_cons_succ, List.set_cons_zero]
    refine Agg.held_take 6 (.tuple #[bdV bd, .bool true]) rfl (by kernel_rfl) (fun _ _ _ h => h) rfl (fun W hS => exec_hit rfl kinds_under kind_key bd_zeroV rfl hS.2.2 x.1 rfl bd HGT.out) (by assumption) ?_
    try simp only [Act.put, List.setIfInBounds_toArray, List.set_cons_succ, List.set_cons_zero]
    refine Agg.held_take 7 (.tuple #[bdV bd, .bool true]) rfl (by kernel_rfl) (fun _ _ _ h => h) rfl (fun W _ => by kernel_rfl) (by assumption) ?_
    try simp only [Act.put, List.setIfInBounds_toArray, List.set_cons_succ, List.set_cons_zero]
    refine Agg.held_take 8 (bdV bd) rfl (by kernel_rfl) (fun _ _ _ h => h) rfl (fun W _ => by kernel_rfl) (by assumption) ?_
    try simp only [Act.put, List.setIfInBounds_toArray, List.set_cons_succ, List.set_cons_zero]
    refine Agg.held_take 9 (.bool true) rfl (by kernel_rfl) (fun _ _ _ h => h) rfl (fun W _ => by kernel_rfl) (by assumption) ?_
    try simp only [Act.put, List.setIfInBounds_toArray, List.set_cons_succ, List.set_cons_zero]
    refine Agg.held_one 10 rfl (by kernel_rfl) ?_
    refine step_zero rfl 124 rfl (bdC (0, 0, false)) bd_zero ?_
    intro g7 w5 hb hx hg
    have HBD5 := Lib.hid hb
    have HS5 := Lib.hid (show (fun W => Blk W gl 76 (lkC gm (n + 1) (max dp d)) ∧ Blk W g4 26 (ndC x) ∧ MapIs W gm kK bdV kindsM) w5 from ⟨HS4.out.1.below hx, HS4.out.2.1.below hx, HS4.out.2.2.keep (hx.block gm HS4.out.2.2.lt)⟩)
    have HO5 := Lib.hid (HO4.out.new hx)
    have HG7 := Lib.hid (show g7 ≠ gl ∧ g7 ≠ g4 ∧ w.heap.size ≤ g7 from ⟨fun e => (by have := HS4.out.1.lt; omega), fun e => (by have := HS4.out.2.1.lt; omega), Nat.le_trans HO4.out.size hg⟩)
    clear hb hx hg
    refine ⟨HS5.out, ?_⟩
    try simp only [Act.put, List.setIfInBounds_toArray, List.set_cons_succ, List.set_cons_zero]
    refine Agg.held_one 11 rfl (by kernel_rfl) ?_
    refine step_put rfl rfl 124 _ _ rfl g7 (bdC bd) (bdC (0, 0, false)) rfl rfl HBD5.out (bd_info _) rfl (bd_one _) ?_
    intro w6 hb hx hs hk
    have ho := Only.of_eq (S := (· = g7)) hx hs hk rfl
    have HBD6 := Lib.hid hb
    have HS6 := Lib.hid (show (fun W => Blk W gl 76 (lkC gm (n + 1) (max dp d)) ∧ Blk W g4 26 (ndC x) ∧ MapIs W gm kK bdV kindsM) w6 from ⟨HS5.out.1.keepO ho (fun e => HG7.out.1 e.symm), HS5.out.2.1.keepO ho (fun e => HG7.out.2.1 e.symm), HS5.out.2.2.keep (ho.block gm HS5.out.2.2.lt (map_ne HS5.out.2.2 HBD5.out))⟩)
    have HO6 := Lib.hid (show Only (· = gl) w w6 from HO5.out.trans (T := (· = g7)) ho (fun i hi h => by have := HG7.out.2.2; subst h; omega))
    clear hb hx hs hk ho
    refine ⟨HS6.out, ?_⟩
    try simp only [Act.put, List.setIfInBounds_toArray, List.set_cons_succ, List.set_cons_zero]
    refine Agg.held_one 12 rfl (by kernel_rfl) ?_
    refine step_val rfl (v := .bool true) (w' := w6) (by kernel_rfl) ?_
    refine ⟨HS6.out, ?_⟩
    try simp only [Act.put, List.setIfInBounds_toArray, List.set_cons_succ, List.set_cons_zero]
    refine Agg.held_end (by kernel_rfl) ?_
    by_cases c1 : 200 < n + 1
    · have dc1 : decide (200 < (n : Int) + 1) = true := by simp; omega
      have HR := Lib.hid (look_nodes (t := .mk k b l) (d := d) c1)
      go_wp2_with (first | (with_reducible refine Agg.wpList_loadL (LkL.of_blk HS6.out.1).nodes rfl _ rfl rfl ?_) | (with_reducible refine Agg.wpList_loadL (NdL.of_blk HS6.out.2.1).bytes rfl _ rfl rfl ?_) | (with_reducible refine Agg.wpList_loadL (NdL.of_blk HS6.out.2.1).kids rfl _ rfl rfl ?_) | (with_reducible refine Agg.wpList_loadL (BdL.of_blk HBD6.out).least rfl _ rfl rfl ?_) | (with_reducible refine Agg.wpList_loadL (BdL.of_blk HBD6.out).most rfl _ rfl rfl ?_) | (with_reducible refine Agg.wpList_loadL (BdL.of_blk HBD6.out).kids rfl _ rfl rfl ?_))
      go_ret
      exact FIN.out _ HO6.out HR.out
    · have dc1 : decide (200 < (n : Int) + 1) = false := by simp; omega
      by_cases c2 : 8 < d
      · have dc2 : decide (8 < (d : Int)) = true := by simp; omega
        have HR := Lib.hid (look_deep (t := .mk k b l) (n := n) c2)
        go_wp2_with (first | (with_reducible refine Agg.wpList_loadL (LkL.of_blk HS6.out.1).nodes rfl _ rfl rfl ?_) | (with_reducible refine Agg.wpList_loadL (NdL.of_blk HS6.out.2.1).bytes rfl _ rfl rfl ?_) | (with_reducible refine Agg.wpList_loadL (NdL.of_blk HS6.out.2.1).kids rfl _ rfl rfl ?_) | (with_reducible refine Agg.wpList_loadL (BdL.of_blk HBD6.out).least rfl _ rfl rfl ?_) | (with_reducible refine Agg.wpList_loadL (BdL.of_blk HBD6.out).most rfl _ rfl rfl ?_) | (with_reducible refine Agg.wpList_loadL (BdL.of_blk HBD6.out).kids rfl _ rfl rfl ?_))
        go_ret
        exact FIN.out _ HO6.out HR.out
      · have dc2 : decide (8 < (d : Int)) = false := by simp; omega
        by_cases c3 : (b.length : Int) < bd.1
        · have dc3 : decide ((b.length : Int) < bd.1) = true := by simpa using c3
          have HR := Lib.hid (look_alone (n := n) (d := d) (by rw [HAL.out, show decide (bd.1 ≤ (b.length : Int)) = false by simp; omega]; rfl))
          go_wp2_with (first | (with_reducible refine Agg.wpList_loadL (LkL.of_blk HS6.out.1).nodes rfl _ rfl rfl ?_) | (with_reducible refine Agg.wpList_loadL (NdL.of_blk HS6.out.2.1).bytes rfl _ rfl rfl ?_) | (with_reducible refine Agg.wpList_loadL (NdL.of_blk HS6.out.2.1).kids rfl _ rfl rfl ?_) | (with_reducible refine Agg.wpList_loadL (BdL.of_blk HBD6.out).least rfl _ rfl rfl ?_) | (with_reducible refine Agg.wpList_loadL (BdL.of_blk HBD6.out).most rfl _ rfl rfl ?_) | (with_reducible refine Agg.wpList_loadL (BdL.of_blk HBD6.out).kids rfl _ rfl rfl ?_))
          go_ret
          exact FIN.out _ HO6.out HR.out
        · have dc3 : decide ((b.length : Int) < bd.1) = false := by simpa using c3
          by_cases c4 : bd.2.1 < (b.length : Int)
          · have dc4 : decide (bd.2.1 < (b.length : Int)) = true := by simpa using c4
            have HR := Lib.hid (look_alone (n := n) (d := d) (by rw [HAL.out, show decide ((b.length : Int) ≤ bd.2.1) = false by simp; omega, Bool.false_and, Bool.and_false]))
            go_wp2_with (first | (with_reducible refine Agg.wpList_loadL (LkL.of_blk HS6.out.1).nodes rfl _ rfl rfl ?_) | (with_reducible refine Agg.wpList_loadL (NdL.of_blk HS6.out.2.1).bytes rfl _ rfl rfl ?_) | (with_reducible refine Agg.wpList_loadL (NdL.of_blk HS6.out.2.1).kids rfl _ rfl rfl ?_) | (with_reducible refine Agg.wpList_loadL (BdL.of_blk HBD6.out).least rfl _ rfl rfl ?_) | (with_reducible refine Agg.wpList_loadL (BdL.of_blk HBD6.out).most rfl _ rfl rfl ?_) | (with_reducible refine Agg.wpList_loadL (BdL.of_blk HBD6.out).kids rfl _ rfl rfl ?_))
            go_ret
            exact FIN.out _ HO6.out HR.out
          · have dc4 : decide (bd.2.1 < (b.length : Int)) = false := by simpa using c4
            by_cases c5 : 200 < l.length
            · have dc5 : decide (200 < (l.length : Int)) = true := by simp; omega
              have HR := Lib.hid (look_alone (n := n) (d := d) (by rw [HAL.out, show decide (l.length ≤ 200) = false by simp; omega, Bool.false_and, Bool.and_false, Bool.and_false]))
              go_wp2_with (first | (with_reducible refine Agg.wpList_loadL (LkL.of_blk HS6.out.1).nodes rfl _ rfl rfl ?_) | (with_reducible refine Agg.wpList_loadL (NdL.of_blk HS6.out.2.1).bytes rfl _ rfl rfl ?_) | (with_reducible refine Agg.wpList_loadL (NdL.of_blk HS6.out.2.1).kids rfl _ rfl rfl ?_) | (with_reducible refine Agg.wpList_loadL (BdL.of_blk HBD6.out).least rfl _ rfl rfl ?_) | (with_reducible refine Agg.wpList_loadL (BdL.of_blk HBD6.out).most rfl _ rfl rfl ?_) | (with_reducible refine Agg.wpList_loadL (BdL.of_blk HBD6.out).kids rfl _ rfl rfl ?_))
              go_ret
              exact FIN.out _ HO6.out HR.out
            · have dc5 : decide (200 < (l.length : Int)) = false := by simp; omega
              by_cases c6 : bd.2.2 = false ∧ 0 < l.length
              · have c6a := c6.1
                have dc6 : decide (0 < (l.length : Int)) = true := by have := c6.2; simp; omega
                have HR := Lib.hid (look_alone (n := n) (d := d) (by rw [HAL.out, show (bd.2.2 || l.isEmpty) = false by rw [c6.1]; have := c6.2; cases l <;> simp_all, Bool.false_and, Bool.and_false, Bool.and_false, Bool.and_false]))
                go_wp2_with (first | (with_reducible refine Agg.wpList_loadL (LkL.of_blk HS6.out.1).nodes rfl _ rfl rfl ?_) | (with_reducible refine Agg.wpList_loadL (NdL.of_blk HS6.out.2.1).bytes rfl _ rfl rfl ?_) | (with_reducible refine Agg.wpList_loadL (NdL.of_blk HS6.out.2.1).kids rfl _ rfl rfl ?_) | (with_reducible refine Agg.wpList_loadL (BdL.of_blk HBD6.out).least rfl _ rfl rfl ?_) | (with_reducible refine Agg.wpList_loadL (BdL.of_blk HBD6.out).most rfl _ rfl rfl ?_) | (with_reducible refine Agg.wpList_loadL (BdL.of_blk HBD6.out).kids rfl _ rfl rfl ?_))
                go_ret
                exact FIN.out _ HO6.out HR.out
              · have HC6 := Lib.hid (show (bd.2.2 || l.isEmpty) = true by
                  cases h1 : bd.2.2 with
                  | true => rfl
                  | false => cases l with | nil => rfl | cons y l => exact absurd ⟨h1, by simp⟩ c6)
                have HW6 := Lib.hid (show Below w0.heap.size w w6 from HO6.out.below (by have := HX0.out.size; exact this) (fun i hi => by subst hi; exact hgl))
                have HX6 := Lib.hid (HX0.out.trans HW6.out)
                obtain ⟨nb, hnb⟩ : ∃ nb, named none l = nb := ⟨_, rfl⟩
                have HNC := Lib.hid (show Calls Tryd.prog 94 #[x.2.2.1] w6 fun e w' => e = .returned (.bool nb) ∧ Below w6.heap.size w6 w' by have := named_any x.2.2.1 ks l (by omega) w6 (HSL.out.below HX6.out) HKN.out; rwa [hnb] at this)
                have HNB := Lib.hid hnb
                clear hnb
                have hkb : bd.2.2 = true ∨ (bd.2.2 = false ∧ decide (0 < (l.length : Int)) = false ∧ decide (0 < l.length) = false) := by
                  have := HC6.out
                  cases h1 : bd.2.2 with
                  | true => exact .inl rfl
                  | false =>
                    rw [h1, Bool.false_or] at this
                    refine .inr ⟨rfl, ?_⟩
                    cases l with
                    | nil => exact ⟨rfl, rfl⟩
                    | cons y l => simp at this
                have hlt0 := HW6.out.size
                rcases hkb with hkb | ⟨hkb, hl0, hl1⟩
                · go_wp2_with (first | (with_reducible refine Agg.wpList_loadL (LkL.of_blk HS6.out.1).nodes rfl _ rfl rfl ?_) | (with_reducible refine Agg.wpList_loadL (NdL.of_blk HS6.out.2.1).bytes rfl _ rfl rfl ?_) | (with_reducible refine Agg.wpList_loadL (NdL.of_blk HS6.out.2.1).kids rfl _ rfl rfl ?_) | (with_reducible refine Agg.wpList_loadL (BdL.of_blk HBD6.out).least rfl _ rfl rfl ?_) | (with_reducible refine Agg.wpList_loadL (BdL.of_blk HBD6.out).most rfl _ rfl rfl ?_) | (with_reducible refine Agg.wpList_loadL (BdL.of_blk HBD6.out).kids rfl _ rfl rfl ?_))
                  refine HNC.out.mono ?_
                  rintro e w7 ⟨rfl, hx7⟩
                  have HO7 := Lib.hid (HO6.out.new hx7)
                  have HS7 := Lib.hid (And.intro (HS6.out.1.below hx7) (And.intro (HS6.out.2.1.below hx7) (HS6.out.2.2.keep (hx7.block gm HS6.out.2.2.lt))))
                  clear hx7
                  cases nb with
                  | false =>
                    have HR := Lib.hid (look_alone (n := n) (d := d) (by rw [HAL.out, HNB.out, Bool.and_false, Bool.and_false, Bool.and_false, Bool.and_false]))
                    go_wp2_with fail
                    go_ret
                    exact FIN.out _ HO7.out HR.out
                  | true =>
                    have HAT := Lib.hid (show alone (.mk k b l) = true by
                      rw [HAL.out, HC6.out, HNB.out, show decide (bd.1 ≤ (b.length : Int)) = true by simp; omega, show decide ((b.length : Int) ≤ bd.2.1) = true by simp; omega, show decide (l.length ≤ 200) = true by simp; omega]; rfl)
                    go_wp2_with (first | (with_reducible refine Agg.wpList_loadL (NdL.of_blk HS7.out.2.1).kids rfl _ rfl rfl ?_))
                    go_loopw [81] (fun i wr => ∃ q : Nat, q ≤ l.length ∧ i = .int .i64 (q : Int) ∧ okL (l.take q) = true ∧ n + 1 + countL (l.take q) ≤ 200 ∧ d + deepL (l.take q) ≤ 8 ∧ Blk wr gl 76 (lkC gm (n + 1 + countL (l.take q)) (max (max dp d) (d + deepL (l.take q)))) ∧ MapIs wr gm kK bdV kindsM ∧ Only (· = gl) w wr) (fun i _ => l.length - (intOf i).toNat)
                    case atStart => exact ⟨0, by omega, rfl, rfl, by simp [countL] <;> omega, by simp [deepL] <;> omega, by have h := HS7.out.1; rw [show max (max dp d) (d + deepL (l.take 0)) = max dp d by simp [deepL] <;> omega]; simpa [countL] using h, HS7.out.2.2, HO7.out⟩
                    case round =>
                      obtain ⟨w8, rfl⟩ : ∃ w8 : World, w8 = wr := ⟨_, rfl⟩
                      obtain ⟨q, hq, rfl, hok, hnc, hdd, hbl, hmp, ho8⟩ := hrel
                      have HOK := Lib.hid hok
                      have HL := Lib.hid hbl
                      have HM := Lib.hid hmp
                      have HO := Lib.hid ho8
                      have HWr := Lib.hid (show Below w0.heap.size w w8 from HO.out.below (by have := HX0.out.size; exact this) (fun i hi => by subst hi; exact hgl))
                      have HXr := Lib.hid (HX0.out.trans HWr.out)
                      clear hok hbl hmp ho8
                      by_cases hlt : q < l.length
                      · have hlq : decide ((q : Int) < (l.length : Int)) = true := by simp; omega
                        obtain ⟨z, hzk⟩ : ∃ z, l[q]? = some z := ⟨_, List.getElem?_eq_getElem hlt⟩
                        obtain ⟨y, hyk, _, hyn⟩ := HKV.out.at_ q z hzk
                        obtain ⟨p, hadr, hle⟩ := kid_at (HSL.out.below HXr.out) q y hyk
                        have HE := Lib.hid hle.all
                        have HZ := Lib.hid hzk
                        have HYN := Lib.hid hyn
                        have hcz : count z.2 ≤ N := by
                          have h1 := countL_mem (List.mem_of_getElem? hzk)
                          have h2 := HC.out
                          simp only [count] at h2
                          omega
                        clear hle hyk hyn hzk
                        go_wp2_with (first | (with_reducible refine Agg.wpList_loadL HE.out rfl _ rfl rfl ?_) | (refine Agg.wpList_new rfl rfl rfl 51 10 84 rfl rfl rfl (by decide) (kdC kdZ) (kdC y) kd_zero rfl (kd_info y) (kdC_one y) rfl (by first | (simp; done) | simp [Act.put]) ?_; intro g9 wa hb hx hg; have HY := Lib.hid (kid_node hb); have HLa := Lib.hid (HL.out.below hx); have HMa := Lib.hid (HM.out.keep (hx.block gm HM.out.lt)); have HOa := Lib.hid (HO.out.new hx); clear hb hx hg) | (with_reducible refine Agg.wpList_loadL HY.out rfl _ rfl rfl ?_))
                        obtain ⟨lb, hlb2⟩ : ∃ lb, lookB z.2 (n + 1 + countL (l.take q)) (d + 1) = lb := ⟨_, rfl⟩
                        have hcall := HIH.out z.2 hcz (.agg (ndC y.2)) w0 wa gl gm (n + 1 + countL (l.take q)) (d + 1) _ (by omega) (by omega) (by omega) ⟨y.2, rfl, HYN.out⟩ (HX0.out.trans (HOa.out.below (by have := HX0.out.size; exact this) (fun i hi => by subst hi; exact hgl))) hgl HLa.out HMa.out
                        rw [hlb2, show ((d + 1 : Nat) : Int) = (d : Int) + 1 by omega] at hcall
                        have HLB := Lib.hid hlb2
                        clear hlb2 HE hadr
                        refine hcall.mono ?_
                        rintro e wb ⟨rfl, hob, hbb⟩
                        have HOb := Lib.hid (HOa.out.more hob)
                        have HMb := Lib.hid (map_keepO HMa.out hob HNE.out)
                        have HBb := Lib.hid hbb
                        clear hcall hob hbb
                        cases lb with
                        | false =>
                          have HR := Lib.hid (look_kid (t := .mk k b l) (n := n) (d := d) HZ.out HLB.out)
                          go_wp2_with fail
                          go_ret
                          exact FIN.out _ HOb.out HR.out
                        | true =>
                          have HPA := Lib.hid (look_parts HLB.out)
                          go_wp2_with fail
                          go_roundw
                          case rel => exact ⟨q + 1, by omega, by go_num, by rw [okL_snoc HZ.out, HOK.out, HPA.out.1]; rfl, by rw [countL_snoc HZ.out]; have := HPA.out.2.1; omega, by rw [deepL_snoc HZ.out]; have := HPA.out.2.2; omega, by
                            have h := HBb.out trivial
                            rw [countL_snoc HZ.out, deepL_snoc HZ.out]
                            rw [show n + 1 + (countL (l.take q) + count z.2) = n + 1 + countL (l.take q) + count z.2 by omega, show max (max dp d) (d + max (deepL (l.take q)) (deep z.2)) = max (max (max dp d) (d + deepL (l.take q))) (d + 1 - 1 + deep z.2) by omega]
                            exact h, HMb.out, HOb.out⟩
                          case measure => simp [intOf]; omega
                      · obtain rfl : q = l.length := by omega
                        have hlq : decide (((l.length : Nat) : Int) < ((l.length : Nat) : Int)) = false := by simp
                        have hok2 := HOK.out
                        have hbl2 := HL.out
                        rw [List.take_length] at hnc hdd hok2 hbl2
                        have HBL := Lib.hid (show Blk w8 gl 76 (lkC gm (n + count (.mk k b l)) (max dp (d - 1 + deep (.mk k b l)))) by
                          have e1 : n + count (.mk k b l) = n + 1 + countL l := by simp only [count]; omega
                          have e2 : max dp (d - 1 + deep (.mk k b l)) = max (max dp d) (d + deepL l) := by simp only [deep]; omega
                          rw [e1, e2]; exact hbl2)
                        have HR := Lib.hid (look_all (t := .mk k b l) (n := n) (d := d) HAT.out hnc (by show d + deepL l + 1 ≤ 9; omega) hok2)
                        clear hok2 hbl2
                        go_wp2_with fail
                        go_ret
                        exact ⟨ret_bool HR.out.symm, HO.out, fun _ => HBL.out⟩
                · go_wp2_with (first | (with_reducible refine Agg.wpList_loadL (LkL.of_blk HS6.out.1).nodes rfl _ rfl rfl ?_) | (with_reducible refine Agg.wpList_loadL (NdL.of_blk HS6.out.2.1).bytes rfl _ rfl rfl ?_) | (with_reducible refine Agg.wpList_loadL (NdL.of_blk HS6.out.2.1).kids rfl _ rfl rfl ?_) | (with_reducible refine Agg.wpList_loadL (BdL.of_blk HBD6.out).least rfl _ rfl rfl ?_) | (with_reducible refine Agg.wpList_loadL (BdL.of_blk HBD6.out).most rfl _ rfl rfl ?_) | (with_reducible refine Agg.wpList_loadL (BdL.of_blk HBD6.out).kids rfl _ rfl rfl ?_))
                  refine HNC.out.mono ?_
                  rintro e w7 ⟨rfl, hx7⟩
                  have HO7 := Lib.hid (HO6.out.new hx7)
                  have HS7 := Lib.hid (And.intro (HS6.out.1.below hx7) (And.intro (HS6.out.2.1.below hx7) (HS6.out.2.2.keep (hx7.block gm HS6.out.2.2.lt))))
                  clear hx7
                  cases nb with
                  | false =>
                    have HR := Lib.hid (look_alone (n := n) (d := d) (by rw [HAL.out, HNB.out, Bool.and_false, Bool.and_false, Bool.and_false, Bool.and_false]))
                    go_wp2_with fail
                    go_ret
                    exact FIN.out _ HO7.out HR.out
                  | true =>
                    have HAT := Lib.hid (show alone (.mk k b l) = true by
                      rw [HAL.out, HC6.out, HNB.out, show decide (bd.1 ≤ (b.length : Int)) = true by simp; omega, show decide ((b.length : Int) ≤ bd.2.1) = true by simp; omega, show decide (l.length ≤ 200) = true by simp; omega]; rfl)
                    go_wp2_with (first | (with_reducible refine Agg.wpList_loadL (NdL.of_blk HS7.out.2.1).kids rfl _ rfl rfl ?_))
                    go_loopw [81] (fun i wr => ∃ q : Nat, q ≤ l.length ∧ i = .int .i64 (q : Int) ∧ okL (l.take q) = true ∧ n + 1 + countL (l.take q) ≤ 200 ∧ d + deepL (l.take q) ≤ 8 ∧ Blk wr gl 76 (lkC gm (n + 1 + countL (l.take q)) (max (max dp d) (d + deepL (l.take q)))) ∧ MapIs wr gm kK bdV kindsM ∧ Only (· = gl) w wr) (fun i _ => l.length - (intOf i).toNat)
                    case atStart => exact ⟨0, by omega, rfl, rfl, by simp [countL] <;> omega, by simp [deepL] <;> omega, by have h := HS7.out.1; rw [show max (max dp d) (d + deepL (l.take 0)) = max dp d by simp [deepL] <;> omega]; simpa [countL] using h, HS7.out.2.2, HO7.out⟩
                    case round =>
                      obtain ⟨w8, rfl⟩ : ∃ w8 : World, w8 = wr := ⟨_, rfl⟩
                      obtain ⟨q, hq, rfl, hok, hnc, hdd, hbl, hmp, ho8⟩ := hrel
                      have HOK := Lib.hid hok
                      have HL := Lib.hid hbl
                      have HM := Lib.hid hmp
                      have HO := Lib.hid ho8
                      have HWr := Lib.hid (show Below w0.heap.size w w8 from HO.out.below (by have := HX0.out.size; exact this) (fun i hi => by subst hi; exact hgl))
                      have HXr := Lib.hid (HX0.out.trans HWr.out)
                      clear hok hbl hmp ho8
                      by_cases hlt : q < l.length
                      · have hlq : decide ((q : Int) < (l.length : Int)) = true := by simp; omega
                        obtain ⟨z, hzk⟩ : ∃ z, l[q]? = some z := ⟨_, List.getElem?_eq_getElem hlt⟩
                        obtain ⟨y, hyk, _, hyn⟩ := HKV.out.at_ q z hzk
                        obtain ⟨p, hadr, hle⟩ := kid_at (HSL.out.below HXr.out) q y hyk
                        have HE := Lib.hid hle.all
                        have HZ := Lib.hid hzk
                        have HYN := Lib.hid hyn
                        have hcz : count z.2 ≤ N := by
                          have h1 := countL_mem (List.mem_of_getElem? hzk)
                          have h2 := HC.out
                          simp only [count] at h2
                          omega
                        clear hle hyk hyn hzk
                        go_wp2_with (first | (with_reducible refine Agg.wpList_loadL HE.out rfl _ rfl rfl ?_) | (refine Agg.wpList_new rfl rfl rfl 51 10 84 rfl rfl rfl (by decide) (kdC kdZ) (kdC y) kd_zero rfl (kd_info y) (kdC_one y) rfl (by first | (simp; done) | simp [Act.put]) ?_; intro g9 wa hb hx hg; have HY := Lib.hid (kid_node hb); have HLa := Lib.hid (HL.out.below hx); have HMa := Lib.hid (HM.out.keep (hx.block gm HM.out.lt)); have HOa := Lib.hid (HO.out.new hx); clear hb hx hg) | (with_reducible refine Agg.wpList_loadL HY.out rfl _ rfl rfl ?_))
                        obtain ⟨lb, hlb2⟩ : ∃ lb, lookB z.2 (n + 1 + countL (l.take q)) (d + 1) = lb := ⟨_, rfl⟩
                        have hcall := HIH.out z.2 hcz (.agg (ndC y.2)) w0 wa gl gm (n + 1 + countL (l.take q)) (d + 1) _ (by omega) (by omega) (by omega) ⟨y.2, rfl, HYN.out⟩ (HX0.out.trans (HOa.out.below (by have := HX0.out.size; exact this) (fun i hi => by subst hi; exact hgl))) hgl HLa.out HMa.out
                        rw [hlb2, show ((d + 1 : Nat) : Int) = (d : Int) + 1 by omega] at hcall
                        have HLB := Lib.hid hlb2
                        clear hlb2 HE hadr
                        refine hcall.mono ?_
                        rintro e wb ⟨rfl, hob, hbb⟩
                        have HOb := Lib.hid (HOa.out.more hob)
                        have HMb := Lib.hid (map_keepO HMa.out hob HNE.out)
                        have HBb := Lib.hid hbb
                        clear hcall hob hbb
                        cases lb with
                        | false =>
                          have HR := Lib.hid (look_kid (t := .mk k b l) (n := n) (d := d) HZ.out HLB.out)
                          go_wp2_with fail
                          go_ret
                          exact FIN.out _ HOb.out HR.out
                        | true =>
                          have HPA := Lib.hid (look_parts HLB.out)
                          go_wp2_with fail
                          go_roundw
                          case rel => exact ⟨q + 1, by omega, by go_num, by rw [okL_snoc HZ.out, HOK.out, HPA.out.1]; rfl, by rw [countL_snoc HZ.out]; have := HPA.out.2.1; omega, by rw [deepL_snoc HZ.out]; have := HPA.out.2.2; omega, by
                            have h := HBb.out trivial
                            rw [countL_snoc HZ.out, deepL_snoc HZ.out]
                            rw [show n + 1 + (countL (l.take q) + count z.2) = n + 1 + countL (l.take q) + count z.2 by omega, show max (max dp d) (d + max (deepL (l.take q)) (deep z.2)) = max (max (max dp d) (d + deepL (l.take q))) (d + 1 - 1 + deep z.2) by omega]
                            exact h, HMb.out, HOb.out⟩
                          case measure => simp [intOf]; omega
                      · obtain rfl : q = l.length := by omega
                        have hlq : decide (((l.length : Nat) : Int) < ((l.length : Nat) : Int)) = false := by simp
                        have hok2 := HOK.out
                        have hbl2 := HL.out
                        rw [List.take_length] at hnc hdd hok2 hbl2
                        have HBL := Lib.hid (show Blk w8 gl 76 (lkC gm (n + count (.mk k b l)) (max dp (d - 1 + deep (.mk k b l)))) by
                          have e1 : n + count (.mk k b l) = n + 1 + countL l := by simp only [count]; omega
                          have e2 : max dp (d - 1 + deep (.mk k b l)) = max (max dp d) (d + deepL l) := by simp only [deep]; omega
                          rw [e1, e2]; exact hbl2)
                        have HR := Lib.hid (look_all (t := .mk k b l) (n := n) (d := d) HAT.out hnc (by show d + deepL l + 1 ≤ 9; omega) hok2)
                        clear hok2 hbl2
                        go_wp2_with fail
                        go_ret
                        exact ⟨ret_bool HR.out.symm, HO.out, fun _ => HBL.out⟩
set_option maxRecDepth 100000 in
set_option maxHeartbeats 4000000 in
theorem looked_any (v : Value) (t : T) (w : World) (hv : NodeAt w v t) :
    Calls Tryd.prog 51 #[v] w fun e w' => ∃ g gm, e = .returned (.tuple #[.pointer (some ⟨g, 0, none⟩), .bool (right t)]) ∧ Below w.heap.size w w' ∧ (right t = true → Blk w' g 76 (lkC gm (count t) (deep t))) := by
  obtain ⟨x, rfl, hx⟩ := hv
  have HN := Lib.hid hx
  clear hx
  have hbl := fun gm W => (by kernel_rfl : (Instr.build 76 #[(0, .map (some gm))]).run Tryd.prog W = .ok (.agg (lkC gm 0 0)) W)
  have HBL := Lib.hid hbl
  clear hbl
  go_enter Tryd.func51, Tryd.ntmps51
  go_wp2_with (first | (refine Agg.wpList_box rfl 26 _ rfl (ndC x) rfl ?_; intro g1 w1 hb hx hg; have HB1 := Lib.hid hb; have HX1 := Lib.hid hx; clear hb hx hg))
  refine (kinds_any w1).mono ?_
  rintro e w2 ⟨gm, rfl, hgm, hm, hx⟩
  have HM2 := Lib.hid hm
  have HB2 := Lib.hid (HB1.out.below hx)
  have HX2 := Lib.hid (Agg.belowThen HX1.out (Nat.le_refl _) hx)
  clear hm hx hgm
  go_wp2_with (first | (with_reducible refine Agg.wpList_build1 76 0 _ rfl rfl (.map (some gm)) rfl (.agg (lkC gm 0 0)) (HBL.out gm) ?_) | (refine Agg.wpList_box rfl 76 _ rfl (lkC gm 0 0) rfl ?_; intro g3 w3 hb hx hg; have HL3 := Lib.hid hb; have HM3 := Lib.hid (HM2.out.keep (hx.block gm HM2.out.lt)); have HB3 := Lib.hid (HB2.out.below hx); have HX3 := Lib.hid (Agg.belowThen HX2.out (Nat.le_refl _) hx); have HG3 := Lib.hid (Nat.le_trans HX2.out.size hg); clear hb hx hg) | (with_reducible refine Agg.wpList_loadL (NdL.of_blk HB3.out).all rfl _ rfl rfl ?_))
  refine (right_any (count t) t (Nat.le_refl _) (.agg (ndC x)) w w3 g3 gm 0 1 0 (by omega) (by omega) (by omega) ⟨x, rfl, HN.out⟩ HX3.out HG3.out HL3.out HM3.out).mono ?_
  rintro e w4 ⟨rfl, ho, hb⟩
  have HX4 := Lib.hid (HX3.out.trans (ho.below HX3.out.size (fun i hi => by subst hi; exact HG3.out)))
  have HB4 := Lib.hid hb
  clear ho hb
  go_wp2_with fail
  go_ret2
  exact ⟨g3, gm, rfl, HX4.out, fun h => by
    have := HB4.out h
    rwa [show 0 + count t = count t by omega, show max 0 (1 - 1 + deep t) = deep t by omega] at this⟩
set_option maxRecDepth 100000 in
set_option maxHeartbeats 4000000 in
theorem tright_any (v : Value) (t : T) (w : World) (hv : NodeAt w v t) :
    Calls Tryd.prog 21 #[v] w fun e w' => e = .returned (.bool (right t)) ∧ Below w.heap.size w w' := by
  obtain ⟨x, rfl, hx⟩ := hv
  have HN := Lib.hid hx
  clear hx
  go_enter Tryd.func21, Tryd.ntmps21
  go_wp2_with (first | (refine Agg.wpList_box rfl 26 _ rfl (ndC x) rfl ?_; intro g1 w1 hb hx hg; have HB1 := Lib.hid hb; have HX1 := Lib.hid hx; clear hb hx hg) | (with_reducible refine Agg.wpList_loadL (NdL.of_blk HB1.out).all rfl _ rfl rfl ?_))
  refine (looked_any (.agg (ndC x)) t w1 ⟨x, rfl, HN.out.below HX1.out⟩).mono ?_
  rintro e w2 ⟨g, gm, rfl, hx, _⟩
  have HX2 := Lib.hid (Agg.belowThen HX1.out (Nat.le_refl _) hx)
  clear hx
  go_wp2_with fail
  go_ret
  exact ⟨rfl, HX2.out⟩
end Go.Proofs.YtfiadgdinhmgbaaDoor
