/- How long an archive is at most (chapter 9). No program in sight. (Several texts in one.) -/
import Derived.Test.YtfiadgdinhmgbaaDoorWAL
import Derived.Test.YtfiadgdinhmgbaaDoorWAG
import Derived.Test.YtfiadgdinhmgbaaDoorWAM
import Derived.Test.YtfiadgdinhmgbaaDoorWAH
import Derived.Test.YtfiadgdinhmgbaaDoorWAJ
import Derived.Test.YtfiadgdinhmgbaaDoorWAE
/-! A file tree in memory of its own: in blocks of its own, no two the same; it stays where others are written. -/
namespace Go.Proofs.YtfiadgdinhmgbaaDoor
open Go.RowKit Pl Go.Agg Go.Tr
/-- the block of a slice, if it has one -/
def ownB (v : Value) : List Nat := v.ownBlock.toList
mutual
/-- a node's value is a tree in blocks bs, at or above base -/
def OwnT (base : Nat) (w : World) : NdV → T → List Nat → Prop
  | x, .mk k b l, bs => x.1 = k ∧ Agg.Own EB base w x.2.1.1 b ∧ ∃ (ks : List KdV) (cs : List Nat), Agg.Own EK base w x.2.2.1 ks ∧ OwnL base w ks l cs ∧ bs = ownB x.2.1.1 ++ (ownB x.2.2.1 ++ cs)
def OwnL (base : Nat) (w : World) : List KdV → List (List UInt8 × T) → List Nat → Prop
  | [], [], bs => bs = []
  | y :: ks, (n, t) :: l, bs => y.1 = n ∧ ∃ cs ds, OwnT base w y.2 t cs ∧ OwnL base w ks l ds ∧ bs = cs ++ ds
  | _, _, _ => False
end
theorem own_stays {α : Type} {E : Elem Tryd.prog α} {base : Nat} {w w' : World} {v : Value} {l : List α} {S : Nat → Prop} (h : Agg.Own E base w v l) (ho : Only S w w') (hS : ∀ k ∈ ownB v, ¬ S k) : Agg.Own E base w' v l := by
  obtain ⟨h1, h2⟩ := h
  refine ⟨h1, ?_⟩
  rcases h2 with h2 | ⟨g, cap, cur, e1, e2, e3, e4⟩
  · exact .inl h2
  · exact .inr ⟨g, cap, cur, e1, e2, (ho.block g (heap_lt e3) (hS g (by rw [e1]; simp [ownB, Value.ownBlock]))).trans e3, e4⟩
mutual
theorem OwnT.only {base : Nat} {w w' : World} {S : Nat → Prop} (ho : Only S w w') : ∀ (t : T) (x : NdV) (bs : List Nat), OwnT base w x t bs → (∀ k ∈ bs, ¬ S k) → OwnT base w' x t bs
  | .mk _ _ l, _, _, h, hS => by
    obtain ⟨h1, h2, ks, cs, h3, h4, rfl⟩ := h
    exact ⟨h1, own_stays h2 ho (fun k hk => hS k (by simp [hk])), ks, cs, own_stays h3 ho (fun k hk => hS k (by simp [hk])), OwnL.only ho l ks cs h4 (fun k hk => hS k (by simp [hk])), rfl⟩
theorem OwnL.only {base : Nat} {w w' : World} {S : Nat → Prop} (ho : Only S w w') : ∀ (l : List (List UInt8 × T)) (ks : List KdV) (bs : List Nat), OwnL base w ks l bs → (∀ k ∈ bs, ¬ S k) → OwnL base w' ks l bs
  | [], [], _, h, _ => h
  | (_, t) :: l, y :: ks, _, h, hS => by
    obtain ⟨h1, cs, ds, h2, h3, rfl⟩ := h
    exact ⟨h1, cs, ds, OwnT.only ho t y.2 cs h2 (fun k hk => hS k (by simp [hk])), OwnL.only ho l ks ds h3 (fun k hk => hS k (by simp [hk])), rfl⟩
  | [], _ :: _, _, h, _ => h.elim
  | _ :: _, [], _, h, _ => h.elim
end
theorem OwnT.below {base : Nat} {w w' : World} (hb : Below w.heap.size w w') {t : T} {x : NdV} {bs : List Nat} (h : OwnT base w x t bs) : OwnT base w' x t bs :=
  OwnT.only (S := fun _ => False) (Only.of_below hb) t x bs h (fun _ _ h => h)
theorem OwnL.below {base : Nat} {w w' : World} (hb : Below w.heap.size w w') {l : List (List UInt8 × T)} {ks : List KdV} {bs : List Nat} (h : OwnL base w ks l bs) : OwnL base w' ks l bs :=
  OwnL.only (S := fun _ => False) (Only.of_below hb) l ks bs h (fun _ _ h => h)
theorem own_range {α : Type} {E : Elem Tryd.prog α} {base : Nat} {w : World} {v : Value} {l : List α} (h : Agg.Own E base w v l) : ∀ k ∈ ownB v, base ≤ k ∧ k < w.heap.size := fun k hk => by
  have hk : v.ownBlock = some k := by simpa [ownB] using hk
  obtain ⟨h1, cur, hc⟩ := h.block k hk
  exact ⟨h1, heap_lt hc⟩
mutual
/-- its blocks lie at or above base, and there -/
theorem OwnT.range {base : Nat} {w : World} : ∀ (t : T) (x : NdV) (bs : List Nat), OwnT base w x t bs → ∀ k ∈ bs, base ≤ k ∧ k < w.heap.size
  | .mk _ _ l, _, _, h, k, hk => by
    obtain ⟨_, h2, ks, cs, h3, h4, rfl⟩ := h
    simp only [List.mem_append] at hk
    rcases hk with hk | hk | hk
    · exact own_range h2 k hk
    · exact own_range h3 k hk
    · exact OwnL.range l ks cs h4 k hk
theorem OwnL.range {base : Nat} {w : World} : ∀ (l : List (List UInt8 × T)) (ks : List KdV) (bs : List Nat), OwnL base w ks l bs → ∀ k ∈ bs, base ≤ k ∧ k < w.heap.size
  | [], [], _, h, k, hk => by
    have h : _ = [] := h
    rw [h] at hk; cases hk
  | (_, t) :: l, y :: ks, _, h, k, hk => by
    obtain ⟨_, cs, ds, h2, h3, rfl⟩ := h
    simp only [List.mem_append] at hk
    rcases hk with hk | hk
    · exact OwnT.range t y.2 cs h2 k hk
    · exact OwnL.range l ks ds h3 k hk
  | [], _ :: _, _, h, _, _ => h.elim
  | _ :: _, [], _, h, _, _ => h.elim
end
mutual
/-- it reads as the tree -/
theorem OwnT.reads {base : Nat} {w : World} : ∀ (t : T) (x : NdV) (bs : List Nat), OwnT base w x t bs → NodeV w x t
  | .mk _ _ l, _, _, h => by
    obtain ⟨h1, h2, ks, cs, h3, h4, _⟩ := h
    exact ⟨h1, h2.slice, ks, h3.slice, OwnL.reads l ks cs h4⟩
theorem OwnL.reads {base : Nat} {w : World} : ∀ (l : List (List UInt8 × T)) (ks : List KdV) (bs : List Nat), OwnL base w ks l bs → KidsV w ks l
  | [], [], _, _ => trivial
  | (_, t) :: l, y :: ks, _, h => by
    obtain ⟨h1, cs, ds, h2, h3, _⟩ := h
    exact ⟨h1, OwnT.reads t y.2 cs h2, OwnL.reads l ks ds h3⟩
  | [], _ :: _, _, h => h.elim
  | _ :: _, [], _, h => h.elim
end
/-- one more kid -/
theorem OwnL.snoc {base : Nat} {w : World} : ∀ {l : List (List UInt8 × T)} {ks : List KdV} {bs : List Nat} {y : KdV} {t : T} {cs : List Nat}, OwnL base w ks l bs → OwnT base w y.2 t cs → OwnL base w (ks ++ [y]) (l ++ [(y.1, t)]) (bs ++ cs)
  | [], [], _, _, _, cs, h, h2 => by
    have h : _ = [] := h
    subst h
    exact ⟨rfl, cs, [], h2, rfl, by simp⟩
  | (_, _) :: _, _ :: _, _, _, _, _, h, h2 => by
    obtain ⟨h1, cs, ds, h3, h4, rfl⟩ := h
    exact ⟨h1, cs, _, h3, OwnL.snoc h4 h2, by simp⟩
  | [], _ :: _, _, _, _, _, h, _ => h.elim
  | _ :: _, [], _, _, _, _, h, _ => h.elim
end Go.Proofs.YtfiadgdinhmgbaaDoor
/-! A tree of one's own that grows by a kid. -/
namespace Go.Agg
open Go.RowKit
section
variable {P : Program} {ops : Array Oper} {o : Oper} {a : Act} {w : World} {Q : Exit → Act → World → Prop} {K : Act → World → Prop} {F : Prop}
theorem exec_b2 {ty : TypeId} {i j : Nat} {x y : Operand} {vx vy v : Value} (ho : o.op = .build ty #[(i, x), (j, y)]) (hx : a.eval x = vx) (hy : a.eval y = vy) (hrun : (Instr.build ty #[(i, vx), (j, vy)]).run P w = .ok v w) : (execOp a.eval o).run P w = .ok (.value v) w := by
  simp [execOp, ho, hx, hy, hrun]
theorem exec_b1 {ty : TypeId} {i : Nat} {x : Operand} {vx v : Value} (ho : o.op = .build ty #[(i, x)]) (hx : a.eval x = vx) (hrun : (Instr.build ty #[(i, vx)]).run P w = .ok v w) : (execOp a.eval o).run P w = .ok (.value v) w := by
  simp [execOp, ho, hx, hrun]
/-- an append at a step: where the slice lies -/
theorem step_appendG {α : Type} {E : Elem P α} {base : Nat} {v : Value} {l : List α} (hg : o.guard = none) (s x : Operand) (ho : o.op = .call { callee := .builtin .append, args := #[s, x], argTypes := #[E.st, E.st] }) (vx : Value) (hs : a.eval s = v) (hx : a.eval x = vx) (m : List α)
    (hown : Own E base w v l) (hm : SliceOf E w vx m) (h63 : l.length + m.length ≤ 1099511627776 / 8) (hby : E.bytes ≤ 1000) (hbase : base ≤ w.heap.size)
    (h : ∀ v' w', Own E base w' v' (l ++ m) → Pushed E base w w' v → Grew w v v' → K (a.put o.dst v') w') : if Region.wanted o (yielded ops a.tmps) = true then o.wp P a w K Q else F := by
  rw [if_pos (by simp [Region.wanted, hg])]
  obtain ⟨v', w', hrun, h2, h3, h4, _⟩ := run_append (ty := o.type) hown _ m hm h63 hby hbase
  unfold Oper.wp
  have : (execOp a.eval o).run P w = .ok (.value v') w' := by simp [execOp, ho, resolve, invoke, builtin, hs, hx, hrun]
  rw [this]
  exact h v' w' h2 (pushed_of hown h3) (grew_of (Nat.le_refl _) h4)
end
end Go.Agg
namespace Go.Proofs.YtfiadgdinhmgbaaDoor
open Go.RowKit Pl Go.Agg Go.Tr
/-- bytes, kids of one's own, apart -/
structure OwnS (base : Nat) (w : World) (vb : Value) (bs : List UInt8) (vk : Value) (ks : List KdV) (l : List (List UInt8 × T)) (cs : List Nat) : Prop where
  bytes : Agg.Own EB base w vb bs
  row : Agg.Own EK base w vk ks
  kids : OwnL base w ks l cs
  nodup : (ownB vb ++ (ownB vk ++ cs)).Nodup
theorem sv_cells (s : SV) : s.1.cells = #[s.1] := by obtain ⟨_, p, n, c, rfl⟩ := s; rfl
theorem ownB_nodup (v : Value) : (ownB v).Nodup := by
  unfold ownB
  cases v.ownBlock <;> simp
theorem mem_ownB {v : Value} {k : Nat} : k ∈ ownB v ↔ v.ownBlock = some k := by simp [ownB, eq_comm]
section
variable {base : Nat} {w w' : World} {vb vk vk' : Value} {bs : List UInt8} {ks : List KdV} {l : List (List UInt8 × T)} {cs : List Nat}
theorem OwnS.below (h : OwnS base w vb bs vk ks l cs) (hb : Below w.heap.size w w') : OwnS base w' vb bs vk ks l cs := ⟨h.bytes.below hb, h.row.below hb, h.kids.below hb, h.nodup⟩
theorem OwnS.range (h : OwnS base w vb bs vk ks l cs) : ∀ k ∈ ownB vb ++ (ownB vk ++ cs), base ≤ k ∧ k < w.heap.size := fun k hk => by
  simp only [List.mem_append] at hk
  rcases hk with hk | hk | hk
  · exact own_range h.bytes k hk
  · exact own_range h.row k hk
  · exact OwnL.range l ks cs h.kids k hk
theorem OwnS.other {g : Nat} {t : TypeId} {ds : Array Value} (h : OwnS base w vb bs vk ks l cs) (ho : Only (· = g) w w') (hb : Blk w g t ds) (h1 : t ≠ 5) (h2 : t ≠ 51) (h3 : g ∉ cs) : OwnS base w' vb bs vk ks l cs :=
  ⟨Own.onlyB h.bytes ho hb h1, Own.onlyB h.row ho hb h2, OwnL.only ho l ks cs h.kids (fun _ hk e => h3 (e ▸ hk)), h.nodup⟩
theorem OwnS.push {y : KdV} {t : T} {b2 : List Nat} (h : OwnS base w vb bs vk ks l cs) (h2 : OwnT base w y.2 t b2) (hn2 : b2.Nodup) (hlt : ∀ k ∈ ownB vb ++ (ownB vk ++ cs), ∀ j ∈ b2, k < j)
    (ho : Agg.Own EK base w' vk' (ks ++ [y])) (hp : Pushed EK base w w' vk) (hg : Grew w vk vk') : OwnS base w' vb bs vk' (ks ++ [y]) (l ++ [(y.1, t)]) (cs ++ b2) := by
  have hn := h.nodup
  rw [List.nodup_append, List.nodup_append] at hn
  obtain ⟨_, ⟨_, hcs, hkc⟩, hbk⟩ := hn
  have hr2 := OwnT.range t y.2 b2 h2
  refine ⟨own_stays h.bytes hp.only fun k hk e => hbk k hk k (List.mem_append.2 (.inl (mem_ownB.2 e))) rfl, ho, (OwnL.only hp.only l ks cs h.kids fun k hk e => hkc k (mem_ownB.2 e) k hk rfl).snoc (OwnT.only hp.only t y.2 b2 h2 fun k hk e => ?_), ?_⟩
  · have := hlt k (List.mem_append.2 (.inr (List.mem_append.2 (.inl (mem_ownB.2 e))))) k hk
    omega
  · have hbr := h.range
    have hk' : ∀ k ∈ ownB vk', k ∈ ownB vk ∨ w.heap.size ≤ k := fun k hk => (hg k (mem_ownB.1 hk)).imp mem_ownB.2 id
    rw [List.nodup_append, List.nodup_append, List.nodup_append]
    refine ⟨ownB_nodup _, ⟨ownB_nodup _, ⟨hcs, hn2, fun a ha b hb e => ?_⟩, fun a ha b hb e => ?_⟩, fun a ha b hb e => ?_⟩
    · have := hlt a (by simp [ha]) b hb; omega
    · subst e
      rcases List.mem_append.1 hb with hb | hb
      · rcases hk' a ha with h1 | h1
        · exact hkc a h1 a hb rfl
        · have := (hbr a (by simp [hb])).2; omega
      · rcases hk' a ha with h1 | h1
        · have := hlt a (by simp [h1]) a hb; omega
        · have := (hr2 a hb).2; omega
    · subst e
      rcases List.mem_append.1 hb with hb | hb
      · rcases hk' a hb with h1 | h1
        · exact hbk a ha a (by simp [h1]) rfl
        · have := (hbr a (by simp [ha])).2; omega
      · rcases List.mem_append.1 hb with hb | hb
        · exact hbk a ha a (by simp [hb]) rfl
        · have := hlt a (by simp [ha]) a hb; omega
end
/-- a node whose tree is of one's own, in blocks no two the same -/
def OwnN (base : Nat) (w : World) (x : NdV) (t : T) : Prop := ∃ bs, OwnT base w x t bs ∧ bs.Nodup
theorem OwnS.node {base : Nat} {w : World} {k : Int} {vb vk : SV} {bs : List UInt8} {ks : List KdV} {l : List (List UInt8 × T)} {cs : List Nat} (h : OwnS base w vb.1 bs vk.1 ks l cs) : OwnN base w (k, vb, vk) (.mk k bs l) :=
  ⟨_, ⟨rfl, h.bytes, ks, cs, h.row, h.kids, rfl⟩, h.nodup⟩
theorem OwnN.below {base : Nat} {w w' : World} {x : NdV} {t : T} (h : OwnN base w x t) (hb : Below w.heap.size w w') : OwnN base w' x t := by
  obtain ⟨bs, h1, h2⟩ := h
  exact ⟨bs, h1.below hb, h2⟩
theorem OwnN.reads {base : Nat} {w : World} {x : NdV} {t : T} (h : OwnN base w x t) : NodeV w x t := by
  obtain ⟨bs, h1, _⟩ := h
  exact OwnT.reads t x bs h1
mutual
theorem OwnT.lowerB {b b' : Nat} {w : World} (hb : b' ≤ b) : ∀ (t : T) (x : NdV) (bs : List Nat), OwnT b w x t bs → OwnT b' w x t bs
  | .mk _ _ l, _, _, h => by
    obtain ⟨h1, h2, ks, cs, h3, h4, rfl⟩ := h
    exact ⟨h1, h2.lower hb, ks, cs, h3.lower hb, OwnL.lowerB hb l ks cs h4, rfl⟩
theorem OwnL.lowerB {b b' : Nat} {w : World} (hb : b' ≤ b) : ∀ (l : List (List UInt8 × T)) (ks : List KdV) (bs : List Nat), OwnL b w ks l bs → OwnL b' w ks l bs
  | [], [], _, h => h
  | (_, t) :: l, y :: ks, _, h => by
    obtain ⟨h1, cs, ds, h2, h3, rfl⟩ := h
    exact ⟨h1, cs, ds, OwnT.lowerB hb t y.2 cs h2, OwnL.lowerB hb l ks ds h3, rfl⟩
  | [], _ :: _, _, h => h.elim
  | _ :: _, [], _, h => h.elim
end
theorem OwnN.lower {b b' : Nat} {w : World} {x : NdV} {t : T} (h : OwnN b w x t) (hb : b' ≤ b) : OwnN b' w x t := by
  obtain ⟨bs, h1, h2⟩ := h
  exact ⟨bs, OwnT.lowerB hb t x bs h1, h2⟩
theorem own_sv {α : Type} {E : Elem Tryd.prog α} {base : Nat} {w : World} {v : Value} {l : List α} (h : Agg.Own E base w v l) : ∃ s : SV, v = s.1 := by
  obtain ⟨p, c, hf⟩ := h.slice.form
  exact ⟨⟨v, p, _, c, hf⟩, rfl⟩
theorem kd_build (n : List UInt8) (x : NdV) (W : World) : (Instr.build 51 #[(0, .string ⟨n.toArray⟩), (1, .agg (ndC x))]).run Tryd.prog W = .ok (.agg (kdC (n, x))) W := by
  obtain ⟨k, ⟨_, p, m, c, rfl⟩, ⟨_, q, m2, c2, rfl⟩⟩ := x
  kernel_rfl
theorem nd_build2 (k : Int) (s : SV) (W : World) : (Instr.build 26 #[(0, .int .i64 k), (1, s.1)]).run Tryd.prog W = .ok (.agg (ndC (k, s, svN))) W := by
  obtain ⟨_, p, m, c, rfl⟩ := s
  kernel_rfl
theorem nd_build0 (W : World) : (Instr.build 26 #[]).run Tryd.prog W = .ok (.agg (ndC ndZ)) W := by kernel_rfl
theorem kd_build1 (n : List UInt8) (W : World) : (Instr.build 51 #[(0, .string ⟨n.toArray⟩)]).run Tryd.prog W = .ok (.agg (kdC (n, ndZ))) W := by kernel_rfl
end Go.Proofs.YtfiadgdinhmgbaaDoor
/-! A cut behind a region: what it leaves, said once for all orders. -/
namespace Go.Agg
open Go.RowKit
variable {P : Program}
/-- some slots hold whatever -/
def ExPut : List Nat → Act → Act → Prop
  | [], a, a' => a' = a
  | k :: ks, a, a' => ∃ x, ExPut ks (a.put (some k) x) a'
theorem wp_cutR {c : Code} {Q : Exit → Act → World → Prop} {a : Act} {w : World} (R : Act → Act → World → Prop) (h1 : c.wp P (fun e a' w' => match e with | .normal => R a a' w' | _ => False) a w)
    (h2 : ∀ a' w', R a a' w' → Q .normal a' w') : c.wp P Q a w :=
  Code.wp_mono (fun e a' w' h => by
    cases e
    case normal => exact h2 a' w' h
    all_goals exact False.elim h) h1
section
variable {l : List Oper} {md : Region.Mode} {Q : Exit → Act → World → Prop} {S : World → Prop} {fuel : Nat} {listed : Array Bool} {a : Act} {w : World}
/-- an operation whose guard does not want it -/
theorem held_skip {o : Oper} (i : Nat) (ho : l[i]? = some o) (hB : takeB md l listed i = true) (hQ : ∀ c a w, Q (.panic c) (a.put o.dst undef) w → Q (.panic c) a w) (hw : Region.wanted o (yielded l.toArray a.tmps) = false)
    (hS : S w) (h : wpAnyH P md l.toArray Q S fuel (listed.setIfInBounds i true) (a.put o.dst undef) w) : wpAnyH P md l.toArray Q S (fuel + 1) listed a w := by
  simp only [takeB, Bool.and_eq_true] at hB
  exact wpAnyH_take (by simpa using ho) hB.1.1 hB.1.2 hB.2 hQ (.inr ⟨hw, rfl⟩) hS h
end
end Go.Agg
/-! Regions that draw their order, in which a maker takes texts. -/
namespace Go.Agg
open Go.RowKit
theorem exec_loadC {P : Program} {o : Oper} {a : Act} {w : World} {ty : TypeId} {x : Operand} {p v : Value} (ho : o.op = .load ty x) (hx : a.eval x = p) (hrun : (Instr.loadAt ty p).run P w = .ok v w) : (execOp a.eval o).run P w = .ok (.value v) w := by simp [execOp, ho, hx, hrun]
theorem exec_lenC {P : Program} {o : Oper} {a : Act} {w : World} {st : TypeId} {x : Operand} {v r : Value} (ho : o.op = .call { callee := .builtin .len, args := #[x], argTypes := #[st] }) (hx : a.eval x = v) (hrun : (Builtin.len_ #[st] o.type #[v]).run P w = .ok r w) : (execOp a.eval o).run P w = .ok (.value r) w := by
  simp [execOp, ho, resolve, invoke, builtin, hx, hrun]
theorem exec_build0C {P : Program} {o : Oper} {a : Act} {w : World} {ty : TypeId} {v : Value} (ho : o.op = .build ty #[]) (hrun : (Instr.build ty #[]).run P w = .ok v w) : (execOp a.eval o).run P w = .ok (.value v) w := by simp [execOp, ho, hrun]
theorem Blk.onlyC {w w' : World} {S : Nat → Prop} {g : Nat} {t : TypeId} {cs : Array Value} (h : Blk w g t cs) (ho : Only S w w') (hS : ¬ S g) : Blk w' g t cs := (ho.block g h.lt hS).trans h
end Go.Agg
namespace Go.Proofs.YtfiadgdinhmgbaaDoor
open Go.RowKit Pl Go.Agg
theorem mk_keeps {g b2 : Nat} {w w' : World} {v v' : Value} {cs : Array Value} {l : List UInt8} {t : TypeId} (hm : MkV g w v l) (hb : Blk w b2 t cs) (ht : t ≠ 5) (hs : MkStep g w w' v v') (hne : b2 ≠ g) : Blk w' b2 t cs :=
  hb.onlyC hs.only fun h => h.elim hne fun e => by
    obtain ⟨_, cur, hc⟩ := hm.own.block _ e
    unfold Blk at hb
    rw [hb] at hc
    injection hc with hc
    injection hc with _ h2
    exact ht h2
theorem newBytes_ownB {w w' : World} {v : Value} {s : List UInt8} (h : NewBytes w w' v s) : ∀ k, v.ownBlock = some k → w.heap.size ≤ k := by
  obtain ⟨cap, fr, rfl, _, _, _⟩ := h
  intro k hk
  obtain rfl : w.heap.size = k := by simpa [Value.ownBlock] using hk
  exact Nat.le_refl _
theorem bytes_svB {w : World} {v : Value} {l : List UInt8} (h : BytesAt w v l) : ∃ s : SV, v = s.1 := by
  obtain ⟨p, c, hf⟩ := h.form
  exact ⟨⟨v, p, _, c, hf⟩, rfl⟩
theorem step_toBytes {ops : Array Oper} {o : Oper} {a : Act} {w : World} {Q : Exit → Act → World → Prop} {K : Act → World → Prop} {F : Prop} (hg : o.guard = none) (x : Operand) (ho : o.op = .convert 9 23 x) (s : List UInt8) (hx : a.eval x = .string ⟨s.toArray⟩)
    (h : ∀ v' w', NewBytes w w' v' s → Below w.heap.size w w' → K (a.put o.dst v') w') : if Region.wanted o (yielded ops a.tmps) = true then o.wp Tryd.prog a w K Q else F := by
  obtain ⟨v', w', hr, h1, h2⟩ := run_toBytes w s
  exact step_val hg (v := v') (w' := w') (by simp [execOp, ho, hx, hr]) (h v' w' h1 h2)
theorem maker_build (w : World) : (Instr.build 113 #[]).run Tryd.prog w = .ok (.agg (mkC (.slice none 0 0))) w := by kernel_rfl
/-- the hash in a block, as bytes -/
theorem hash_slice {w : World} {b i : Nat} {t : TypeId} {cs : Array Value} {h : List UInt8} (hb : Blk w b t cs) (hl : h.length = 20) (hc : ∀ j v, (hC h)[j]? = some v → cs[i + j]? = some v) : SliceOf EB w (.slice (some ⟨b, i, none⟩) 20 20) h := by
  refine .inr ⟨_, 20, by rw [hl], hb.lt, fun j v hj => ?_⟩
  rw [add_plain, hb.cell]
  refine hc j v ?_
  rw [flat_bytes] at hj
  simpa [hC] using hj
end Go.Proofs.YtfiadgdinhmgbaaDoor
/-! Archives, as chapter 9 asks: what Pack and Open answer; a byte less, or more; an archive within another one. No program in sight. -/
namespace Go.Tr
open Go.Proofs.YtfiadgdinhmgbaaDoor Go.Agg
def zT : T := .mk 0 [] []
/-- pack.Pack: the error, the bytes -/
def pkE (t : T) : Nat := if right t then (if (packB t).length ≤ 4096 then 0 else 3) else 2
def pkB (t : T) : List UInt8 := if pkE t = 0 then packB t else []
/-- pack.Size -/
def pkN (t : T) : Nat := if right t then (packB t).length else 0
/-- pack.Open: the error, the tree -/
def opE (b : List UInt8) : Nat := if b.length ≤ 4096 then (if (openT b).isSome then 0 else 4) else 3
def opT (b : List UInt8) : T := if opE b = 0 then (openT b).getD zT else zT
theorem pkE_zero {t : T} : pkE t = 0 ↔ right t = true ∧ (packB t).length ≤ 4096 := by
  unfold pkE
  by_cases h : right t = true
  · rw [if_pos h]
    by_cases hl : (packB t).length ≤ 4096
    · rw [if_pos hl]; exact ⟨fun _ => ⟨h, hl⟩, fun _ => rfl⟩
    · rw [if_neg hl]; exact ⟨fun e => (by cases e), fun e => absurd e.2 hl⟩
  · rw [if_neg h]; exact ⟨fun e => (by cases e), fun e => absurd e.1 h⟩
theorem pkE_size {t : T} : decide (pkE t = 0) = (right t && decide (pkN t ≤ 4096)) := by
  rw [Bool.eq_iff_iff, decide_eq_true_iff, pkE_zero, Bool.and_eq_true, decide_eq_true_iff]
  constructor
  · rintro ⟨h, hl⟩; exact ⟨h, by rw [pkN, if_pos h]; exact hl⟩
  · rintro ⟨h, hl⟩; exact ⟨h, by rw [pkN, if_pos h] at hl; exact hl⟩
theorem opE_zero {b : List UInt8} (h : opE b = 0) : b.length ≤ 4096 ∧ openT b = some (opT b) := by
  have h0 := h
  unfold opE at h
  split at h
  · next hl =>
    split at h
    · next hs =>
      obtain ⟨t, ht⟩ := Option.isSome_iff_exists.1 hs
      refine ⟨hl, ?_⟩
      rw [opT, if_pos h0, ht]; rfl
    · cases h
  · cases h
theorem opE_of {b : List UInt8} {t : T} (hl : b.length ≤ 4096) (h : openT b = some t) : opE b = 0 ∧ opT b = t := by
  have e : opE b = 0 := by simp [opE, hl, h]
  exact ⟨e, by rw [opT, if_pos e, h]; rfl⟩
theorem opT_not {b : List UInt8} (h : opE b ≠ 0) : opT b = zT := by rw [opT, if_neg h]
theorem open_pack {t : T} (h : right t = true) : openT (packB t) = some t := (openT_iff _ _).2 ⟨h, rfl⟩
/-- with more behind: none -/
theorem open_more {t : T} {y : List UInt8} (h : right t = true) (hy : y ≠ []) : openT (packB t ++ y) = none := by
  have hr' := h
  simp only [right, lookB, Bool.and_eq_true, decide_eq_true_eq] at hr'
  have := opn_put 9 t 1 200 y hr'.1.1 (by omega) (by omega) (by omega)
  unfold openT
  rw [this]
  cases y with
  | nil => exact absurd rfl hy
  | cons c y => rfl
theorem encN_ne (n : Nat) : encN n ≠ [] := by
  unfold encN
  split <;> simp
theorem packB_ne (t : T) : packB t ≠ [] := by
  obtain ⟨k, b, l⟩ := t
  unfold packB
  split
  · intro h; exact encN_ne _ (List.append_eq_nil_iff.1 h).1
  · intro h; exact encN_ne _ (List.append_eq_nil_iff.1 h).1
/-- with a byte less: none -/
theorem open_less {t : T} (h : right t = true) : openT ((packB t).take ((packB t).length - 1)) = none := by
  have hd : (packB t).take ((packB t).length - 1) ++ [(packB t).getLast (packB_ne t)] = packB t := by
    rw [← List.dropLast_eq_take]; exact List.dropLast_concat_getLast _
  cases ho : openT ((packB t).take ((packB t).length - 1)) with
  | none => rfl
  | some u =>
    obtain ⟨h1, h2⟩ := (openT_iff _ _).1 ho
    have := open_more h1 (y := [(packB t).getLast (packB_ne t)]) (by simp)
    rw [h2, hd, open_pack h] at this
    cases this
/-- PackBack: a tree's archive -/
theorem back_pack {t u : T} (h : pkE t = 0) : opE (pkB t) = 0 ∧ opT (pkB t) = t ∧ (pkB t).length = pkN t ∧ opE ((pkB t).take ((pkB t).length - 1)) = 4 ∧ (∀ c, opE (pkB t ++ [c]) ≠ 0) ∧ (pkE u = 0 → (decide (pkB t = pkB u) = same t u)) := by
  obtain ⟨hr, hl⟩ := pkE_zero.1 h
  have e : pkB t = packB t := by rw [pkB, if_pos h]
  rw [e]
  obtain ⟨g1, g2⟩ := opE_of hl (open_pack hr)
  refine ⟨g1, g2, by rw [pkN, if_pos hr], ?_, fun c hc => ?_, fun hu => ?_⟩
  · rw [opE, if_pos (by rw [List.length_take]; omega), open_less hr]; rfl
  · have := (opE_zero hc).2
    rw [open_more hr (by simp)] at this
    cases this
  · obtain ⟨ur, ul⟩ := pkE_zero.1 hu
    rw [pkB, if_pos hu, Bool.eq_iff_iff, decide_eq_true_iff, same_iff]
    exact ⟨fun e => packB_inj hr ur e, fun e => by rw [e]⟩
/-- PackBack: bytes that are opened -/
theorem back_open {b : List UInt8} (h : opE b = 0) : pkE (opT b) = 0 ∧ right (opT b) = true ∧ pkB (opT b) = b := by
  obtain ⟨hl, ho⟩ := opE_zero h
  obtain ⟨h1, h2⟩ := (openT_iff _ _).1 ho
  have e : pkE (opT b) = 0 := pkE_zero.2 ⟨h1, by rw [h2]; exact hl⟩
  exact ⟨e, h1, by rw [pkB, if_pos e, h2]⟩
theorem packL_in : ∀ {l : List K} {x : K}, x ∈ l → packB x.2 <:+: packL l
  | y :: l, x, h => by
    rw [packL]
    rcases List.mem_cons.1 h with rfl | h
    · exact ⟨encT x.1, packL l, by simp⟩
    · obtain ⟨a, c, e⟩ := packL_in h
      exact ⟨encT y.1 ++ (packB y.2 ++ a), c, by rw [← e]; simp⟩
theorem place_kid {l : List K} {n : List UInt8} {x : T} (h : place l n = some x) : ∃ k ∈ l, k.2 = x := by
  simp only [place, Option.map_eq_some_iff] at h
  obtain ⟨k, hk, e⟩ := h
  exact ⟨k, List.mem_of_find?_eq_some hk, e⟩
/-- PackParts: an archive within that of the tree -/
theorem pack_within : ∀ (ns : List (List UInt8)) (t x : T), ok t = true → find t ns = some x → packB x <:+: packB t
  | [], t, x, _, h => by
    simp only [find] at h
    cases h
    exact List.infix_refl _
  | n :: ns, .mk k b l, x, hok, h => by
    simp only [find] at h
    split at h
    · cases h
    · next y hy =>
      obtain ⟨q, hq, e⟩ := place_kid hy
      have hk := kids_ok hok
      have hoy : ok y = true := e ▸ okL_mem hk hq
      have ih := pack_within ns y x hoy h
      have ha : alone (.mk k b l) = true := by simp only [ok, Bool.and_eq_true] at hok; exact hok.1
      rw [show (T.mk k b l).kids = l from rfl] at hq
      rcases alone_cases ha with ⟨rfl, rfl, _, _⟩ | ⟨_, _, _, _, rfl⟩
      · have h2 := packL_in hq
        rw [e] at h2
        refine ih.trans (h2.trans ?_)
        rw [packB, if_pos rfl]
        exact ⟨encN 4 ++ encN l.length, [], by simp⟩
      · cases hq
/-- PackParts: what is found is opened from its own archive, which stands within -/
theorem parts {b : List UInt8} {ns : List (List UInt8)} {x : T} (h : opE b = 0) (hf : find (opT b) ns = some x) : opE (packB x) = 0 ∧ opT (packB x) = x ∧ packB x <:+: b := by
  obtain ⟨hl, ho⟩ := opE_zero h
  obtain ⟨h1, h2⟩ := (openT_iff _ _).1 ho
  have hok : ok (opT b) = true := by
    have h1' := h1
    simp only [right, lookB, Bool.and_eq_true] at h1'
    exact h1'.1.1
  have hin := pack_within ns _ _ hok hf
  rw [h2] at hin
  have hlen := hin.length_le
  obtain ⟨g1, g2⟩ := opE_of (b := packB x) (by omega) (open_pack (find_right h1 hf))
  exact ⟨g1, g2, hin⟩
end Go.Tr
/-! How long an archive is at most (chapter 9). No program in sight. -/
namespace Go.Tr
open Go.Proofs.YtfiadgdinhmgbaaDoor Go.Agg
theorem isName_len {n : List UInt8} (h : Pl.isName n = true) : n.length ≤ 24 := name_le h
mutual
theorem packB_len : ∀ (t : T), ok t = true → (packB t).length + 40 ≤ 2150 * count t
  | .mk k b l, h => by
    have ha : alone (.mk k b l) = true := by simp only [ok, Bool.and_eq_true] at h; exact h.1
    have hk := kids_ok h
    rw [show (T.mk k b l).kids = l from rfl] at hk
    rcases alone_cases ha with ⟨rfl, rfl, h200, hnm⟩ | ⟨h4, h1, h3, h2048, rfl⟩
    · have ih := packL_len l none hk hnm
      have e1 := encN_len (n := 4) (by omega)
      have e2 := encN_len (n := l.length) (by omega)
      simp only [packB, if_true, List.length_append, count]
      omega
    · have e1 := encN_len (n := k.toNat) (by omega)
      have e2 := encN_len (n := b.length) (by omega)
      simp only [packB, if_neg h4, encT, List.length_append, count, countL]
      omega
theorem packL_len : ∀ (l : List K) (b : Option (List UInt8)), okL l = true → named b l = true → (packL l).length ≤ 2150 * countL l
  | [], _, _, _ => by simp [packL]
  | (n, t) :: l, b, h, hn => by
    simp only [okL, Bool.and_eq_true] at h
    simp only [named, Bool.and_eq_true] at hn
    have h1 := packB_len t h.1
    have h2 := packL_len l (some n) h.2 hn.2
    have h3 := name_le hn.1.1
    have e1 := encN_len (n := n.length) (by omega)
    simp only [packL, encT, List.length_append, countL]
    omega
end
theorem right_pack {t : T} (h : right t = true) : (packB t).length ≤ 430000 := by
  simp only [right, lookB, Bool.and_eq_true, decide_eq_true_eq] at h
  have := packB_len t h.1.1
  omega
/-- what was put of the kids, so many of them -/
theorem packL_take {l : List K} {k : Nat} {x : K} (h : l[k]? = some x) : packL (l.take (k + 1)) = packL (l.take k) ++ (encT x.1 ++ packB x.2) := by
  rw [take_succ' h]
  generalize l.take k = m
  induction m with
  | nil => obtain ⟨n, t⟩ := x; simp [packL]
  | cons y m ih => obtain ⟨n, t⟩ := y; simp only [List.cons_append, packL, ih, List.append_assoc]
end Go.Tr
