/- text.read: what holds between two lines. -/
import Derived.Test.YtnlilmiakddlaaaBAR
namespace Go.Proofs.Ytnlilmiakddlaaa
open Go.RowKit Pl Go.Agg
theorem tgFold_app : ∀ (a b : List Lin) (st : TgS), tgFold (a ++ b) st = (tgFold a st).bind (tgFold b)
  | [], b, st => rfl
  | x :: a, b, st => by
    simp only [List.cons_append, tgFold]
    cases tgStep st x.1 x.2 with
    | none => rfl
    | some s => simp only [Option.bind_some]; exact tgFold_app a b s
theorem lns_len : ∀ (n : Nat) {s : List UInt8}, s.length ≤ n → (lns s).1.length ≤ s.length ∧ ∀ x ∈ (lns s).1, x.1.length ≤ s.length ∧ x.2.length ≤ s.length := by
  intro n
  induction n with
  | zero =>
    intro s hn
    have : s = [] := List.length_eq_zero_iff.1 (by omega)
    subst this
    rw [lns_nil]; simp
  | succ n ih =>
    intro s hn
    by_cases hs : s = []
    · subst hs; rw [lns_nil]; simp
    · cases hc : (cut1 10 s).2.2 with
      | false => rw [lns_open hs hc]; simp
      | true =>
        have hl := cut1_less 10 s hc
        cases hw : (cut1 32 (cut1 10 s).1).2.2 with
        | false => rw [lns_word hs hc hw]; simp
        | true =>
          rw [lns_line hs hc hw]
          obtain ⟨h1, h2⟩ := ih (s := (cut1 10 s).2.1) (by omega)
          have h3 := cut1_len 32 (cut1 10 s).1
          have h4 := cut1_len 10 s
          refine ⟨by simp only [List.length_cons]; omega, fun x hx => ?_⟩
          rcases List.mem_cons.1 hx with rfl | hx
          · have h5 := congrArg List.length (cut1_yes 32 _ hw).1
            simp only [List.length_append, List.length_cons] at h5
            exact ⟨by show ((cut1 32 (cut1 10 s).1).1).length ≤ _; omega, by show ((cut1 32 (cut1 10 s).1).2.1).length ≤ _; omega⟩
          · have := h2 x hx
            omega
/-- a line that is none leaves no derivation -/
theorem tgRead_none {s : List UInt8} {pre ys : List Lin} {x : Lin} {b : Bool} {st : TgS} (h : lns s = (pre ++ x :: ys, b)) (hf : tgFold pre tg0 = some st) (hx : tgStep st x.1 x.2 = none) : tgRead s tg0 = none := by
  rw [tgRead_lns _ (Nat.le_refl _), h]
  have e : tgFold (pre ++ x :: ys) tg0 = none := by rw [tgFold_app, hf]; simp [tgFold, hx]
  simp only [e]
  cases b <;> rfl
structure RdI (B g2 g3 g4 gs : Nat) (pre : List Lin) (W : World) (st : TgS) : Prop where
  fold : tgFold pre tg0 = some st
  ok : TgOk st
  len : st.d.2.1.length ≤ pre.length
  rd : RdV B g3 W st.d st.ended
  first : Blk W g4 4 #[.bool st.first]
  box : ∃ v, Blk W gs 9 #[v]
  res : Blk W g2 25 #[.string ⟨#[]⟩, .slice none 0 0, .slice none 0 0]
  ne : g3 ≠ g4 ∧ g3 ≠ gs ∧ g4 ≠ gs ∧ g2 ≠ g3 ∧ g2 ≠ g4 ∧ g2 ≠ gs ∧ B ≤ g2 ∧ B ≤ g4 ∧ B ≤ gs
  size : B ≤ W.heap.size
theorem RdI.cells {B g2 g3 g4 gs : Nat} {pre : List Lin} {A C : World} {st : TgS} (h : RdI B g2 g3 g4 gs pre A st) (hs : A.heap.size ≤ C.heap.size) (hc : ∀ (k : Nat) (o : Obj), A.heap[k]? = some o → o.isCells = true → C.heap[k]? = A.heap[k]?) : RdI B g2 g3 g4 gs pre C st := by
  obtain ⟨hg, vi, vr, h1, h2, h3⟩ := h.rd
  obtain ⟨v, hv⟩ := h.box
  exact ⟨h.fold, h.ok, h.len, ⟨hg, vi, vr, (hc _ _ h1 rfl).trans h1, h2.keep fun k cur t fr _ hk => (hc k _ hk rfl).trans hk, h3.keep fun k cur t fr _ hk => (hc k _ hk rfl).trans hk⟩, (hc _ _ h.first rfl).trans h.first, ⟨v, (hc _ _ hv rfl).trans hv⟩, (hc _ _ h.res rfl).trans h.res, h.ne, Nat.le_trans h.size hs⟩
theorem RdI.below {B g2 g3 g4 gs : Nat} {pre : List Lin} {A C : World} {st : TgS} (h : RdI B g2 g3 g4 gs pre A st) (hb : Below A.heap.size A C) : RdI B g2 g3 g4 gs pre C st :=
  h.cells hb.size fun k _ hk _ => hb.block k (heap_lt hk)
/-- the box of the lines is written -/
theorem RdI.set {B g2 g3 g4 gs : Nat} {pre : List Lin} {A : World} {st : TgS} (h : RdI B g2 g3 g4 gs pre A st) (v : Value) : RdI B g2 g3 g4 gs pre (A.setCell ⟨gs, 0, none⟩ v) st := by
  obtain ⟨hg, vi, vr, h1, h2, h3⟩ := h.rd
  obtain ⟨u, hu⟩ := h.box
  have hk : ∀ (k : Nat) (o : Obj), k ≠ gs → A.heap[k]? = some o → (A.setCell ⟨gs, 0, none⟩ v).heap[k]? = some o := fun k o hne hk => (Below.heap_setCell _ _ _ _ hne).trans hk
  have ht : ∀ (k : Nat) (cur : Array Value) (t : TypeId) (fr : Nat × Nat), t ≠ 9 → A.heap[k]? = some (.cells cur t fr) → (A.setCell ⟨gs, 0, none⟩ v).heap[k]? = some (.cells cur t fr) := fun k cur t fr hne hq => hk k _ (fun e => by
    subst e
    rw [show A.heap[k]? = _ from hu] at hq
    injection hq with hq
    injection hq with _ h2
    exact hne h2.symm) hq
  obtain ⟨n1, n2, n3, n4, n5, n6, n7, n8, n9⟩ := h.ne
  exact ⟨h.fold, h.ok, h.len, ⟨hg, vi, vr, hk _ _ n2 h1, h2.typed fun k cur fr => ht k cur _ fr (show 44 ≠ 9 by decide), h3.typed fun k cur fr => ht k cur _ fr (show 5 ≠ 9 by decide)⟩, hk _ _ n3 h.first, ⟨v, Agg.Blk.set hu 0 v⟩, hk _ _ n6 h.res, h.ne, by rw [show (A.setCell ⟨gs, 0, none⟩ v).heap.size = A.heap.size from by simp [World.setCell]]; exact h.size⟩
/-- what a step of the reader leaves -/
theorem RdI.step {B g2 g3 g4 gs : Nat} {pre : List Lin} {A C : World} {st st' : TgS} {x : Lin} (h : RdI B g2 g3 g4 gs pre A st) (hr : RSt g3 A C) (hx : tgStep st x.1 x.2 = some st') (hl : st'.d.2.1.length ≤ st.d.2.1.length + 1) (hf : st'.first = st.first) (hv : RdV B g3 C st'.d st'.ended) : RdI B g2 g3 g4 gs (pre ++ [x]) C st' := by
  obtain ⟨v, hb⟩ := h.box
  obtain ⟨n1, n2, n3, n4, n5, n6, n7, n8, n9⟩ := h.ne
  refine ⟨by rw [tgFold_snoc, h.fold, Option.bind_some, hx], (tgStep_text h.ok hx).1, by have := h.len; simp; omega, hv, ?_, ⟨v, hr.cells _ _ _ _ (show 9 ≠ 44 by decide) (show 9 ≠ 5 by decide) (fun e => n2 e.symm) hb⟩, hr.cells _ _ _ _ (show 25 ≠ 44 by decide) (show 25 ≠ 5 by decide) n4 h.res, h.ne, Nat.le_trans h.size hr.size⟩
  rw [hf]
  exact hr.cells _ _ _ _ (show 4 ≠ 44 by decide) (show 4 ≠ 5 by decide) (fun e => n1 e.symm) h.first
theorem tgStep_shape {d : Drv} {w rest : List UInt8} {st' : TgS} (h : tgStep ⟨d, false, false⟩ w rest = some st') : st'.first = false ∧ st'.d.2.1.length ≤ d.2.1.length + 1 := by
  unfold tgStep at h
  simp only [Bool.false_eq_true, if_false] at h
  split at h
  · split at h
    · cases h; simp
    · cases h
  · split at h
    · split at h
      · cases h; simp
      · cases h
    · split at h
      · simp only [Option.map_eq_some_iff] at h
        obtain ⟨r, _, rfl⟩ := h
        simp
      · cases h
theorem below_putObjT {B D : Nat} {A : World} (h : B ≤ D) (o : Obj) : Below B A (A.putObj D o) := ⟨rfl, rfl, rfl, by simp, fun k hk => World.putObj_heap_other (by omega)⟩
/-- the first line: the name -/
theorem RdI.name {B g2 g3 g4 gs : Nat} {pre : List Lin} {A : World} {st st' : TgS} {x : Lin} (h : RdI B g2 g3 g4 gs pre A st) (hx : tgStep st x.1 x.2 = some st') (he : st' = ⟨(x.2, st.d.2.1, st.d.2.2), st.ended, false⟩) :
    RdI B g2 g3 g4 gs (pre ++ [x]) ((A.setCell ⟨g3, 0, none⟩ (.string ⟨x.2.toArray⟩)).setCell ⟨g4, 0, none⟩ (.bool false)) st' := by
  obtain ⟨hg, vi, vr, h1, h2, h3⟩ := h.rd
  obtain ⟨u, hu⟩ := h.box
  obtain ⟨n1, n2, n3, n4, n5, n6, n7, n8, n9⟩ := h.ne
  have hk : ∀ (k : Nat) (o : Obj), k ≠ g3 → k ≠ g4 → A.heap[k]? = some o → ((A.setCell ⟨g3, 0, none⟩ (.string ⟨x.2.toArray⟩)).setCell ⟨g4, 0, none⟩ (.bool false)).heap[k]? = some o := fun k o e1 e2 hk => (Below.heap_setCell _ _ _ _ e2).trans ((Below.heap_setCell _ _ _ _ e1).trans hk)
  have ht : ∀ (k : Nat) (cur : Array Value) (t : TypeId) (fr : Nat × Nat), t ≠ 71 → t ≠ 4 → A.heap[k]? = some (.cells cur t fr) → ((A.setCell ⟨g3, 0, none⟩ (.string ⟨x.2.toArray⟩)).setCell ⟨g4, 0, none⟩ (.bool false)).heap[k]? = some (.cells cur t fr) := fun k cur t fr hn1 hn2 hq => hk k _ (fun e => by
    subst e
    rw [show A.heap[k]? = _ from h1] at hq
    injection hq with hq
    injection hq with _ h2
    exact hn1 h2.symm) (fun e => by
    subst e
    rw [show A.heap[k]? = _ from h.first] at hq
    injection hq with hq
    injection hq with _ h2
    exact hn2 h2.symm) hq
  have hb3 : Blk ((A.setCell ⟨g3, 0, none⟩ (.string ⟨x.2.toArray⟩)).setCell ⟨g4, 0, none⟩ (.bool false)) g3 71 (rdC x.2 vi vr st.ended) := (Below.heap_setCell _ _ _ _ n1).trans (Agg.Blk.set h1 0 (.string ⟨x.2.toArray⟩))
  have hf1 : Blk (A.setCell ⟨g3, 0, none⟩ (.string ⟨x.2.toArray⟩)) g4 4 #[.bool st.first] := (Below.heap_setCell _ _ _ _ (fun e => n1 e.symm)).trans h.first
  have hf2 := Agg.Blk.set hf1 0 (.bool false)
  have hok := (tgStep_text h.ok hx).1
  have hfo : tgFold (pre ++ [x]) tg0 = some st' := by rw [tgFold_snoc, h.fold, Option.bind_some, hx]
  subst he
  refine ⟨hfo, hok, by have := h.len; simp; omega, ⟨hg, vi, vr, hb3, h2.typed fun k cur fr => ht k cur _ fr (show 44 ≠ 71 by decide) (show 44 ≠ 4 by decide), h3.typed fun k cur fr => ht k cur _ fr (show 5 ≠ 71 by decide) (show 5 ≠ 4 by decide)⟩, hf2, ⟨u, hk _ _ (fun e => n2 e.symm) (fun e => n3 e.symm) hu⟩, hk _ _ n4 n5 h.res, h.ne, ?_⟩
  have := h.size
  simpa [World.setCell] using this
theorem keeps_of {g B : Nat} {A C : World} (h : RSt g A C) : KeepsFrom B A C := ⟨h.size, fun k o _ hk hc => h.other k o hk hc⟩
theorem kpL_of {B g2 g3 g4 gs : Nat} {pre : List Lin} {A C : World} {st : TgS} (h : RdI B g2 g3 g4 gs pre A st) (hr : RSt g3 A C) (hb : Below B A C) (hm : 0 < B) : KpL gs A C := by
  obtain ⟨v, hv⟩ := h.box
  obtain ⟨n1, n2, n3, n4, n5, n6, n7, n8, n9⟩ := h.ne
  exact ⟨(hr.cells _ _ _ _ (show 9 ≠ 44 by decide) (show 9 ≠ 5 by decide) (fun e => n2 e.symm) hv).trans (show A.heap[gs]? = _ from hv).symm, hb.block _ hm⟩
end Go.Proofs.Ytnlilmiakddlaaa
