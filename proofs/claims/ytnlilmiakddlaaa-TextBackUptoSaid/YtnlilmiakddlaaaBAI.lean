/- Maps that a call makes: a look-up that does not ask whether it is there; what a new key leaves. -/
import Derived.Test.YtnlilmiakddlaaaBAD
namespace Go.Mp
open Go.RowKit Go.Instr
section
variable {P : Program} {α β : Type} [DecidableEq α]
/-- what a look-up yields -/
def mval {β : Type} (ν : β → Value) (z : Value) : Option β → Value | some v => ν v | none => z
/-- 'v := m[k]' -/
theorem run_lookup0 {t K E : TypeId} {w : World} {b : Nat} {κ : α → Value} {ν : β → Value} {m : List (α × β)} {z : Value} (ht : P.underlying t = some (.map K E)) (hK : KeyEq P K κ) (hz : ∀ w, (zeroValue E).run P w = .ok z w)
    (h : MapIs w b κ ν m) (a : α) :
    (lookup t (.map (some b)) (κ a) false).run P w = .ok (mval ν z (mget m a)) w := by
  obtain ⟨es, c, hb, he⟩ := h
  unfold lookup
  rw [Sem.run_bind, run_underlying ht w]
  simp only [Result.andThen, Sem.run_bind, getObj, Sem.run, hb, Sem.run_pure, hK.check, findKey_eq hK a m es.toList w he]
  have hg := place_get m a 0
  cases hp : place m a 0 with
  | none =>
    rw [hp] at hg
    simp [← hg, hz, mval]
  | some x =>
    rw [hp] at hg
    simp [← hg, mval]
theorem mput_new' (m : List (α × β)) (x : α) (v : β) (h : mget m x = none) : mput m x v = m ++ [(x, v)] := by
  induction m with
  | nil => rfl
  | cons p r ih =>
    by_cases e : x = p.1
    · simp [mget, e] at h
    · have h' : mget r x = none := by simpa [mget, e] using h
      simp [mput, e, ih h']
theorem mget_none (m : List (α × β)) (x : α) (h : ¬ x ∈ m.map (·.1)) : mget m x = none := by
  unfold mget
  rw [List.find?_eq_none.2]
  · rfl
  · intro y hy
    simp only [decide_eq_true_eq]
    rintro rfl
    exact h (List.mem_map.2 ⟨y, hy, rfl⟩)
theorem mget_some (m : List (α × β)) (x : α) (v : β) (h : x ∈ m.map (·.1)) (hv : ∀ p ∈ m, p.2 = v) : mget m x = some v := by
  unfold mget
  cases hf : m.find? (fun p => decide (x = p.1)) with
  | some y => simp only [Option.map_some]; rw [hv y (List.mem_of_find?_eq_some hf)]
  | none =>
    rw [List.find?_eq_none] at hf
    obtain ⟨y, hy, rfl⟩ := List.mem_map.1 h
    exact absurd (hf y hy) (by simp)
variable {ops : Array Oper} {rest : List Oper} {o : Oper} {a : Act} {w : World} {Q : Exit → Act → World → Prop}
theorem wpList_lookup0 (hg : o.guard = none) (mo xo : Operand) (t K E : TypeId) (hop : o.op = Op.lookup t mo xo false) (ht : P.underlying t = some (.map K E)) {κ : α → Value} {ν : β → Value} {z : Value}
    (hK : KeyEq P K κ) (hz : ∀ w, (zeroValue E).run P w = .ok z w) {b : Nat} {m : List (α × β)} (hm : a.eval mo = .map (some b)) (h : MapIs w b κ ν m) (x : α) (hx : a.eval xo = κ x) (r : Value) (hr : mval ν z (mget m x) = r)
    (hk : wpList P ops Q rest (a.put o.dst r) w) : wpList P ops Q (o :: rest) a w := by
  refine wpList_plain hg fun K' hK' => ?_
  unfold Oper.wp
  simp [execOp, hop, hm, hx, run_lookup0 ht hK hz h x, Result.andThen, hr]
  exact hK' _ _ hk
omit [DecidableEq α] in
/-- 'make(map[K]V)', 'map[K]V{}' -/
theorem wpList_makeMap (κ : α → Value) (ν : β → Value) (hg : o.guard = none) (t : TypeId) (hop : o.op = Op.makeMap t none)
    (h : ∀ g w', MapIs w' g κ ν [] → Below w.heap.size w w' → w.heap.size ≤ g → wpList P ops Q rest (a.put o.dst (.map (some g))) w') : wpList P ops Q (o :: rest) a w := by
  refine wpList_plain hg fun K' hK' => ?_
  unfold Oper.wp
  simp [execOp, hop, run_makeMap, Result.andThen]
  exact hK' _ _ (h _ _ (MapIs.empty w κ ν) ((Below.refl _ _).alloc (Nat.le_refl _) _) (Nat.le_refl _))
end
end Go.Mp
