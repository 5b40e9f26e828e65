/- Slices of paths: what they hold. -/
import Derived.Test.YtfgjepfmcmppaaaRising
import Derived.Test.YtfgjepfmcmppaaaElem
namespace Go.Proofs.Ytfgjepfmcmppaaa
open Go.RowKit Pl Go.Agg
def cells20 (p : P20) : List Value := (pC p.1.1 p.1.2).toList
theorem cells20_length (p : P20) : (cells20 p).length = 21 := by simp [cells20, pC_size, p.2]
def flat (l : List P20) : List Value := l.flatMap cells20
theorem flat_length (l : List P20) : (flat l).length = l.length * 21 := by
  induction l with
  | nil => rfl
  | cons p l ih => simp only [flat, List.flatMap_cons, List.length_append, cells20_length, List.length_cons] at ih ⊢; omega
theorem flat_append (a b : List P20) : flat (a ++ b) = flat a ++ flat b := by simp [flat]
theorem flat_get : ∀ (l : List P20) (j : Nat) (p : P20) (i : Nat) (v : Value), l[j]? = some p → (pC p.1.1 p.1.2)[i]? = some v → (flat l)[j * 21 + i]? = some v
  | [], j, p, i, v, h, _ => by simp at h
  | q :: l, 0, p, i, v, h, hv => by
    obtain rfl : q = p := by simpa using h
    have hlt : i < (cells20 q).length := by rw [cells20_length]; have := (Array.getElem?_eq_some_iff.1 hv).1; rw [pC_size, q.2] at this; omega
    rw [flat, List.flatMap_cons, Nat.zero_mul, Nat.zero_add, List.getElem?_append_left hlt]
    simpa [cells20] using hv
  | q :: l, j + 1, p, i, v, h, hv => by
    have ih := flat_get l j p i v (by simpa using h) hv
    rw [flat, List.flatMap_cons, List.getElem?_append_right (by rw [cells20_length]; omega), cells20_length, show (j + 1) * 21 + i - 21 = j * 21 + i by omega]
    exact ih
theorem info_path : ∃ i, Try.prog.info? 40 = some i ∧ i.zero = some (.agg (pC z20 [])) ∧ i.size = 21 ∧ i.bytes = 40 := by
  have hz := pC_zero
  have hs : (Try.prog.info? 40).map (·.size) = some 21 := by kernel_rfl
  have hb : (Try.prog.info? 40).map (·.bytes) = some 40 := by kernel_rfl
  cases hi : Try.prog.info? 40 with
  | none => rw [hi] at hz; cases hz
  | some i =>
    rw [hi] at hz hs hb
    exact ⟨i, rfl, Option.some.inj hz, Option.some.inj hs, Option.some.inj hb⟩
theorem cells20_one (p : P20) (v : Value) (hv : v ∈ cells20 p) : v.oneCell' = true := by
  have h := pC_one p.1.1 p.1.2
  rw [Array.all_eq_true_iff_forall_mem] at h
  exact h v (by simpa [cells20] using hv)
/-- paths as elements -/
def E20 : Elem Try.prog P20 where
  ty := 40
  st := 54
  n := 21
  bytes := 40
  val := pV
  zero := .agg (pC z20 [])
  pos := by omega
  small := by omega
  size := fun p => by simp [pV, Value.cells, pC_size, p.2]
  one := fun p v hv => cells20_one p v hv
  zsize := by simp [Value.cells, pC_size, z20_length]
  slice := by kernel_rfl
  info := info_path
  load := fun w a p hp h => LoadsL.of_cells hp h pC_under rfl (pC_info _ _ p.2)
/-- a slice of these paths -/
abbrev ElemsAt (w : World) (v : Value) (l : List P20) : Prop := SliceOf E20 w v l
theorem flat20 (l : List P20) : E20.flat l = flat l := rfl
/-- the length of such a slice -/
theorem elems_len {w : World} {v : Value} {l : List P20} (h : ElemsAt w v l) (W : World) : (Builtin.len_ #[54] 3 #[v]).run Try.prog W = .ok (.int .i64 (l.length : Int)) W := h.len W
theorem elem_at {w : World} {v : Value} {l : List P20} (h : ElemsAt w v l) (k : Nat) (x : P20) (hx : l[k]? = some x) :
    ∃ p : Addr, (∀ W, (Instr.indexAt 54 v (.int .i64 (k : Int))).run Try.prog W = .ok (.pointer (some p)) W) ∧ LoadsL Try.prog w 40 (some p) (.agg (pC x.1.1 x.1.2)) ∧ LoadsL Try.prog w 9 (some (p.add 20)) (.string ⟨x.1.2.toArray⟩) := by
  obtain ⟨p, h1, h2, h3, h4⟩ := h.at_ k x hx
  exact ⟨p, h1, h4, LoadsL.of_cell (h3 20 _ (pC_name _ _ x.2)) Try.underlying9 rfl⟩
end Go.Proofs.Ytfgjepfmcmppaaa
