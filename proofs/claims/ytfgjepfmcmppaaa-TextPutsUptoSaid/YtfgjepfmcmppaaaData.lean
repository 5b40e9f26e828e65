/- A path and a text as arguments: read, and laid again. -/
import Derived.Test.YtfgjepfmcmppaaaRow
import Derived.Test.YtfgjepfmcmppaaaEqual
namespace Go.Proofs.Ytfgjepfmcmppaaa
open Go.RowKit Go.Agg Go.ChangeMaps Go.ChangeShapes Go.WideShapes
section
variable {H : Type} {enc : TypeId × Value → H} {w : World} {base : Nat} {sp : Nat → Bool} {held : Bool}
def hashData {H : Type} (h : List UInt8) : DataW H := .agg (byteData h)
def pathData {H : Type} (h n : List UInt8) : DataW H := .agg [hashData h, .lit (.string n)]
theorem pC_take (h n : List UInt8) (hl : h.length = 20) : ((pC h n).toList.drop 0).take 20 = Lib.byteCells h := by
  rw [List.drop_zero, pC, hC]
  simp only [Array.toList_append]
  exact List.take_left' (by rw [Lib.byteCells_length, hl])
theorem pC_drop (h n : List UInt8) (hl : h.length = 20) : ((pC h n).toList.drop 20).take 1 = [.string ⟨n.toArray⟩] := by
  rw [pC, hC]
  simp only [Array.toList_append]
  rw [List.drop_left' (by rw [Lib.byteCells_length, hl])]
  rfl
theorem cells_hash : Try.prog.cellsOf 38 = 20 := by kernel_rfl
theorem cells_byte : Try.prog.cellsOf 5 = 1 := by kernel_rfl
theorem cells_str : Try.prog.cellsOf 9 = 1 := by kernel_rfl
theorem cells_path : Try.prog.cellsOf 40 = 21 := by kernel_rfl
theorem open_path_cells {fuel : Nat} {cs : List Value} {x : DataW H × List MemPlace} (h : DataW.trod enc Try.prog w base sp held fuel 40 cs = some x) :
    ∃ h n : List UInt8, h.length = 20 ∧ n.length ≤ maxLen ∧ cs = (pC h n).toList ∧ x = (pathData h n, []) := by
  obtain ⟨xs, m, rfl, rfl, hl, hx, ha⟩ := DataW.trod_struct pC_under h
  have hf := path_fields
  generalize Try.prog.fieldsOf 40 = fs at *
  obtain ⟨fs⟩ := fs
  cases fs with
  | nil => exact absurd hf (by simp)
  | cons f1 fs =>
  cases fs with
  | nil => exact absurd hf (by simp)
  | cons f2 fs =>
  cases fs with
  | cons f3 fs => exact absurd hf (by simp)
  | nil =>
    simp only [List.map_cons, List.map_nil, List.cons.injEq, Prod.mk.injEq, and_true] at hf
    obtain ⟨⟨a1, a2, a3⟩, b1, b2, b3⟩ := hf
    match xs, hx with
    | [x1, x2], _ =>
      have h1 := ha 0 f1 rfl
      have h2 := ha 1 f2 rfl
      rw [a2, a3, cells_hash] at h1
      rw [b2, b3, cells_str] at h2
      obtain ⟨l, e1, e2, e3⟩ := open_bytes Try.underlying38 Try.underlying5 cells_byte cells_hash h1
      obtain ⟨s, e4, e5, e6⟩ := DataW.trod_string Try.underlying9 h2
      rw [cells_path] at hl
      refine ⟨l, s.data.toList, e1, e6, ?_, ?_⟩
      · have : cs = (cs.drop 0).take 20 ++ (cs.drop 20).take 1 := by
          rw [List.drop_zero, List.take_of_length_le (l := cs.drop 20) (by simp; omega), List.take_append_drop]
        rw [this, e2, e4]
        simp [pC, hC]
      · rw [e3, e5]; rfl
theorem shut_path_cells (h n : List UInt8) (hl : h.length = 20) (hn : n.length ≤ maxLen) : DataW.trod enc Try.prog w base sp held 3 40 (pC h n).toList = some (pathData h n, []) := by
  have hm : (Try.prog.fieldsOf 40).toList.mapM (fun f => DataW.trod enc Try.prog w base sp held 2 f.type (((pC h n).toList.drop f.offset).take (Try.prog.cellsOf f.type))) = some [(hashData h, []), (.lit (.string n), [])] := by
    have hf := path_fields
    generalize Try.prog.fieldsOf 40 = fs at *
    obtain ⟨fs⟩ := fs
    cases fs with
    | nil => exact absurd hf (by simp)
    | cons f1 fs =>
    cases fs with
    | nil => exact absurd hf (by simp)
    | cons f2 fs =>
    cases fs with
    | cons f3 fs => exact absurd hf (by simp)
    | nil =>
      simp only [List.map_cons, List.map_nil, List.cons.injEq, Prod.mk.injEq, and_true] at hf
      obtain ⟨⟨a1, a2, a3⟩, b1, b2, b3⟩ := hf
      have h1 := shut_bytes (enc := enc) (w := w) (base := base) (sp := sp) (held := held) Try.underlying38 Try.underlying5 cells_byte cells_hash h hl
      have h2 : DataW.trod enc Try.prog w base sp held 2 9 [.string ⟨n.toArray⟩] = some (.lit (.string n), []) := by
        simp only [DataW.trod, Try.underlying9]
        rw [if_pos (by simpa [ByteArray.size] using hn)]
      simp only [List.mapM_cons, List.mapM_nil, a2, a3, b2, b3, cells_hash, cells_str, pC_drop h n hl, pC_take h n hl, h1, h2]
      rfl
  exact trod_struct_mk pC_under (by rw [cells_path]; simp [pC_size, hl]) hm
set_option maxRecDepth 100000 in
theorem open_path {r : Reach} {b0 : Nat} {v : Value} {d : DataW H} {ps : List MemPlace} (hval : Value.okWide Try.prog w r b0 40 v) (hd : DataW.Trod enc Try.prog w base sp held 40 v d ps) :
    ∃ h n : List UInt8, v = .agg (pC h n) ∧ d = pathData h n ∧ ps = [] ∧ h.length = 20 ∧ n.length ≤ maxLen := by
  obtain ⟨cs, rfl, _⟩ := okWide_struct pC_under hval
  obtain ⟨fuel, hf⟩ := hd
  obtain ⟨h, n, hl, hn, e, e2⟩ := open_path_cells hf
  exact ⟨h, n, congrArg Value.agg (Array.ext' e), congrArg Prod.fst e2, congrArg Prod.snd e2, hl, hn⟩
theorem shut_path (h n : List UInt8) (hl : h.length = 20) (hn : n.length ≤ maxLen) : DataW.Trod enc Try.prog w base sp held 40 (.agg (pC h n)) (pathData h n) [] := ⟨3, shut_path_cells h n hl hn⟩
set_option maxRecDepth 100000 in
theorem open_text {r : Reach} {b0 : Nat} {v : Value} {d : DataW H} {ps : List MemPlace} (hval : Value.okWide Try.prog w r b0 9 v) (hd : DataW.Trod enc Try.prog w base sp held 9 v d ps) :
    ∃ s : List UInt8, v = .string ⟨s.toArray⟩ ∧ d = .lit (.string s) ∧ ps = [] ∧ s.length ≤ maxLen := by
  obtain ⟨s, rfl, rfl, rfl, hs⟩ := open_string Try.underlying9 hval hd
  exact ⟨s.data.toList, rfl, rfl, rfl, hs⟩
theorem shut_text (s : List UInt8) (hs : s.length ≤ maxLen) : DataW.Trod enc Try.prog w base sp held 9 (.string ⟨s.toArray⟩) (.lit (.string s)) [] := by
  have := shut_string (enc := enc) (w := w) (base := base) (sp := sp) (held := held) (s := ⟨s.toArray⟩) Try.underlying9 (by simpa [ByteArray.size] using hs)
  simpa using this
end
theorem own : ownKnob Try.prog.godebug = none := by kernel_rfl
theorem maxLenCell {W : World} (h : W.ShapedOpen Try.prog) : ∃ m, W.cell? ⟨0, 0, none⟩ = some (.int .i64 m) :=
  cell_of_shapedOpen_int (g := 0) (t := 3) (zero := #[.int .i64 0]) h (of_decide_eq_true (by kernel_rfl)) (by kernel_rfl) rfl (by kernel_rfl) (by kernel_rfl) Try.underlying3
end Go.Proofs.Ytfgjepfmcmppaaa
