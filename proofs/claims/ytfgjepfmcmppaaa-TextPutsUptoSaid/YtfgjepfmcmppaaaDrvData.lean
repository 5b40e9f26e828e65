/- Derivations and bytes as arguments. -/
import Derived.Test.YtfgjepfmcmppaaaLaw
import Derived.Test.YtfgjepfmcmppaaaSameDrv
namespace Go.Proofs.Ytfgjepfmcmppaaa
open Go.RowKit Pl Go.Agg Go.ChangeMaps Go.ChangeShapes Go.WideShapes
section
variable {H : Type} {enc : TypeId × Value → H} {w : World} {base : Nat} {sp : Nat → Bool} {held : Bool}
def inpData (H : Type) (x : Inp) : DataW H := .agg [pathData x.1.1.1 x.1.1.2, hashData x.2.1.1, .lit (.bool x.2.2)]
def namData (H : Type) (x : Nam) : DataW H := .agg [.lit (.string x.1), inpData H x.2]
theorem cells_inp : Try.prog.cellsOf 62 = 42 := by kernel_rfl
theorem cells_nam : Try.prog.cellsOf 64 = 43 := by kernel_rfl
theorem cells_bool : Try.prog.cellsOf 4 = 1 := by kernel_rfl
theorem split3 {cs a b c : List Value} {n m k : Nat} (hl : cs.length = n + m + k) (h1 : (cs.drop 0).take n = a) (h2 : (cs.drop n).take m = b) (h3 : (cs.drop (n + m)).take k = c) : cs = a ++ (b ++ c) := by
  rw [← h1, ← h2, ← h3, List.drop_zero, List.take_of_length_le (l := cs.drop (n + m)) (by simp; omega), ← List.drop_drop, List.take_append_drop, List.take_append_drop]
theorem split2 {cs a b : List Value} {n m : Nat} (hl : cs.length = n + m) (h1 : (cs.drop 0).take n = a) (h2 : (cs.drop n).take m = b) : cs = a ++ b := by
  rw [← h1, ← h2, List.drop_zero, List.take_of_length_le (l := cs.drop n) (by simp; omega), List.take_append_drop]
theorem open_inp_cells {fuel : Nat} {cs : List Value} {x : DataW H × List MemPlace} (h : DataW.trod enc Try.prog w base sp held fuel 62 cs = some x) : ∃ i : Inp, cs = (iC i).toList ∧ x = (inpData H i, []) := by
  obtain ⟨xs, m, rfl, rfl, hl, hx, ha⟩ := DataW.trod_struct iC_under h
  have hf := inp_fields
  generalize Try.prog.fieldsOf 62 = fs at *
  obtain ⟨fs⟩ := fs
  cases fs with
  | nil => exact absurd hf (by simp)
  | cons f1 fs =>
  cases fs with
  | nil => exact absurd hf (by simp)
  | cons f2 fs =>
  cases fs with
  | nil => exact absurd hf (by simp)
  | cons f3 fs =>
  cases fs with
  | cons f4 fs => exact absurd hf (by simp)
  | nil =>
    simp only [List.map_cons, List.map_nil, List.cons.injEq, Prod.mk.injEq, and_true] at hf
    obtain ⟨⟨a1, a2, a3⟩, ⟨b1, b2, b3⟩, c1, c2, c3⟩ := hf
    match xs, hx with
    | [x1, x2, x3], _ =>
      have h1 := ha 0 f1 rfl
      have h2 := ha 1 f2 rfl
      have h3 := ha 2 f3 rfl
      rw [a2, a3, cells_path] at h1
      rw [b2, b3, cells_hash] at h2
      rw [c2, c3, cells_bool] at h3
      obtain ⟨g, n, hg, _, e1, e2⟩ := open_path_cells h1
      obtain ⟨l, e3, e4, e5⟩ := open_bytes Try.underlying38 Try.underlying5 cells_byte cells_hash h2
      obtain ⟨b, e6, e7⟩ := DataW.trod_bool Try.underlying4 h3
      rw [cells_inp] at hl
      refine ⟨(⟨(g, n), hg⟩, ⟨l, e3⟩, b), ?_, ?_⟩
      · rw [split3 (n := 21) (m := 20) (k := 1) hl e1 e4 e6]
        simp [iC, hC]
      · rw [e2, e5, e7]; rfl
theorem open_nam_cells {fuel : Nat} {cs : List Value} {x : DataW H × List MemPlace} (h : DataW.trod enc Try.prog w base sp held fuel 64 cs = some x) : ∃ i : Nam, cs = (nmC i).toList ∧ x = (namData H i, []) := by
  obtain ⟨xs, m, rfl, rfl, hl, hx, ha⟩ := DataW.trod_struct nmC_under h
  have hf := nam_fields
  generalize Try.prog.fieldsOf 64 = fs at *
  obtain ⟨fs⟩ := fs
  cases fs with
  | nil => exact absurd hf (by simp)
  | cons f1 fs =>
  cases fs with
  | nil => exact absurd hf (by simp)
  | cons f2 fs =>
  cases fs with
  | cons f3 fs => exact absurd hf (by simp)
  | nil =>
    simp only [List.map_cons, List.map_nil, List.cons.injEq, Prod.mk.injEq, and_true] at hf
    obtain ⟨⟨a1, a2, a3⟩, b1, b2, b3⟩ := hf
    match xs, hx with
    | [x1, x2], _ =>
      have h1 := ha 0 f1 rfl
      have h2 := ha 1 f2 rfl
      rw [a2, a3, cells_str] at h1
      rw [b2, b3, cells_inp] at h2
      obtain ⟨s, e1, e2, _⟩ := DataW.trod_string Try.underlying9 h1
      obtain ⟨i, e3, e4⟩ := open_inp_cells h2
      rw [cells_nam] at hl
      refine ⟨(s.data.toList, i), ?_, ?_⟩
      · rw [split2 (n := 1) (m := 42) hl e1 e3]
        simp [nmC]
      · rw [e2, e4]; rfl
end
/-- inputs by names, read -/
def DNm : ElemD Try.prog Nam where
  toElem := ENm
  cellsOf := cells_nam
  data := namData
  open_ := fun _ _ _ _ _ _ _ _ _ h => open_nam_cells h
/-- bytes, read -/
def DB : ElemD Try.prog UInt8 where
  toElem := EB
  cellsOf := cells_byte
  data := fun _ c => .lit (.int .u8 (c.toNat : Int))
  open_ := fun H enc w base sp held fuel cs x h => by
    obtain ⟨k, rfl, e2, hw⟩ := DataW.trod_int Try.underlying5 h
    have hb := bounds_u8 hw
    refine ⟨UInt8.ofNat k.toNat, ?_, ?_⟩
    · have : ((UInt8.ofNat k.toNat).toNat : Int) = k := by simp; omega
      show [Value.int .u8 k] = [Value.int .u8 ((UInt8.ofNat k.toNat).toNat : Int)]
      rw [this]
    · have : ((UInt8.ofNat k.toNat).toNat : Int) = k := by simp; omega
      rw [e2, this]
instance : Inhabited Nam := ⟨zN⟩
theorem bulk_nam {H : Type} (x : Nam) : nmSz x + 1 ≤ Rows.uptoBulk (DNm.data H x) := by
  show nmSz x + 1 ≤ Rows.uptoBulk (namData H x)
  simp only [namData, inpData, pathData, Rows.uptoBulk, Rows.uptoBulkAll, nmSz]; omega
theorem bulk_byte {H : Type} (x : UInt8) : 0 + 1 ≤ Rows.uptoBulk (DB.data H x) := by
  show 0 + 1 ≤ Rows.uptoBulk (DataW.lit _)
  simp [Rows.uptoBulk]
theorem sum_zero (l : List UInt8) : (l.map fun _ => 0).sum = 0 := by
  induction l with
  | nil => rfl
  | cons c l ih => simp [ih]
section
variable {H : Type} {enc : TypeId × Value → H} {w : World} {base : Nat} {sp : Nat → Bool} {held : Bool} {r : Reach} {b0 : Nat} {v : Value} {d : DataW H} {ps : List MemPlace}
set_option maxRecDepth 100000 in
theorem open_bytesB (hval : Value.okWide Try.prog w r b0 23 v) (hd : DataW.Trod enc Try.prog w base sp held 23 v d ps) : ∃ l : List UInt8, BytesAt w v l ∧ l.length + 1 ≤ Rows.uptoBulk d := by
  obtain ⟨fuel, hf⟩ := hd
  obtain ⟨u, l, e, hs, hx⟩ := open_sliceE DB (x := (d, ps)) hf
  obtain ⟨a, n, c, rfl⟩ := okWide_slice (by kernel_rfl : Try.prog.underlying 23 = some (.slice 5)) hval
  obtain rfl : Value.slice a n c = u := by simpa [Value.cells] using e
  have := bulk_slice hx (fun _ => 0) bulk_byte
  rw [sum_zero] at this
  exact ⟨l, hs, by simpa using this⟩
set_option maxRecDepth 100000 in
theorem open_textB (hval : Value.okWide Try.prog w r b0 9 v) (hd : DataW.Trod enc Try.prog w base sp held 9 v d ps) : ∃ s : List UInt8, v = .string ⟨s.toArray⟩ ∧ s.length + 1 ≤ Rows.uptoBulk d := by
  obtain ⟨s, rfl, rfl, rfl, _⟩ := open_text hval hd
  exact ⟨s, rfl, by simp [Rows.uptoBulk]⟩
theorem drv_under : Try.prog.underlying 25 = some (.struct (Try.prog.fieldsOf 25)) := by kernel_rfl
theorem drv_fields : (Try.prog.fieldsOf 25).toList.map (fun f => (f.name, f.type, f.offset)) = [("Name", 9, 0), ("Inputs", 22, 1), ("Recipe", 23, 2)] := by kernel_rfl
theorem cells_drv : Try.prog.cellsOf 25 = 3 := by kernel_rfl
theorem cells_nams : Try.prog.cellsOf 22 = 1 := by kernel_rfl
theorem cells_bytes : Try.prog.cellsOf 23 = 1 := by kernel_rfl
set_option maxRecDepth 100000 in
theorem open_drv (hval : Value.okWide Try.prog w r b0 25 v) (hd : DataW.Trod enc Try.prog w base sp held 25 v d ps) :
    ∃ x : Drv, DrvAt w v x ∧ x.1.length + namsSz x.2.1 + x.2.1.length + x.2.2.length + 1 ≤ Rows.uptoBulk d := by
  obtain ⟨cs, rfl, _⟩ := okWide_struct drv_under hval
  obtain ⟨fuel, hfu⟩ := hd
  obtain ⟨xs, m, rfl, hdd, hl, hx, ha⟩ := DataW.trod_struct drv_under hfu
  have hf := drv_fields
  generalize Try.prog.fieldsOf 25 = fs at *
  obtain ⟨fs⟩ := fs
  cases fs with
  | nil => exact absurd hf (by simp)
  | cons f1 fs =>
  cases fs with
  | nil => exact absurd hf (by simp)
  | cons f2 fs =>
  cases fs with
  | nil => exact absurd hf (by simp)
  | cons f3 fs =>
  cases fs with
  | cons f4 fs => exact absurd hf (by simp)
  | nil =>
    simp only [List.map_cons, List.map_nil, List.cons.injEq, Prod.mk.injEq, and_true] at hf
    obtain ⟨⟨a1, a2, a3⟩, ⟨b1, b2, b3⟩, c1, c2, c3⟩ := hf
    match xs, hx with
    | [x1, x2, x3], _ =>
      have h1 := ha 0 f1 rfl
      have h2 := ha 1 f2 rfl
      have h3 := ha 2 f3 rfl
      rw [a2, a3, cells_str] at h1
      rw [b2, b3, cells_nams] at h2
      rw [c2, c3, cells_bytes] at h3
      obtain ⟨s, e1, e2, _⟩ := DataW.trod_string Try.underlying9 h1
      obtain ⟨vi, li, e3, hs3, hx3⟩ := open_sliceE DNm h2
      obtain ⟨vr, lr, e4, hs4, hx4⟩ := open_sliceE DB h3
      rw [cells_drv] at hl
      have hcs : (Value.agg cs).cells.toList = [.string s] ++ ([vi] ++ [vr]) := split3 (n := 1) (m := 1) (k := 1) hl e1 e3 e4
      have hcs2 : cs = #[.string s, vi, vr] := Array.ext' (by simpa [Value.cells] using hcs)
      refine ⟨(s.data.toList, li, lr), ⟨vi, vr, by rw [hcs2], hs3, hs4⟩, ?_⟩
      have k1 := bulk_slice hx3 nmSz bulk_nam
      have k2 := bulk_slice hx4 (fun _ => 0) bulk_byte
      rw [sum_zero] at k2
      have hd2 : d = .agg [x1.1, x2.1, x3.1] := by simpa using congrArg Prod.fst hdd
      rw [hd2]
      simp only [Rows.uptoBulk, Rows.uptoBulkAll, e2, namsSz]
      omega
end
end Go.Proofs.Ytfgjepfmcmppaaa
