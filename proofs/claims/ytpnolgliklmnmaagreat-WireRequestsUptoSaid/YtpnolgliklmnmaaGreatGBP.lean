/- A request as an argument. (Several texts in one.) -/
import Derived.Test.YtpnolgliklmnmaaGreatGBO
import Derived.Test.YtpnolgliklmnmaaGreatGAK
/-! A path and a text as arguments: read, and laid again. -/
namespace Go.Proofs.YtpnolgliklmnmaaGreat
open Go.RowKit Go.Agg Go.ChangeMaps Go.ChangeShapes Go.WideShapes
section
variable {H : Type} {enc : TypeId × Value → H} {w : World} {base : Nat} {sp : Nat → Bool} {held : Bool}
def hashData {H : Type} (h : List UInt8) : DataW H := .agg (byteData h)
def pathData {H : Type} (h n : List UInt8) : DataW H := .agg [hashData h, .lit (.string n)]
theorem pC_take (h n : List UInt8) (hl : h.length = 20) : ((pC h n).toList.drop 0).take 20 = Lib.byteCells h := by
  rw [List.drop_zero, pC, hC]
  simp only [Array.toList_append]
  exact List.take_left' (by rw [Lib.byteCells_length, hl])
theorem pC_drop (h n : List UInt8) (hl : h.length = 20) : ((pC h n).toList.drop 20).take 1 = [.string ⟨n.toArray⟩] := by
  rw [pC, hC]
  simp only [Array.toList_append]
  rw [List.drop_left' (by rw [Lib.byteCells_length, hl])]
  rfl
theorem cells_hash : Tryz.prog.cellsOf 25 = 20 := by kernel_rfl
theorem cells_str : Tryz.prog.cellsOf 9 = 1 := by kernel_rfl
theorem cells_path : Tryz.prog.cellsOf 27 = 21 := by kernel_rfl
theorem open_path_cells {fuel : Nat} {cs : List Value} {x : DataW H × List MemPlace} (h : DataW.trod enc Tryz.prog w base sp held fuel 27 cs = some x) :
    ∃ h n : List UInt8, h.length = 20 ∧ n.length ≤ maxLen ∧ cs = (pC h n).toList ∧ x = (pathData h n, []) := by
  obtain ⟨xs, m, rfl, rfl, hl, hx, ha⟩ := DataW.trod_struct pC_under h
  have hf := path_fields
  generalize Tryz.prog.fieldsOf 27 = fs at *
  obtain ⟨fs⟩ := fs
  cases fs with
  | nil => exact absurd hf (by simp)
  | cons f1 fs =>
  cases fs with
  | nil => exact absurd hf (by simp)
  | cons f2 fs =>
  cases fs with
  | cons f3 fs => exact absurd hf (by simp)
  | nil =>
    simp only [List.map_cons, List.map_nil, List.cons.injEq, Prod.mk.injEq, and_true] at hf
    obtain ⟨⟨a1, a2, a3⟩, b1, b2, b3⟩ := hf
    match xs, hx with
    | [x1, x2], _ =>
      have h1 := ha 0 f1 rfl
      have h2 := ha 1 f2 rfl
      rw [a2, a3, cells_hash] at h1
      rw [b2, b3, cells_str] at h2
      obtain ⟨l, e1, e2, e3⟩ := open_bytes Tryz.underlying25 Tryz.underlying5 cells_byte cells_hash h1
      obtain ⟨s, e4, e5, e6⟩ := DataW.trod_string Tryz.underlying9 h2
      rw [cells_path] at hl
      refine ⟨l, s.data.toList, e1, e6, ?_, ?_⟩
      · have : cs = (cs.drop 0).take 20 ++ (cs.drop 20).take 1 := by
          rw [List.drop_zero, List.take_of_length_le (l := cs.drop 20) (by simp; omega), List.take_append_drop]
        rw [this, e2, e4]
        simp [pC, hC]
      · rw [e3, e5]; rfl
theorem shut_path_cells (h n : List UInt8) (hl : h.length = 20) (hn : n.length ≤ maxLen) : DataW.trod enc Tryz.prog w base sp held 3 27 (pC h n).toList = some (pathData h n, []) := by
  have hm : (Tryz.prog.fieldsOf 27).toList.mapM (fun f => DataW.trod enc Tryz.prog w base sp held 2 f.type (((pC h n).toList.drop f.offset).take (Tryz.prog.cellsOf f.type))) = some [(hashData h, []), (.lit (.string n), [])] := by
    have hf := path_fields
    generalize Tryz.prog.fieldsOf 27 = fs at *
    obtain ⟨fs⟩ := fs
    cases fs with
    | nil => exact absurd hf (by simp)
    | cons f1 fs =>
    cases fs with
    | nil => exact absurd hf (by simp)
    | cons f2 fs =>
    cases fs with
    | cons f3 fs => exact absurd hf (by simp)
    | nil =>
      simp only [List.map_cons, List.map_nil, List.cons.injEq, Prod.mk.injEq, and_true] at hf
      obtain ⟨⟨a1, a2, a3⟩, b1, b2, b3⟩ := hf
      have h1 := shut_bytes (enc := enc) (w := w) (base := base) (sp := sp) (held := held) Tryz.underlying25 Tryz.underlying5 cells_byte cells_hash h hl
      have h2 : DataW.trod enc Tryz.prog w base sp held 2 9 [.string ⟨n.toArray⟩] = some (.lit (.string n), []) := by
        simp only [DataW.trod, Tryz.underlying9]
        rw [if_pos (by simpa [ByteArray.size] using hn)]
      simp only [List.mapM_cons, List.mapM_nil, a2, a3, b2, b3, cells_hash, cells_str, pC_drop h n hl, pC_take h n hl, h1, h2]
      rfl
  exact trod_struct_mk pC_under (by rw [cells_path]; simp [pC_size, hl]) hm
set_option maxRecDepth 100000 in
theorem open_path {r : Reach} {b0 : Nat} {v : Value} {d : DataW H} {ps : List MemPlace} (hval : Value.okWide Tryz.prog w r b0 27 v) (hd : DataW.Trod enc Tryz.prog w base sp held 27 v d ps) :
    ∃ h n : List UInt8, v = .agg (pC h n) ∧ d = pathData h n ∧ ps = [] ∧ h.length = 20 ∧ n.length ≤ maxLen := by
  obtain ⟨cs, rfl, _⟩ := okWide_struct pC_under hval
  obtain ⟨fuel, hf⟩ := hd
  obtain ⟨h, n, hl, hn, e, e2⟩ := open_path_cells hf
  exact ⟨h, n, congrArg Value.agg (Array.ext' e), congrArg Prod.fst e2, congrArg Prod.snd e2, hl, hn⟩
theorem shut_path (h n : List UInt8) (hl : h.length = 20) (hn : n.length ≤ maxLen) : DataW.Trod enc Tryz.prog w base sp held 27 (.agg (pC h n)) (pathData h n) [] := ⟨3, shut_path_cells h n hl hn⟩
set_option maxRecDepth 100000 in
theorem open_text {r : Reach} {b0 : Nat} {v : Value} {d : DataW H} {ps : List MemPlace} (hval : Value.okWide Tryz.prog w r b0 9 v) (hd : DataW.Trod enc Tryz.prog w base sp held 9 v d ps) :
    ∃ s : List UInt8, v = .string ⟨s.toArray⟩ ∧ d = .lit (.string s) ∧ ps = [] ∧ s.length ≤ maxLen := by
  obtain ⟨s, rfl, rfl, rfl, hs⟩ := open_string Tryz.underlying9 hval hd
  exact ⟨s.data.toList, rfl, rfl, rfl, hs⟩
theorem shut_text (s : List UInt8) (hs : s.length ≤ maxLen) : DataW.Trod enc Tryz.prog w base sp held 9 (.string ⟨s.toArray⟩) (.lit (.string s)) [] := by
  have := shut_string (enc := enc) (w := w) (base := base) (sp := sp) (held := held) (s := ⟨s.toArray⟩) Tryz.underlying9 (by simpa [ByteArray.size] using hs)
  simpa using this
end
theorem maxLenCell {W : World} (h : W.ShapedOpen Tryz.prog) : ∃ m, W.cell? ⟨0, 0, none⟩ = some (.int .i64 m) :=
  cell_of_shapedOpen_int (g := 0) (t := 3) (zero := #[.int .i64 0]) h (of_decide_eq_true (by kernel_rfl)) (by kernel_rfl) rfl (by kernel_rfl) (by kernel_rfl) Tryz.underlying3
end Go.Proofs.YtpnolgliklmnmaaGreat
/-! A request as an argument. -/
namespace Go.Proofs.YtpnolgliklmnmaaGreat
open Go.RowKit Pl Go.Agg Go.ChangeMaps Go.ChangeShapes Go.WideShapes
theorem chunk (cs : List Value) (n m : Nat) : cs.drop n = (cs.drop n).take m ++ cs.drop (n + m) := by
  rw [← List.drop_drop, List.take_append_drop]
section
variable {H : Type} {enc : TypeId × Value → H} {w : World} {base : Nat} {sp : Nat → Bool} {held : Bool} {r : Reach} {b0 : Nat} {v : Value} {d : DataW H} {ps : List MemPlace}
theorem req_under : Tryz.prog.underlying 29 = some (.struct (Tryz.prog.fieldsOf 29)) := by kernel_rfl
theorem req_fields : (Tryz.prog.fieldsOf 29).toList.map (fun f => (f.name, f.type, f.offset)) = [("Kind", 22, 0), ("User", 3, 1), ("Who", 3, 2), ("Name", 9, 3), ("Bytes", 23, 4), ("Path", 27, 5), ("Class", 25, 26)] := by kernel_rfl
theorem cells_req : Tryz.prog.cellsOf 29 = 46 := by kernel_rfl
theorem cells_kind : Tryz.prog.cellsOf 22 = 1 := by kernel_rfl
theorem cells_int : Tryz.prog.cellsOf 3 = 1 := by kernel_rfl
theorem cells_bytesR : Tryz.prog.cellsOf 23 = 1 := by kernel_rfl
set_option maxRecDepth 100000 in
theorem open_req (hval : Value.okWide Tryz.prog w r b0 29 v) (hd : DataW.Trod enc Tryz.prog w base sp held 29 v d ps) :
    ∃ (k u wh : Int) (nm : List UInt8) (vb : Value) (bs ph pn ch : List UInt8), v = .agg (rqG k u wh nm vb ph pn ch) ∧ BytesAt w vb bs ∧ ph.length = 20 ∧ ch.length = 20 ∧ nm.length + bs.length + pn.length + 1 ≤ Rows.uptoBulk d := by
  obtain ⟨cs, rfl, _⟩ := okWide_struct req_under hval
  obtain ⟨fuel, hfu⟩ := hd
  obtain ⟨xs, m, rfl, hdd, hl, hx, ha⟩ := DataW.trod_struct req_under hfu
  have hf := req_fields
  generalize Tryz.prog.fieldsOf 29 = fs at *
  obtain ⟨fs⟩ := fs
  cases fs with
  | nil => exact absurd hf (by simp)
  | cons f1 fs =>
  cases fs with
  | nil => exact absurd hf (by simp)
  | cons f2 fs =>
  cases fs with
  | nil => exact absurd hf (by simp)
  | cons f3 fs =>
  cases fs with
  | nil => exact absurd hf (by simp)
  | cons f4 fs =>
  cases fs with
  | nil => exact absurd hf (by simp)
  | cons f5 fs =>
  cases fs with
  | nil => exact absurd hf (by simp)
  | cons f6 fs =>
  cases fs with
  | nil => exact absurd hf (by simp)
  | cons f7 fs =>
  cases fs with
  | cons f8 fs => exact absurd hf (by simp)
  | nil =>
    simp only [List.map_cons, List.map_nil, List.cons.injEq, Prod.mk.injEq, and_true] at hf
    obtain ⟨⟨a1, a2, a3⟩, ⟨b1, b2, b3⟩, ⟨c1, c2, c3⟩, ⟨d1, d2, d3⟩, ⟨e1, e2, e3⟩, ⟨g1, g2, g3⟩, i1, i2, i3⟩ := hf
    match xs, hx with
    | [x1, x2, x3, x4, x5, x6, x7], _ =>
      have h1 := ha 0 f1 rfl
      have h2 := ha 1 f2 rfl
      have h3 := ha 2 f3 rfl
      have h4 := ha 3 f4 rfl
      have h5 := ha 4 f5 rfl
      have h6 := ha 5 f6 rfl
      have h7 := ha 6 f7 rfl
      rw [a2, a3, cells_kind] at h1
      rw [b2, b3, cells_int] at h2
      rw [c2, c3, cells_int] at h3
      rw [d2, d3, cells_str] at h4
      rw [e2, e3, cells_bytesR] at h5
      rw [g2, g3, cells_path] at h6
      rw [i2, i3, cells_hash] at h7
      obtain ⟨k, k1, k2, _⟩ := DataW.trod_int Tryz.underlying22 h1
      obtain ⟨u, u1, u2, _⟩ := DataW.trod_int Tryz.underlying3 h2
      obtain ⟨wh, w1, w2, _⟩ := DataW.trod_int Tryz.underlying3 h3
      obtain ⟨s, s1, s2, _⟩ := DataW.trod_string Tryz.underlying9 h4
      obtain ⟨vb, lb, l1, hs5, hx5⟩ := open_sliceE DB h5
      obtain ⟨ph, pn, p1, _, p2, p3⟩ := open_path_cells h6
      obtain ⟨ch, q1, q2, q3⟩ := open_bytes Tryz.underlying25 Tryz.underlying5 cells_byte cells_hash h7
      rw [cells_req] at hl
      have hl46 : (Value.agg cs).cells.toList.length = 46 := hl
      have hcs : (Value.agg cs).cells.toList = (rqG k u wh s.data.toList vb ph pn ch).toList := by
        generalize (Value.agg cs).cells.toList = L at *
        have h0 : L = L.drop 0 := rfl
        rw [h0, chunk L 0 1, k1, chunk L (0 + 1) 1, u1, chunk L (0 + 1 + 1) 1, w1, chunk L (0 + 1 + 1 + 1) 1, s1, chunk L (0 + 1 + 1 + 1 + 1) 1, l1, chunk L (0 + 1 + 1 + 1 + 1 + 1) 21, p2, chunk L (0 + 1 + 1 + 1 + 1 + 1 + 21) 20, q2, show L.drop (0 + 1 + 1 + 1 + 1 + 1 + 21 + 20) = [] from List.drop_eq_nil_of_le (by omega)]
        simp [rqG, rqH, hC]
      refine ⟨k, u, wh, s.data.toList, vb, lb, ph, pn, ch, by rw [← Array.ext' hcs]; rfl, hs5, p1, q1, ?_⟩
      have k2' := bulk_slice hx5 (fun _ => 0) bulk_byte
      rw [sum_zero] at k2'
      have hd2 : d = .agg [x1.1, x2.1, x3.1, x4.1, x5.1, x6.1, x7.1] := by simpa using congrArg Prod.fst hdd
      rw [hd2, k2, u2, w2, s2, p3, q3]
      simp only [Rows.uptoBulk, Rows.uptoBulkAll, pathData]
      omega
end
end Go.Proofs.YtpnolgliklmnmaaGreat
