/- Rows of bytes, bytes with their spare room, numbers, as arguments. (Several texts in one.) -/
import Derived.Test.YtfiadgdinhmgbaaDoorYAF
import Derived.Test.YtfiadgdinhmgbaaDoorYAB
import Derived.Test.YtfiadgdinhmgbaaDoorYAG
import Derived.Test.YtfiadgdinhmgbaaDoorYAH
/-! wire.Frame. -/
namespace Go.Proofs.YtfiadgdinhmgbaaDoor
open Go.RowKit Pl Go.Agg
end Go.Proofs.YtfiadgdinhmgbaaDoor
/-! spencekit.SameRows, BytesOf, Pick. -/
namespace Go.Proofs.YtfiadgdinhmgbaaDoor
open Go.RowKit Pl Go.Agg
/-! BytesOf -/
def bytesGo (m : Nat) : Nat → List (List UInt8) → Nat
  | n, [] => n
  | n, x :: l => if n ≤ m then bytesGo m (n + 1 + x.length) l else n
def bytesSz (l : List (List UInt8)) : Nat := (l.map fun x => 1 + x.length).sum
theorem bytesGo_le (m : Nat) (l : List (List UInt8)) (n : Nat) : bytesGo m n l ≤ n + bytesSz l := by
  induction l generalizing n with
  | nil => simp [bytesGo]
  | cons x l ih =>
    unfold bytesGo
    split
    · have := ih (n + 1 + x.length)
      simp only [bytesSz, List.map_cons, List.sum_cons] at this ⊢; omega
    · simp only [bytesSz, List.map_cons, List.sum_cons]; omega
theorem bytesGo_all (m : Nat) (l : List (List UInt8)) (n : Nat) (h : bytesGo m n l ≤ m) : n + bytesSz l ≤ m := by
  induction l generalizing n with
  | nil => simpa [bytesGo, bytesSz] using h
  | cons x l ih =>
    unfold bytesGo at h
    split at h
    · have := ih _ h
      simp only [bytesSz, List.map_cons, List.sum_cons] at this ⊢; omega
    · omega
theorem drop_at' {α : Type} {l : List α} {k : Nat} {x : α} (h : l[k]? = some x) : l.drop k = x :: l.drop (k + 1) := by
  obtain ⟨hk, rfl⟩ := List.getElem?_eq_some_iff.1 h
  exact List.drop_eq_getElem_cons hk
theorem ret_nat' {a b : Nat} (h : a = b) : Ending.returned (.int .i64 (a : Int)) = .returned (.int .i64 (b : Int)) := by rw [h]
end Go.Proofs.YtfiadgdinhmgbaaDoor
/-! Rows of bytes, bytes with their spare room, numbers, as arguments. -/
namespace Go.Proofs.YtfiadgdinhmgbaaDoor
open Go.RowKit Pl Go.Agg Go.ChangeMaps Go.ChangeShapes Go.WideShapes
section
variable {H : Type} {enc : TypeId × Value → H} {w : World} {base : Nat} {sp : Nat → Bool} {held : Bool} {r : Reach} {b0 : Nat} {v : Value} {d : DataW H} {ps : List MemPlace}
theorem cells_bytes' : Tryd.prog.cellsOf 23 = 1 := by kernel_rfl
theorem under_bytes : Tryd.prog.underlying 23 = some (.slice 5) := by kernel_rfl
theorem under_rows : Tryd.prog.underlying 135 = some (.slice 23) := by kernel_rfl
set_option maxRecDepth 100000 in
theorem open_bytesC (hval : Value.okWide Tryd.prog w r b0 23 v) (hd : DataW.Trod enc Tryd.prog w base sp held 23 v d ps) : ∃ l : List UInt8, BytesAt w v l ∧ (∀ p n c, v = .slice p n c → n ≤ c) ∧ l.length + 1 ≤ Rows.uptoBulk d := by
  obtain ⟨l, h1, h2⟩ := open_bytesB hval hd
  refine ⟨l, h1, ?_, h2⟩
  obtain ⟨fuel, hf⟩ := hd
  obtain ⟨a, n, c, rfl⟩ := okWide_slice under_bytes hval
  rcases Go.Deep.open_slice under_bytes hf with ⟨h, _⟩ | ⟨_, _, _, _, _, _, _, h, _, hlc, _⟩
  · have : Value.slice a n c = .slice none 0 0 := by simpa [Value.cells] using h
    intro p n' c' e
    rw [this] at e
    injection e with _ e1 e2
    omega
  · have := h
    simp only [Value.cells, List.cons.injEq, and_true] at this
    intro p n' c' e
    rw [this] at e
    injection e with _ e1 e2
    omega
set_option maxRecDepth 100000 in
theorem open_rowsB (hval : Value.okWide Tryd.prog w r b0 135 v) (hd : DataW.Trod enc Tryd.prog w base sp held 135 v d ps) :
    ∃ (vs : List SV) (ls : List (List UInt8)), BBAt w v vs ∧ RowsIn w vs ls ∧ bytesSz ls + 1 ≤ Rows.uptoBulk d := by
  obtain ⟨fuel, hf⟩ := hd
  obtain ⟨a0, n0, c0, rfl⟩ := okWide_slice under_rows hval
  rcases Go.Deep.open_slice1 under_rows cells_bytes' hf with ⟨h, hx⟩ | ⟨a, len, cap, m, n, V, D, Pl, h, _, hlc, _, hm, hx, hel⟩
  · refine ⟨[], [], ?_, ⟨rfl, fun k s l h => by simp at h⟩, ?_⟩
    · have : Value.slice a0 n0 c0 = .slice none 0 0 := by simpa [Value.cells] using h
      rw [this]
      exact SliceOf.nil _ _ _
    · have : d = .nil := congrArg Prod.fst hx
      rw [this]; simp [bytesSz, Rows.uptoBulk]
  · have hv : Value.slice a0 n0 c0 = .slice (some a) len cap := by simpa [Value.cells] using h
    rw [hv]
    have hlm : len ≤ m := by rw [hm]; split <;> omega
    have each : ∀ i, i < len → ∃ b : SV × List UInt8, w.cell? (a.add i) = some b.1.1 ∧ BytesAt w b.1.1 b.2 ∧ 1 + b.2.length ≤ Rows.uptoBulk (D i) := fun i hi => by
      obtain ⟨hc, ht⟩ := hel i (by omega)
      obtain ⟨u, l, e, hs, hsh⟩ := open_sliceE DB ht
      obtain rfl : V i = u := by simpa using e
      obtain ⟨p, c, hform⟩ := hs.form
      have hbk := bulk_slice hsh (fun _ => 0) bulk_byte
      rw [sum_zero] at hbk
      have hbk' : l.length + 1 ≤ Rows.uptoBulk (D i) := by simpa using hbk
      exact ⟨(⟨V i, p, _, c, hform⟩, l), hc, hs, by show 1 + l.length ≤ Rows.uptoBulk (D i); omega⟩
    haveI : Inhabited (SV × List UInt8) := ⟨(⟨.slice none 0 0, none, 0, 0, rfl⟩, [])⟩
    obtain ⟨f, hff⟩ := Go.Deep.choose_lt each
    refine ⟨(List.range len).map fun i => (f i).1, (List.range len).map fun i => (f i).2, ?_, ⟨by simp, fun k s l h1 h2 => ?_⟩, ?_⟩
    · by_cases h0 : len = 0
      · subst h0; exact SliceOf.nil _ _ _
      · have hb : a.block < w.heap.size := by
          have := block_lt_of_cell (hff 0 (by omega)).1
          rwa [add_block] at this
        refine .inr ⟨a, cap, by simp, hb, fun j u hj => ?_⟩
        obtain ⟨k, b, i, h1, h2, rfl⟩ := Elem.flat_all EBB _ j u hj
        obtain ⟨hk, hkb⟩ := List.getElem?_eq_some_iff.1 h1
        have hkl : k < len := by simpa using hk
        have hfb : (f k).1 = b := by simpa using hkb
        subst hfb
        have hn : EBB.n = 1 := rfl
        have hi : i = 0 := by
          have := (Array.getElem?_eq_some_iff.1 h2).1
          rw [EBB.size] at this
          omega
        subst hi
        have h2' : (f k).1.1 = u := by
          have hc := sv_cells (f k).1
          have : (EBB.val (f k).1).cells = #[(f k).1.1] := hc
          rw [this] at h2
          simpa using h2
        rw [hn, Nat.mul_one, Nat.add_zero, (hff k hkl).1, h2']
    · obtain ⟨hk, rfl⟩ := List.getElem?_eq_some_iff.1 h1
      obtain ⟨hk2, rfl⟩ := List.getElem?_eq_some_iff.1 h2
      have hkl : k < len := by simpa using hk
      simpa using (hff k hkl).2.1
    · have hd2 : d = .slice ((List.range len).map D) ((List.range (m - len)).map fun j => D (len + j)) := congrArg Prod.fst hx
      rw [hd2]
      have hsum : ∀ is : List Nat, (∀ i ∈ is, i < len) → bytesSz (is.map fun i => (f i).2) ≤ Rows.uptoBulkAll (is.map D) := by
        intro is
        induction is with
        | nil => intro _; simp [bytesSz, Rows.uptoBulkAll]
        | cons i is ih =>
          intro hin
          have h1 := (hff i (hin i (by simp))).2.2
          have h2 := ih fun k hk => hin k (by simp [hk])
          simp only [bytesSz, List.map_cons, List.sum_cons, Rows.uptoBulkAll] at h2 ⊢
          omega
      have := hsum (List.range len) fun i hi => List.mem_range.1 hi
      simp only [Rows.uptoBulk]
      omega
set_option maxRecDepth 100000 in
theorem open_intC (hval : Value.okWide Tryd.prog w r b0 3 v) (hd : DataW.Trod enc Tryd.prog w base sp held 3 v d ps) : ∃ x : Int, v = .int .i64 x ∧ 0 ≤ Rows.uptoBulk d := by
  obtain ⟨fuel, hf⟩ := hd
  obtain ⟨k, h, _, _⟩ := DataW.trod_int Tryd.underlying3 hf
  refine ⟨k, ?_, Nat.zero_le _⟩
  obtain ⟨y, rfl⟩ := okWide_int Tryd.underlying3 hval
  simpa [Value.cells] using h
end
end Go.Proofs.YtfiadgdinhmgbaaDoor
