/- A hash as an argument. (Several texts in one.) -/
import Derived.Test.YtniibcgomnjfgaaJAO
import Derived.Test.YtniibcgomnjfgaaJAD
import Derived.Test.YtniibcgomnjfgaaRows
import Derived.Carry
import Derived.Deep.Slices
import Derived.Test.YtniibcgomnjfgaaJAB
import Derived.Test.YtniibcgomnjfgaaJAE
import Derived.Test.YtniibcgomnjfgaaJAH
/-! A law that returns true and keeps all that was there: its row's proof; slices, bytes as arguments. -/
namespace Go.Agg
open Go.RowKit Go.ChangeShapes Go.WideShapes Go.ChangeAt
section
variable {H : Type} {enc : TypeId × Value → H} {P : Program}
theorem trodAll_stays (hl : laidOutB P = true) : ∀ {ts : List TypeId}, (∀ t ∈ ts, P.readableRec t = true ∧ t < P.types.size) → ∀ {W W' : World} {base : Nat} {sp' : Nat → Bool} {vs : List Value} {ds : List (DataW H)} {ps : List MemPlace},
    DataW.TrodAll enc P W base (fun _ => true) true ts vs ds ps → (∀ p ∈ ps, W.sameAt W' p) → (∀ p ∈ ps, sp' p.block = true) → DataW.TrodAll enc P W' base sp' true ts vs ds ps
  | [], _, _, _, _, _, _, _, _, h, _, _ => by
    obtain ⟨rfl, rfl, rfl⟩ := trodAll_nil h
    exact trodAll_mk0
  | t :: ts, hr, _, _, _, _, _, _, _, h, hs, hp => by
    obtain ⟨v, vs', d, ds', p, q, rfl, rfl, rfl, h1, h2⟩ := trodAll_cons h
    exact trodAll_cons_mk (WideElems.Trod_stays hl (hr t (by simp)).1 (hr t (by simp)).2 h1 (fun x hx => hs x (by simp [hx])) (fun x hx => hp x (by simp [hx])))
      (trodAll_stays hl (fun t ht => hr t (by simp [ht])) h2 (fun x hx => hs x (by simp [hx])) (fun x hx => hp x (by simp [hx])))
/-- what a law's row says behind a call that returned true and kept what was there -/
theorem post_law {f : Func} {s : ChangeSpec} {apart fresh handsOn again : Bool} {W W' : World} {args : Array Value} {ds gs : List (DataW H)} {before : List MemPlace} {bt : TypeId}
    (hW : DataW.Whole enc P f.params.toList s.vars apart W args.toList ds gs before) (hv : s.vars = []) (hl : laidOutB P = true) (hr : ∀ t ∈ f.params.toList, P.readableRec t = true ∧ t < P.types.size)
    (hfr : (s.fn H (ds ++ gs)).results = [.lit (.bool true)]) (hfa : (s.fn H (ds ++ gs)).args = ds) (hfv : (s.fn H (ds ++ gs)).vars = []) (hrt : f.resultTypes = #[bt]) (hbt : P.underlying bt = some .bool) (hg : Below W.heap.size W W') :
    s.post enc P f apart fresh handsOn again W args (.bool true) W' := by
  obtain ⟨p, q, hA, hV, rfl, hfz, hnd⟩ := id hW
  rw [hv] at hV
  obtain ⟨rfl, rfl⟩ := trodVars_none hV
  have hlt := hW.lt
  have hst : ∀ sp : Nat → Bool, (∀ x ∈ p ++ [], sp x.block = true) → DataW.TrodAll enc P W' 0 sp true f.params.toList args.toList ds p := fun sp hsp =>
    trodAll_stays hl hr hA (fun x hx => hg.same (hlt x (by simp [hx]))) (fun x hx => hsp x (by simp [hx]))
  refine post_below (pa := p) (pv := []) hW ?_ (fun sp hsp => by rw [hfa]; exact hst sp hsp) (fun sp hsp => by rw [hfv, hv]; rfl) rfl hg ?_
  · intro b sp hd
    rw [hfr, hrt]
    exact trodAll_mk1 (shut_bool hbt _)
  · exact ok_one hrt rfl (okWide_bool_mk hbt _)
end
/-- elements, and how they read -/
structure ElemD (P : Program) (α : Type) extends Elem P α where
  cellsOf : P.cellsOf ty = n
  data : (H : Type) → α → DataW H
  open_ : ∀ (H : Type) (enc : TypeId × Value → H) (w : World) (base : Nat) (sp : Nat → Bool) (held : Bool) (fuel : Nat) (cs : List Value) (x : DataW H × List MemPlace),
    DataW.trod enc P w base sp held fuel ty cs = some x → ∃ a, cs = (val a).cells.toList ∧ x = (data H a, [])
theorem open_sliceE {P : Program} {α : Type} [Inhabited α] (E : ElemD P α) {H : Type} {enc : TypeId × Value → H} {w : World} {base : Nat} {sp : Nat → Bool} {held : Bool} {fuel : Nat} {cs : List Value} {x : DataW H × List MemPlace}
    (h : DataW.trod enc P w base sp held fuel E.st cs = some x) : ∃ (v : Value) (l : List α), cs = [v] ∧ SliceOf E.toElem w v l ∧ ((l = [] ∧ x.1 = .nil) ∨ ∃ rest, x.1 = .slice (l.map (E.data H)) rest) := by
  rcases Go.Deep.open_slice E.slice h with ⟨rfl, rfl⟩ | ⟨a, len, cap, m, n, D, Pl, rfl, _, hlc, _, hm, rfl, hel⟩
  · exact ⟨_, [], rfl, SliceOf.nil _ _ _, .inl ⟨rfl, rfl⟩⟩
  · have hlm : len ≤ m := by rw [hm]; split <;> omega
    have each : ∀ i, i < len → ∃ b : α, (∀ j u, (E.val b).cells[j]? = some u → w.cell? ((a.add (i * E.n)).add j) = some u) ∧ D i = E.data H b := fun i hi => by
      obtain ⟨cs', hc, ht⟩ := hel i (by omega)
      rw [E.cellsOf] at hc
      obtain ⟨b, rfl, hx⟩ := E.open_ H enc w base sp held n cs' _ ht
      obtain ⟨_, hcl, hat⟩ := World.cells?_some hc
      refine ⟨b, fun j u hj => ?_, congrArg Prod.fst hx⟩
      have hjn : j < E.n := by have := (Array.getElem?_eq_some_iff.1 hj).1; rw [E.size] at this; exact this
      rw [hat j hjn]
      simpa using hj
    obtain ⟨f, hf⟩ := Go.Deep.choose_lt each
    refine ⟨_, (List.range len).map f, rfl, ?_, .inr ⟨(List.range (m - len)).map fun j => D (len + j), ?_⟩⟩
    · by_cases h0 : len = 0
      · subst h0; exact SliceOf.nil _ _ _
      · have hb : a.block < w.heap.size := by
          have hpos := E.pos
          have hc0 := (hf 0 (by omega)).1 0 _ (Array.getElem?_eq_getElem (by rw [E.size]; exact hpos))
          have := block_lt_of_cell hc0
          rwa [add_block, add_block] at this
        refine .inr ⟨a, cap, by simp, hb, fun j u hj => ?_⟩
        obtain ⟨k, b, i, h1, h2, rfl⟩ := Elem.flat_all E.toElem _ j u hj
        obtain ⟨hk, hkb⟩ := List.getElem?_eq_some_iff.1 h1
        have hkl : k < len := by simpa using hk
        have hfb : f k = b := by simpa using hkb
        subst hfb
        rw [← add_add]
        exact (hf k hkl).1 i u h2
    · simp only [List.map_map]
      congr 1
      refine List.map_congr_left fun i hi => ?_
      exact (hf i (List.mem_range.1 hi)).2
end Go.Agg
namespace Go.Proofs.Ytniibcgomnjfgaa
open Go.RowKit Go.Agg Go.ChangeMaps Go.ChangeShapes Go.WideShapes
theorem own : ownKnob Try.prog.godebug = none := by kernel_rfl
theorem cells_byte : Try.prog.cellsOf 5 = 1 := by kernel_rfl
theorem laidOut : laidOutB Try.prog = true := by kernel_rfl
theorem bulkAll_append {H : Type} (a b : List (DataW H)) : Rows.uptoBulkAll (a ++ b) = Rows.uptoBulkAll a + Rows.uptoBulkAll b := by
  induction a with
  | nil => simp [Rows.uptoBulkAll]
  | cons d a ih => simp only [List.cons_append, Rows.uptoBulkAll, ih]; omega
theorem bulkAll_map {H : Type} {α : Type} (f : α → DataW H) (sz : α → Nat) (h : ∀ a, sz a + 1 ≤ Rows.uptoBulk (f a)) (l : List α) : (l.map sz).sum + l.length ≤ Rows.uptoBulkAll (l.map f) := by
  induction l with
  | nil => simp [Rows.uptoBulkAll]
  | cons a l ih =>
    have := h a
    simp only [List.map_cons, List.sum_cons, List.length_cons, Rows.uptoBulkAll]; omega
theorem bulk_slice {H : Type} {α : Type} {x : DataW H} {l : List α} {f : α → DataW H} (hx : (l = [] ∧ x = .nil) ∨ ∃ rest, x = .slice (l.map f) rest) (sz : α → Nat) (h : ∀ a, sz a + 1 ≤ Rows.uptoBulk (f a)) : (l.map sz).sum + l.length + 1 ≤ Rows.uptoBulk x := by
  rcases hx with ⟨rfl, rfl⟩ | ⟨rest, rfl⟩
  · simp [Rows.uptoBulk]
  · have := bulkAll_map f sz h l
    simp only [Rows.uptoBulk]; omega
/-- bytes, read -/
def DB : ElemD Try.prog UInt8 where
  toElem := EB
  cellsOf := cells_byte
  data := fun _ c => .lit (.int .u8 (c.toNat : Int))
  open_ := fun H enc w base sp held fuel cs x h => by
    obtain ⟨k, rfl, e2, hw⟩ := DataW.trod_int Try.underlying5 h
    have hb := bounds_u8 hw
    refine ⟨UInt8.ofNat k.toNat, ?_, ?_⟩
    · have : ((UInt8.ofNat k.toNat).toNat : Int) = k := by simp; omega
      show [Value.int .u8 k] = [Value.int .u8 ((UInt8.ofNat k.toNat).toNat : Int)]
      rw [this]
    · have : ((UInt8.ofNat k.toNat).toNat : Int) = k := by simp; omega
      rw [e2, this]
theorem bulk_byte {H : Type} (x : UInt8) : 0 + 1 ≤ Rows.uptoBulk (DB.data H x) := by
  show 0 + 1 ≤ Rows.uptoBulk (DataW.lit _)
  simp [Rows.uptoBulk]
theorem sum_zero (l : List UInt8) : (l.map fun _ => 0).sum = 0 := by
  induction l with
  | nil => rfl
  | cons c l ih => simp [ih]
section
variable {H : Type} {enc : TypeId × Value → H} {w : World} {base : Nat} {sp : Nat → Bool} {held : Bool} {r : Reach} {b0 : Nat} {v : Value} {d : DataW H} {ps : List MemPlace}
set_option maxRecDepth 100000 in
theorem open_bytesB (hval : Value.okWide Try.prog w r b0 46 v) (hd : DataW.Trod enc Try.prog w base sp held 46 v d ps) : ∃ l : List UInt8, BytesAt w v l ∧ l.length + 1 ≤ Rows.uptoBulk d := by
  obtain ⟨fuel, hf⟩ := hd
  obtain ⟨u, l, e, hs, hx⟩ := open_sliceE DB (x := (d, ps)) hf
  obtain ⟨a, n, c, rfl⟩ := okWide_slice (by kernel_rfl : Try.prog.underlying 46 = some (.slice 5)) hval
  obtain rfl : Value.slice a n c = u := by simpa [Value.cells] using e
  have := bulk_slice hx (fun _ => 0) bulk_byte
  rw [sum_zero] at this
  exact ⟨l, hs, by simpa using this⟩
end
end Go.Proofs.Ytniibcgomnjfgaa
/-! A path and a text as arguments: read, and laid again. -/
namespace Go.Proofs.Ytniibcgomnjfgaa
open Go.RowKit Go.Agg Go.ChangeMaps Go.ChangeShapes Go.WideShapes
section
variable {H : Type} {enc : TypeId × Value → H} {w : World} {base : Nat} {sp : Nat → Bool} {held : Bool}
def hashData {H : Type} (h : List UInt8) : DataW H := .agg (byteData h)
def pathData {H : Type} (h n : List UInt8) : DataW H := .agg [hashData h, .lit (.string n)]
theorem pC_take (h n : List UInt8) (hl : h.length = 20) : ((pC h n).toList.drop 0).take 20 = Lib.byteCells h := by
  rw [List.drop_zero, pC, hC]
  simp only [Array.toList_append]
  exact List.take_left' (by rw [Lib.byteCells_length, hl])
theorem pC_drop (h n : List UInt8) (hl : h.length = 20) : ((pC h n).toList.drop 20).take 1 = [.string ⟨n.toArray⟩] := by
  rw [pC, hC]
  simp only [Array.toList_append]
  rw [List.drop_left' (by rw [Lib.byteCells_length, hl])]
  rfl
theorem cells_hash : Try.prog.cellsOf 30 = 20 := by kernel_rfl
theorem cells_str : Try.prog.cellsOf 9 = 1 := by kernel_rfl
theorem cells_path : Try.prog.cellsOf 32 = 21 := by kernel_rfl
theorem open_path_cells {fuel : Nat} {cs : List Value} {x : DataW H × List MemPlace} (h : DataW.trod enc Try.prog w base sp held fuel 32 cs = some x) :
    ∃ h n : List UInt8, h.length = 20 ∧ n.length ≤ maxLen ∧ cs = (pC h n).toList ∧ x = (pathData h n, []) := by
  obtain ⟨xs, m, rfl, rfl, hl, hx, ha⟩ := DataW.trod_struct pC_under h
  have hf := path_fields
  generalize Try.prog.fieldsOf 32 = fs at *
  obtain ⟨fs⟩ := fs
  cases fs with
  | nil => exact absurd hf (by simp)
  | cons f1 fs =>
  cases fs with
  | nil => exact absurd hf (by simp)
  | cons f2 fs =>
  cases fs with
  | cons f3 fs => exact absurd hf (by simp)
  | nil =>
    simp only [List.map_cons, List.map_nil, List.cons.injEq, Prod.mk.injEq, and_true] at hf
    obtain ⟨⟨a1, a2, a3⟩, b1, b2, b3⟩ := hf
    match xs, hx with
    | [x1, x2], _ =>
      have h1 := ha 0 f1 rfl
      have h2 := ha 1 f2 rfl
      rw [a2, a3, cells_hash] at h1
      rw [b2, b3, cells_str] at h2
      obtain ⟨l, e1, e2, e3⟩ := open_bytes Try.underlying30 Try.underlying5 cells_byte cells_hash h1
      obtain ⟨s, e4, e5, e6⟩ := DataW.trod_string Try.underlying9 h2
      rw [cells_path] at hl
      refine ⟨l, s.data.toList, e1, e6, ?_, ?_⟩
      · have : cs = (cs.drop 0).take 20 ++ (cs.drop 20).take 1 := by
          rw [List.drop_zero, List.take_of_length_le (l := cs.drop 20) (by simp; omega), List.take_append_drop]
        rw [this, e2, e4]
        simp [pC, hC]
      · rw [e3, e5]; rfl
theorem shut_path_cells (h n : List UInt8) (hl : h.length = 20) (hn : n.length ≤ maxLen) : DataW.trod enc Try.prog w base sp held 3 32 (pC h n).toList = some (pathData h n, []) := by
  have hm : (Try.prog.fieldsOf 32).toList.mapM (fun f => DataW.trod enc Try.prog w base sp held 2 f.type (((pC h n).toList.drop f.offset).take (Try.prog.cellsOf f.type))) = some [(hashData h, []), (.lit (.string n), [])] := by
    have hf := path_fields
    generalize Try.prog.fieldsOf 32 = fs at *
    obtain ⟨fs⟩ := fs
    cases fs with
    | nil => exact absurd hf (by simp)
    | cons f1 fs =>
    cases fs with
    | nil => exact absurd hf (by simp)
    | cons f2 fs =>
    cases fs with
    | cons f3 fs => exact absurd hf (by simp)
    | nil =>
      simp only [List.map_cons, List.map_nil, List.cons.injEq, Prod.mk.injEq, and_true] at hf
      obtain ⟨⟨a1, a2, a3⟩, b1, b2, b3⟩ := hf
      have h1 := shut_bytes (enc := enc) (w := w) (base := base) (sp := sp) (held := held) Try.underlying30 Try.underlying5 cells_byte cells_hash h hl
      have h2 : DataW.trod enc Try.prog w base sp held 2 9 [.string ⟨n.toArray⟩] = some (.lit (.string n), []) := by
        simp only [DataW.trod, Try.underlying9]
        rw [if_pos (by simpa [ByteArray.size] using hn)]
      simp only [List.mapM_cons, List.mapM_nil, a2, a3, b2, b3, cells_hash, cells_str, pC_drop h n hl, pC_take h n hl, h1, h2]
      rfl
  exact trod_struct_mk pC_under (by rw [cells_path]; simp [pC_size, hl]) hm
set_option maxRecDepth 100000 in
theorem open_path {r : Reach} {b0 : Nat} {v : Value} {d : DataW H} {ps : List MemPlace} (hval : Value.okWide Try.prog w r b0 32 v) (hd : DataW.Trod enc Try.prog w base sp held 32 v d ps) :
    ∃ h n : List UInt8, v = .agg (pC h n) ∧ d = pathData h n ∧ ps = [] ∧ h.length = 20 ∧ n.length ≤ maxLen := by
  obtain ⟨cs, rfl, _⟩ := okWide_struct pC_under hval
  obtain ⟨fuel, hf⟩ := hd
  obtain ⟨h, n, hl, hn, e, e2⟩ := open_path_cells hf
  exact ⟨h, n, congrArg Value.agg (Array.ext' e), congrArg Prod.fst e2, congrArg Prod.snd e2, hl, hn⟩
theorem shut_path (h n : List UInt8) (hl : h.length = 20) (hn : n.length ≤ maxLen) : DataW.Trod enc Try.prog w base sp held 32 (.agg (pC h n)) (pathData h n) [] := ⟨3, shut_path_cells h n hl hn⟩
set_option maxRecDepth 100000 in
theorem open_text {r : Reach} {b0 : Nat} {v : Value} {d : DataW H} {ps : List MemPlace} (hval : Value.okWide Try.prog w r b0 9 v) (hd : DataW.Trod enc Try.prog w base sp held 9 v d ps) :
    ∃ s : List UInt8, v = .string ⟨s.toArray⟩ ∧ d = .lit (.string s) ∧ ps = [] ∧ s.length ≤ maxLen := by
  obtain ⟨s, rfl, rfl, rfl, hs⟩ := open_string Try.underlying9 hval hd
  exact ⟨s.data.toList, rfl, rfl, rfl, hs⟩
theorem shut_text (s : List UInt8) (hs : s.length ≤ maxLen) : DataW.Trod enc Try.prog w base sp held 9 (.string ⟨s.toArray⟩) (.lit (.string s)) [] := by
  have := shut_string (enc := enc) (w := w) (base := base) (sp := sp) (held := held) (s := ⟨s.toArray⟩) Try.underlying9 (by simpa [ByteArray.size] using hs)
  simpa using this
end
theorem maxLenCell {W : World} (h : W.ShapedOpen Try.prog) : ∃ m, W.cell? ⟨0, 0, none⟩ = some (.int .i64 m) :=
  cell_of_shapedOpen_int (g := 0) (t := 3) (zero := #[.int .i64 0]) h (of_decide_eq_true (by kernel_rfl)) (by kernel_rfl) rfl (by kernel_rfl) (by kernel_rfl) Try.underlying3
end Go.Proofs.Ytniibcgomnjfgaa
/-! A law that returns true and keeps all that was there: its row's proof; slices as arguments. -/
namespace Go.Proofs.Ytniibcgomnjfgaa
open Go.RowKit Go.Agg Go.ChangeMaps Go.ChangeShapes Go.WideShapes
/-- paths as elements -/
def D20 : ElemD Try.prog P20 where
  toElem := E20
  cellsOf := cells_path
  data := fun _ p => pathData p.1.1 p.1.2
  open_ := fun H enc w base sp held fuel cs x h => by
    obtain ⟨g, n, hl, _, e1, e2⟩ := open_path_cells h
    exact ⟨⟨(g, n), hl⟩, e1, e2⟩
theorem bulk_path {H : Type} (p : P20) : p.1.2.length + 1 ≤ Rows.uptoBulk (D20.data H p) := by
  show p.1.2.length + 1 ≤ Rows.uptoBulk (pathData p.1.1 p.1.2)
  simp only [pathData, Rows.uptoBulk, Rows.uptoBulkAll]; omega
set_option maxRecDepth 100000 in
theorem open_paths {H : Type} {enc : TypeId × Value → H} {w : World} {base : Nat} {sp : Nat → Bool} {held : Bool} {r : Reach} {b0 : Nat} {v : Value} {d : DataW H} {ps : List MemPlace} (hval : Value.okWide Try.prog w r b0 40 v) (hd : DataW.Trod enc Try.prog w base sp held 40 v d ps) :
    ∃ l : List P20, ElemsAt w v l ∧ (l.map fun p => p.1.2.length).sum + l.length + 1 ≤ Rows.uptoBulk d := by
  obtain ⟨fuel, hf⟩ := hd
  obtain ⟨u, l, e, hs, hx⟩ := open_sliceE D20 (x := (d, ps)) hf
  obtain ⟨a, n, c, rfl⟩ := okWide_slice Try.underlying40 hval
  obtain rfl : Value.slice a n c = u := by simpa [Value.cells] using e
  exact ⟨l, hs, bulk_slice hx _ bulk_path⟩
set_option maxRecDepth 100000 in
theorem open_path20 {H : Type} {enc : TypeId × Value → H} {w : World} {base : Nat} {sp : Nat → Bool} {held : Bool} {r : Reach} {b0 : Nat} {v : Value} {d : DataW H} {ps : List MemPlace} (hval : Value.okWide Try.prog w r b0 32 v) (hd : DataW.Trod enc Try.prog w base sp held 32 v d ps) :
    ∃ p : P20, v = .agg (pC p.1.1 p.1.2) ∧ p.1.2.length + 1 ≤ Rows.uptoBulk d := by
  obtain ⟨h, n, rfl, rfl, _, hl, _⟩ := open_path hval hd
  exact ⟨⟨(h, n), hl⟩, rfl, by simp only [pathData, Rows.uptoBulk, Rows.uptoBulkAll]; omega⟩
end Go.Proofs.Ytniibcgomnjfgaa
/-! Builts as arguments. -/
namespace Go.Proofs.Ytniibcgomnjfgaa
open Go.RowKit Pl Go.Agg Go.ChangeMaps Go.ChangeShapes Go.WideShapes
theorem bulkAll_le {H : Type} : ∀ (ds : List (DataW H)) (ss : List Nat), ss.length = ds.length → (∀ (i : Nat) (s : Nat) (d : DataW H), ss[i]? = some s → ds[i]? = some d → s + 1 ≤ Rows.uptoBulk d) → ss.sum + ss.length ≤ Rows.uptoBulkAll ds
  | [], [], _, _ => by simp [Rows.uptoBulkAll]
  | [], s :: ss, h, _ => by simp at h
  | d :: ds, [], h, _ => by simp at h
  | d :: ds, s :: ss, h, hb => by
    have h1 := bulkAll_le ds ss (by simpa using h) (fun i s d hs hd => hb (i + 1) s d (by simpa using hs) (by simpa using hd))
    have h2 := hb 0 s d rfl rfl
    simp only [List.sum_cons, List.length_cons, Rows.uptoBulkAll]; omega
/-- a slice whose elements are such as a relation says -/
theorem open_sliceR {P : Program} {α : Type} [Inhabited α] (E : Elem P α) (hcell : P.cellsOf E.ty = E.n) {H : Type} {enc : TypeId × Value → H} {w : World} {base : Nat} {sp : Nat → Bool} {held : Bool} (R : α → DataW H → Prop)
    (hop : ∀ (fuel : Nat) (cs : List Value) (x : DataW H × List MemPlace), DataW.trod enc P w base sp held fuel E.ty cs = some x → ∃ a, cs = (E.val a).cells.toList ∧ R a x.1)
    {fuel : Nat} {cs : List Value} {x : DataW H × List MemPlace} (h : DataW.trod enc P w base sp held fuel E.st cs = some x) :
    ∃ (v : Value) (l : List α), cs = [v] ∧ SliceOf E w v l ∧ (∀ p n c, v = .slice p n c → n ≤ c) ∧ (∀ a ∈ l, ∃ d, R a d) ∧ ∀ sz : α → Nat, (∀ a d, R a d → sz a + 1 ≤ Rows.uptoBulk d) → (l.map sz).sum + l.length + 1 ≤ Rows.uptoBulk x.1 := by
  rcases Go.Deep.open_slice E.slice h with ⟨rfl, rfl⟩ | ⟨a, len, cap, m, n, D, Pl, rfl, _, hlc, _, hm, rfl, hel⟩
  · exact ⟨_, [], rfl, SliceOf.nil _ _ _, fun p n c e => by injection e; omega, by simp, fun sz _ => by simp [Rows.uptoBulk]⟩
  · have hlm : len ≤ m := by rw [hm]; split <;> omega
    have each : ∀ i, i < len → ∃ b : α, (∀ j u, (E.val b).cells[j]? = some u → w.cell? ((a.add (i * E.n)).add j) = some u) ∧ R b (D i) := fun i hi => by
      obtain ⟨cs', hc, ht⟩ := hel i (by omega)
      rw [hcell] at hc
      obtain ⟨b, rfl, hx⟩ := hop n cs' _ ht
      obtain ⟨_, hcl, hat⟩ := World.cells?_some hc
      refine ⟨b, fun j u hj => ?_, hx⟩
      have hjn : j < E.n := by have := (Array.getElem?_eq_some_iff.1 hj).1; rw [E.size] at this; exact this
      rw [hat j hjn]
      simpa using hj
    obtain ⟨f, hf⟩ := Go.Deep.choose_lt each
    refine ⟨_, (List.range len).map f, rfl, ?_, fun p n c e => by injection e; omega, ?_, fun sz hsz => ?_⟩
    · by_cases h0 : len = 0
      · subst h0; exact SliceOf.nil _ _ _
      · have hb : a.block < w.heap.size := by
          have hpos := E.pos
          have hc0 := (hf 0 (by omega)).1 0 _ (Array.getElem?_eq_getElem (by rw [E.size]; exact hpos))
          have := block_lt_of_cell hc0
          rwa [add_block, add_block] at this
        refine .inr ⟨a, cap, by simp, hb, fun j u hj => ?_⟩
        obtain ⟨k, b, i, h1, h2, rfl⟩ := Elem.flat_all E _ j u hj
        obtain ⟨hk, hkb⟩ := List.getElem?_eq_some_iff.1 h1
        have hkl : k < len := by simpa using hk
        have hfb : f k = b := by simpa using hkb
        subst hfb
        rw [← add_add]
        exact (hf k hkl).1 i u h2
    · intro b hb
      obtain ⟨i, hi, rfl⟩ := List.mem_map.1 hb
      exact ⟨_, (hf i (List.mem_range.1 hi)).2⟩
    · have := bulkAll_le ((List.range len).map D) (((List.range len).map f).map sz) (by simp) (fun i s d hs hd => by
        obtain ⟨hi, rfl⟩ := List.getElem?_eq_some_iff.1 hs
        obtain ⟨hi', rfl⟩ := List.getElem?_eq_some_iff.1 hd
        simp only [List.getElem_map, List.getElem_range]
        exact hsz _ _ (hf i (by simpa using hi)).2)
      simp only [Rows.uptoBulk, List.length_map] at this ⊢; omega
section
variable {H : Type} {enc : TypeId × Value → H} {w : World} {base : Nat} {sp : Nat → Bool} {held : Bool}
theorem cells_made : Try.prog.cellsOf 55 = 41 := by kernel_rfl
theorem cells_built : Try.prog.cellsOf 35 = 63 := by kernel_rfl
theorem cells_mades : Try.prog.cellsOf 33 = 1 := by kernel_rfl
theorem cells_int' : Try.prog.cellsOf 3 = 1 := by kernel_rfl
theorem mC_fields : (Try.prog.fieldsOf 55).toList.map (fun f => (f.name, f.type, f.offset)) = [("Class", 30, 0), ("Path", 32, 20)] := by kernel_rfl
theorem bC_fields : (Try.prog.fieldsOf 35).toList.map (fun f => (f.name, f.type, f.offset)) = [("Class", 30, 0), ("Key", 30, 20), ("Path", 32, 40), ("By", 3, 61), ("Inputs", 33, 62)] := by kernel_rfl
def mdData (H : Type) (x : Md) : DataW H := .agg [hashData x.1.1, pathData x.2.1.1 x.2.1.2]
def szMd (x : Md) : Nat := x.2.1.2.length
def szBu (x : BuV) : Nat := (x.1.ins.map szMd).sum + x.1.ins.length + x.1.pa.1.2.length
theorem chunkB (cs : List Value) (n m : Nat) : cs.drop n = (cs.drop n).take m ++ cs.drop (n + m) := by rw [← List.drop_drop, List.take_append_drop]
theorem open_md_cells {fuel : Nat} {cs : List Value} {x : DataW H × List MemPlace} (h : DataW.trod enc Try.prog w base sp held fuel 55 cs = some x) : ∃ i : Md, cs = (mC i).toList ∧ x = (mdData H i, []) := by
  obtain ⟨xs, m, rfl, rfl, hl, hx, ha⟩ := DataW.trod_struct mC_under h
  have hf := mC_fields
  generalize Try.prog.fieldsOf 55 = fs at *
  obtain ⟨fs⟩ := fs
  cases fs with
  | nil => exact absurd hf (by simp)
  | cons f1 fs =>
  cases fs with
  | nil => exact absurd hf (by simp)
  | cons f2 fs =>
  cases fs with
  | cons f3 fs => exact absurd hf (by simp)
  | nil =>
    simp only [List.map_cons, List.map_nil, List.cons.injEq, Prod.mk.injEq, and_true] at hf
    obtain ⟨⟨a1, a2, a3⟩, b1, b2, b3⟩ := hf
    match xs, hx with
    | [x1, x2], _ =>
      have h1 := ha 0 f1 rfl
      have h2 := ha 1 f2 rfl
      rw [a2, a3, cells_hash] at h1
      rw [b2, b3, cells_path] at h2
      obtain ⟨l, e3, e4, e5⟩ := open_bytes Try.underlying30 Try.underlying5 cells_byte cells_hash h1
      obtain ⟨g, n, hg, _, e1, e2⟩ := open_path_cells h2
      rw [cells_made] at hl
      refine ⟨(⟨l, e3⟩, ⟨(g, n), hg⟩), ?_, ?_⟩
      · generalize cs = L at *
        have h0 : L = L.drop 0 := rfl
        rw [h0, chunkB L 0 20, e4, chunkB L (0 + 20) 21, e1, show L.drop (0 + 20 + 21) = [] from List.drop_eq_nil_of_le (by omega)]
        simp [mC, hC]
      · rw [e2, e5]; rfl
end
instance : Inhabited Md := ⟨zM⟩
instance : Inhabited BuV := ⟨(zB, none, 0, 0)⟩
/-- what was made, read -/
def DMd : ElemD Try.prog Md where
  toElem := EMd
  cellsOf := cells_made
  data := mdData
  open_ := fun _ _ _ _ _ _ _ _ _ h => open_md_cells h
theorem bulk_md {H : Type} (x : Md) : szMd x + 1 ≤ Rows.uptoBulk (DMd.data H x) := by
  show szMd x + 1 ≤ Rows.uptoBulk (mdData H x)
  simp only [mdData, pathData, Rows.uptoBulk, Rows.uptoBulkAll, szMd]; omega
section
variable {H : Type} {enc : TypeId × Value → H} {w : World} {base : Nat} {sp : Nat → Bool} {held : Bool} {r : Reach} {b0 : Nat} {v : Value} {d : DataW H} {ps : List MemPlace}
theorem open_bu_cells {fuel : Nat} {cs : List Value} {x : DataW H × List MemPlace} (h : DataW.trod enc Try.prog w base sp held fuel 35 cs = some x) : ∃ i : BuV, cs = (bC i).toList ∧ InsAt w i ∧ szBu i + 1 ≤ Rows.uptoBulk x.1 := by
  obtain ⟨xs, m, rfl, rfl, hl, hx, ha⟩ := DataW.trod_struct bC_under h
  have hf := bC_fields
  generalize Try.prog.fieldsOf 35 = fs at *
  obtain ⟨fs⟩ := fs
  cases fs with
  | nil => exact absurd hf (by simp)
  | cons f1 fs =>
  cases fs with
  | nil => exact absurd hf (by simp)
  | cons f2 fs =>
  cases fs with
  | nil => exact absurd hf (by simp)
  | cons f3 fs =>
  cases fs with
  | nil => exact absurd hf (by simp)
  | cons f4 fs =>
  cases fs with
  | nil => exact absurd hf (by simp)
  | cons f5 fs =>
  cases fs with
  | cons f6 fs => exact absurd hf (by simp)
  | nil =>
    simp only [List.map_cons, List.map_nil, List.cons.injEq, Prod.mk.injEq, and_true] at hf
    obtain ⟨⟨a1, a2, a3⟩, ⟨b1, b2, b3⟩, ⟨c1, c2, c3⟩, ⟨d1, d2, d3⟩, e1, e2, e3⟩ := hf
    match xs, hx with
    | [x1, x2, x3, x4, x5], _ =>
      have h1 := ha 0 f1 rfl
      have h2 := ha 1 f2 rfl
      have h3 := ha 2 f3 rfl
      have h4 := ha 3 f4 rfl
      have h5 := ha 4 f5 rfl
      rw [a2, a3, cells_hash] at h1
      rw [b2, b3, cells_hash] at h2
      rw [c2, c3, cells_path] at h3
      rw [d2, d3, cells_int'] at h4
      rw [e2, e3, cells_mades] at h5
      obtain ⟨cl, p1, p2, p3⟩ := open_bytes Try.underlying30 Try.underlying5 cells_byte cells_hash h1
      obtain ⟨ky, q1, q2, q3⟩ := open_bytes Try.underlying30 Try.underlying5 cells_byte cells_hash h2
      obtain ⟨g, n, hg, _, u1, u2⟩ := open_path_cells h3
      obtain ⟨by_, k1, k2, _⟩ := DataW.trod_int Try.underlying3 h4
      obtain ⟨iv, ins, l1, hs5, hx5⟩ := open_sliceE DMd h5
      obtain ⟨ip, ic, rfl⟩ := hs5.form
      rw [cells_built] at hl
      refine ⟨(⟨⟨cl, p1⟩, ⟨ky, q1⟩, ⟨(g, n), hg⟩, by_, ins⟩, ip, ins.length, ic), ?_, hs5, ?_⟩
      · generalize cs = L at *
        have h0 : L = L.drop 0 := rfl
        rw [h0, chunkB L 0 20, p2, chunkB L (0 + 20) 20, q2, chunkB L (0 + 20 + 20) 21, u1, chunkB L (0 + 20 + 20 + 21) 1, k1, chunkB L (0 + 20 + 20 + 21 + 1) 1, l1, show L.drop (0 + 20 + 20 + 21 + 1 + 1) = [] from List.drop_eq_nil_of_le (by omega)]
        simp [bC, hC, ivV]
      · have hb := bulk_slice hx5 _ bulk_md
        rw [p3, q3, u2, k2]
        simp only [List.map_cons, List.map_nil, Rows.uptoBulk, Rows.uptoBulkAll, pathData, szBu]
        omega
set_option maxRecDepth 100000 in
theorem open_builts (hval : Value.okWide Try.prog w r b0 22 v) (hd : DataW.Trod enc Try.prog w base sp held 22 v d ps) :
    ∃ l : List BuV, BusAt w v l ∧ (∀ p n c, v = .slice p n c → n ≤ c) ∧ (l.map szBu).sum + l.length + 1 ≤ Rows.uptoBulk d := by
  obtain ⟨fuel, hf⟩ := hd
  obtain ⟨u, l, e, hs, hcap, hin, hx⟩ := open_sliceR EBu cells_built (fun a d => InsAt w a ∧ szBu a + 1 ≤ Rows.uptoBulk d) (fun fuel cs x h => open_bu_cells h) (x := (d, ps)) hf
  obtain ⟨a, n, c, rfl⟩ := okWide_slice Try.underlying22 hval
  obtain rfl : Value.slice a n c = u := by simpa [Value.cells] using e
  exact ⟨l, ⟨hs, fun x hx => (hin x hx).elim fun _ h => h.1⟩, hcap, hx szBu fun a d h => h.2⟩
set_option maxRecDepth 100000 in
theorem open_intBu (hval : Value.okWide Try.prog w r b0 3 v) (hd : DataW.Trod enc Try.prog w base sp held 3 v d ps) : ∃ x : Int, v = .int .i64 x ∧ 0 ≤ Rows.uptoBulk d := by
  obtain ⟨fuel, hf⟩ := hd
  obtain ⟨k, h, _, _⟩ := DataW.trod_int Try.underlying3 hf
  refine ⟨k, ?_, Nat.zero_le _⟩
  obtain ⟨y, rfl⟩ := okWide_int Try.underlying3 hval
  simpa [Value.cells] using h
end
theorem mem_sum : ∀ (l : List Nat) (n : Nat), n ∈ l → n ≤ l.sum
  | a :: l, n, h => by
    rcases List.mem_cons.1 h with rfl | h
    · simp
    · have := mem_sum l n h
      simp only [List.sum_cons]; omega
theorem bu_small {l : List BuV} {d : Nat} (h : (l.map szBu).sum + l.length + 1 ≤ d) (hd : d ≤ 1048576) : ∀ x ∈ l, x.1.ins.length ≤ 1048576 ∧ x.1.pa.1.2.length ≤ 1048576 ∧ ∀ m ∈ x.1.ins, m.2.1.2.length ≤ 1048576 := by
  intro x hx
  have h1 : (x.1.ins.map szMd).sum + x.1.ins.length + x.1.pa.1.2.length ≤ (l.map szBu).sum := mem_sum _ _ (List.mem_map.2 ⟨x, hx, rfl⟩)
  refine ⟨by omega, by omega, fun m hm => ?_⟩
  have h2 : m.2.1.2.length ≤ (x.1.ins.map szMd).sum := mem_sum _ _ (List.mem_map.2 ⟨m, hm, rfl⟩)
  omega
end Go.Proofs.Ytniibcgomnjfgaa
/-! A hash as an argument. -/
namespace Go.Proofs.Ytniibcgomnjfgaa
open Go.RowKit Pl Go.Agg Go.ChangeMaps Go.ChangeShapes Go.WideShapes
theorem okWide_arrayH {P : Program} {w : World} {r : Reach} {base : Nat} {t e : TypeId} {n : Nat} {v : Value} (ht : P.underlying t = some (.array n e)) (h : Value.okWide P w r base t v) : ∃ cs, v = .agg cs := by
  unfold Value.okWide at h
  rw [ht] at h
  obtain ⟨cs, rfl, _⟩ := h
  exact ⟨cs, rfl⟩
set_option maxRecDepth 100000 in
theorem open_hash20 {H : Type} {enc : TypeId × Value → H} {w : World} {base : Nat} {sp : Nat → Bool} {held : Bool} {r : Reach} {b0 : Nat} {v : Value} {d : DataW H} {ps : List MemPlace} (hval : Value.okWide Try.prog w r b0 30 v) (hd : DataW.Trod enc Try.prog w base sp held 30 v d ps) :
    ∃ h : H20, v = .agg (hC h.1) ∧ 0 ≤ Rows.uptoBulk d := by
  obtain ⟨cs, rfl⟩ := okWide_arrayH Try.underlying30 hval
  obtain ⟨fuel, hf⟩ := hd
  obtain ⟨l, h1, h2, _⟩ := open_bytes Try.underlying30 Try.underlying5 cells_byte cells_hash hf
  exact ⟨⟨l, h1⟩, congrArg Value.agg (Array.ext' (by simpa [hC, Value.cells] using h2)), Nat.zero_le _⟩
end Go.Proofs.Ytniibcgomnjfgaa
