/- Derivations and bytes as arguments. (Several texts in one.) -/
import Derived.Test.YtfiadgdinhmgbaaDoorHAF
import Derived.Test.YtfiadgdinhmgbaaDoorHAB
import Derived.Test.YtfiadgdinhmgbaaDoorHAG
import Derived.Test.YtfiadgdinhmgbaaDoorHAH
import Derived.Test.YtfiadgdinhmgbaaDoorHAE
import Derived.Sort.Statements
import Derived.Test.YtfiadgdinhmgbaaDoorHAN
import Derived.Lib.Bytealg
import Derived.Lib.BytesEntry
/-! wire.Frame. -/
namespace Go.Proofs.YtfiadgdinhmgbaaDoor
open Go.RowKit Pl Go.Agg
end Go.Proofs.YtfiadgdinhmgbaaDoor
/-! spencekit.SameRows, BytesOf, Pick. -/
namespace Go.Proofs.YtfiadgdinhmgbaaDoor
open Go.RowKit Pl Go.Agg
/-! BytesOf -/
def bytesGo (m : Nat) : Nat → List (List UInt8) → Nat
 | n, [] => n
 | n, x :: l => if n ≤ m then bytesGo m (n + 1 + x.length) l else n
def bytesSz (l : List (List UInt8)) : Nat := (l.map fun x => 1 + x.length).sum
theorem bytesGo_le (m : Nat) (l : List (List UInt8)) (n : Nat) : bytesGo m n l ≤ n + bytesSz l := by
 induction l generalizing n with
 | nil => simp [bytesGo]
 | cons x l ih =>
  unfold bytesGo
  split
  ·have := ih (n + 1 + x.length)
   simp only [bytesSz, List.map_cons, List.sum_cons] at this ⊢; omega
  ·simp only [bytesSz, List.map_cons, List.sum_cons]; omega
theorem bytesGo_all (m : Nat) (l : List (List UInt8)) (n : Nat) (h : bytesGo m n l ≤ m) : n + bytesSz l ≤ m := by
 induction l generalizing n with
 | nil => simpa [bytesGo, bytesSz] using h
 | cons x l ih =>
  unfold bytesGo at h
  split at h
  ·have := ih _ h
   simp only [bytesSz, List.map_cons, List.sum_cons] at this ⊢; omega
  ·omega
theorem drop_at' {α : Type} {l : List α} {k : Nat} {x : α} (h : l[k]? = some x) : l.drop k = x :: l.drop (k + 1) := by
 obtain ⟨hk, rfl⟩ := List.getElem?_eq_some_iff.1 h
 exact List.drop_eq_getElem_cons hk
theorem ret_nat' {a b : Nat} (h : a = b) : Ending.returned (.int .i64 (a : Int)) = .returned (.int .i64 (b : Int)) := by rw [h]
end Go.Proofs.YtfiadgdinhmgbaaDoor
/-! Rows of bytes, bytes with their spare room, numbers, as arguments. -/
namespace Go.Proofs.YtfiadgdinhmgbaaDoor
open Go.RowKit Pl Go.Agg Go.ChangeMaps Go.ChangeShapes Go.WideShapes
section
variable {H : Type} {enc : TypeId × Value → H} {w : World} {base : Nat} {sp : Nat → Bool} {held : Bool} {r : Reach} {b0 : Nat} {v : Value} {d : DataW H} {ps : List MemPlace}
theorem cells_bytes' : Tryd.prog.cellsOf 23 = 1 := by kernel_rfl
theorem under_bytes : Tryd.prog.underlying 23 = some (.slice 5) := by kernel_rfl
theorem under_rows : Tryd.prog.underlying 135 = some (.slice 23) := by kernel_rfl
set_option maxRecDepth 100000 in
theorem open_bytesC (hval : Value.okWide Tryd.prog w r b0 23 v) (hd : DataW.Trod enc Tryd.prog w base sp held 23 v d ps) : ∃ l : List UInt8, BytesAt w v l ∧ (∀ p n c, v = .slice p n c → n ≤ c) ∧ l.length + 1 ≤ Rows.uptoBulk d := by
 obtain ⟨l, h1, h2⟩ := open_bytesB hval hd
 refine ⟨l, h1, ?_, h2⟩
 obtain ⟨fuel, hf⟩ := hd
 obtain ⟨a, n, c, rfl⟩ := okWide_slice under_bytes hval
 rcases Go.Deep.open_slice under_bytes hf with ⟨h, _⟩ | ⟨_, _, _, _, _, _, _, h, _, hlc, _⟩
 ·have : Value.slice a n c = .slice none 0 0 := by simpa [Value.cells] using h
  intro p n' c' e
  rw [this] at e
  injection e with _ e1 e2
  omega
 ·have := h
  simp only [Value.cells, List.cons.injEq, and_true] at this
  intro p n' c' e
  rw [this] at e
  injection e with _ e1 e2
  omega
set_option maxRecDepth 100000 in
theorem open_rowsB (hval : Value.okWide Tryd.prog w r b0 135 v) (hd : DataW.Trod enc Tryd.prog w base sp held 135 v d ps) :
  ∃ (vs : List SV) (ls : List (List UInt8)), BBAt w v vs ∧ RowsIn w vs ls ∧ bytesSz ls + 1 ≤ Rows.uptoBulk d := by
 obtain ⟨fuel, hf⟩ := hd
 obtain ⟨a0, n0, c0, rfl⟩ := okWide_slice under_rows hval
 rcases Go.Deep.open_slice1 under_rows cells_bytes' hf with ⟨h, hx⟩ | ⟨a, len, cap, m, n, V, D, Pl, h, _, hlc, _, hm, hx, hel⟩
 ·refine ⟨[], [], ?_, ⟨rfl, fun k s l h => by simp at h⟩, ?_⟩
  ·have : Value.slice a0 n0 c0 = .slice none 0 0 := by simpa [Value.cells] using h
   rw [this]
   exact SliceOf.nil _ _ _
  ·have : d = .nil := congrArg Prod.fst hx
   rw [this]; simp [bytesSz, Rows.uptoBulk]
 ·have hv : Value.slice a0 n0 c0 = .slice (some a) len cap := by simpa [Value.cells] using h
  rw [hv]
  have hlm : len ≤ m := by rw [hm]; split <;> omega
  have each : ∀ i, i < len → ∃ b : SV × List UInt8, w.cell? (a.add i) = some b.1.1 ∧ BytesAt w b.1.1 b.2 ∧ 1 + b.2.length ≤ Rows.uptoBulk (D i) := fun i hi => by
   obtain ⟨hc, ht⟩ := hel i (by omega)
   obtain ⟨u, l, e, hs, hsh⟩ := open_sliceE DB ht
   obtain rfl : V i = u := by simpa using e
   obtain ⟨p, c, hform⟩ := hs.form
   have hbk := bulk_slice hsh (fun _ => 0) bulk_byte
   rw [sum_zero] at hbk
   have hbk' : l.length + 1 ≤ Rows.uptoBulk (D i) := by simpa using hbk
   exact ⟨(⟨V i, p, _, c, hform⟩, l), hc, hs, by show 1 + l.length ≤ Rows.uptoBulk (D i); omega⟩
  haveI : Inhabited (SV × List UInt8) := ⟨(⟨.slice none 0 0, none, 0, 0, rfl⟩, [])⟩
  obtain ⟨f, hff⟩ := Go.Deep.choose_lt each
  refine ⟨(List.range len).map fun i => (f i).1, (List.range len).map fun i => (f i).2, ?_, ⟨by simp, fun k s l h1 h2 => ?_⟩, ?_⟩
  ·by_cases h0 : len = 0
   ·subst h0; exact SliceOf.nil _ _ _
   ·have hb : a.block < w.heap.size := by
     have := block_lt_of_cell (hff 0 (by omega)).1
     rwa [add_block] at this
    refine .inr ⟨a, cap, by simp, hb, fun j u hj => ?_⟩
    obtain ⟨k, b, i, h1, h2, rfl⟩ := Elem.flat_all EBB _ j u hj
    obtain ⟨hk, hkb⟩ := List.getElem?_eq_some_iff.1 h1
    have hkl : k < len := by simpa using hk
    have hfb : (f k).1 = b := by simpa using hkb
    subst hfb
    have hn : EBB.n = 1 := rfl
    have hi : i = 0 := by
     have := (Array.getElem?_eq_some_iff.1 h2).1
     rw [EBB.size] at this
     omega
    subst hi
    have h2' : (f k).1.1 = u := by
     have hc := sv_cells (f k).1
     have : (EBB.val (f k).1).cells = #[(f k).1.1] := hc
     rw [this] at h2
     simpa using h2
    rw [hn, Nat.mul_one, Nat.add_zero, (hff k hkl).1, h2']
  ·obtain ⟨hk, rfl⟩ := List.getElem?_eq_some_iff.1 h1
   obtain ⟨hk2, rfl⟩ := List.getElem?_eq_some_iff.1 h2
   have hkl : k < len := by simpa using hk
   simpa using (hff k hkl).2.1
  ·have hd2 : d = .slice ((List.range len).map D) ((List.range (m - len)).map fun j => D (len + j)) := congrArg Prod.fst hx
   rw [hd2]
   have hsum : ∀ is : List Nat, (∀ i ∈ is, i < len) → bytesSz (is.map fun i => (f i).2) ≤ Rows.uptoBulkAll (is.map D) := by
    intro is
    induction is with
    | nil => intro _; simp [bytesSz, Rows.uptoBulkAll]
    | cons i is ih =>
     intro hin
     have h1 := (hff i (hin i (by simp))).2.2
     have h2 := ih fun k hk => hin k (by simp [hk])
     simp only [bytesSz, List.map_cons, List.sum_cons, Rows.uptoBulkAll] at h2 ⊢
     omega
   have := hsum (List.range len) fun i hi => List.mem_range.1 hi
   simp only [Rows.uptoBulk]
   omega
set_option maxRecDepth 100000 in
theorem open_intC (hval : Value.okWide Tryd.prog w r b0 3 v) (hd : DataW.Trod enc Tryd.prog w base sp held 3 v d ps) : ∃ x : Int, v = .int .i64 x ∧ 0 ≤ Rows.uptoBulk d := by
 obtain ⟨fuel, hf⟩ := hd
 obtain ⟨k, h, _, _⟩ := DataW.trod_int Tryd.underlying3 hf
 refine ⟨k, ?_, Nat.zero_le _⟩
 obtain ⟨y, rfl⟩ := okWide_int Tryd.underlying3 hval
 simpa [Value.cells] using h
end
end Go.Proofs.YtfiadgdinhmgbaaDoor
/-! A path and a text as arguments: read, and laid again. -/
namespace Go.Proofs.YtfiadgdinhmgbaaDoor
open Go.RowKit Go.Agg Go.ChangeMaps Go.ChangeShapes Go.WideShapes
section
variable {H : Type} {enc : TypeId × Value → H} {w : World} {base : Nat} {sp : Nat → Bool} {held : Bool}
def hashData {H : Type} (h : List UInt8) : DataW H := .agg (byteData h)
def pathData {H : Type} (h n : List UInt8) : DataW H := .agg [hashData h, .lit (.string n)]
theorem pC_take (h n : List UInt8) (hl : h.length = 20) : ((pC h n).toList.drop 0).take 20 = Lib.byteCells h := by
 rw [List.drop_zero, pC, hC]
 simp only [Array.toList_append]
 exact List.take_left' (by rw [Lib.byteCells_length, hl])
theorem pC_drop (h n : List UInt8) (hl : h.length = 20) : ((pC h n).toList.drop 20).take 1 = [.string ⟨n.toArray⟩] := by
 rw [pC, hC]
 simp only [Array.toList_append]
 rw [List.drop_left' (by rw [Lib.byteCells_length, hl])]
 rfl
theorem cells_str : Tryd.prog.cellsOf 9 = 1 := by kernel_rfl
set_option maxRecDepth 100000 in
theorem open_text {r : Reach} {b0 : Nat} {v : Value} {d : DataW H} {ps : List MemPlace} (hval : Value.okWide Tryd.prog w r b0 9 v) (hd : DataW.Trod enc Tryd.prog w base sp held 9 v d ps) :
  ∃ s : List UInt8, v = .string ⟨s.toArray⟩ ∧ d = .lit (.string s) ∧ ps = [] ∧ s.length ≤ maxLen := by
 obtain ⟨s, rfl, rfl, rfl, hs⟩ := open_string Tryd.underlying9 hval hd
 exact ⟨s.data.toList, rfl, rfl, rfl, hs⟩
theorem shut_text (s : List UInt8) (hs : s.length ≤ maxLen) : DataW.Trod enc Tryd.prog w base sp held 9 (.string ⟨s.toArray⟩) (.lit (.string s)) [] := by
 have := shut_string (enc := enc) (w := w) (base := base) (sp := sp) (held := held) (s := ⟨s.toArray⟩) Tryd.underlying9 (by simpa [ByteArray.size] using hs)
 simpa using this
end
theorem maxLenCell {W : World} (h : W.ShapedOpen Tryd.prog) : ∃ m, W.cell? ⟨0, 0, none⟩ = some (.int .i64 m) :=
 cell_of_shapedOpen_int (g := 0) (t := 3) (zero := #[.int .i64 0]) h (of_decide_eq_true (by kernel_rfl)) (by kernel_rfl) rfl (by kernel_rfl) (by kernel_rfl) Tryd.underlying3
end Go.Proofs.YtfiadgdinhmgbaaDoor
/-! A law that returns true and keeps all that was there: its row's proof; slices as arguments. -/
namespace Go.Proofs.YtfiadgdinhmgbaaDoor
open Go.RowKit Go.Agg Go.ChangeMaps Go.ChangeShapes Go.WideShapes
end Go.Proofs.YtfiadgdinhmgbaaDoor
/-! A path as a map's key. -/
namespace Go.Proofs.YtfiadgdinhmgbaaDoor
open Go.RowKit Pl Go.Mp Go.Agg Go.Instr
theorem part_byte (h : List UInt8) (i : Nat) (hi : i < h.length) (w : World) : (Go.part 5 (hC h) i).run Tryd.prog w = .ok (.int .u8 (h[i].toNat : Int)) w := by
 unfold Go.part
 have : (isAgg 5).run Tryd.prog w = .ok false w := by kernel_rfl
 simp only [Sem.run_bind, this, Result.andThen_ok, Bool.false_eq_true, if_false, hC_get h i hi, Sem.run_pure]
theorem check_byte (e : Bool) (n : Nat) (k : Int) (w : World) : (checkKey e (n + 1) 5 (.int .u8 k)).run Tryd.prog w = .ok () w := by
 unfold checkKey
 rw [Sem.run_bind, run_underlying Tryd.underlying5 w]
 simp [Result.andThen]
theorem bits_all (n : Nat) : ∀ (l : List Value), (∀ v ∈ l, sameBits n v v = true) → (l.zip l).all (fun (x, y) => sameBits n x y) = true
 | [], _ => rfl
 | v :: l, h => by
  simp only [List.zip_cons_cons, List.all_cons, Bool.and_eq_true]
  exact ⟨h v (by simp), bits_all n l fun u hu => h u (by simp [hu])⟩
theorem bits_path (n : Nat) (p : P20) : sameBits (n + 1) (pV p) (pV p) = true := by
 unfold pV sameBits
 simp only [beq_self_eq_true, Bool.true_and]
 refine bits_all n _ fun v hv => ?_
 simp only [pC, hC, Lib.byteCells, Array.toList_append, List.mem_append, List.mem_map] at hv
 rcases hv with ⟨c, _, rfl⟩ | hv
 ·unfold sameBits; simp
 ·obtain rfl : v = .string ⟨p.1.2.toArray⟩ := by simpa using hv
  unfold sameBits
  rw [beq_toListBytes]
  simp
end Go.Proofs.YtfiadgdinhmgbaaDoor
/-! Paths in order: the plain law of both Sorted. -/
namespace Go.Proofs.YtfiadgdinhmgbaaDoor
open Pl
open Go.Lib (compareBytes)
theorem bytesLess_trans : ∀ (a b c : List UInt8), Op.bytesLess a b = true → Op.bytesLess b c = true → Op.bytesLess a c = true
 | [], [], _, h, _ => by simp [Op.bytesLess] at h
 | [], _ :: _, [], _, h => by simp [Op.bytesLess] at h
 | [], _ :: _, _ :: _, _, _ => by simp [Op.bytesLess]
 | _ :: _, [], _, h, _ => by simp [Op.bytesLess] at h
 | _ :: _, _ :: _, [], _, h => by simp [Op.bytesLess] at h
 | x :: a, y :: b, z :: c, h1, h2 => by
  simp only [Op.bytesLess, Bool.or_eq_true, Bool.and_eq_true, decide_eq_true_eq, beq_iff_eq] at h1 h2 ⊢
  rcases h1 with h1 | ⟨rfl, h1⟩
  ·rcases h2 with h2 | ⟨rfl, h2⟩
   ·exact .inl (UInt8.lt_trans h1 h2)
   ·exact .inl h1
  ·rcases h2 with h2 | ⟨rfl, h2⟩
   ·exact .inl h2
   ·exact .inr ⟨rfl, bytesLess_trans a b c h1 h2⟩
def cmp20 (p q : P20) : Int := cmpP p.1.1 p.1.2 q.1.1 q.1.2
def lt20 (p q : P20) : Bool := decide (cmp20 p q < 0)
theorem lt20_eq (p q : P20) : lt20 p q = if p.1.1 == q.1.1 then Op.bytesLess p.1.2 q.1.2 else Op.bytesLess p.1.1 q.1.1 := by
 unfold lt20 cmp20 cmpP
 split <;> exact compare_less _ _
theorem lt20_irrefl (p : P20) : lt20 p p = false := by rw [lt20_eq]; simp [bytesLess_irrefl]
theorem lt20_trans (p q r : P20) (h1 : lt20 p q = true) (h2 : lt20 q r = true) : lt20 p r = true := by
 rw [lt20_eq] at h1 h2 ⊢
 by_cases e1 : p.1.1 = q.1.1 <;> by_cases e2 : q.1.1 = r.1.1
 ·have e3 : p.1.1 = r.1.1 := e1.trans e2
  simp only [beq_iff_eq, e1, e2, if_true] at h1 h2 ⊢
  exact bytesLess_trans _ _ _ h1 h2
 ·have e3 : ¬ p.1.1 = r.1.1 := fun e => e2 (e1.symm.trans e)
  simp only [beq_iff_eq, e1, e2, if_false] at h2 ⊢
  exact h2
 ·have e3 : ¬ p.1.1 = r.1.1 := fun e => e1 (e.trans e2.symm)
  simp only [beq_iff_eq, e1, e3, if_false] at h1 ⊢
  rwa [← e2]
 ·simp only [beq_iff_eq, e1, e2, if_false] at h1 h2
  have h3 := bytesLess_trans _ _ _ h1 h2
  have e3 : ¬ p.1.1 = r.1.1 := fun e => by rw [e, bytesLess_irrefl] at h3; cases h3
  simp only [beq_iff_eq, e3, if_false]
  exact h3
theorem lt20_total (p q : P20) (hne : p ≠ q) (h : lt20 p q = false) : lt20 q p = true := by
 rw [lt20_eq] at h ⊢
 by_cases e : p.1.1 = q.1.1
 ·have e' : q.1.1 = p.1.1 := e.symm
  simp only [beq_iff_eq, e, if_true] at h ⊢
  exact bytesLess_total _ _ (fun e2 => hne (Subtype.ext (Prod.ext e e2))) h
 ·have e' : ¬ q.1.1 = p.1.1 := fun x => e x.symm
  simp only [beq_iff_eq, e, e', if_false] at h ⊢
  exact bytesLess_total _ _ e h
theorem lt20_asymm (p q : P20) (h : lt20 p q = true) : lt20 q p = false := by
 cases h2 : lt20 q p with
 | false => rfl
 | true => have := lt20_trans _ _ _ h h2; rw [lt20_irrefl] at this; cases this
theorem lt20_swo : Sort.SWO lt20 where
 irrefl := lt20_irrefl
 trans := lt20_trans
 ntrans := fun x y z h1 h2 => by
  cases h3 : lt20 x z with
  | false => rfl
  | true =>
   by_cases e : x = y
   ·subst e; rw [h3] at h2; cases h2
   ·have := lt20_trans _ _ _ (lt20_total _ _ e h1) h3
    rw [this] at h2; cases h2
def Rising (l : List P20) : Prop := l.Pairwise fun p q => lt20 p q = true
theorem rising_unique : ∀ (a b : List P20), Rising a → Rising b → (∀ x, x ∈ a ↔ x ∈ b) → a = b
 | [], [], _, _, _ => rfl
 | [], y :: b, _, _, h => absurd ((h y).2 (by simp)) (by simp)
 | x :: a, [], _, _, h => absurd ((h x).1 (by simp)) (by simp)
 | x :: a, y :: b, ha, hb, h => by
  rw [Rising, List.pairwise_cons] at ha hb
  have hxy : x = y := by
   rcases List.mem_cons.1 ((h x).1 (by simp)) with e | hx
   ·exact e
   ·rcases List.mem_cons.1 ((h y).2 (by simp)) with e | hy
    ·exact e.symm
    ·have h1 := hb.1 x hx
     have h2 := ha.1 y hy
     rw [lt20_asymm _ _ h1] at h2; cases h2
  subst hxy
  congr 1
  refine rising_unique a b ha.2 hb.2 fun z => ?_
  have hz := h z
  simp only [List.mem_cons] at hz
  constructor
  ·intro hza
   rcases hz.1 (.inr hza) with e | hzb
   ·subst e
    have := ha.1 z hza
    rw [lt20_irrefl] at this; cases this
   ·exact hzb
  ·intro hzb
   rcases hz.2 (.inr hzb) with e | hza
   ·subst e
    have := hb.1 z hzb
    rw [lt20_irrefl] at this; cases this
   ·exact hza
theorem rising_of_sorted (l : List P20) (hn : l.Nodup) (hs : l.Pairwise fun p q => lt20 q p = false) : Rising l := by
 refine List.Pairwise.imp₂ ?_ hn hs
 intro p q hne h
 exact lt20_total q p (Ne.symm hne) h
end Go.Proofs.YtfiadgdinhmgbaaDoor
/-! Slices of paths. -/

/-! Derivations: their cells, what lies in them, '==' of inputs by names; bytes and texts as elements. -/
namespace Go.Proofs.YtfiadgdinhmgbaaDoor
open Go.RowKit Pl Go.Agg
abbrev Inp : Type := P20 × H20 × Bool
abbrev Nam : Type := List UInt8 × Inp
abbrev Drv : Type := List UInt8 × List Nam × List UInt8
instance : DecidableEq Inp := inferInstance
instance : DecidableEq Nam := inferInstance
instance : DecidableEq (List Nam) := inferInstance
instance : DecidableEq (List Nam × List UInt8) := inferInstance
instance : DecidableEq Drv := inferInstance
def iC (x : Inp) : Array Value := pC x.1.1.1 x.1.1.2 ++ (hC x.2.1.1 ++ #[.bool x.2.2])
def nmC (x : Nam) : Array Value := #[.string ⟨x.1.toArray⟩] ++ iC x.2
theorem iC_size (x : Inp) : (iC x).size = 42 := by simp [iC, pC_size, hC_size, x.1.2, x.2.1.2]
theorem nmC_size (x : Nam) : (nmC x).size = 43 := by simp [nmC, iC_size]
theorem iC_one (x : Inp) : (iC x).all (·.oneCell') = true := by
 rw [iC, Array.all_append, Array.all_append, pC_one, hC_one]; simp [Value.oneCell']
theorem nmC_one (x : Nam) : (nmC x).all (·.oneCell') = true := by
 rw [nmC, Array.all_append, iC_one]; simp [Value.oneCell']
theorem nmC_name (x : Nam) : (nmC x)[0]? = some (.string ⟨x.1.toArray⟩) := by rw [nmC, Array.getElem?_append_left (by simp)]; rfl
theorem nmC_inp (x : Nam) (j : Nat) (v : Value) (h : (iC x.2)[j]? = some v) : (nmC x)[1 + j]? = some v := by
 rw [nmC, Array.getElem?_append_right (by simp)]; simpa using h
theorem iC_src (x : Inp) (j : Nat) (v : Value) (h : (pC x.1.1.1 x.1.1.2)[j]? = some v) : (iC x)[0 + j]? = some v := by
 have := (Array.getElem?_eq_some_iff.1 h).1
 rw [iC, Nat.zero_add, Array.getElem?_append_left this]; exact h
theorem iC_cls (x : Inp) (j : Nat) (v : Value) (h : (hC x.2.1.1)[j]? = some v) : (iC x)[21 + j]? = some v := by
 have := (Array.getElem?_eq_some_iff.1 h).1
 rw [iC, Array.getElem?_append_right (by rw [pC_size, x.1.2]; omega), pC_size, x.1.2, show 21 + j - (20 + 1) = j by omega, Array.getElem?_append_left this]; exact h
theorem iC_is (x : Inp) : (iC x)[41]? = some (.bool x.2.2) := by
 rw [iC, Array.getElem?_append_right (by rw [pC_size, x.1.2]; omega), pC_size, x.1.2, Array.getElem?_append_right (by rw [hC_size, x.2.1.2]; omega), hC_size, x.2.1.2]; rfl
def zI : Inp := (⟨(z20, []), rfl⟩, ⟨z20, rfl⟩, false)
def zN : Nam := ([], zI)
/-! '==' -/
theorem part_agg {ty : TypeId} {n : Nat} (ha : ∀ w, (isAgg ty).run Tryd.prog w = .ok true w) (hs : ∀ w, (sizeOf ty).run Tryd.prog w = .ok n w) (cs ds : Array Value) (off : Nat) (hn : ds.size = n) (h : ∀ j v, ds[j]? = some v → cs[off + j]? = some v) (w : World) :
  (Go.part ty cs off).run Tryd.prog w = .ok (.agg ds) w := by
 unfold Go.part
 simp only [Sem.run_bind, ha, Result.andThen_ok, if_true, hs, Sem.run_pure]
 congr 2
 apply Array.ext_getElem?
 intro j
 by_cases hj : j < n
 ·have h1 : ds[j]? = some (ds[j]'(by omega)) := Array.getElem?_eq_getElem _
  have h2 := h j _ h1
  have h3 := (Array.getElem?_eq_some_iff.1 h2).1
  rw [h1, Array.getElem?_extract]
  rw [if_pos (by omega)]
  exact h2
 ·rw [Array.getElem?_eq_none (xs := ds) (by omega), Array.getElem?_eq_none (by simp; omega)]
theorem part_cell {ty : TypeId} (ha : ∀ w, (isAgg ty).run Tryd.prog w = .ok false w) (cs : Array Value) (off : Nat) (v : Value) (h : cs[off]? = some v) (w : World) : (Go.part ty cs off).run Tryd.prog w = .ok v w := by
 unfold Go.part
 simp only [Sem.run_bind, ha, Result.andThen_ok, Bool.false_eq_true, if_false, h, Sem.run_pure]
theorem isAgg_bool (w : World) : (isAgg 4).run Tryd.prog w = .ok false w := by kernel_rfl
theorem eqlIn_bool (d : Nat) (b c : Bool) (w : World) : (Op.equalIn (d + 1) 4 (.bool b) (.bool c)).run Tryd.prog w = .ok (decide (b = c)) w := by
 have : Tryd.prog.underlying 4 = some .bool := Tryd.underlying4
 simp [Op.equalIn, run_underlying this]
 cases b <;> cases c <;> rfl
end Go.Proofs.YtfiadgdinhmgbaaDoor
/-! base.order, base.Less, spenceref03.Less: how two paths stand. -/
namespace Go.Proofs.YtfiadgdinhmgbaaDoor
open Go.RowKit Pl Go.Agg
open Go.Lib (compareBytes)
end Go.Proofs.YtfiadgdinhmgbaaDoor
/-! Derivations as text: the plain law. -/
namespace Go.Proofs.YtfiadgdinhmgbaaDoor
open Pl Go.Agg
def zP : P20 := ⟨(z20, []), rfl⟩
def zH : H20 := ⟨z20, rfl⟩
def canNm (x : Nam) (b : List UInt8) : Bool := isName x.1 && Op.bytesLess b x.1 && (if x.2.2.2 then decide (x.2.1 = zP) else isName x.2.1.1.2 && decide (x.2.2.1 = zH))
def canAll : List UInt8 → List Nam → Bool
 | _, [] => true
 | b, x :: l => canNm x b && canAll x.1 l
def canDrv (d : Drv) : Bool := isName d.1 && decide (d.2.1.length ≤ 8) && decide (d.2.2.length ≤ 1000) && canAll [] d.2.1
def behind (l : List Nam) : List UInt8 := match l.getLast? with | none => [] | some x => x.1
def lastOr (b : List UInt8) (l : List Nam) : List UInt8 := match l.getLast? with | none => b | some x => x.1
theorem canAll_append (b : List UInt8) (l m : List Nam) : canAll b (l ++ m) = (canAll b l && canAll (lastOr b l) m) := by
 induction l generalizing b with
 | nil => simp [canAll, lastOr]
 | cons x l ih =>
  have : lastOr b (x :: l) = lastOr x.1 l := by
   unfold lastOr
   cases l with
   | nil => rfl
   | cons y l => simp [List.getLast?_cons]
  simp only [List.cons_append, canAll, ih, this, Bool.and_assoc]
theorem lastOr_nil (l : List Nam) : lastOr [] l = behind l := rfl
theorem canAll_succ {l : List Nam} {k : Nat} {x : Nam} (h : l[k]? = some x) : canAll [] (l.take (k + 1)) = (canAll [] (l.take k) && canNm x (behind (l.take k))) := by
 rw [List.take_add_one, h, canAll_append, lastOr_nil]
 simp [canAll]
theorem behind_succ {l : List Nam} {k : Nat} {x : Nam} (h : l[k]? = some x) : behind (l.take (k + 1)) = x.1 := by
 rw [List.take_add_one, h]
 simp [behind]
theorem canAll_take {l : List Nam} {k : Nat} (h : canAll [] (l.take k) = false) : canAll [] l = false := by
 have := canAll_append [] (l.take k) (l.drop k)
 rw [List.take_append_drop, h, Bool.false_and] at this
 exact this
/-! digits -/
def hexd (n : Nat) : UInt8 := if n < 10 then UInt8.ofNat (48 + n) else UInt8.ofNat (87 + n)
def hex2 (c : UInt8) : List UInt8 := [hexd (c.toNat / 16), hexd (c.toNat % 16)]
def hexs (l : List UInt8) : List UInt8 := l.flatMap hex2
def digs16 (l : List UInt8) : List UInt8 := if l = [] then [45] else hexs l
theorem hexs_length (l : List UInt8) : (hexs l).length = 2 * l.length := by
 induction l with
 | nil => rfl
 | cons c l ih => simp only [hexs, List.flatMap_cons, List.length_append, hex2, List.length_cons, List.length_nil] at ih ⊢; omega
theorem hexs_append (a b : List UInt8) : hexs (a ++ b) = hexs a ++ hexs b := by simp [hexs]
theorem hexs_succ {l : List UInt8} {k : Nat} {c : UInt8} (h : l[k]? = some c) : hexs (l.take (k + 1)) = hexs (l.take k) ++ hex2 c := by
 rw [List.take_add_one, h, hexs_append]; simp [hexs]
theorem digs16_length (l : List UInt8) : (digs16 l).length ≤ 2 * l.length + 1 := by
 unfold digs16; split
 ·simp
 ·rw [hexs_length]; omega
/-! lines -/
def wDrv : List UInt8 := [100, 114, 118, 32]
def wClass : List UInt8 := [99, 108, 97, 115, 115, 32]
def wSrc : List UInt8 := [115, 114, 99, 32]
def wRun : List UInt8 := [114, 117, 110, 32]
def lineT (x : Nam) : List UInt8 := if x.2.2.2 then wClass ++ x.1 ++ [32] ++ letters x.2.2.1.1 else wSrc ++ x.1 ++ [32] ++ pathS x.2.1.1.1 x.2.1.1.2
def textD (d : Drv) : List UInt8 := wDrv ++ d.1 ++ [10] ++ d.2.1.flatMap (fun x => lineT x ++ [10]) ++ wRun ++ digs16 d.2.2 ++ [10]
def putE (d : Drv) : Nat := if canDrv d then (if (textD d).length ≤ 2000 then 0 else 3) else 2
def putB (d : Drv) : List UInt8 := if canDrv d then (if (textD d).length ≤ 2000 then textD d else []) else []
open Go.RowKit
theorem leq_not (a b : List UInt8) : (Op.bytesLess a b || a == b) = !Op.bytesLess b a := by
 by_cases e : a = b
 ·subst e; simp [bytesLess_irrefl]
 ·cases h : Op.bytesLess a b with
  | true => simp [bytesLess_asymm _ _ h]
  | false => simp [bytesLess_total _ _ e h, e]
/-! in memory -/
theorem beqH (x y : H20) : (x.1 == y.1) = decide (x = y) := by rw [Bool.eq_iff_iff]; simp [Subtype.ext_iff]
end Go.Proofs.YtfiadgdinhmgbaaDoor
/-! spencekit.SameNameds. -/
namespace Go.Proofs.YtfiadgdinhmgbaaDoor
open Go.RowKit Pl Go.Agg
end Go.Proofs.YtfiadgdinhmgbaaDoor
/-! spencekit.SameDrv, DrvOf -/
namespace Go.Proofs.YtfiadgdinhmgbaaDoor
open Go.RowKit Pl Go.Agg
theorem drv_eq (c d : Drv) : decide (c = d) = ((c.1 == d.1) && (decide (c.2.1 = d.2.1) && decide (c.2.2 = d.2.2))) := by
 rw [Bool.eq_iff_iff]
 simp [Prod.ext_iff]
/-! DrvOf -/
theorem ret_nat {a b : Nat} (h : a = b) : Ending.returned (.int .i64 (a : Int)) = .returned (.int .i64 (b : Int)) := by rw [h]
def nmSz (x : Nam) : Nat := 1 + x.1.length + x.2.1.1.2.length
def drvGo (m : Nat) : Nat → List Nam → Nat
 | n, [] => n
 | n, x :: l => if n ≤ m then drvGo m (n + nmSz x) l else n
def drvN (m : Nat) (d : Drv) : Nat := drvGo m (1 + d.1.length + d.2.2.length) d.2.1
def namsSz (l : List Nam) : Nat := (l.map nmSz).sum
theorem drop_at {α : Type} {l : List α} {k : Nat} {x : α} (h : l[k]? = some x) : l.drop k = x :: l.drop (k + 1) := by
 obtain ⟨hk, rfl⟩ := List.getElem?_eq_some_iff.1 h
 exact List.drop_eq_getElem_cons hk
theorem drvGo_le (m : Nat) (l : List Nam) (n : Nat) : drvGo m n l ≤ n + namsSz l := by
 induction l generalizing n with
 | nil => simp [drvGo]
 | cons x l ih =>
  unfold drvGo
  split
  ·have := ih (n + nmSz x)
   simp only [namsSz, List.map_cons, List.sum_cons] at this ⊢; omega
  ·simp only [namsSz, List.map_cons, List.sum_cons]; omega
end Go.Proofs.YtfiadgdinhmgbaaDoor
/-! Derivations and bytes as arguments. -/
namespace Go.Proofs.YtfiadgdinhmgbaaDoor
open Go.RowKit Pl Go.Agg Go.ChangeMaps Go.ChangeShapes Go.WideShapes
section
variable {H : Type} {enc : TypeId × Value → H} {w : World} {base : Nat} {sp : Nat → Bool} {held : Bool}
def inpData (H : Type) (x : Inp) : DataW H := .agg [pathData x.1.1.1 x.1.1.2, hashData x.2.1.1, .lit (.bool x.2.2)]
def namData (H : Type) (x : Nam) : DataW H := .agg [.lit (.string x.1), inpData H x.2]
theorem cells_bool : Tryd.prog.cellsOf 4 = 1 := by kernel_rfl
theorem split3 {cs a b c : List Value} {n m k : Nat} (hl : cs.length = n + m + k) (h1 : (cs.drop 0).take n = a) (h2 : (cs.drop n).take m = b) (h3 : (cs.drop (n + m)).take k = c) : cs = a ++ (b ++ c) := by
 rw [← h1, ← h2, ← h3, List.drop_zero, List.take_of_length_le (l := cs.drop (n + m)) (by simp; omega), ← List.drop_drop, List.take_append_drop, List.take_append_drop]
theorem split2 {cs a b : List Value} {n m : Nat} (hl : cs.length = n + m) (h1 : (cs.drop 0).take n = a) (h2 : (cs.drop n).take m = b) : cs = a ++ b := by
 rw [← h1, ← h2, List.drop_zero, List.take_of_length_le (l := cs.drop n) (by simp; omega), List.take_append_drop]
end
instance : Inhabited Nam := ⟨zN⟩
section
variable {H : Type} {enc : TypeId × Value → H} {w : World} {base : Nat} {sp : Nat → Bool} {held : Bool} {r : Reach} {b0 : Nat} {v : Value} {d : DataW H} {ps : List MemPlace}
set_option maxRecDepth 100000 in
theorem open_textB (hval : Value.okWide Tryd.prog w r b0 9 v) (hd : DataW.Trod enc Tryd.prog w base sp held 9 v d ps) : ∃ s : List UInt8, v = .string ⟨s.toArray⟩ ∧ s.length + 1 ≤ Rows.uptoBulk d := by
 obtain ⟨s, rfl, rfl, rfl, _⟩ := open_text hval hd
 exact ⟨s, rfl, by simp [Rows.uptoBulk]⟩
theorem cells_bytes : Tryd.prog.cellsOf 23 = 1 := by kernel_rfl
end
end Go.Proofs.YtfiadgdinhmgbaaDoor
