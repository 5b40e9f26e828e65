/- '[]byte(s)' and 'string(b)' (Several texts in one.) -/
import Derived.Test.YtniibcgomnjfgaaJAD
import Derived.ArgAppend
import Derived.Laws.IdiomCopy
import Derived.Test.YtniibcgomnjfgaaJAC
import Derived.Deep.MidRow
import Derived.Lib.ConvBytes
import Derived.Laws.IdiomStrings
import Derived.Laws.BytesArg
/-! Builts, and what was made: their cells; both as elements of slices. -/
namespace Go.Proofs.Ytniibcgomnjfgaa
open Go.RowKit Pl Go.Agg
abbrev H20 : Type := { h : List UInt8 // h.length = 20 }
instance : Inhabited H20 := ⟨⟨z20, rfl⟩⟩
/-- a class and a path -/
abbrev Md : Type := H20 × P20
instance : DecidableEq P20 := inferInstance
instance : DecidableEq H20 := inferInstance
instance : DecidableEq Md := inferInstance
instance : DecidableEq (List Md) := inferInstance
/-- a built -/
structure Bu where
  cl : H20
  ky : H20
  pa : P20
  by_ : Int
  ins : List Md
  deriving DecidableEq
/-- how a slice lies -/
abbrev IV : Type := Option Addr × Nat × Nat
def ivV (i : IV) : Value := .slice i.1 i.2.1 i.2.2
/-- a built, and how its inputs lie -/
abbrev BuV : Type := Bu × IV
def mC (x : Md) : Array Value := hC x.1.1 ++ pC x.2.1.1 x.2.1.2
def bC (x : BuV) : Array Value := hC x.1.cl.1 ++ (hC x.1.ky.1 ++ (pC x.1.pa.1.1 x.1.pa.1.2 ++ #[.int .i64 x.1.by_, ivV x.2]))
def zM : Md := (⟨z20, rfl⟩, ⟨(z20, []), rfl⟩)
def zB : Bu := ⟨⟨z20, rfl⟩, ⟨z20, rfl⟩, ⟨(z20, []), rfl⟩, 0, []⟩
theorem mC_size (x : Md) : (mC x).size = 41 := by simp [mC, pC_size, hC_size, x.1.2, x.2.2]
theorem bC_size (x : BuV) : (bC x).size = 63 := by simp [bC, pC_size, hC_size, x.1.cl.2, x.1.ky.2, x.1.pa.2]
theorem mC_one (x : Md) : (mC x).all (·.oneCell') = true := by rw [mC, Array.all_append, pC_one, hC_one]; rfl
theorem bC_one (x : BuV) : (bC x).all (·.oneCell') = true := by
  rw [bC, Array.all_append, Array.all_append, Array.all_append, pC_one, hC_one, hC_one]; simp [Value.oneCell', ivV]
theorem mC_cl (x : Md) (j : Nat) (v : Value) (h : (hC x.1.1)[j]? = some v) : (mC x)[0 + j]? = some v := by
  have := (Array.getElem?_eq_some_iff.1 h).1
  rw [mC, Nat.zero_add, Array.getElem?_append_left this]; exact h
theorem mC_pa (x : Md) (j : Nat) (v : Value) (h : (pC x.2.1.1 x.2.1.2)[j]? = some v) : (mC x)[20 + j]? = some v := by
  rw [mC, Array.getElem?_append_right (by rw [hC_size, x.1.2]; omega), hC_size, x.1.2, show 20 + j - 20 = j by omega]; exact h
theorem bC_cl (x : BuV) (j : Nat) (v : Value) (h : (hC x.1.cl.1)[j]? = some v) : (bC x)[0 + j]? = some v := by
  have := (Array.getElem?_eq_some_iff.1 h).1
  rw [bC, Nat.zero_add, Array.getElem?_append_left this]; exact h
theorem bC_ky (x : BuV) (j : Nat) (v : Value) (h : (hC x.1.ky.1)[j]? = some v) : (bC x)[20 + j]? = some v := by
  have := (Array.getElem?_eq_some_iff.1 h).1
  rw [bC, Array.getElem?_append_right (by rw [hC_size, x.1.cl.2]; omega), hC_size, x.1.cl.2, show 20 + j - 20 = j by omega, Array.getElem?_append_left this]; exact h
theorem bC_pa (x : BuV) (j : Nat) (v : Value) (h : (pC x.1.pa.1.1 x.1.pa.1.2)[j]? = some v) : (bC x)[40 + j]? = some v := by
  have := (Array.getElem?_eq_some_iff.1 h).1
  rw [bC, Array.getElem?_append_right (by rw [hC_size, x.1.cl.2]; omega), hC_size, x.1.cl.2, show 40 + j - 20 = 20 + j by omega, Array.getElem?_append_right (by rw [hC_size, x.1.ky.2]; omega), hC_size, x.1.ky.2, show 20 + j - 20 = j by omega, Array.getElem?_append_left this]; exact h
theorem bC_tail (x : BuV) (j : Nat) : (bC x)[61 + j]? = (#[.int .i64 x.1.by_, ivV x.2] : Array Value)[j]? := by
  rw [bC, Array.getElem?_append_right (by rw [hC_size, x.1.cl.2]; omega), hC_size, x.1.cl.2, show 61 + j - 20 = 41 + j by omega, Array.getElem?_append_right (by rw [hC_size, x.1.ky.2]; omega), hC_size, x.1.ky.2, show 41 + j - 20 = 21 + j by omega, Array.getElem?_append_right (by rw [pC_size, x.1.pa.2]; omega), pC_size, x.1.pa.2, show 21 + j - (20 + 1) = j by omega]
theorem mC_zero : (Try.prog.info? 55).map (·.zero) = some (some (.agg (mC zM))) := by kernel_rfl
theorem mC_info (x : Md) : (Try.prog.info? 55).map (·.size) = some (mC x).size := by rw [mC_size]; kernel_rfl
theorem mC_under : Try.prog.underlying 55 = some (.struct (Try.prog.fieldsOf 55)) := by kernel_rfl
theorem bC_zero : (Try.prog.info? 35).map (·.zero) = some (some (.agg (bC (zB, none, 0, 0)))) := by kernel_rfl
theorem bC_info (x : BuV) : (Try.prog.info? 35).map (·.size) = some (bC x).size := by rw [bC_size]; kernel_rfl
theorem bC_under : Try.prog.underlying 35 = some (.struct (Try.prog.fieldsOf 35)) := by kernel_rfl
theorem made_under : Try.prog.underlying 33 = some (.slice 55) := by kernel_rfl
/-- what was made, as elements -/
def EMd : Elem Try.prog Md where
  ty := 55
  st := 33
  n := 41
  bytes := 64
  val := fun x => .agg (mC x)
  zero := .agg (mC zM)
  pos := by omega
  small := by omega
  size := fun x => by simp [Value.cells, mC_size]
  one := fun x v hv => one_of (mC_one x) v hv
  zsize := by simp [Value.cells, mC_size]
  slice := by kernel_rfl
  info := info_of mC_zero (by kernel_rfl) (by kernel_rfl)
  load := fun w a x hp h => LoadsL.of_cells hp h mC_under rfl (mC_info x)
abbrev MdsAt (w : World) (v : Value) (l : List Md) : Prop := SliceOf EMd w v l
/-- builts as elements -/
def EBu : Elem Try.prog BuV where
  ty := 35
  st := 22
  n := 63
  bytes := 112
  val := fun x => .agg (bC x)
  zero := .agg (bC (zB, none, 0, 0))
  pos := by omega
  small := by omega
  size := fun x => by simp [Value.cells, bC_size]
  one := fun x v hv => one_of (bC_one x) v hv
  zsize := by simp [Value.cells, bC_size]
  slice := by kernel_rfl
  info := info_of bC_zero (by kernel_rfl) (by kernel_rfl)
  load := fun w a x hp h => LoadsL.of_cells hp h bC_under rfl (bC_info x)
theorem mds_len {w : World} {v : Value} {l : List Md} (h : MdsAt w v l) (W : World) : (Builtin.len_ #[33] 3 #[v]).run Try.prog W = .ok (.int .i64 (l.length : Int)) W := h.len W
/-- builts: each, with its inputs -/
def InsAt (w : World) (x : BuV) : Prop := MdsAt w (ivV x.2) x.1.ins
structure BusAt (w : World) (v : Value) (l : List BuV) : Prop where
  row : SliceOf EBu w v l
  ins : ∀ x ∈ l, InsAt w x
theorem InsAt.below {w w' : World} {x : BuV} (h : InsAt w x) (hb : Below w.heap.size w w') : InsAt w' x := SliceOf.below h hb
theorem BusAt.below {w w' : World} {v : Value} {l : List BuV} (h : BusAt w v l) (hb : Below w.heap.size w w') : BusAt w' v l := ⟨h.row.below hb, fun x hx => (h.ins x hx).below hb⟩
theorem bus_len {w : World} {v : Value} {l : List BuV} (h : BusAt w v l) (W : World) : (Builtin.len_ #[22] 3 #[v]).run Try.prog W = .ok (.int .i64 (l.length : Int)) W := h.row.len W
/-- what lies at a built -/
structure BuL (w : World) (p : Addr) (x : BuV) : Prop where
  all : LoadsL Try.prog w 35 (some p) (.agg (bC x))
  cls : LoadsL Try.prog w 30 (some (p.add 0)) (.agg (hC x.1.cl.1))
  key : LoadsL Try.prog w 30 (some (p.add 20)) (.agg (hC x.1.ky.1))
  path : LoadsL Try.prog w 32 (some (p.add 40)) (.agg (pC x.1.pa.1.1 x.1.pa.1.2))
  pname : LoadsL Try.prog w 9 (some ((p.add 40).add 20)) (.string ⟨x.1.pa.1.2.toArray⟩)
  by_ : LoadsL Try.prog w 3 (some (p.add 61)) (.int .i64 x.1.by_)
  ins : LoadsL Try.prog w 33 (some (p.add 62)) (ivV x.2)
theorem BuL.of_cells {w : World} {p : Addr} {x : BuV} (hp : p.block < w.heap.size) (h : ∀ j u, (bC x)[j]? = some u → w.cell? (p.add j) = some u) : BuL w p x where
  all := LoadsL.of_cells hp h bC_under rfl (bC_info x)
  cls := LoadsL.of_cells (by rw [add_block]; exact hp) (fun j v hj => by rw [add_add]; exact h _ _ (bC_cl x j v hj)) Try.underlying30 rfl (hC_info _ x.1.cl.2)
  key := LoadsL.of_cells (by rw [add_block]; exact hp) (fun j v hj => by rw [add_add]; exact h _ _ (bC_ky x j v hj)) Try.underlying30 rfl (hC_info _ x.1.ky.2)
  path := LoadsL.of_cells (by rw [add_block]; exact hp) (fun j v hj => by rw [add_add]; exact h _ _ (bC_pa x j v hj)) pC_under rfl (pC_info _ _ x.1.pa.2)
  pname := LoadsL.of_cell (by rw [add_add]; exact h _ _ (bC_pa x 20 _ (pC_name _ _ x.1.pa.2))) Try.underlying9 rfl
  by_ := LoadsL.of_cell (h 61 _ (by rw [show 61 = 61 + 0 from rfl, bC_tail]; rfl)) Try.underlying3 rfl
  ins := LoadsL.of_cell (h 62 _ (by rw [show 62 = 61 + 1 from rfl, bC_tail]; rfl)) made_under rfl
theorem BuL.below {w w' : World} {p : Addr} {x : BuV} (h : BuL w p x) (hb : Below w.heap.size w w') : BuL w' p x :=
  ⟨h.all.below hb, h.cls.below hb, h.key.below hb, h.path.below hb, h.pname.below hb, h.by_.below hb, h.ins.below hb⟩
/-- what lies in a box with a built -/
structure BuG (w : World) (b : Nat) (x : BuV) : Prop where
  all : LoadsL Try.prog w 35 (some ⟨b, 0, none⟩) (.agg (bC x))
  cls : LoadsL Try.prog w 30 (some ⟨b, 0, none⟩) (.agg (hC x.1.cl.1))
  key : LoadsL Try.prog w 30 (some ⟨b, 20, none⟩) (.agg (hC x.1.ky.1))
  path : LoadsL Try.prog w 32 (some ⟨b, 40, none⟩) (.agg (pC x.1.pa.1.1 x.1.pa.1.2))
  pname : LoadsL Try.prog w 9 (some ⟨b, 60, none⟩) (.string ⟨x.1.pa.1.2.toArray⟩)
  by_ : LoadsL Try.prog w 3 (some ⟨b, 61, none⟩) (.int .i64 x.1.by_)
  ins : LoadsL Try.prog w 33 (some ⟨b, 62, none⟩) (ivV x.2)
theorem BuG.of_blk {w : World} {b : Nat} {x : BuV} (h : Blk w b 35 (bC x)) : BuG w b x := by
  have H := BuL.of_cells (w := w) (p := ⟨b, 0, none⟩) (x := x) h.lt (fun j u hj => by rw [add_plain, h.cell, Nat.zero_add]; exact hj)
  exact ⟨H.all, H.cls, H.key, H.path, H.pname, H.by_, H.ins⟩
theorem BuG.below {w w' : World} {b : Nat} {x : BuV} (h : BuG w b x) (hb : Below w.heap.size w w') : BuG w' b x :=
  ⟨h.all.below hb, h.cls.below hb, h.key.below hb, h.path.below hb, h.pname.below hb, h.by_.below hb, h.ins.below hb⟩
/-- an element of a slice of builts -/
theorem BusAt.at_ {w : World} {v : Value} {l : List BuV} (h : BusAt w v l) (k : Nat) (x : BuV) (hk : l[k]? = some x) :
    ∃ q : Addr, (∀ W, (Instr.indexAt 22 v (.int .i64 (k : Int))).run Try.prog W = .ok (.pointer (some q)) W) ∧ BuL w q x ∧ InsAt w x := by
  obtain ⟨p, h1, h2, h3, _⟩ := h.row.at_ k x hk
  exact ⟨p, h1, BuL.of_cells h2 h3, h.ins x (List.mem_of_getElem? hk)⟩
/-- what lies at one that was made -/
structure MdL (w : World) (p : Addr) (x : Md) : Prop where
  all : LoadsL Try.prog w 55 (some p) (.agg (mC x))
  cls : LoadsL Try.prog w 30 (some (p.add 0)) (.agg (hC x.1.1))
  path : LoadsL Try.prog w 32 (some (p.add 20)) (.agg (pC x.2.1.1 x.2.1.2))
  pname : LoadsL Try.prog w 9 (some ((p.add 20).add 20)) (.string ⟨x.2.1.2.toArray⟩)
theorem MdL.of_cells {w : World} {p : Addr} {x : Md} (hp : p.block < w.heap.size) (h : ∀ j u, (mC x)[j]? = some u → w.cell? (p.add j) = some u) : MdL w p x where
  all := LoadsL.of_cells hp h mC_under rfl (mC_info x)
  cls := LoadsL.of_cells (by rw [add_block]; exact hp) (fun j v hj => by rw [add_add]; exact h _ _ (mC_cl x j v hj)) Try.underlying30 rfl (hC_info _ x.1.2)
  path := LoadsL.of_cells (by rw [add_block]; exact hp) (fun j v hj => by rw [add_add]; exact h _ _ (mC_pa x j v hj)) pC_under rfl (pC_info _ _ x.2.2)
  pname := LoadsL.of_cell (by rw [add_add]; exact h _ _ (mC_pa x 20 _ (pC_name _ _ x.2.2))) Try.underlying9 rfl
theorem MdL.below {w w' : World} {p : Addr} {x : Md} (h : MdL w p x) (hb : Below w.heap.size w w') : MdL w' p x := ⟨h.all.below hb, h.cls.below hb, h.path.below hb, h.pname.below hb⟩
theorem mds_at {w : World} {v : Value} {l : List Md} (h : MdsAt w v l) (k : Nat) (x : Md) (hk : l[k]? = some x) :
    ∃ q : Addr, (∀ W, (Instr.indexAt 33 v (.int .i64 (k : Int))).run Try.prog W = .ok (.pointer (some q)) W) ∧ MdL w q x := by
  obtain ⟨p, h1, h2, h3, _⟩ := h.at_ k x hk
  exact ⟨p, h1, MdL.of_cells h2 h3⟩
/-- what lies in a box with one -/
structure MdG (w : World) (b : Nat) (x : Md) : Prop where
  all : LoadsL Try.prog w 55 (some ⟨b, 0, none⟩) (.agg (mC x))
  cls : LoadsL Try.prog w 30 (some ⟨b, 0, none⟩) (.agg (hC x.1.1))
  path : LoadsL Try.prog w 32 (some ⟨b, 20, none⟩) (.agg (pC x.2.1.1 x.2.1.2))
  pname : LoadsL Try.prog w 9 (some ⟨b, 40, none⟩) (.string ⟨x.2.1.2.toArray⟩)
theorem MdG.of_blk {w : World} {b : Nat} {x : Md} (h : Blk w b 55 (mC x)) : MdG w b x := by
  have H := MdL.of_cells (w := w) (p := ⟨b, 0, none⟩) (x := x) h.lt (fun j u hj => by rw [add_plain, h.cell, Nat.zero_add]; exact hj)
  exact ⟨H.all, H.cls, H.path, H.pname⟩
theorem MdG.below {w w' : World} {b : Nat} {x : Md} (h : MdG w b x) (hb : Below w.heap.size w w') : MdG w' b x := ⟨h.all.below hb, h.cls.below hb, h.path.below hb, h.pname.below hb⟩
theorem MdL.of_blk {w : World} {g : Nat} {x : Md} (h : Blk w g 55 (mC x)) : MdL w ⟨g, 0, none⟩ x :=
  MdL.of_cells h.lt fun j u hj => by rw [add_plain, h.cell, Nat.zero_add]; exact hj
end Go.Proofs.Ytniibcgomnjfgaa
/-! Slices that may be written, their spare room too, over any program: store, append; what a step leaves alone. -/
namespace Go.Agg
open Go.RowKit
/-- w' is w but for the blocks S and what is new -/
structure Only (S : Nat → Prop) (w w' : World) : Prop where
  os : w'.os = w.os
  tape : w'.tape = w.tape
  output : w'.output = w.output
  size : w.heap.size ≤ w'.heap.size
  block : ∀ k, k < w.heap.size → ¬ S k → w'.heap[k]? = w.heap[k]?
theorem Only.refl (S : Nat → Prop) (w : World) : Only S w w := ⟨rfl, rfl, rfl, Nat.le_refl _, fun _ _ _ => rfl⟩
theorem Only.trans {S T : Nat → Prop} {a b c : World} (h : Only S a b) (k : Only T b c) (hT : ∀ i, i < a.heap.size → T i → S i) : Only S a c :=
  ⟨k.os.trans h.os, k.tape.trans h.tape, k.output.trans h.output, Nat.le_trans h.size k.size, fun i hi hS => (k.block i (Nat.lt_of_lt_of_le hi h.size) (fun hT' => hS (hT i hi hT'))).trans (h.block i hi hS)⟩
theorem Only.mono {S T : Nat → Prop} {a b : World} (h : Only S a b) (hT : ∀ i, i < a.heap.size → S i → T i) : Only T a b := ⟨h.os, h.tape, h.output, h.size, fun i hi hS => h.block i hi (fun hs => hS (hT i hi hs))⟩
theorem Only.of_below {S : Nat → Prop} {a b : World} (h : Below a.heap.size a b) : Only S a b := ⟨h.os, h.tape, h.output, h.size, fun i hi _ => h.block i hi⟩
theorem Only.below {S : Nat → Prop} {a b : World} {B : Nat} (h : Only S a b) (hB : B ≤ a.heap.size) (hS : ∀ i, S i → B ≤ i) : Below B a b :=
  ⟨h.os, h.tape, h.output, h.size, fun i hi => h.block i (by omega) (fun hs => by have := hS i hs; omega)⟩
theorem Only.cell {S : Nat → Prop} {a b : World} (h : Only S a b) {p : Addr} (hp : p.block < a.heap.size) (hS : ¬ S p.block) : b.cell? p = a.cell? p := World.cell?_of_block (h.block _ hp hS)
theorem Only.frozen {S : Nat → Prop} {a b : World} (h : Only S a b) {p : Addr} (hp : p.block < a.heap.size) (hS : ¬ S p.block) : b.frozen? p = a.frozen? p := World.frozen?_of_block (h.block _ hp hS)
theorem only_setCells (b o : Nat) (vs : List Value) (w : World) : Only (· = b) w (w.setCells b o vs) := by
  induction vs generalizing o w with
  | nil => exact Only.refl _ _
  | cons v r ih =>
    have h1 : Only (· = b) w (w.setCell ⟨b, o, none⟩ v) := ⟨rfl, rfl, rfl, by simp [World.setCell], fun k _ hk => Below.heap_setCell _ _ _ _ hk⟩
    exact h1.trans (ih (o + 1) _) (fun _ _ h => h)
section
variable {P : Program} {α : Type} {E : Elem P α}
/-- a slice whose cells, spare room too, may be written -/
def Room (E : Elem P α) (w : World) (v : Value) (l : List α) : Prop :=
  ∃ b o cap, v = .slice (some ⟨b, o, none⟩) l.length cap ∧ l.length ≤ cap ∧ b < w.heap.size ∧ (∀ j, j < cap * E.n → (w.cell? ⟨b, o + j, none⟩).isSome = true) ∧ (∀ j, j < cap * E.n → w.frozen? ⟨b, o + j, none⟩ = false) ∧
    ∀ j u, (E.flat l)[j]? = some u → w.cell? ⟨b, o + j, none⟩ = some u
/-- .. or nil -/
def RoomN (E : Elem P α) (w : World) (v : Value) (l : List α) : Prop := (v = .slice none 0 0 ∧ l = []) ∨ Room E w v l
variable {w w' : World} {v : Value} {l : List α}
theorem Room.slice (h : Room E w v l) : SliceOf E w v l := by
  obtain ⟨b, o, cap, rfl, _, hb, _, _, hc⟩ := h
  exact .inr ⟨_, cap, rfl, hb, fun j u hj => by rw [add_plain]; exact hc j u hj⟩
theorem RoomN.slice (h : RoomN E w v l) : SliceOf E w v l := by
  rcases h with ⟨rfl, rfl⟩ | h
  · exact SliceOf.nil _ _ _
  · exact h.slice
theorem Room.keep (h : Room E w v l) (hk : ∀ b, v.ownBlock = some b → b < w.heap.size → w'.heap[b]? = w.heap[b]?) (hs : w.heap.size ≤ w'.heap.size) : Room E w' v l := by
  obtain ⟨b, o, cap, rfl, hl, hb, h1, h2, hc⟩ := h
  have hbb := hk b rfl hb
  have e1 : ∀ j, w'.cell? ⟨b, o + j, none⟩ = w.cell? ⟨b, o + j, none⟩ := fun j => World.cell?_of_block hbb
  have e2 : ∀ j, w'.frozen? ⟨b, o + j, none⟩ = w.frozen? ⟨b, o + j, none⟩ := fun j => World.frozen?_of_block hbb
  exact ⟨b, o, cap, rfl, hl, by omega, fun j hj => by rw [e1]; exact h1 j hj, fun j hj => by rw [e2]; exact h2 j hj, fun j u hj => (e1 j).trans (hc j u hj)⟩
theorem RoomN.keep (h : RoomN E w v l) (hk : ∀ b, v.ownBlock = some b → b < w.heap.size → w'.heap[b]? = w.heap[b]?) (hs : w.heap.size ≤ w'.heap.size) : RoomN E w' v l := by
  rcases h with h | h
  · exact .inl h
  · exact .inr (h.keep hk hs)
theorem RoomN.only {S : Nat → Prop} (h : RoomN E w v l) (ho : Only S w w') (hS : ∀ b, v.ownBlock = some b → ¬ S b) : RoomN E w' v l := h.keep (fun b hb hlt => ho.block b hlt (hS b hb)) ho.size
theorem RoomN.below (h : RoomN E w v l) (hb : Below w.heap.size w w') : RoomN E w' v l := h.keep (fun b _ hlt => hb.block b hlt) hb.size
theorem RoomN.lt (h : RoomN E w v l) : ∀ b, v.ownBlock = some b → b < w.heap.size := by
  rcases h with ⟨rfl, _⟩ | ⟨b, o, cap, rfl, _, hb, _⟩
  · intro b hb; simp [Value.ownBlock] at hb
  · intro c hc
    obtain rfl : b = c := by simpa [Value.ownBlock] using hc
    exact hb
theorem RoomN.len (h : RoomN E w v l) (W : World) : (Builtin.len_ #[E.st] 3 #[v]).run P W = .ok (.int .i64 (l.length : Int)) W := h.slice.len W
theorem RoomN.of_own {base : Nat} (h : Own E base w v l) : RoomN E w v l := by
  obtain ⟨hfl, ⟨rfl, h0⟩ | ⟨g, cap, cur, rfl, hgb, hcur, hle, _, hsz, htk⟩⟩ := h
  · exact .inl ⟨rfl, List.length_eq_zero_iff.1 h0⟩
  · refine .inr ⟨g, 0, cap, rfl, hle, heap_lt hcur, fun j hj => ?_, fun j _ => frozen_of_row _ _ _ _ _ hcur, fun j u hj => ?_⟩
    · rw [cell_of_row _ _ _ _ _ _ hcur, Array.getElem?_eq_getElem (by omega)]; rfl
    · rw [Nat.zero_add, cell_of_row _ _ _ _ _ _ hcur]
      rw [← htk, List.getElem?_take] at hj
      split at hj
      · simpa using hj
      · cases hj
/-- append, where it came in -/
theorem run_append_room (h : RoomN E w v l) (x : Value) (m : List α) (hx : SliceOf E w x m) (h63 : l.length + m.length ≤ 1099511627776 / 8) (hby : E.bytes ≤ 1000) (ty : TypeId) :
    ∃ v' w', (Builtin.append_ #[E.st, E.st] ty #[v, x]).run P w = .ok v' w' ∧ RoomN E w' v' (l ++ m) ∧ RoomN E w' v l ∧ Only (fun b => v.ownBlock = some b) w w' ∧ (∀ b, v'.ownBlock = some b → v.ownBlock = some b ∨ w.heap.size ≤ b) ∧ ∀ b o n cap, v = .slice (some ⟨b, o, none⟩) n cap → v'.ownBlock = some b → v' = .slice (some ⟨b, o, none⟩) (n + m.length) cap := by
  obtain ⟨i, hi, hz, hs, hb⟩ := E.info
  have hmul : (l.length + m.length) * E.bytes ≤ 140737488355328 := Nat.le_trans (Nat.mul_le_mul h63 hby) (by omega)
  have hmax : l.length + m.length ≤ maxLen := by simp only [maxLen]; omega
  have hn := E.pos
  rcases h with ⟨rfl, rfl⟩ | h
  · obtain ⟨v', w', hr, h2, h3, _, _⟩ := run_append (base := w.heap.size) (ty := ty) (Own.nil E w.heap.size w) x m hx (by simpa using h63) hby (Nat.le_refl _)
    refine ⟨v', w', hr, RoomN.of_own h2, .inl ⟨rfl, rfl⟩, ⟨h3.os, h3.tape, h3.output, h3.size, fun k hk _ => h3.block k hk (by simp [Value.ownBlock])⟩, fun b hb => .inr (h2.block b hb).1, fun b o n cap e => by injection e with e; cases e⟩
  · have hsl := h.slice
    obtain ⟨b, o, cap, rfl, hlc, hbw, h1, h2, hc⟩ := h
    have hself : RoomN E w (.slice (some ⟨b, o, none⟩) l.length cap) l := .inr ⟨b, o, cap, rfl, hlc, hbw, h1, h2, hc⟩
    obtain ⟨p, c, rfl⟩ := hx.form
    cases p with
    | none =>
      have hm : m = [] := by
        rcases hx with ⟨_, _, _, h⟩ | ⟨p, cap, e, _⟩
        · exact h
        · injection e with e; cases e
      subst hm
      refine ⟨_, w, ?_, by simpa using hself, hself, Only.refl _ _, fun b hb => .inl hb, fun b o n cap e _ => by simpa using e⟩
      simp [Builtin.append_, run_underlying E.slice, sizeOf, typeInfo, hi, Builtin.lenOf, Builtin.firstCells, hlc, storeCells]
    | some p =>
      have hcells : ∀ j u, (E.flat m)[j]? = some u → w.cell? (p.add j) = some u := by
        rcases hx with ⟨_, _, _, rfl⟩ | ⟨q, cap, e, _, h⟩
        · intro j u hj; simp [Elem.flat] at hj
        · injection e with e
          injection e with e
          subst e
          exact h
      by_cases hfit : l.length + m.length ≤ cap
      · have hlen := E.flat_length m
        have hll := E.flat_length l
        have hbd : l.length * E.n + m.length * E.n ≤ cap * E.n := by rw [← Nat.add_mul]; exact Nat.mul_le_mul_right _ hfit
        have hr := run_append_room_cells (P := P) w E.st ty E.ty i E.slice hi b o l.length cap p m.length c (E.flat m) (by rw [hs]; exact hlen) hcells (E.flat_one' m) hfit
          (fun j hj => by rw [hs, Nat.add_assoc]; exact h1 _ (by rw [hlen] at hj; omega)) (fun j hj => by rw [hs, Nat.add_assoc]; exact h2 _ (by rw [hlen] at hj; omega))
        rw [hs] at hr
        have hfr : ∀ x, (w.setCells b (o + l.length * E.n) (E.flat m)).frozen? x = w.frozen? x := fun x => World.frozen?_setCells b _ _ w x
        have hin : ∀ j u, (E.flat m)[j]? = some u → (w.setCells b (o + l.length * E.n) (E.flat m)).cell? ⟨b, o + l.length * E.n + j, none⟩ = some u := fun j u hj => by
          obtain ⟨hj', rfl⟩ := List.getElem?_eq_some_iff.1 hj
          exact World.cell?_setCells_in b (E.flat m) (o + l.length * E.n) w (fun k hk => by rw [Nat.add_assoc]; exact h1 _ (by rw [hlen] at hk; omega)) j hj'
        have hout : ∀ j, j < l.length * E.n → (w.setCells b (o + l.length * E.n) (E.flat m)).cell? ⟨b, o + j, none⟩ = w.cell? ⟨b, o + j, none⟩ := fun j hj =>
          World.cell?_setCells_out b _ _ w _ (fun _ _ => .inl (by show o + j < o + l.length * E.n; omega))
        have hsome : ∀ j, j < cap * E.n → ((w.setCells b (o + l.length * E.n) (E.flat m)).cell? ⟨b, o + j, none⟩).isSome = true := fun j hj => by
          by_cases hj1 : j < l.length * E.n
          · rw [hout j hj1]; exact h1 j hj
          · by_cases hj2 : j < l.length * E.n + m.length * E.n
            · have hjl : j - l.length * E.n < (E.flat m).length := by rw [hlen]; omega
              have := hin (j - l.length * E.n) _ (List.getElem?_eq_getElem hjl)
              rw [show o + l.length * E.n + (j - l.length * E.n) = o + j by omega] at this
              rw [this]; rfl
            · rw [World.cell?_setCells_out b _ _ w _ (fun _ _ => .inr (by show o + l.length * E.n + (E.flat m).length ≤ o + j; rw [hlen]; omega))]
              exact h1 j hj
        have honly := only_setCells b (o + l.length * E.n) (E.flat m) w
        refine ⟨_, _, hr, .inr ⟨b, o, cap, by rw [List.length_append], by rw [List.length_append]; exact hfit, Nat.lt_of_lt_of_le hbw honly.size, hsome, fun j hj => by rw [hfr]; exact h2 j hj, fun j u hj => ?_⟩,
          .inr ⟨b, o, cap, rfl, hlc, Nat.lt_of_lt_of_le hbw honly.size, hsome, fun j hj => by rw [hfr]; exact h2 j hj, fun j u hj => ?_⟩, honly.mono (fun k _ e => by simp [Value.ownBlock, e]), fun k hk => .inl hk, fun b' o' n' cap' e _ => by injection e with e1 e2 e3; injection e1 with e1; injection e1 with e4 e5; subst e2 e3 e4 e5; rfl⟩
        · rw [E.flat_append] at hj
          by_cases hj1 : j < (E.flat l).length
          · rw [List.getElem?_append_left hj1] at hj
            rw [hout j (by rw [← hll]; exact hj1)]
            exact hc j u hj
          · rw [List.getElem?_append_right (by omega)] at hj
            have := hin _ u hj
            rw [hll] at this hj1
            rwa [show o + l.length * E.n + (j - l.length * E.n) = o + j by omega] at this
        · have hj1 : j < (E.flat l).length := (List.getElem?_eq_some_iff.1 hj).1
          rw [hout j (by rw [← hll]; exact hj1)]
          exact hc j u hj
      · obtain ⟨v', w', hr, h4, h5⟩ := run_append_arg_grows (P := P) w E.st ty E.ty i E.zero E.n E.bytes E.slice hi hz hs hb E.zsize E.pos ⟨b, o, none⟩ l.length cap (E.flat l) (E.flat_length l) (fun j u hj => by rw [add_plain]; exact hc j u hj)
          p m.length c (E.flat m) (E.flat_length m) hcells (by omega) hmax hmul
        have hown : Own E w.heap.size w' v' (l ++ m) := by
          unfold Own
          rw [List.length_append, E.flat_append]
          exact h4
        have honly : Only (fun _ => False) w w' := ⟨h5.os, h5.tape, h5.output, h5.size, fun k hk _ => h5.block k hk (by simp)⟩
        exact ⟨v', w', hr, RoomN.of_own hown, hself.only honly (fun _ _ h => h), honly.mono (fun _ _ h => h.elim), fun b hb => .inr (hown.block b hb).1, fun b' o' n' cap' e hb' => by
          injection e with e1; injection e1 with e1; injection e1 with e4
          have := (hown.block _ hb').1
          omega⟩
/-- a whole element stored -/
theorem run_storeAt_room (h : Room E w v l) (k : Nat) (a : α) (hk : k < l.length) :
    ∃ p w', (∀ W, (Instr.indexAt E.st v (.int .i64 (k : Int))).run P W = .ok (.pointer (some p)) W) ∧ (Instr.storeAt E.ty (.pointer (some p)) (E.val a)).run P w = .ok () w' ∧ Room E w' v (l.set k a) ∧ Only (fun b => v.ownBlock = some b) w w' := by
  obtain ⟨b, o, cap, rfl, hlc, hbw, h1, h2, hc⟩ := h
  have hn := E.pos
  have hkc : k * E.n + E.n ≤ cap * E.n := by rw [← Nat.succ_mul]; exact Nat.mul_le_mul_right _ (by omega)
  have hlen : (E.val a).cells.toList.length = E.n := by rw [Array.length_toList]; exact E.size a
  have hst := run_storeCells_cells (P := P) b (o + k * E.n) (E.val a).cells.toList 0 w (fun j hj => by rw [Nat.add_zero, Nat.add_assoc]; exact h1 _ (by omega)) (fun j hj => by rw [Nat.add_zero, Nat.add_assoc]; exact h2 _ (by omega)) (E.one a)
  rw [Nat.add_zero] at hst
  have hin : ∀ j u, (E.val a).cells[j]? = some u → (w.setCells b (o + k * E.n) (E.val a).cells.toList).cell? ⟨b, o + k * E.n + j, none⟩ = some u := fun j u hj => by
    have hj0 : (E.val a).cells.toList[j]? = some u := by rw [Array.getElem?_toList]; exact hj
    obtain ⟨hj', rfl⟩ := List.getElem?_eq_some_iff.1 hj0
    exact World.cell?_setCells_in b _ (o + k * E.n) w (fun i hi => by rw [Nat.add_assoc]; exact h1 _ (by omega)) j hj'
  have hout : ∀ j, j < k * E.n ∨ k * E.n + E.n ≤ j → (w.setCells b (o + k * E.n) (E.val a).cells.toList).cell? ⟨b, o + j, none⟩ = w.cell? ⟨b, o + j, none⟩ := fun j hj =>
    World.cell?_setCells_out b _ _ w _ (fun _ _ => by
      show o + j < o + k * E.n ∨ o + k * E.n + (E.val a).cells.toList.length ≤ o + j
      rw [hlen]; omega)
  have honly := only_setCells b (o + k * E.n) (E.val a).cells.toList w
  have hel : P.elem E.st = E.ty := by simp [Program.elem, E.slice]
  refine ⟨⟨b, o + k * E.n, none⟩, _, fun W => ?_, ?_, ⟨b, o, cap, by simp, by simpa using hlc, Nat.lt_of_lt_of_le hbw honly.size, fun j hj => ?_, fun j hj => by rw [World.frozen?_setCells]; exact h2 j hj, fun j u hj => ?_⟩, honly.mono (fun k _ e => by simp [Value.ownBlock, e])⟩
  · rw [run_indexAt_slice W E.st ⟨b, o, none⟩ l.length cap .i64 (k : Int) (by rw [hel]; exact E.slice), if_pos (by omega), hel, run_sizeOf_elem]
    simp [Result.andThen, add_plain]
  · have hsz : ∀ W, (sizeOf E.ty).run P W = .ok E.n W := fun W => run_sizeOf_elem W
    have he := E.size a
    simp [Instr.storeAt, Instr.sureAddr, storeVar, hsz, he, hst]
  · by_cases hj1 : j < k * E.n ∨ k * E.n + E.n ≤ j
    · rw [hout j hj1]; exact h1 j hj
    · have hjl : j - k * E.n < (E.val a).cells.size := by rw [E.size]; omega
      have := hin (j - k * E.n) _ (Array.getElem?_eq_getElem hjl)
      rw [show o + k * E.n + (j - k * E.n) = o + j by omega] at this
      rw [this]; rfl
  · obtain ⟨q, c, i, h3, h4, rfl⟩ := Elem.flat_all E _ j u hj
    have hi : i < E.n := by have := (Array.getElem?_eq_some_iff.1 h4).1; rw [E.size] at this; exact this
    by_cases hq : q = k
    · subst hq
      rw [List.getElem?_set_self hk] at h3
      obtain rfl := Option.some.inj h3
      have := hin i u h4
      rwa [Nat.add_assoc] at this
    · rw [List.getElem?_set_ne (Ne.symm hq)] at h3
      have hdis : q * E.n + i < k * E.n ∨ k * E.n + E.n ≤ q * E.n + i := by
        rcases Nat.lt_or_gt_of_ne hq with h | h
        · have : q * E.n + E.n ≤ k * E.n := by rw [← Nat.succ_mul]; exact Nat.mul_le_mul_right _ h
          omega
        · have : k * E.n + E.n ≤ q * E.n := by rw [← Nat.succ_mul]; exact Nat.mul_le_mul_right _ h
          omega
      rw [hout _ hdis]
      exact hc _ u (E.flat_get l q c i u h3 h4)
end
end Go.Agg
/-! One cell of a block written. -/
namespace Go.Agg
open Go.RowKit
variable {P : Program}
theorem Blk.set {w : World} {g : Nat} {t : TypeId} {cs : Array Value} (h : Blk w g t cs) (i : Nat) (v : Value) : Blk (w.setCell ⟨g, i, none⟩ v) g t (cs.setIfInBounds i v) := by
  unfold Blk at *
  simp [World.setCell, Array.getElem?_modify, h]
theorem Blk.run_put {w : World} {g : Nat} {t ty : TypeId} {cs : Array Value} (h : Blk w g t cs) (i : Nat) (hi : i < cs.size) (v : Value) (hv : v.cells = #[v]) (h1 : v.oneCell' = true) (hs : (P.info? ty).map (·.size) = some 1) :
    (Instr.storeAt ty (.pointer (some ⟨g, i, none⟩)) v).run P w = .ok () (w.setCell ⟨g, i, none⟩ v) := by
  have hst := run_storeCells_cells (P := P) g i v.cells.toList 0 w (fun j hj => by
    rw [hv] at hj
    obtain rfl : j = 0 := by simpa using hj
    rw [h.cell]
    simp [hi]) (fun j _ => frozen_of_row _ _ _ _ _ h) (by rw [hv]; simpa using h1)
  have hsz : (Go.sizeOf ty).run P w = .ok 1 w := by
    cases hq : P.info? ty with
    | none => simp [hq] at hs
    | some d =>
      have : d.size = 1 := by simpa [hq] using hs
      simp [Go.sizeOf, typeInfo, hq, this]
  rw [hv] at hst
  simp only [Nat.add_zero, World.setCells] at hst
  simp [Instr.storeAt, Instr.sureAddr, storeVar, hsz, hv, hst]
end Go.Agg
/-! A row of cells stored into the middle of a block. -/
namespace Go.Agg
open Go.RowKit
variable {P : Program}
def setAll (cs : Array Value) : Nat → List Value → Array Value
  | _, [] => cs
  | i, v :: vs => setAll (cs.setIfInBounds i v) (i + 1) vs
theorem Blk.setAll {g : Nat} {t : TypeId} : ∀ (vs : List Value) (i : Nat) (w : World) (cs : Array Value), Blk w g t cs → Blk (w.setCells g i vs) g t (Agg.setAll cs i vs)
  | [], _, _, _, h => h
  | v :: vs, i, _, _, h => Blk.setAll vs (i + 1) _ _ (h.set i v)
theorem setAll_mid : ∀ (vs a b c : List Value), b.length = vs.length → setAll (a ++ (b ++ c)).toArray a.length vs = (a ++ (vs ++ c)).toArray
  | [], a, b, c, h => by
    obtain rfl := List.length_eq_zero_iff.1 h
    rfl
  | v :: vs, a, [], c, h => by simp at h
  | v :: vs, a, y :: b, c, h => by
    have e : (a ++ (y :: b ++ c)).toArray.setIfInBounds a.length v = ((a ++ [v]) ++ (b ++ c)).toArray := by simp
    have h1 := setAll_mid vs (a ++ [v]) b c (by simpa using h)
    rw [setAll, e, show a.length + 1 = (a ++ [v]).length by simp, h1]
    simp
/-- a row stored: what lies there then -/
theorem Blk.run_row {w : World} {g : Nat} {t ty : TypeId} (a b c ds : Array Value) (h : Blk w g t (a ++ (b ++ c))) (hb : b.size = ds.size) (hs : (P.info? ty).map (·.size) = some ds.size) (h1 : ds.all (·.oneCell') = true) {i : Nat} (hi : i = a.size) :
    ∃ w', (Instr.storeAt ty (.pointer (some ⟨g, i, none⟩)) (.agg ds)).run P w = .ok () w' ∧ Blk w' g t (a ++ (ds ++ c)) ∧ Only (· = g) w w' := by
  subst hi
  refine ⟨_, run_storeAt_mid w g a.size ty ds (fun j hj => ⟨?_, frozen_of_row _ _ _ _ _ h⟩) hs h1, ?_, only_setCells _ _ _ _⟩
  · rw [h.cell]
    simp
    omega
  · have h2 := h.setAll ds.toList a.size
    have e := setAll_mid ds.toList a.toList b.toList c.toList (by simpa using hb)
    have e1 : (a.toList ++ (b.toList ++ c.toList)).toArray = a ++ (b ++ c) := by apply Array.ext'; simp
    have e2 : (a.toList ++ (ds.toList ++ c.toList)).toArray = a ++ (ds ++ c) := by apply Array.ext'; simp
    rw [e1, e2, Array.length_toList] at e
    rw [← e]
    exact h2
/-- one cell stored -/
theorem Blk.run_one {w : World} {g : Nat} {t ty : TypeId} {cs : Array Value} (h : Blk w g t cs) (i : Nat) (hi : i < cs.size) (v : Value) (hv : v.cells = #[v]) (h1 : v.oneCell' = true) (hs : (P.info? ty).map (·.size) = some 1) (ds : Array Value) (he : cs.setIfInBounds i v = ds) :
    ∃ w', (Instr.storeAt ty (.pointer (some ⟨g, i, none⟩)) v).run P w = .ok () w' ∧ Blk w' g t ds ∧ Only (· = g) w w' := by
  subst he
  exact ⟨_, h.run_put i hi v hv h1 hs, h.set i v, rfl, rfl, rfl, by simp [World.setCell], fun k _ hk => Below.heap_setCell _ _ _ _ hk⟩
end Go.Agg
/-! '[]byte(s)' and 'string(b)' -/
namespace Go.Proofs.Ytniibcgomnjfgaa
open Go.RowKit Pl Go.Agg
theorem bytes_below (w : World) (e : TypeId) (s : ByteArray) : Below w.heap.size w (Lib.bytesWorld w e s) :=
  ⟨rfl, rfl, rfl, by rw [Lib.bytesWorld_size]; omega, fun k hk => Lib.bytesWorld_at_old w e s k hk⟩
/-- a new row of bytes, as '[]byte(s)' makes it -/
def NewBytes (w w' : World) (v : Value) (s : List UInt8) : Prop :=
  ∃ cap fr, v = .slice (some ⟨w.heap.size, 0, none⟩) s.length cap ∧ s.length ≤ cap ∧ w'.heap[w.heap.size]? = some (.cells ((Lib.byteCells s).toArray ++ Array.replicate (cap - s.length) (.int .u8 0)) 5 fr) ∧ (fr.1 = cap ∧ fr.2 = cap + 1)
theorem NewBytes.slice {w w' : World} {v : Value} {s : List UInt8} (h : NewBytes w w' v s) : BytesAt w' v s := by
  obtain ⟨cap, fr, rfl, hc, hb, _⟩ := h
  refine .inr ⟨_, cap, rfl, Agg.heap_lt hb, fun j u hj => ?_⟩
  rw [add_plain, Nat.zero_add, cell_of_row _ _ _ _ _ _ hb]
  obtain ⟨k, a, i, h1, h2, rfl⟩ := Elem.flat_all EB s j u hj
  have hi : i = 0 := by have := (Array.getElem?_eq_some_iff.1 h2).1; have e : (EB.val a).cells.size = 1 := rfl; omega
  subst hi
  have hk := (List.getElem?_eq_some_iff.1 h1).1
  have hn : EB.n = 1 := rfl
  rw [hn, Nat.mul_one, Nat.add_zero, Array.getElem?_append_left (by simpa [Lib.byteCells] using hk)]
  have e2 : u = .int .u8 (a.toNat : Int) := by
    have : (EB.val a).cells[0]? = some (.int .u8 (a.toNat : Int)) := rfl
    rw [this] at h2
    exact (Option.some.inj h2).symm
  simp [Lib.byteCells, h1, e2]
theorem run_toBytes (w : World) (s : List UInt8) : ∃ v w', (convert 9 46 (.string ⟨s.toArray⟩)).run Try.prog w = .ok v w' ∧ NewBytes w w' v s ∧ Below w.heap.size w w' := by
  refine ⟨_, _, Lib.run_convert_string_bytes w 9 46 5 ⟨s.toArray⟩ Try.underlying9 (by kernel_rfl) Try.underlying5, ?_, bytes_below _ _ _⟩
  have hsz : (⟨s.toArray⟩ : ByteArray).size = s.length := Agg.bytes_size s
  have hge := grownCap_ge w s.length 0 5
  refine ⟨grownCap w s.length 0 5, (grownCap w s.length 0 5, grownCap w s.length 0 5 + 1), by rw [hsz], hge, ?_, rfl, rfl⟩
  rw [Lib.bytesWorld_at_new]
  have e : Lib.bytesCells w 5 ⟨s.toArray⟩ = (Lib.byteCells s).toArray ++ Array.replicate (grownCap w s.length 0 5 - s.length) (.int .u8 0) := by
    simp [Lib.bytesCells, hsz, Lib.byteCells]
  have e2 : ((Lib.byteCells s).toArray ++ Array.replicate (grownCap w s.length 0 5 - s.length) (Value.int .u8 0)).size = grownCap w s.length 0 5 := by
    simp [Lib.byteCells]; omega
  rw [e, e2]
theorem run_toStr {w : World} {v : Value} {s : List UInt8} (h : BytesAt w v s) : (convert 46 9 v).run Try.prog w = .ok (.string ⟨s.toArray⟩) w := by
  rcases h with ⟨p, c, rfl, rfl⟩ | ⟨p, cap, rfl, hp, h⟩
  · cases p with
    | none => exact run_convert_bytes_nil w 46 5 (by kernel_rfl) Try.underlying5 0 c 9 Try.underlying9
    | some p => exact run_convert_bytes_back w 46 9 5 p c [] (by kernel_rfl) Try.underlying5 Try.underlying9 (fun j hj => by simp at hj)
  · refine run_convert_bytes_back w 46 9 5 p cap s (by kernel_rfl) Try.underlying5 Try.underlying9 fun j hj => ?_
    have := h (j * 1 + 0) (.int .u8 (s[j].toNat : Int)) (EB.flat_get s j s[j] 0 _ (List.getElem?_eq_getElem hj) rfl)
    rwa [Nat.mul_one, Nat.add_zero] at this
section
variable {ops : Array Oper} {rest : List Oper} {o : Oper} {a : Act} {w : World} {Q : Exit → Act → World → Prop}
theorem wpList_toBytes (s : List UInt8) (x : Operand) (ho : o.op = .convert 9 46 x) (hw : Region.wanted o (yielded ops a.tmps) = true) (hx : a.eval x = .string ⟨s.toArray⟩)
    (h : ∀ v' w', NewBytes w w' v' s → Below w.heap.size w w' → wpList Try.prog ops Q rest (a.put o.dst v') w') : wpList Try.prog ops Q (o :: rest) a w := by
  obtain ⟨v', w', hr, h1, h2⟩ := run_toBytes w s
  refine wpList_valw hw ?_ (h v' w' h1 h2)
  simp [execOp, ho, hx, hr]
theorem wpList_toStr {v : Value} {s : List UInt8} (hs : BytesAt w v s) (x : Operand) (ho : o.op = .convert 46 9 x) (hw : Region.wanted o (yielded ops a.tmps) = true) (hx : a.eval x = v)
    (h : wpList Try.prog ops Q rest (a.put o.dst (.string ⟨s.toArray⟩)) w) : wpList Try.prog ops Q (o :: rest) a w := by
  subst hx
  refine wpList_valw hw ?_ h
  simp [execOp, ho, run_toStr hs]
end
end Go.Proofs.Ytniibcgomnjfgaa
