/- Paths in order: the plain law of both Sorted. (Several texts in one.) -/
import Derived.Test.YtniibcgomnjfgaaQAD
import Derived.Test.YtniibcgomnjfgaaQAB
import Derived.Lib.Bytealg
import Derived.Lib.BytesEntry
import Derived.Test.YtniibcgomnjfgaaQAC
import Derived.Sort.Statements
/-! Builts, and what was made: their cells; both as elements of slices. -/
namespace Go.Proofs.Ytniibcgomnjfgaa
open Go.RowKit Pl Go.Agg
abbrev H20 : Type := { h : List UInt8 // h.length = 20 }
instance : Inhabited H20 := ⟨⟨z20, rfl⟩⟩
/-- a class and a path -/
abbrev Md : Type := H20 × P20
instance : DecidableEq P20 := inferInstance
instance : DecidableEq H20 := inferInstance
instance : DecidableEq Md := inferInstance
instance : DecidableEq (List Md) := inferInstance
/-- a built -/
structure Bu where
  cl : H20
  ky : H20
  pa : P20
  by_ : Int
  ins : List Md
  deriving DecidableEq
/-- how a slice lies -/
abbrev IV : Type := Option Addr × Nat × Nat
def ivV (i : IV) : Value := .slice i.1 i.2.1 i.2.2
/-- a built, and how its inputs lie -/
abbrev BuV : Type := Bu × IV
def mC (x : Md) : Array Value := hC x.1.1 ++ pC x.2.1.1 x.2.1.2
def bC (x : BuV) : Array Value := hC x.1.cl.1 ++ (hC x.1.ky.1 ++ (pC x.1.pa.1.1 x.1.pa.1.2 ++ #[.int .i64 x.1.by_, ivV x.2]))
def zM : Md := (⟨z20, rfl⟩, ⟨(z20, []), rfl⟩)
def zB : Bu := ⟨⟨z20, rfl⟩, ⟨z20, rfl⟩, ⟨(z20, []), rfl⟩, 0, []⟩
theorem mC_size (x : Md) : (mC x).size = 41 := by simp [mC, pC_size, hC_size, x.1.2, x.2.2]
theorem bC_size (x : BuV) : (bC x).size = 63 := by simp [bC, pC_size, hC_size, x.1.cl.2, x.1.ky.2, x.1.pa.2]
theorem mC_one (x : Md) : (mC x).all (·.oneCell') = true := by rw [mC, Array.all_append, pC_one, hC_one]; rfl
theorem bC_one (x : BuV) : (bC x).all (·.oneCell') = true := by
  rw [bC, Array.all_append, Array.all_append, Array.all_append, pC_one, hC_one, hC_one]; simp [Value.oneCell', ivV]
theorem mC_cl (x : Md) (j : Nat) (v : Value) (h : (hC x.1.1)[j]? = some v) : (mC x)[0 + j]? = some v := by
  have := (Array.getElem?_eq_some_iff.1 h).1
  rw [mC, Nat.zero_add, Array.getElem?_append_left this]; exact h
theorem mC_pa (x : Md) (j : Nat) (v : Value) (h : (pC x.2.1.1 x.2.1.2)[j]? = some v) : (mC x)[20 + j]? = some v := by
  rw [mC, Array.getElem?_append_right (by rw [hC_size, x.1.2]; omega), hC_size, x.1.2, show 20 + j - 20 = j by omega]; exact h
theorem bC_cl (x : BuV) (j : Nat) (v : Value) (h : (hC x.1.cl.1)[j]? = some v) : (bC x)[0 + j]? = some v := by
  have := (Array.getElem?_eq_some_iff.1 h).1
  rw [bC, Nat.zero_add, Array.getElem?_append_left this]; exact h
theorem bC_ky (x : BuV) (j : Nat) (v : Value) (h : (hC x.1.ky.1)[j]? = some v) : (bC x)[20 + j]? = some v := by
  have := (Array.getElem?_eq_some_iff.1 h).1
  rw [bC, Array.getElem?_append_right (by rw [hC_size, x.1.cl.2]; omega), hC_size, x.1.cl.2, show 20 + j - 20 = j by omega, Array.getElem?_append_left this]; exact h
theorem bC_pa (x : BuV) (j : Nat) (v : Value) (h : (pC x.1.pa.1.1 x.1.pa.1.2)[j]? = some v) : (bC x)[40 + j]? = some v := by
  have := (Array.getElem?_eq_some_iff.1 h).1
  rw [bC, Array.getElem?_append_right (by rw [hC_size, x.1.cl.2]; omega), hC_size, x.1.cl.2, show 40 + j - 20 = 20 + j by omega, Array.getElem?_append_right (by rw [hC_size, x.1.ky.2]; omega), hC_size, x.1.ky.2, show 20 + j - 20 = j by omega, Array.getElem?_append_left this]; exact h
theorem bC_tail (x : BuV) (j : Nat) : (bC x)[61 + j]? = (#[.int .i64 x.1.by_, ivV x.2] : Array Value)[j]? := by
  rw [bC, Array.getElem?_append_right (by rw [hC_size, x.1.cl.2]; omega), hC_size, x.1.cl.2, show 61 + j - 20 = 41 + j by omega, Array.getElem?_append_right (by rw [hC_size, x.1.ky.2]; omega), hC_size, x.1.ky.2, show 41 + j - 20 = 21 + j by omega, Array.getElem?_append_right (by rw [pC_size, x.1.pa.2]; omega), pC_size, x.1.pa.2, show 21 + j - (20 + 1) = j by omega]
theorem mC_zero : (Try.prog.info? 55).map (·.zero) = some (some (.agg (mC zM))) := by kernel_rfl
theorem mC_info (x : Md) : (Try.prog.info? 55).map (·.size) = some (mC x).size := by rw [mC_size]; kernel_rfl
theorem mC_under : Try.prog.underlying 55 = some (.struct (Try.prog.fieldsOf 55)) := by kernel_rfl
theorem bC_zero : (Try.prog.info? 35).map (·.zero) = some (some (.agg (bC (zB, none, 0, 0)))) := by kernel_rfl
theorem bC_info (x : BuV) : (Try.prog.info? 35).map (·.size) = some (bC x).size := by rw [bC_size]; kernel_rfl
theorem bC_under : Try.prog.underlying 35 = some (.struct (Try.prog.fieldsOf 35)) := by kernel_rfl
theorem made_under : Try.prog.underlying 33 = some (.slice 55) := by kernel_rfl
/-- what was made, as elements -/
def EMd : Elem Try.prog Md where
  ty := 55
  st := 33
  n := 41
  bytes := 64
  val := fun x => .agg (mC x)
  zero := .agg (mC zM)
  pos := by omega
  small := by omega
  size := fun x => by simp [Value.cells, mC_size]
  one := fun x v hv => one_of (mC_one x) v hv
  zsize := by simp [Value.cells, mC_size]
  slice := by kernel_rfl
  info := info_of mC_zero (by kernel_rfl) (by kernel_rfl)
  load := fun w a x hp h => LoadsL.of_cells hp h mC_under rfl (mC_info x)
abbrev MdsAt (w : World) (v : Value) (l : List Md) : Prop := SliceOf EMd w v l
/-- builts as elements -/
def EBu : Elem Try.prog BuV where
  ty := 35
  st := 22
  n := 63
  bytes := 112
  val := fun x => .agg (bC x)
  zero := .agg (bC (zB, none, 0, 0))
  pos := by omega
  small := by omega
  size := fun x => by simp [Value.cells, bC_size]
  one := fun x v hv => one_of (bC_one x) v hv
  zsize := by simp [Value.cells, bC_size]
  slice := by kernel_rfl
  info := info_of bC_zero (by kernel_rfl) (by kernel_rfl)
  load := fun w a x hp h => LoadsL.of_cells hp h bC_under rfl (bC_info x)
theorem mds_len {w : World} {v : Value} {l : List Md} (h : MdsAt w v l) (W : World) : (Builtin.len_ #[33] 3 #[v]).run Try.prog W = .ok (.int .i64 (l.length : Int)) W := h.len W
/-- builts: each, with its inputs -/
def InsAt (w : World) (x : BuV) : Prop := MdsAt w (ivV x.2) x.1.ins
structure BusAt (w : World) (v : Value) (l : List BuV) : Prop where
  row : SliceOf EBu w v l
  ins : ∀ x ∈ l, InsAt w x
theorem InsAt.below {w w' : World} {x : BuV} (h : InsAt w x) (hb : Below w.heap.size w w') : InsAt w' x := SliceOf.below h hb
theorem BusAt.below {w w' : World} {v : Value} {l : List BuV} (h : BusAt w v l) (hb : Below w.heap.size w w') : BusAt w' v l := ⟨h.row.below hb, fun x hx => (h.ins x hx).below hb⟩
theorem bus_len {w : World} {v : Value} {l : List BuV} (h : BusAt w v l) (W : World) : (Builtin.len_ #[22] 3 #[v]).run Try.prog W = .ok (.int .i64 (l.length : Int)) W := h.row.len W
/-- what lies at a built -/
structure BuL (w : World) (p : Addr) (x : BuV) : Prop where
  all : LoadsL Try.prog w 35 (some p) (.agg (bC x))
  cls : LoadsL Try.prog w 30 (some (p.add 0)) (.agg (hC x.1.cl.1))
  key : LoadsL Try.prog w 30 (some (p.add 20)) (.agg (hC x.1.ky.1))
  path : LoadsL Try.prog w 32 (some (p.add 40)) (.agg (pC x.1.pa.1.1 x.1.pa.1.2))
  pname : LoadsL Try.prog w 9 (some ((p.add 40).add 20)) (.string ⟨x.1.pa.1.2.toArray⟩)
  by_ : LoadsL Try.prog w 3 (some (p.add 61)) (.int .i64 x.1.by_)
  ins : LoadsL Try.prog w 33 (some (p.add 62)) (ivV x.2)
theorem BuL.of_cells {w : World} {p : Addr} {x : BuV} (hp : p.block < w.heap.size) (h : ∀ j u, (bC x)[j]? = some u → w.cell? (p.add j) = some u) : BuL w p x where
  all := LoadsL.of_cells hp h bC_under rfl (bC_info x)
  cls := LoadsL.of_cells (by rw [add_block]; exact hp) (fun j v hj => by rw [add_add]; exact h _ _ (bC_cl x j v hj)) Try.underlying30 rfl (hC_info _ x.1.cl.2)
  key := LoadsL.of_cells (by rw [add_block]; exact hp) (fun j v hj => by rw [add_add]; exact h _ _ (bC_ky x j v hj)) Try.underlying30 rfl (hC_info _ x.1.ky.2)
  path := LoadsL.of_cells (by rw [add_block]; exact hp) (fun j v hj => by rw [add_add]; exact h _ _ (bC_pa x j v hj)) pC_under rfl (pC_info _ _ x.1.pa.2)
  pname := LoadsL.of_cell (by rw [add_add]; exact h _ _ (bC_pa x 20 _ (pC_name _ _ x.1.pa.2))) Try.underlying9 rfl
  by_ := LoadsL.of_cell (h 61 _ (by rw [show 61 = 61 + 0 from rfl, bC_tail]; rfl)) Try.underlying3 rfl
  ins := LoadsL.of_cell (h 62 _ (by rw [show 62 = 61 + 1 from rfl, bC_tail]; rfl)) made_under rfl
theorem BuL.below {w w' : World} {p : Addr} {x : BuV} (h : BuL w p x) (hb : Below w.heap.size w w') : BuL w' p x :=
  ⟨h.all.below hb, h.cls.below hb, h.key.below hb, h.path.below hb, h.pname.below hb, h.by_.below hb, h.ins.below hb⟩
/-- what lies in a box with a built -/
structure BuG (w : World) (b : Nat) (x : BuV) : Prop where
  all : LoadsL Try.prog w 35 (some ⟨b, 0, none⟩) (.agg (bC x))
  cls : LoadsL Try.prog w 30 (some ⟨b, 0, none⟩) (.agg (hC x.1.cl.1))
  key : LoadsL Try.prog w 30 (some ⟨b, 20, none⟩) (.agg (hC x.1.ky.1))
  path : LoadsL Try.prog w 32 (some ⟨b, 40, none⟩) (.agg (pC x.1.pa.1.1 x.1.pa.1.2))
  pname : LoadsL Try.prog w 9 (some ⟨b, 60, none⟩) (.string ⟨x.1.pa.1.2.toArray⟩)
  by_ : LoadsL Try.prog w 3 (some ⟨b, 61, none⟩) (.int .i64 x.1.by_)
  ins : LoadsL Try.prog w 33 (some ⟨b, 62, none⟩) (ivV x.2)
theorem BuG.of_blk {w : World} {b : Nat} {x : BuV} (h : Blk w b 35 (bC x)) : BuG w b x := by
  have H := BuL.of_cells (w := w) (p := ⟨b, 0, none⟩) (x := x) h.lt (fun j u hj => by rw [add_plain, h.cell, Nat.zero_add]; exact hj)
  exact ⟨H.all, H.cls, H.key, H.path, H.pname, H.by_, H.ins⟩
theorem BuG.below {w w' : World} {b : Nat} {x : BuV} (h : BuG w b x) (hb : Below w.heap.size w w') : BuG w' b x :=
  ⟨h.all.below hb, h.cls.below hb, h.key.below hb, h.path.below hb, h.pname.below hb, h.by_.below hb, h.ins.below hb⟩
/-- an element of a slice of builts -/
theorem BusAt.at_ {w : World} {v : Value} {l : List BuV} (h : BusAt w v l) (k : Nat) (x : BuV) (hk : l[k]? = some x) :
    ∃ q : Addr, (∀ W, (Instr.indexAt 22 v (.int .i64 (k : Int))).run Try.prog W = .ok (.pointer (some q)) W) ∧ BuL w q x ∧ InsAt w x := by
  obtain ⟨p, h1, h2, h3, _⟩ := h.row.at_ k x hk
  exact ⟨p, h1, BuL.of_cells h2 h3, h.ins x (List.mem_of_getElem? hk)⟩
/-- what lies at one that was made -/
structure MdL (w : World) (p : Addr) (x : Md) : Prop where
  all : LoadsL Try.prog w 55 (some p) (.agg (mC x))
  cls : LoadsL Try.prog w 30 (some (p.add 0)) (.agg (hC x.1.1))
  path : LoadsL Try.prog w 32 (some (p.add 20)) (.agg (pC x.2.1.1 x.2.1.2))
  pname : LoadsL Try.prog w 9 (some ((p.add 20).add 20)) (.string ⟨x.2.1.2.toArray⟩)
theorem MdL.of_cells {w : World} {p : Addr} {x : Md} (hp : p.block < w.heap.size) (h : ∀ j u, (mC x)[j]? = some u → w.cell? (p.add j) = some u) : MdL w p x where
  all := LoadsL.of_cells hp h mC_under rfl (mC_info x)
  cls := LoadsL.of_cells (by rw [add_block]; exact hp) (fun j v hj => by rw [add_add]; exact h _ _ (mC_cl x j v hj)) Try.underlying30 rfl (hC_info _ x.1.2)
  path := LoadsL.of_cells (by rw [add_block]; exact hp) (fun j v hj => by rw [add_add]; exact h _ _ (mC_pa x j v hj)) pC_under rfl (pC_info _ _ x.2.2)
  pname := LoadsL.of_cell (by rw [add_add]; exact h _ _ (mC_pa x 20 _ (pC_name _ _ x.2.2))) Try.underlying9 rfl
theorem MdL.below {w w' : World} {p : Addr} {x : Md} (h : MdL w p x) (hb : Below w.heap.size w w') : MdL w' p x := ⟨h.all.below hb, h.cls.below hb, h.path.below hb, h.pname.below hb⟩
theorem mds_at {w : World} {v : Value} {l : List Md} (h : MdsAt w v l) (k : Nat) (x : Md) (hk : l[k]? = some x) :
    ∃ q : Addr, (∀ W, (Instr.indexAt 33 v (.int .i64 (k : Int))).run Try.prog W = .ok (.pointer (some q)) W) ∧ MdL w q x := by
  obtain ⟨p, h1, h2, h3, _⟩ := h.at_ k x hk
  exact ⟨p, h1, MdL.of_cells h2 h3⟩
/-- what lies in a box with one -/
structure MdG (w : World) (b : Nat) (x : Md) : Prop where
  all : LoadsL Try.prog w 55 (some ⟨b, 0, none⟩) (.agg (mC x))
  cls : LoadsL Try.prog w 30 (some ⟨b, 0, none⟩) (.agg (hC x.1.1))
  path : LoadsL Try.prog w 32 (some ⟨b, 20, none⟩) (.agg (pC x.2.1.1 x.2.1.2))
  pname : LoadsL Try.prog w 9 (some ⟨b, 40, none⟩) (.string ⟨x.2.1.2.toArray⟩)
theorem MdG.of_blk {w : World} {b : Nat} {x : Md} (h : Blk w b 55 (mC x)) : MdG w b x := by
  have H := MdL.of_cells (w := w) (p := ⟨b, 0, none⟩) (x := x) h.lt (fun j u hj => by rw [add_plain, h.cell, Nat.zero_add]; exact hj)
  exact ⟨H.all, H.cls, H.path, H.pname⟩
theorem MdG.below {w w' : World} {b : Nat} {x : Md} (h : MdG w b x) (hb : Below w.heap.size w w') : MdG w' b x := ⟨h.all.below hb, h.cls.below hb, h.path.below hb, h.pname.below hb⟩
theorem MdL.of_blk {w : World} {g : Nat} {x : Md} (h : Blk w g 55 (mC x)) : MdL w ⟨g, 0, none⟩ x :=
  MdL.of_cells h.lt fun j u hj => by rw [add_plain, h.cell, Nat.zero_add]; exact hj
end Go.Proofs.Ytniibcgomnjfgaa
/-! (of general use) base.order, base.Less, spenceref03.Less: how two paths stand. -/
namespace Go.Proofs.Ytniibcgomnjfgaa
open Go.RowKit Pl Go.Agg
open Go.Lib (compareBytes)
/-- how two paths stand -/
def cmpP (h n h' n' : List UInt8) : Int := if h == h' then compareBytes n n' else compareBytes h h'
theorem run_compareBytes (w : World) (a b : List UInt8) (g off g' off' c c' : Nat) (ha : ∀ j x, a[j]? = some x → w.cell? ⟨g, off + j, none⟩ = some (.int .u8 (x.toNat : Int))) (hb : ∀ j x, b[j]? = some x → w.cell? ⟨g', off' + j, none⟩ = some (.int .u8 (x.toNat : Int))) :
    (Extern.BytealgCompare.compare #[.slice (some ⟨g, off, none⟩) a.length c, .slice (some ⟨g', off', none⟩) b.length c']).run Try.prog w = .ok (.int .i64 (compareBytes a b)) w := by
  change Sem.run Try.prog (do pure (goInt (Extern.BytealgCompare.cmp (← Extern.Bytes.bytesOf (.slice (some ⟨g, off, none⟩) a.length c)) (← Extern.Bytes.bytesOf (.slice (some ⟨g', off', none⟩) b.length c'))))) w = _
  have key : ∀ (l : List UInt8) (g off : Nat), (∀ j x, l[j]? = some x → w.cell? ⟨g, off + j, none⟩ = some (.int .u8 (x.toNat : Int))) → (Extern.Bytes.loadBytes ⟨g, off, none⟩ l.length .empty).run Try.prog w = .ok ⟨l.toArray⟩ w := fun l g off h => by
    have := Lib.run_loadBytesX (P := Try.prog) (w := w) (l.map fun c => (c.toNat : Int)) ⟨g, off, none⟩ .empty (fun j x hj => by
      rw [List.getElem?_map] at hj
      cases hl : l[j]? with
      | none => rw [hl] at hj; simp at hj
      | some c =>
        rw [hl] at hj
        obtain rfl := Option.some.inj hj
        have := h j c hl
        rw [Addr.add]
        split
        · rename_i h0; simpa [h0] using this
        · exact this)
    simp only [List.length_map] at this
    rw [this]
    have : Lib.bytesOf (l.map fun c => (c.toNat : Int)) = l := by
      simp [Lib.bytesOf, Function.comp_def]
    rw [this]; simp
  have h1 := key a g off ha
  have h2 := key b g' off' hb
  simp only [Extern.Bytes.bytesOf, Sem.run_bind, Sem.run_pure, Result.andThen, h1, h2]
  rw [Lib.cmp_eq]
  simp [goInt]
set_option maxRecDepth 100000 in
theorem bytesCompare_any (w : World) (a b : List UInt8) (g off g' off' c c' : Nat) (ha : ∀ j x, a[j]? = some x → w.cell? ⟨g, off + j, none⟩ = some (.int .u8 (x.toNat : Int))) (hb : ∀ j x, b[j]? = some x → w.cell? ⟨g', off' + j, none⟩ = some (.int .u8 (x.toNat : Int))) :
    Calls Try.prog 42 #[.slice (some ⟨g, off, none⟩) a.length c, .slice (some ⟨g', off', none⟩) b.length c'] w fun e w' => e = .returned (.int .i64 (compareBytes a b)) ∧ w = w' := by
  have hr := run_compareBytes w a b g off g' off' c c' ha hb
  go_enter Try.func42, Try.ntmps42
  go_wp2
  rw [run_callFunc_extern Try.func54 (by kernel_rfl) (by kernel_rfl) (by kernel_rfl) (e := Extern.BytealgCompare.compare) (by kernel_rfl), hr]
  simp only [Result.andThen]
  rw [Oper.upon_value]
  go_wp2
  go_ret
  exact ⟨rfl, rfl⟩
theorem isNaN_any (s : ByteArray) (w : World) : Calls Try.prog 72 #[.string s] w fun e w' => e = .returned (.bool false) ∧ w = w' := by
  go_enter Try.func72, Try.ntmps72
  go_wp2
  all_goals go_ret
  all_goals simp
theorem compare_cases : ∀ (a b : List UInt8), compareBytes a b = if Op.bytesLess a b then -1 else if Op.bytesLess b a then 1 else 0
  | [], [] => rfl
  | [], _ :: _ => by simp [compareBytes, Op.bytesLess]
  | _ :: _, [] => by simp [compareBytes, Op.bytesLess]
  | x :: a, y :: b => by
    have ih := compare_cases a b
    unfold compareBytes Op.bytesLess
    by_cases h1 : x < y
    · simp [h1]
    · by_cases h2 : y < x
      · have : ¬ x = y := fun e => by subst e; exact h1 h2
        simp [h1, h2, this]
      · have : x = y := UInt8.le_antisymm (UInt8.not_lt.1 h2) (UInt8.not_lt.1 h1)
        subst this
        simp [h1, ih]
theorem bytesLess_asymm : ∀ (a b : List UInt8), Op.bytesLess a b = true → Op.bytesLess b a = false
  | [], [], h => by simp [Op.bytesLess] at h
  | [], _ :: _, _ => by simp [Op.bytesLess]
  | _ :: _, [], h => by simp [Op.bytesLess] at h
  | x :: a, y :: b, h => by
    simp only [Op.bytesLess, Bool.or_eq_true, Bool.and_eq_true, decide_eq_true_eq, beq_iff_eq] at h
    simp only [Op.bytesLess, Bool.or_eq_false_iff, decide_eq_false_iff_not, Bool.and_eq_false_iff, beq_eq_false_iff_ne]
    rcases h with h | ⟨rfl, h⟩
    · exact ⟨fun h' => absurd (UInt8.lt_trans h h') (UInt8.lt_irrefl _), .inl (fun e => by subst e; exact UInt8.lt_irrefl _ h)⟩
    · exact ⟨UInt8.lt_irrefl _, .inr (bytesLess_asymm a b h)⟩
theorem bytesLess_irrefl (a : List UInt8) : Op.bytesLess a a = false := by
  cases h : Op.bytesLess a a with
  | false => rfl
  | true => exact absurd (bytesLess_asymm a a h) (by rw [h]; simp)
theorem bytesLess_total : ∀ (a b : List UInt8), a ≠ b → Op.bytesLess a b = false → Op.bytesLess b a = true
  | [], [], h, _ => absurd rfl h
  | [], _ :: _, _, h => by simp [Op.bytesLess] at h
  | _ :: _, [], _, _ => by simp [Op.bytesLess]
  | x :: a, y :: b, hne, h => by
    simp only [Op.bytesLess, Bool.or_eq_false_iff, decide_eq_false_iff_not, Bool.and_eq_false_iff, beq_eq_false_iff_ne] at h
    simp only [Op.bytesLess, Bool.or_eq_true, Bool.and_eq_true, decide_eq_true_eq, beq_iff_eq]
    by_cases e : x = y
    · subst e
      refine .inr ⟨rfl, bytesLess_total a b (fun e => hne (by rw [e])) ?_⟩
      exact h.2.resolve_left (fun h' => h' rfl)
    · exact .inl (UInt8.lt_of_le_of_ne (UInt8.not_lt.1 h.1) (Ne.symm e))
theorem cmpString_any (a b : List UInt8) (w : World) : Calls Try.prog 59 #[.string ⟨a.toArray⟩, .string ⟨b.toArray⟩] w fun e w' => e = .returned (.int .i64 (compareBytes a b)) ∧ w = w' := by
  have hta := Agg.bytes_toList a
  have htb := Agg.bytes_toList b
  rw [compare_cases]
  by_cases hab : a = b
  · subst hab
    have h1 := bytesLess_irrefl a
    rw [h1]
    go_enter Try.func59, Try.ntmps59
    go_wp2_with (go_at_call 72; refine (isNaN_any _ _).mono ?_; rintro e w' ⟨rfl, rfl⟩)
    go_ret
    exact ⟨rfl, rfl⟩
  · have hb : (a == b) = false := by simpa using hab
    cases h1 : Op.bytesLess a b with
    | true =>
      have h2 := bytesLess_asymm _ _ h1
      go_enter Try.func59, Try.ntmps59
      go_wp2_with (go_at_call 72; refine (isNaN_any _ _).mono ?_; rintro e w' ⟨rfl, rfl⟩)
      go_ret
      exact ⟨rfl, rfl⟩
    | false =>
      have h2 := bytesLess_total _ _ hab h1
      rw [h2]
      go_enter Try.func59, Try.ntmps59
      go_wp2_with (go_at_call 72; refine (isNaN_any _ _).mono ?_; rintro e w' ⟨rfl, rfl⟩)
      go_ret
      exact ⟨rfl, rfl⟩
theorem pC_byte (h n : List UInt8) (j : Nat) (x : UInt8) (hj : h[j]? = some x) : (pC h n)[j]? = some (.int .u8 (x.toNat : Int)) := by
  have hlt := (List.getElem?_eq_some_iff.1 hj).1
  have := pC_hash h n j (.int .u8 (x.toNat : Int)) (by rw [hC_get h j hlt]; rw [List.getElem?_eq_getElem hlt] at hj; rw [Option.some.inj hj])
  simpa using this
theorem slice_hash (g : Nat) (w : World) : (Instr.sliceAt 30 (.pointer (some ⟨g, 0, none⟩)) none none none).run Try.prog w = .ok (.slice (some ⟨g, 0, none⟩) 20 20) w := by kernel_rfl
set_option maxRecDepth 100000 in
set_option maxHeartbeats 1000000 in
theorem order_any (h n h' n' : List UInt8) (hl : h.length = 20) (hl' : h'.length = 20) (w : World) :
    Calls Try.prog 46 #[.agg (pC h n), .agg (pC h' n')] w fun e w' => e = .returned (.int .i64 (cmpP h n h' n')) ∧ Below w.heap.size w w' := by
  have hb1 := heap_alloc_new (w.alloc (.cells (pC h n) 32)) (.cells (pC h' n') 32)
  have hb0 : ((w.alloc (.cells (pC h n) 32)).alloc (.cells (pC h' n') 32)).heap[w.heap.size]? = _ := (heap_alloc_old _ _ (by simp)).trans (heap_alloc_new w (.cells (pC h n) 32))
  have hw : Below w.heap.size w ((w.alloc (.cells (pC h n) 32)).alloc (.cells (pC h' n') 32)) := ((Below.refl _ _).alloc (Nat.le_refl _) _).alloc (by simp) _
  rw [show (w.alloc (.cells (pC h n) 32)).heap.size = w.heap.size + 1 by simp] at hb1
  have HL := Lib.hid hl
  have HL' := Lib.hid hl'
  clear hl hl'
  have hq0 : (Instr.loadAt 30 (.pointer (some ⟨w.heap.size, 0, none⟩))).run Try.prog ((w.alloc (.cells (pC h n) 32)).alloc (.cells (pC h' n') 32)) = _ := Agg.run_loadAt_sub hb0 (pC_hash h n) Try.underlying30 rfl (hC_info _ HL.out)
  have hq1 : (Instr.loadAt 30 (.pointer (some ⟨w.heap.size + 1, 0, none⟩))).run Try.prog ((w.alloc (.cells (pC h n) 32)).alloc (.cells (pC h' n') 32)) = _ := Agg.run_loadAt_sub hb1 (pC_hash h' n') Try.underlying30 rfl (hC_info _ HL'.out)
  have hqq : ∀ w, (binOp .eql 30 (.agg (hC h)) (.agg (hC h'))).run Try.prog w = .ok (.bool (h == h')) w := fun w => eql_hash _ _ HL.out HL'.out w
  cases hh : (h == h') with
  | true =>
    have hcm : cmpP h n h' n' = compareBytes n n' := by simp [cmpP, hh]
    have c0 : ((w.alloc (.cells (pC h n) 32)).alloc (.cells (pC h' n') 32)).cell? ⟨w.heap.size, 20, none⟩ = some (.string ⟨n.toArray⟩) := by rw [cell_of_row _ _ _ _ _ _ hb0, pC_name h n HL.out]
    have c1 : ((w.alloc (.cells (pC h n) 32)).alloc (.cells (pC h' n') 32)).cell? ⟨w.heap.size + 1, 20, none⟩ = some (.string ⟨n'.toArray⟩) := by rw [cell_of_row _ _ _ _ _ _ hb1, pC_name h' n' HL'.out]
    rw [hh] at hqq
    have HH := Lib.hid hh
    clear hh
    rw [hcm]
    clear hcm
    go_enter Try.func46, Try.ntmps46
    go_wp2_with (first | (with_reducible refine Agg.wpList_loadw 30 _ rfl rfl (.pointer (some ⟨w.heap.size, 0, none⟩)) rfl (.agg (hC h)) hq0 ?_) | (with_reducible refine Agg.wpList_loadw 30 _ rfl rfl (.pointer (some ⟨w.heap.size + 1, 0, none⟩)) rfl (.agg (hC h')) hq1 ?_) | (with_reducible refine Agg.wpList_eqlw 30 30 _ _ rfl rfl (hC h) (hC h') rfl rfl true (by kernel_rfl) hqq ?_))
    refine (cmpString_any _ _ _).mono ?_
    rintro e w1 ⟨rfl, rfl⟩
    go_wp2_with fail
    go_ret
    exact ⟨rfl, hw⟩
  | false =>
    have hcm : cmpP h n h' n' = compareBytes h h' := by simp [cmpP, hh]
    rw [hh] at hqq
    have HH := Lib.hid hh
    clear hh
    rw [hcm]
    clear hcm
    go_enter Try.func46, Try.ntmps46
    go_wp2_with (first | (with_reducible refine Agg.wpList_loadw 30 _ rfl rfl (.pointer (some ⟨w.heap.size, 0, none⟩)) rfl (.agg (hC h)) hq0 ?_) | (with_reducible refine Agg.wpList_loadw 30 _ rfl rfl (.pointer (some ⟨w.heap.size + 1, 0, none⟩)) rfl (.agg (hC h')) hq1 ?_) | (with_reducible refine Agg.wpList_eqlw 30 30 _ _ rfl rfl (hC h) (hC h') rfl rfl false (by kernel_rfl) hqq ?_))
    clear hq0 hq1 hqq
    generalize (w.alloc (.cells (pC h n) 32)).alloc (.cells (pC h' n') 32) = w0 at *
    have hcc : ∀ x : Later w0, Calls Try.prog 42 #[.slice (some ⟨w.heap.size, 0, none⟩) 20 20, .slice (some ⟨w.heap.size + 1, 0, none⟩) 20 20] x.w fun e w' => e = .returned (.int .i64 (compareBytes h h')) ∧ x.w = w' := fun x => by
      have := bytesCompare_any x.w h h' w.heap.size 0 (w.heap.size + 1) 0 20 20 (fun j y hj => by rw [Nat.zero_add, cell_of_row _ _ _ _ _ _ (x.heap hb0), pC_byte h n j y hj]) (fun j y hj => by rw [Nat.zero_add, cell_of_row _ _ _ _ _ _ (x.heap hb1), pC_byte h' n' j y hj])
      rwa [HL.out, HL'.out] at this
    have hs := slice_hash
    simp only [Act.put, List.setIfInBounds_toArray, List.set_cons_succ, List.set_cons_zero]
    refine Agg.wp_region_later_lit (by kernel_rfl) (by kernel_rfl) ?_
    repeat go_big_quiet_step ((go_at_call 42; exact Agg.Calls.later_same (hcc _)))
    refine wpQuiet_nil ?_
    intro _ hw'
    obtain ⟨x, rfl⟩ := hw'
    go_wp2_with fail
    go_ret
    exact ⟨rfl, Agg.belowThen hw (Nat.le_refl _) x.h⟩
end Go.Proofs.Ytniibcgomnjfgaa
/-! (of general use) spenceref03.Less -/
namespace Go.Proofs.Ytniibcgomnjfgaa
open Go.RowKit Pl Go.Agg
open Go.Lib (compareBytes)
theorem compare_diff : ∀ (k : Nat) (a b : List UInt8) (x y : UInt8), a[k]? = some x → b[k]? = some y → a.take k = b.take k → x ≠ y → decide (compareBytes a b < 0) = decide (x < y)
  | 0, x :: a, y :: b, _, _, hx, hy, _, hne => by
    simp only [List.getElem?_cons_zero, Option.some.injEq] at hx hy
    subst hx hy
    unfold compareBytes
    by_cases h1 : x < y
    · simp [h1]
    · have h2 : y < x := UInt8.lt_of_le_of_ne (UInt8.not_lt.1 h1) (Ne.symm hne)
      simp [h1, h2]
  | k + 1, x :: a, y :: b, _, _, hx, hy, ht, hne => by
    simp only [List.getElem?_cons_succ] at hx hy
    simp only [List.take_succ_cons, List.cons.injEq] at ht
    obtain ⟨rfl, ht⟩ := ht
    have := compare_diff k a b _ _ hx hy ht hne
    unfold compareBytes
    simpa [UInt8.lt_irrefl] using this
  | 0, [], _, _, _, hx, _, _, _ => by simp at hx
  | 0, _ :: _, [], _, _, _, hy, _, _ => by simp at hy
  | _ + 1, [], _, _, _, hx, _, _, _ => by simp at hx
  | _ + 1, _ :: _, [], _, _, _, hy, _, _ => by simp at hy
theorem compare_less (a b : List UInt8) : decide (compareBytes a b < 0) = Op.bytesLess a b := by
  rw [compare_cases]
  cases Op.bytesLess a b <;> cases Op.bytesLess b a <;> simp
end Go.Proofs.Ytniibcgomnjfgaa
/-! A path as a map's key. -/
namespace Go.Proofs.Ytniibcgomnjfgaa
open Go.RowKit Pl Go.Mp Go.Agg Go.Instr
theorem part_byte (h : List UInt8) (i : Nat) (hi : i < h.length) (w : World) : (Go.part 5 (hC h) i).run Try.prog w = .ok (.int .u8 (h[i].toNat : Int)) w := by
  unfold Go.part
  have : (isAgg 5).run Try.prog w = .ok false w := by kernel_rfl
  simp only [Sem.run_bind, this, Result.andThen_ok, Bool.false_eq_true, if_false, hC_get h i hi, Sem.run_pure]
theorem check_byte (e : Bool) (n : Nat) (k : Int) (w : World) : (checkKey e (n + 1) 5 (.int .u8 k)).run Try.prog w = .ok () w := by
  unfold checkKey
  rw [Sem.run_bind, run_underlying Try.underlying5 w]
  simp [Result.andThen]
theorem check_hash (e : Bool) (n : Nat) (h : List UInt8) (hl : h.length = 20) (w : World) : (checkKey e (n + 2) 30 (.agg (hC h))).run Try.prog w = .ok () w := by
  unfold checkKey
  rw [Sem.run_bind, run_underlying Try.underlying30 w]
  have hsz : ∀ w, (Go.sizeOf 5).run Try.prog w = .ok 1 w := fun w => by kernel_rfl
  simp only [Result.andThen_ok, Std.Legacy.Range.forIn_eq_forIn_range', Std.Legacy.Range.size, Nat.sub_zero, Nat.add_sub_cancel, Nat.div_one]
  have hall : ∀ i ∈ List.range' 0 20 1, i < h.length := fun i hi => by have := List.mem_range'_1.1 hi; omega
  generalize List.range' 0 20 1 = l at hall ⊢
  induction l with
  | nil => simp
  | cons i l ih =>
    simp only [List.forIn_cons, Sem.run_bind, hsz, Result.andThen_ok, Nat.mul_one, part_byte h i (hall i (by simp)), check_byte, Sem.run_pure]
    have := ih fun j hj => hall j (by simp [hj])
    simp only [Sem.run_bind, Sem.run_pure] at this ⊢
    exact this
theorem check_path (e : Bool) (n : Nat) (p : P20) (w : World) : (checkKey e (n + 3) 32 (pV p)).run Try.prog w = .ok () w := by
  unfold checkKey pV
  rw [Sem.run_bind, run_underlying pC_under w]
  simp only [Result.andThen_ok]
  rw [← Array.forIn_toList]
  have hf := path_fields
  generalize (Try.prog.fieldsOf 32).toList = fs at hf ⊢
  cases fs with
  | nil => exact absurd hf (by simp)
  | cons f1 fs =>
  cases fs with
  | nil => exact absurd hf (by simp)
  | cons f2 fs =>
  cases fs with
  | cons f3 fs => exact absurd hf (by simp)
  | nil =>
    simp only [List.map_cons, List.map_nil, List.cons.injEq, Prod.mk.injEq, and_true] at hf
    obtain ⟨⟨a1, a2, a3⟩, b1, b2, b3⟩ := hf
    have hstr : ∀ w, (checkKey e (n + 2) 9 (.string ⟨p.1.2.toArray⟩)).run Try.prog w = .ok () w := fun w => by
      unfold checkKey
      rw [Sem.run_bind, run_underlying Try.underlying9 w]
      simp [Result.andThen]
    simp [a1, a2, a3, b1, b2, b3, part_hash _ _ p.2, part_name _ _ p.2, check_hash e n _ p.2, hstr]
theorem bits_all (n : Nat) : ∀ (l : List Value), (∀ v ∈ l, sameBits n v v = true) → (l.zip l).all (fun (x, y) => sameBits n x y) = true
  | [], _ => rfl
  | v :: l, h => by
    simp only [List.zip_cons_cons, List.all_cons, Bool.and_eq_true]
    exact ⟨h v (by simp), bits_all n l fun u hu => h u (by simp [hu])⟩
theorem bits_path (n : Nat) (p : P20) : sameBits (n + 1) (pV p) (pV p) = true := by
  unfold pV sameBits
  simp only [beq_self_eq_true, Bool.true_and]
  refine bits_all n _ fun v hv => ?_
  simp only [pC, hC, Lib.byteCells, Array.toList_append, List.mem_append, List.mem_map] at hv
  rcases hv with ⟨c, _, rfl⟩ | hv
  · unfold sameBits; simp
  · obtain rfl : v = .string ⟨p.1.2.toArray⟩ := by simpa using hv
    unfold sameBits
    rw [beq_toListBytes]
    simp
set_option maxRecDepth 100000 in
theorem path_key : KeyEq Try.prog 32 pV where
  check := fun e p w => check_path e 9997 p w
  desc := ⟨_, pC_under, .inr ⟨fun a b => rfl, fun a b w => by
    have h := eql_path a.1.1 a.1.2 b.1.1 b.1.2 a.2 b.2 w
    rw [run_eql_struct] at h
    unfold Op.equal Op.maxDepth
    generalize hr : (Op.equalIn 10000 32 (.agg (pC a.1.1 a.1.2)) (.agg (pC b.1.1 b.1.2))).run Try.prog w = r at h
    unfold pV
    rw [hr]
    cases r with
    | ok x w' =>
      simp [Result.andThen] at h
      obtain ⟨rfl, rfl⟩ := h
      congr 1
      rw [Bool.eq_iff_iff]
      simp [Subtype.ext_iff, Prod.ext_iff]
    | halt x w' => simp [Result.andThen] at h⟩⟩
  bits := fun p => bits_path 9999 p
end Go.Proofs.Ytniibcgomnjfgaa
/-! Paths in order: the plain law of both Sorted. -/
namespace Go.Proofs.Ytniibcgomnjfgaa
open Pl
open Go.Lib (compareBytes)
theorem bytesLess_trans : ∀ (a b c : List UInt8), Op.bytesLess a b = true → Op.bytesLess b c = true → Op.bytesLess a c = true
  | [], [], _, h, _ => by simp [Op.bytesLess] at h
  | [], _ :: _, [], _, h => by simp [Op.bytesLess] at h
  | [], _ :: _, _ :: _, _, _ => by simp [Op.bytesLess]
  | _ :: _, [], _, h, _ => by simp [Op.bytesLess] at h
  | _ :: _, _ :: _, [], _, h => by simp [Op.bytesLess] at h
  | x :: a, y :: b, z :: c, h1, h2 => by
    simp only [Op.bytesLess, Bool.or_eq_true, Bool.and_eq_true, decide_eq_true_eq, beq_iff_eq] at h1 h2 ⊢
    rcases h1 with h1 | ⟨rfl, h1⟩
    · rcases h2 with h2 | ⟨rfl, h2⟩
      · exact .inl (UInt8.lt_trans h1 h2)
      · exact .inl h1
    · rcases h2 with h2 | ⟨rfl, h2⟩
      · exact .inl h2
      · exact .inr ⟨rfl, bytesLess_trans a b c h1 h2⟩
/-- how two paths stand, as the sort asks it -/
def cmp20 (p q : P20) : Int := cmpP p.1.1 p.1.2 q.1.1 q.1.2
def lt20 (p q : P20) : Bool := decide (cmp20 p q < 0)
theorem lt20_eq (p q : P20) : lt20 p q = if p.1.1 == q.1.1 then Op.bytesLess p.1.2 q.1.2 else Op.bytesLess p.1.1 q.1.1 := by
  unfold lt20 cmp20 cmpP
  split <;> exact compare_less _ _
theorem lt20_irrefl (p : P20) : lt20 p p = false := by rw [lt20_eq]; simp [bytesLess_irrefl]
theorem lt20_trans (p q r : P20) (h1 : lt20 p q = true) (h2 : lt20 q r = true) : lt20 p r = true := by
  rw [lt20_eq] at h1 h2 ⊢
  by_cases e1 : p.1.1 = q.1.1 <;> by_cases e2 : q.1.1 = r.1.1
  · have e3 : p.1.1 = r.1.1 := e1.trans e2
    simp only [beq_iff_eq, e1, e2, if_true] at h1 h2 ⊢
    exact bytesLess_trans _ _ _ h1 h2
  · have e3 : ¬ p.1.1 = r.1.1 := fun e => e2 (e1.symm.trans e)
    simp only [beq_iff_eq, e1, e2, if_false] at h2 ⊢
    exact h2
  · have e3 : ¬ p.1.1 = r.1.1 := fun e => e1 (e.trans e2.symm)
    simp only [beq_iff_eq, e1, e3, if_false] at h1 ⊢
    rwa [← e2]
  · simp only [beq_iff_eq, e1, e2, if_false] at h1 h2
    have h3 := bytesLess_trans _ _ _ h1 h2
    have e3 : ¬ p.1.1 = r.1.1 := fun e => by rw [e, bytesLess_irrefl] at h3; cases h3
    simp only [beq_iff_eq, e3, if_false]
    exact h3
theorem lt20_total (p q : P20) (hne : p ≠ q) (h : lt20 p q = false) : lt20 q p = true := by
  rw [lt20_eq] at h ⊢
  by_cases e : p.1.1 = q.1.1
  · have e' : q.1.1 = p.1.1 := e.symm
    simp only [beq_iff_eq, e, if_true] at h ⊢
    exact bytesLess_total _ _ (fun e2 => hne (Subtype.ext (Prod.ext e e2))) h
  · have e' : ¬ q.1.1 = p.1.1 := fun x => e x.symm
    simp only [beq_iff_eq, e, e', if_false] at h ⊢
    exact bytesLess_total _ _ e h
theorem lt20_asymm (p q : P20) (h : lt20 p q = true) : lt20 q p = false := by
  cases h2 : lt20 q p with
  | false => rfl
  | true => have := lt20_trans _ _ _ h h2; rw [lt20_irrefl] at this; cases this
theorem lt20_swo : Sort.SWO lt20 where
  irrefl := lt20_irrefl
  trans := lt20_trans
  ntrans := fun x y z h1 h2 => by
    cases h3 : lt20 x z with
    | false => rfl
    | true =>
      by_cases e : x = y
      · subst e; rw [h3] at h2; cases h2
      · have := lt20_trans _ _ _ (lt20_total _ _ e h1) h3
        rw [this] at h2; cases h2
/-- rising: each ahead of all behind it -/
def Rising (l : List P20) : Prop := l.Pairwise fun p q => lt20 p q = true
theorem rising_unique : ∀ (a b : List P20), Rising a → Rising b → (∀ x, x ∈ a ↔ x ∈ b) → a = b
  | [], [], _, _, _ => rfl
  | [], y :: b, _, _, h => absurd ((h y).2 (by simp)) (by simp)
  | x :: a, [], _, _, h => absurd ((h x).1 (by simp)) (by simp)
  | x :: a, y :: b, ha, hb, h => by
    rw [Rising, List.pairwise_cons] at ha hb
    have hxy : x = y := by
      rcases List.mem_cons.1 ((h x).1 (by simp)) with e | hx
      · exact e
      · rcases List.mem_cons.1 ((h y).2 (by simp)) with e | hy
        · exact e.symm
        · have h1 := hb.1 x hx
          have h2 := ha.1 y hy
          rw [lt20_asymm _ _ h1] at h2; cases h2
    subst hxy
    congr 1
    refine rising_unique a b ha.2 hb.2 fun z => ?_
    have hz := h z
    simp only [List.mem_cons] at hz
    constructor
    · intro hza
      rcases hz.1 (.inr hza) with e | hzb
      · subst e
        have := ha.1 z hza
        rw [lt20_irrefl] at this; cases this
      · exact hzb
    · intro hzb
      rcases hz.2 (.inr hzb) with e | hza
      · subst e
        have := hb.1 z hzb
        rw [lt20_irrefl] at this; cases this
      · exact hza
/-- a sorted list without doubles rises -/
theorem rising_of_sorted (l : List P20) (hn : l.Nodup) (hs : l.Pairwise fun p q => lt20 q p = false) : Rising l := by
  refine List.Pairwise.imp₂ ?_ hn hs
  intro p q hne h
  exact lt20_total q p (Ne.symm hne) h
end Go.Proofs.Ytniibcgomnjfgaa
