/- Rows of what was made; markMade. (Several texts in one.) -/
import Derived.Test.YtniibcgomnjfgaaGreatVAG
import Derived.Test.YtniibcgomnjfgaaGreatVAE
import Derived.Test.YtniibcgomnjfgaaGreatVAF
import Derived.Test.YtniibcgomnjfgaaGreatVAI
/-! Builts, and what was made: their cells; both as elements of slices. -/
namespace Go.Proofs.YtniibcgomnjfgaaGreat
open Go.RowKit Pl Go.Agg
abbrev H20 : Type := { h : List UInt8 // h.length = 20 }
instance : Inhabited H20 := ⟨⟨z20, rfl⟩⟩
/-- a class and a path -/
abbrev Md : Type := H20 × P20
instance : DecidableEq P20 := inferInstance
instance : DecidableEq H20 := inferInstance
instance : DecidableEq Md := inferInstance
instance : DecidableEq (List Md) := inferInstance
/-- a built -/
structure Bu where
  cl : H20
  ky : H20
  pa : P20
  by_ : Int
  ins : List Md
  deriving DecidableEq
/-- how a slice lies -/
abbrev IV : Type := Option Addr × Nat × Nat
def ivV (i : IV) : Value := .slice i.1 i.2.1 i.2.2
/-- a built, and how its inputs lie -/
abbrev BuV : Type := Bu × IV
def mC (x : Md) : Array Value := hC x.1.1 ++ pC x.2.1.1 x.2.1.2
def bC (x : BuV) : Array Value := hC x.1.cl.1 ++ (hC x.1.ky.1 ++ (pC x.1.pa.1.1 x.1.pa.1.2 ++ #[.int .i64 x.1.by_, ivV x.2]))
def zM : Md := (⟨z20, rfl⟩, ⟨(z20, []), rfl⟩)
def zB : Bu := ⟨⟨z20, rfl⟩, ⟨z20, rfl⟩, ⟨(z20, []), rfl⟩, 0, []⟩
theorem mC_size (x : Md) : (mC x).size = 41 := by simp [mC, pC_size, hC_size, x.1.2, x.2.2]
theorem bC_size (x : BuV) : (bC x).size = 63 := by simp [bC, pC_size, hC_size, x.1.cl.2, x.1.ky.2, x.1.pa.2]
theorem mC_one (x : Md) : (mC x).all (·.oneCell') = true := by rw [mC, Array.all_append, pC_one, hC_one]; rfl
theorem bC_one (x : BuV) : (bC x).all (·.oneCell') = true := by
  rw [bC, Array.all_append, Array.all_append, Array.all_append, pC_one, hC_one, hC_one]; simp [Value.oneCell', ivV]
theorem mC_cl (x : Md) (j : Nat) (v : Value) (h : (hC x.1.1)[j]? = some v) : (mC x)[0 + j]? = some v := by
  have := (Array.getElem?_eq_some_iff.1 h).1
  rw [mC, Nat.zero_add, Array.getElem?_append_left this]; exact h
theorem mC_pa (x : Md) (j : Nat) (v : Value) (h : (pC x.2.1.1 x.2.1.2)[j]? = some v) : (mC x)[20 + j]? = some v := by
  rw [mC, Array.getElem?_append_right (by rw [hC_size, x.1.2]; omega), hC_size, x.1.2, show 20 + j - 20 = j by omega]; exact h
theorem bC_cl (x : BuV) (j : Nat) (v : Value) (h : (hC x.1.cl.1)[j]? = some v) : (bC x)[0 + j]? = some v := by
  have := (Array.getElem?_eq_some_iff.1 h).1
  rw [bC, Nat.zero_add, Array.getElem?_append_left this]; exact h
theorem bC_ky (x : BuV) (j : Nat) (v : Value) (h : (hC x.1.ky.1)[j]? = some v) : (bC x)[20 + j]? = some v := by
  have := (Array.getElem?_eq_some_iff.1 h).1
  rw [bC, Array.getElem?_append_right (by rw [hC_size, x.1.cl.2]; omega), hC_size, x.1.cl.2, show 20 + j - 20 = j by omega, Array.getElem?_append_left this]; exact h
theorem bC_pa (x : BuV) (j : Nat) (v : Value) (h : (pC x.1.pa.1.1 x.1.pa.1.2)[j]? = some v) : (bC x)[40 + j]? = some v := by
  have := (Array.getElem?_eq_some_iff.1 h).1
  rw [bC, Array.getElem?_append_right (by rw [hC_size, x.1.cl.2]; omega), hC_size, x.1.cl.2, show 40 + j - 20 = 20 + j by omega, Array.getElem?_append_right (by rw [hC_size, x.1.ky.2]; omega), hC_size, x.1.ky.2, show 20 + j - 20 = j by omega, Array.getElem?_append_left this]; exact h
theorem bC_tail (x : BuV) (j : Nat) : (bC x)[61 + j]? = (#[.int .i64 x.1.by_, ivV x.2] : Array Value)[j]? := by
  rw [bC, Array.getElem?_append_right (by rw [hC_size, x.1.cl.2]; omega), hC_size, x.1.cl.2, show 61 + j - 20 = 41 + j by omega, Array.getElem?_append_right (by rw [hC_size, x.1.ky.2]; omega), hC_size, x.1.ky.2, show 41 + j - 20 = 21 + j by omega, Array.getElem?_append_right (by rw [pC_size, x.1.pa.2]; omega), pC_size, x.1.pa.2, show 21 + j - (20 + 1) = j by omega]
theorem mC_zero : (Tryz.prog.info? 54).map (·.zero) = some (some (.agg (mC zM))) := by kernel_rfl
theorem mC_info (x : Md) : (Tryz.prog.info? 54).map (·.size) = some (mC x).size := by rw [mC_size]; kernel_rfl
theorem mC_under : Tryz.prog.underlying 54 = some (.struct (Tryz.prog.fieldsOf 54)) := by kernel_rfl
theorem bC_zero : (Tryz.prog.info? 29).map (·.zero) = some (some (.agg (bC (zB, none, 0, 0)))) := by kernel_rfl
theorem bC_info (x : BuV) : (Tryz.prog.info? 29).map (·.size) = some (bC x).size := by rw [bC_size]; kernel_rfl
theorem bC_under : Tryz.prog.underlying 29 = some (.struct (Tryz.prog.fieldsOf 29)) := by kernel_rfl
theorem made_under : Tryz.prog.underlying 27 = some (.slice 54) := by kernel_rfl
/-- what was made, as elements -/
def EMd : Elem Tryz.prog Md where
  ty := 54
  st := 27
  n := 41
  bytes := 64
  val := fun x => .agg (mC x)
  zero := .agg (mC zM)
  pos := by omega
  small := by omega
  size := fun x => by simp [Value.cells, mC_size]
  one := fun x v hv => one_of (mC_one x) v hv
  zsize := by simp [Value.cells, mC_size]
  slice := by kernel_rfl
  info := info_of mC_zero (by kernel_rfl) (by kernel_rfl)
  load := fun w a x hp h => LoadsL.of_cells hp h mC_under rfl (mC_info x)
abbrev MdsAt (w : World) (v : Value) (l : List Md) : Prop := SliceOf EMd w v l
/-- builts as elements -/
def EBu : Elem Tryz.prog BuV where
  ty := 29
  st := 22
  n := 63
  bytes := 112
  val := fun x => .agg (bC x)
  zero := .agg (bC (zB, none, 0, 0))
  pos := by omega
  small := by omega
  size := fun x => by simp [Value.cells, bC_size]
  one := fun x v hv => one_of (bC_one x) v hv
  zsize := by simp [Value.cells, bC_size]
  slice := by kernel_rfl
  info := info_of bC_zero (by kernel_rfl) (by kernel_rfl)
  load := fun w a x hp h => LoadsL.of_cells hp h bC_under rfl (bC_info x)
theorem mds_len {w : World} {v : Value} {l : List Md} (h : MdsAt w v l) (W : World) : (Builtin.len_ #[27] 3 #[v]).run Tryz.prog W = .ok (.int .i64 (l.length : Int)) W := h.len W
/-- builts: each, with its inputs -/
def InsAt (w : World) (x : BuV) : Prop := MdsAt w (ivV x.2) x.1.ins
structure BusAt (w : World) (v : Value) (l : List BuV) : Prop where
  row : SliceOf EBu w v l
  ins : ∀ x ∈ l, InsAt w x
theorem InsAt.below {w w' : World} {x : BuV} (h : InsAt w x) (hb : Below w.heap.size w w') : InsAt w' x := SliceOf.below h hb
theorem BusAt.below {w w' : World} {v : Value} {l : List BuV} (h : BusAt w v l) (hb : Below w.heap.size w w') : BusAt w' v l := ⟨h.row.below hb, fun x hx => (h.ins x hx).below hb⟩
theorem bus_len {w : World} {v : Value} {l : List BuV} (h : BusAt w v l) (W : World) : (Builtin.len_ #[22] 3 #[v]).run Tryz.prog W = .ok (.int .i64 (l.length : Int)) W := h.row.len W
/-- what lies at a built -/
structure BuL (w : World) (p : Addr) (x : BuV) : Prop where
  all : LoadsL Tryz.prog w 29 (some p) (.agg (bC x))
  cls : LoadsL Tryz.prog w 24 (some (p.add 0)) (.agg (hC x.1.cl.1))
  key : LoadsL Tryz.prog w 24 (some (p.add 20)) (.agg (hC x.1.ky.1))
  path : LoadsL Tryz.prog w 26 (some (p.add 40)) (.agg (pC x.1.pa.1.1 x.1.pa.1.2))
  pname : LoadsL Tryz.prog w 9 (some ((p.add 40).add 20)) (.string ⟨x.1.pa.1.2.toArray⟩)
  by_ : LoadsL Tryz.prog w 3 (some (p.add 61)) (.int .i64 x.1.by_)
  ins : LoadsL Tryz.prog w 27 (some (p.add 62)) (ivV x.2)
theorem BuL.of_cells {w : World} {p : Addr} {x : BuV} (hp : p.block < w.heap.size) (h : ∀ j u, (bC x)[j]? = some u → w.cell? (p.add j) = some u) : BuL w p x where
  all := LoadsL.of_cells hp h bC_under rfl (bC_info x)
  cls := LoadsL.of_cells (by rw [add_block]; exact hp) (fun j v hj => by rw [add_add]; exact h _ _ (bC_cl x j v hj)) Tryz.underlying24 rfl (hC_info _ x.1.cl.2)
  key := LoadsL.of_cells (by rw [add_block]; exact hp) (fun j v hj => by rw [add_add]; exact h _ _ (bC_ky x j v hj)) Tryz.underlying24 rfl (hC_info _ x.1.ky.2)
  path := LoadsL.of_cells (by rw [add_block]; exact hp) (fun j v hj => by rw [add_add]; exact h _ _ (bC_pa x j v hj)) pC_under rfl (pC_info _ _ x.1.pa.2)
  pname := LoadsL.of_cell (by rw [add_add]; exact h _ _ (bC_pa x 20 _ (pC_name _ _ x.1.pa.2))) Tryz.underlying9 rfl
  by_ := LoadsL.of_cell (h 61 _ (by rw [show 61 = 61 + 0 from rfl, bC_tail]; rfl)) Tryz.underlying3 rfl
  ins := LoadsL.of_cell (h 62 _ (by rw [show 62 = 61 + 1 from rfl, bC_tail]; rfl)) made_under rfl
theorem BuL.below {w w' : World} {p : Addr} {x : BuV} (h : BuL w p x) (hb : Below w.heap.size w w') : BuL w' p x :=
  ⟨h.all.below hb, h.cls.below hb, h.key.below hb, h.path.below hb, h.pname.below hb, h.by_.below hb, h.ins.below hb⟩
/-- what lies in a box with a built -/
structure BuG (w : World) (b : Nat) (x : BuV) : Prop where
  all : LoadsL Tryz.prog w 29 (some ⟨b, 0, none⟩) (.agg (bC x))
  cls : LoadsL Tryz.prog w 24 (some ⟨b, 0, none⟩) (.agg (hC x.1.cl.1))
  key : LoadsL Tryz.prog w 24 (some ⟨b, 20, none⟩) (.agg (hC x.1.ky.1))
  path : LoadsL Tryz.prog w 26 (some ⟨b, 40, none⟩) (.agg (pC x.1.pa.1.1 x.1.pa.1.2))
  pname : LoadsL Tryz.prog w 9 (some ⟨b, 60, none⟩) (.string ⟨x.1.pa.1.2.toArray⟩)
  by_ : LoadsL Tryz.prog w 3 (some ⟨b, 61, none⟩) (.int .i64 x.1.by_)
  ins : LoadsL Tryz.prog w 27 (some ⟨b, 62, none⟩) (ivV x.2)
theorem BuG.of_blk {w : World} {b : Nat} {x : BuV} (h : Blk w b 29 (bC x)) : BuG w b x := by
  have H := BuL.of_cells (w := w) (p := ⟨b, 0, none⟩) (x := x) h.lt (fun j u hj => by rw [add_plain, h.cell, Nat.zero_add]; exact hj)
  exact ⟨H.all, H.cls, H.key, H.path, H.pname, H.by_, H.ins⟩
theorem BuG.below {w w' : World} {b : Nat} {x : BuV} (h : BuG w b x) (hb : Below w.heap.size w w') : BuG w' b x :=
  ⟨h.all.below hb, h.cls.below hb, h.key.below hb, h.path.below hb, h.pname.below hb, h.by_.below hb, h.ins.below hb⟩
/-- an element of a slice of builts -/
theorem BusAt.at_ {w : World} {v : Value} {l : List BuV} (h : BusAt w v l) (k : Nat) (x : BuV) (hk : l[k]? = some x) :
    ∃ q : Addr, (∀ W, (Instr.indexAt 22 v (.int .i64 (k : Int))).run Tryz.prog W = .ok (.pointer (some q)) W) ∧ BuL w q x ∧ InsAt w x := by
  obtain ⟨p, h1, h2, h3, _⟩ := h.row.at_ k x hk
  exact ⟨p, h1, BuL.of_cells h2 h3, h.ins x (List.mem_of_getElem? hk)⟩
/-- what lies at one that was made -/
structure MdL (w : World) (p : Addr) (x : Md) : Prop where
  all : LoadsL Tryz.prog w 54 (some p) (.agg (mC x))
  cls : LoadsL Tryz.prog w 24 (some (p.add 0)) (.agg (hC x.1.1))
  path : LoadsL Tryz.prog w 26 (some (p.add 20)) (.agg (pC x.2.1.1 x.2.1.2))
  pname : LoadsL Tryz.prog w 9 (some ((p.add 20).add 20)) (.string ⟨x.2.1.2.toArray⟩)
theorem MdL.of_cells {w : World} {p : Addr} {x : Md} (hp : p.block < w.heap.size) (h : ∀ j u, (mC x)[j]? = some u → w.cell? (p.add j) = some u) : MdL w p x where
  all := LoadsL.of_cells hp h mC_under rfl (mC_info x)
  cls := LoadsL.of_cells (by rw [add_block]; exact hp) (fun j v hj => by rw [add_add]; exact h _ _ (mC_cl x j v hj)) Tryz.underlying24 rfl (hC_info _ x.1.2)
  path := LoadsL.of_cells (by rw [add_block]; exact hp) (fun j v hj => by rw [add_add]; exact h _ _ (mC_pa x j v hj)) pC_under rfl (pC_info _ _ x.2.2)
  pname := LoadsL.of_cell (by rw [add_add]; exact h _ _ (mC_pa x 20 _ (pC_name _ _ x.2.2))) Tryz.underlying9 rfl
theorem MdL.below {w w' : World} {p : Addr} {x : Md} (h : MdL w p x) (hb : Below w.heap.size w w') : MdL w' p x := ⟨h.all.below hb, h.cls.below hb, h.path.below hb, h.pname.below hb⟩
theorem mds_at {w : World} {v : Value} {l : List Md} (h : MdsAt w v l) (k : Nat) (x : Md) (hk : l[k]? = some x) :
    ∃ q : Addr, (∀ W, (Instr.indexAt 27 v (.int .i64 (k : Int))).run Tryz.prog W = .ok (.pointer (some q)) W) ∧ MdL w q x := by
  obtain ⟨p, h1, h2, h3, _⟩ := h.at_ k x hk
  exact ⟨p, h1, MdL.of_cells h2 h3⟩
/-- what lies in a box with one -/
structure MdG (w : World) (b : Nat) (x : Md) : Prop where
  all : LoadsL Tryz.prog w 54 (some ⟨b, 0, none⟩) (.agg (mC x))
  cls : LoadsL Tryz.prog w 24 (some ⟨b, 0, none⟩) (.agg (hC x.1.1))
  path : LoadsL Tryz.prog w 26 (some ⟨b, 20, none⟩) (.agg (pC x.2.1.1 x.2.1.2))
  pname : LoadsL Tryz.prog w 9 (some ⟨b, 40, none⟩) (.string ⟨x.2.1.2.toArray⟩)
theorem MdG.of_blk {w : World} {b : Nat} {x : Md} (h : Blk w b 54 (mC x)) : MdG w b x := by
  have H := MdL.of_cells (w := w) (p := ⟨b, 0, none⟩) (x := x) h.lt (fun j u hj => by rw [add_plain, h.cell, Nat.zero_add]; exact hj)
  exact ⟨H.all, H.cls, H.path, H.pname⟩
theorem MdG.below {w w' : World} {b : Nat} {x : Md} (h : MdG w b x) (hb : Below w.heap.size w w') : MdG w' b x := ⟨h.all.below hb, h.cls.below hb, h.path.below hb, h.pname.below hb⟩
theorem MdL.of_blk {w : World} {g : Nat} {x : Md} (h : Blk w g 54 (mC x)) : MdL w ⟨g, 0, none⟩ x :=
  MdL.of_cells h.lt fun j u hj => by rw [add_plain, h.cell, Nat.zero_add]; exact hj
end Go.Proofs.YtniibcgomnjfgaaGreat
/-! '==' of what was made, of hashes, of paths; slices.Equal, spencekit.SameMades, SameBuilt, SameBuilts. -/
namespace Go.Proofs.YtniibcgomnjfgaaGreat
open Go.RowKit Pl Go.Agg
theorem eqlInP (d : Nat) (p q : P20) (w : World) : (Op.equalIn (d + 3) 26 (.agg (pC p.1.1 p.1.2)) (.agg (pC q.1.1 q.1.2))).run Tryz.prog w = .ok (decide (p = q)) w := by
  rw [run_equalIn_struct w (d + 2) 26 _ _ pC_under (by kernel_rfl)]
  have hf := path_fields
  generalize (Tryz.prog.fieldsOf 26).toList = fs at hf ⊢
  cases fs with
  | nil => exact absurd hf (by simp)
  | cons f1 fs =>
  cases fs with
  | nil => exact absurd hf (by simp)
  | cons f2 fs =>
  cases fs with
  | cons f3 fs => exact absurd hf (by simp)
  | nil =>
    simp only [List.map_cons, List.map_nil, List.cons.injEq, Prod.mk.injEq, and_true] at hf
    obtain ⟨⟨a1, a2, a3⟩, b1, b2, b3⟩ := hf
    have e : decide (p = q) = (p.1.1 == q.1.1 && p.1.2 == q.1.2) := by
      rw [Bool.eq_iff_iff]
      simp [Subtype.ext_iff, Prod.ext_iff]
    rw [e]
    simp only [Op.eqFields, a1, a2, a3, b1, b2, b3, Sem.run_bind, Sem.run_ite, part_hash _ _ p.2, part_hash _ _ q.2, part_name _ _ p.2, part_name _ _ q.2, Result.andThen_ok, eqlIn_hash d _ _ p.2 q.2, run_equalIn_string w (d + 1) 9 _ _ Tryz.underlying9, Agg.bytes_toList]
    cases p.1.1 == q.1.1 <;> cases p.1.2 == q.1.2 <;> simp
theorem partAgg {ty : TypeId} {n : Nat} (ha : ∀ w, (isAgg ty).run Tryz.prog w = .ok true w) (hs : ∀ w, (sizeOf ty).run Tryz.prog w = .ok n w) (cs ds : Array Value) (off : Nat) (hn : ds.size = n) (h : ∀ j v, ds[j]? = some v → cs[off + j]? = some v) (w : World) :
    (Go.part ty cs off).run Tryz.prog w = .ok (.agg ds) w := by
  unfold Go.part
  simp only [Sem.run_bind, ha, Result.andThen_ok, if_true, hs, Sem.run_pure]
  congr 2
  apply Array.ext_getElem?
  intro j
  by_cases hj : j < n
  · have h1 : ds[j]? = some (ds[j]'(by omega)) := Array.getElem?_eq_getElem _
    have h2 := h j _ h1
    have h3 := (Array.getElem?_eq_some_iff.1 h2).1
    rw [h1, Array.getElem?_extract]
    rw [if_pos (by omega)]
    exact h2
  · rw [Array.getElem?_eq_none (xs := ds) (by omega), Array.getElem?_eq_none (by simp; omega)]
theorem made_fields : (Tryz.prog.fieldsOf 54).toList.map (fun f => (f.name, f.type, f.offset)) = [("Class", 24, 0), ("Path", 26, 20)] := by kernel_rfl
theorem isAggP (w : World) : (isAgg 26).run Tryz.prog w = .ok true w := by kernel_rfl
theorem sizeP (w : World) : (sizeOf 26).run Tryz.prog w = .ok 21 w := by kernel_rfl
theorem part_mcl (x : Md) (w : World) : (Go.part 24 (mC x) 0).run Tryz.prog w = .ok (.agg (hC x.1.1)) w := partAgg isAgg_hash size_hash _ _ 0 (by rw [hC_size, x.1.2]) (mC_cl x) w
theorem part_mpa (x : Md) (w : World) : (Go.part 26 (mC x) 20).run Tryz.prog w = .ok (.agg (pC x.2.1.1 x.2.1.2)) w := partAgg isAggP sizeP _ _ 20 (by rw [pC_size, x.2.2]) (mC_pa x) w
theorem eqlInM (d : Nat) (x y : Md) (w : World) : (Op.equalIn (d + 4) 54 (.agg (mC x)) (.agg (mC y))).run Tryz.prog w = .ok (decide (x = y)) w := by
  rw [run_equalIn_struct w (d + 3) 54 _ _ mC_under (by kernel_rfl)]
  have hf := made_fields
  generalize (Tryz.prog.fieldsOf 54).toList = fs at hf ⊢
  cases fs with
  | nil => exact absurd hf (by simp)
  | cons f1 fs =>
  cases fs with
  | nil => exact absurd hf (by simp)
  | cons f2 fs =>
  cases fs with
  | cons f3 fs => exact absurd hf (by simp)
  | nil =>
    simp only [List.map_cons, List.map_nil, List.cons.injEq, Prod.mk.injEq, and_true] at hf
    obtain ⟨⟨a1, a2, a3⟩, b1, b2, b3⟩ := hf
    have e : decide (x = y) = (x.1.1 == y.1.1 && decide (x.2 = y.2)) := by
      rw [Bool.eq_iff_iff]
      simp [Subtype.ext_iff, Prod.ext_iff]
    rw [e]
    simp only [Op.eqFields, a1, a2, a3, b1, b2, b3, Sem.run_bind, Sem.run_ite, part_mcl, part_mpa, Result.andThen_ok, eqlIn_hash (d + 1) _ _ x.1.2 y.1.2, eqlInP d]
    cases x.1.1 == y.1.1 <;> cases decide (x.2 = y.2) <;> simp
theorem neqM (x y : Md) (w : World) : (binOp .neq 54 (.agg (mC x)) (.agg (mC y))).run Tryz.prog w = .ok (.bool (!decide (x = y))) w := by rw [run_neq_struct, eqlInM 9996]; rfl
theorem eqlHB (x y : H20) (w : World) : (binOp .eql 24 (.agg (hC x.1)) (.agg (hC y.1))).run Tryz.prog w = .ok (.bool (decide (x = y))) w := by
  rw [eql_hash _ _ x.2 y.2]
  congr 2
  rw [Bool.eq_iff_iff]; simp [Subtype.ext_iff]
theorem eqlPB (x y : P20) (w : World) : (binOp .eql 26 (.agg (pC x.1.1 x.1.2)) (.agg (pC y.1.1 y.1.2))).run Tryz.prog w = .ok (.bool (decide (x = y))) w := by rw [run_eql_struct, eqlInP 9997]; rfl
theorem neqPB (x y : P20) (w : World) : (binOp .neq 26 (.agg (pC x.1.1 x.1.2)) (.agg (pC y.1.1 y.1.2))).run Tryz.prog w = .ok (.bool (!decide (x = y))) w := by rw [run_neq_struct, eqlInP 9997]; rfl
/-- alike up to a place -/
def AlikeU {α : Type} (l m : List α) (k : Nat) : Prop := ∀ (j : Nat), j < k → l[j]? = m[j]?
theorem alikeU_all {α : Type} {l m : List α} (hl : l.length = m.length) (h : AlikeU l m l.length) : l = m := by
  refine List.ext_getElem? fun j => ?_
  by_cases hj : j < l.length
  · exact h j hj
  · rw [List.getElem?_eq_none (by omega), List.getElem?_eq_none (by omega)]
theorem alikeU_succ {α : Type} {l m : List α} {k : Nat} (h : AlikeU l m k) (hk : l[k]? = m[k]?) : AlikeU l m (k + 1) := fun j hj => by
  by_cases e : j = k
  · subst e; exact hk
  · exact h j (by omega)
set_option maxRecDepth 100000 in
set_option maxHeartbeats 4000000 in
theorem mEqual_any (v u : Value) (l m : List Md) (hl : l.length ≤ 1048576) (w : World) (hs : MdsAt w v l) (ht : MdsAt w u m) :
    Calls Tryz.prog 44 #[v, u] w fun e w' => e = .returned (.bool (decide (l = m))) ∧ Below w.heap.size w w' := by
  have HS := Lib.hid hs
  have HT := Lib.hid ht
  have hlv := fun W => mds_len hs W
  have hlu := fun W => mds_len ht W
  clear hs ht
  by_cases hlm : l.length = m.length
  · have hd0 : ((l.length : Int) != (m.length : Int)) = false := by simp; omega
    go_enter Tryz.func44, Tryz.ntmps44
    go_wp2_with fail
    go_loopw [13] (fun i wr => ∃ k : Nat, k ≤ l.length ∧ i = .int .i64 (k : Int) ∧ AlikeU l m k ∧ Below w.heap.size w wr) (fun i _ => l.length - (intOf i).toNat)
    case atStart => exact ⟨0, by omega, rfl, fun j hj => absurd hj (by omega), Below.refl _ _⟩
    case round =>
      obtain ⟨wr1, rfl⟩ : ∃ y : World, y = wr := ⟨_, rfl⟩
      obtain ⟨k, hk, rfl, ha, hw⟩ := hrel
      have HA := Lib.hid ha
      have HW := Lib.hid hw
      clear ha hw
      by_cases hlt : k < l.length
      · have hd : decide ((k : Int) < (l.length : Int)) = true := by simp; omega
        obtain ⟨x, hxk⟩ : ∃ x, l[k]? = some x := ⟨_, List.getElem?_eq_getElem hlt⟩
        obtain ⟨y, hyk⟩ : ∃ y, m[k]? = some y := ⟨_, List.getElem?_eq_getElem (by omega)⟩
        obtain ⟨q, hadr, hq⟩ := mds_at (HS.out.below HW.out) k x hxk
        obtain ⟨q2, hadr2, hq2⟩ := mds_at (HT.out.below HW.out) k y hyk
        have HQ := Lib.hid hq
        have HQ2 := Lib.hid hq2
        have HX := Lib.hid hxk
        have HY := Lib.hid hyk
        clear hq hq2 hxk hyk
        obtain ⟨e, he⟩ : ∃ e, decide (x = y) = e := ⟨_, rfl⟩
        have HN := Lib.hid (fun W => (show (binOp .neq 54 (.agg (mC x)) (.agg (mC y))).run Tryz.prog W = .ok (.bool (!e)) W by rw [neqM, he]))
        have HE := Lib.hid he
        clear he
        cases e with
        | false =>
          go_wp2_with fail
          try simp only [Act.put, List.setIfInBounds_toArray, List.set_cons_succ, List.set_cons_zero]
          refine Agg.wp_region_later_lit (by kernel_rfl) (by kernel_rfl) ?_
          repeat (first | go_big_quiet_skip | ((first | (with_reducible refine Agg.wpQuiet_loadL HQ.out.all rfl _ rfl rfl ?_) | (with_reducible refine Agg.wpQuiet_loadL HQ2.out.all rfl _ rfl rfl ?_) | (with_reducible refine Agg.wpQuiet_neq 54 54 _ _ rfl rfl (mC x) (mC y) rfl rfl _ (by kernel_rfl) HN.out ?_)); simp only [Act.put, List.setIfInBounds_toArray, List.set_cons_succ, List.set_cons_zero]) | go_big_quiet_step (fail))
          refine wpQuiet_nil ?_
          intro _ hw'
          obtain ⟨x4, rfl⟩ := hw'
          go_wp2_with fail
          go_ret
          refine ⟨ret_bool (Eq.symm (decide_eq_false fun e => ?_)), Agg.belowThen HW.out (Nat.le_refl _) x4.h⟩
          subst e
          have h1 := HX.out
          rw [HY.out] at h1
          exact of_decide_eq_false HE.out (Option.some.inj h1).symm
        | true =>
          go_wp2_with fail
          try simp only [Act.put, List.setIfInBounds_toArray, List.set_cons_succ, List.set_cons_zero]
          refine Agg.wp_region_later_lit (by kernel_rfl) (by kernel_rfl) ?_
          repeat (first | go_big_quiet_skip | ((first | (with_reducible refine Agg.wpQuiet_loadL HQ.out.all rfl _ rfl rfl ?_) | (with_reducible refine Agg.wpQuiet_loadL HQ2.out.all rfl _ rfl rfl ?_) | (with_reducible refine Agg.wpQuiet_neq 54 54 _ _ rfl rfl (mC x) (mC y) rfl rfl _ (by kernel_rfl) HN.out ?_)); simp only [Act.put, List.setIfInBounds_toArray, List.set_cons_succ, List.set_cons_zero]) | go_big_quiet_step (fail))
          refine wpQuiet_nil ?_
          intro _ hw'
          obtain ⟨x4, rfl⟩ := hw'
          go_wp2_with fail
          go_roundw
          case rel => exact ⟨k + 1, by omega, by go_num, alikeU_succ HA.out (by rw [HX.out, HY.out, of_decide_eq_true HE.out]), Agg.belowThen HW.out (Nat.le_refl _) x4.h⟩
          case measure => simp [intOf]; omega
      · obtain rfl : k = l.length := by omega
        go_wp2_with fail
        go_ret
        exact ⟨ret_bool (Eq.symm (decide_eq_true (alikeU_all hlm HA.out))), HW.out⟩
  · have hd0 : ((l.length : Int) != (m.length : Int)) = true := by simp; omega
    go_enter Tryz.func44, Tryz.ntmps44
    go_wp2_with fail
    go_ret
    exact ⟨ret_bool (Eq.symm (decide_eq_false fun e => hlm (by rw [e]))), Below.refl _ _⟩
set_option maxRecDepth 100000 in
set_option maxHeartbeats 4000000 in
theorem sameMades_any (v u : Value) (l m : List Md) (hl : l.length ≤ 1048576) (w : World) (hs : MdsAt w v l) (ht : MdsAt w u m) :
    Calls Tryz.prog 76 #[v, u] w fun e w' => e = .returned (.bool (decide (l = m))) ∧ Below w.heap.size w w' := by
  have HS := Lib.hid hs
  have HT := Lib.hid ht
  have hlv := fun W => mds_len hs W
  have hlu := fun W => mds_len ht W
  clear hs ht
  by_cases hlm : l.length = m.length
  · have hd0 : ((l.length : Int) != (m.length : Int)) = false := by simp; omega
    go_enter Tryz.func76, Tryz.ntmps76
    go_wp2_with fail
    go_loopw [5] (fun i wr => ∃ k : Nat, k ≤ l.length ∧ i = .int .i64 (k : Int) ∧ AlikeU l m k ∧ Below w.heap.size w wr) (fun i _ => l.length - (intOf i).toNat)
    case atStart => exact ⟨0, by omega, rfl, fun j hj => absurd hj (by omega), Below.refl _ _⟩
    case round =>
      obtain ⟨wr1, rfl⟩ : ∃ y : World, y = wr := ⟨_, rfl⟩
      obtain ⟨k, hk, rfl, ha, hw⟩ := hrel
      have HA := Lib.hid ha
      have HW := Lib.hid hw
      clear ha hw
      by_cases hlt : k < l.length
      · have hd : decide ((k : Int) < (l.length : Int)) = true := by simp; omega
        obtain ⟨x, hxk⟩ : ∃ x, l[k]? = some x := ⟨_, List.getElem?_eq_getElem hlt⟩
        obtain ⟨y, hyk⟩ : ∃ y, m[k]? = some y := ⟨_, List.getElem?_eq_getElem (by omega)⟩
        obtain ⟨q, hadr, hq⟩ := mds_at (HS.out.below HW.out) k x hxk
        obtain ⟨q2, hadr2, hq2⟩ := mds_at (HT.out.below HW.out) k y hyk
        have HQ := Lib.hid hq
        have HQ2 := Lib.hid hq2
        have HX := Lib.hid hxk
        have HY := Lib.hid hyk
        clear hq hq2 hxk hyk
        obtain ⟨e, he⟩ : ∃ e, decide (x = y) = e := ⟨_, rfl⟩
        have HN := Lib.hid (fun W => (show (binOp .neq 54 (.agg (mC x)) (.agg (mC y))).run Tryz.prog W = .ok (.bool (!e)) W by rw [neqM, he]))
        have HE := Lib.hid he
        clear he
        cases e with
        | false =>
          go_wp2_with fail
          try simp only [Act.put, List.setIfInBounds_toArray, List.set_cons_succ, List.set_cons_zero]
          refine Agg.wp_region_later_lit (by kernel_rfl) (by kernel_rfl) ?_
          repeat (first | go_big_quiet_skip | ((first | (with_reducible refine Agg.wpQuiet_loadL HQ.out.all rfl _ rfl rfl ?_) | (with_reducible refine Agg.wpQuiet_loadL HQ2.out.all rfl _ rfl rfl ?_) | (with_reducible refine Agg.wpQuiet_neq 54 54 _ _ rfl rfl (mC x) (mC y) rfl rfl _ (by kernel_rfl) HN.out ?_)); simp only [Act.put, List.setIfInBounds_toArray, List.set_cons_succ, List.set_cons_zero]) | go_big_quiet_step (fail))
          refine wpQuiet_nil ?_
          intro _ hw'
          obtain ⟨x4, rfl⟩ := hw'
          go_wp2_with fail
          go_ret
          refine ⟨ret_bool (Eq.symm (decide_eq_false fun e => ?_)), Agg.belowThen HW.out (Nat.le_refl _) x4.h⟩
          subst e
          have h1 := HX.out
          rw [HY.out] at h1
          exact of_decide_eq_false HE.out (Option.some.inj h1).symm
        | true =>
          go_wp2_with fail
          try simp only [Act.put, List.setIfInBounds_toArray, List.set_cons_succ, List.set_cons_zero]
          refine Agg.wp_region_later_lit (by kernel_rfl) (by kernel_rfl) ?_
          repeat (first | go_big_quiet_skip | ((first | (with_reducible refine Agg.wpQuiet_loadL HQ.out.all rfl _ rfl rfl ?_) | (with_reducible refine Agg.wpQuiet_loadL HQ2.out.all rfl _ rfl rfl ?_) | (with_reducible refine Agg.wpQuiet_neq 54 54 _ _ rfl rfl (mC x) (mC y) rfl rfl _ (by kernel_rfl) HN.out ?_)); simp only [Act.put, List.setIfInBounds_toArray, List.set_cons_succ, List.set_cons_zero]) | go_big_quiet_step (fail))
          refine wpQuiet_nil ?_
          intro _ hw'
          obtain ⟨x4, rfl⟩ := hw'
          go_wp2_with fail
          go_roundw
          case rel => exact ⟨k + 1, by omega, by go_num, alikeU_succ HA.out (by rw [HX.out, HY.out, of_decide_eq_true HE.out]), Agg.belowThen HW.out (Nat.le_refl _) x4.h⟩
          case measure => simp [intOf]; omega
      · obtain rfl : k = l.length := by omega
        go_wp2_with fail
        go_ret
        exact ⟨ret_bool (Eq.symm (decide_eq_true (alikeU_all hlm HA.out))), HW.out⟩
  · have hd0 : ((l.length : Int) != (m.length : Int)) = true := by simp; omega
    go_enter Tryz.func76, Tryz.ntmps76
    go_wp2_with fail
    go_ret
    exact ⟨ret_bool (Eq.symm (decide_eq_false fun e => hlm (by rw [e]))), Below.refl _ _⟩

end Go.Proofs.YtniibcgomnjfgaaGreat
/-! Rows of what was made; markMade. -/
namespace Go.Proofs.YtniibcgomnjfgaaGreat
open Go.RowKit Pl Go.Agg
def EMM : Elem Tryz.prog SV where
  ty := 27
  st := 96
  n := 1
  bytes := 24
  val := fun v => v.1
  zero := .slice none 0 0
  pos := by omega
  small := by omega
  size := fun v => by rw [sv_cells]; rfl
  one := fun v u hu => by
    rw [sv_cells] at hu
    obtain rfl : u = v.1 := by simpa using hu
    exact sv_one v
  zsize := rfl
  slice := by kernel_rfl
  info := info_of (by kernel_rfl) (by kernel_rfl) (by kernel_rfl)
  load := fun w a v hp h => LoadsL.of_cell (by have := h 0 v.1 (by rw [sv_cells]; rfl); rwa [show a.add 0 = a from rfl] at this) (by kernel_rfl : Tryz.prog.underlying 27 = some (.slice 54)) rfl
theorem xxlen_M {w : World} {v : Value} {l : List SV} (h : SliceOf EMM w v l) (W : World) : (Builtin.len_ #[96] 3 #[v]).run Tryz.prog W = .ok (.int .i64 (l.length : Int)) W := h.len W
theorem xlen_M {w : World} {v : Value} {l : List Md} (h : SliceOf EMd w v l) (W : World) : (Builtin.len_ #[27] 3 #[v]).run Tryz.prog W = .ok (.int .i64 (l.length : Int)) W := h.len W
theorem rlen_M {w : World} {v : Value} {l : List Md} (h : RoomN EMd w v l) (W : World) : (Builtin.len_ #[27] 3 #[v]).run Tryz.prog W = .ok (.int .i64 (l.length : Int)) W := h.slice.len W
theorem xxat_M {w : World} {v : Value} {l : List SV} (h : SliceOf EMM w v l) (k : Nat) (x : SV) (hx : l[k]? = some x) :
    ∃ p : Addr, (∀ W, (Instr.indexAt 96 v (.int .i64 (k : Int))).run Tryz.prog W = .ok (.pointer (some p)) W) ∧ LoadsL Tryz.prog w 27 (some p) x.1 := by
  obtain ⟨p, h1, _, _, h4⟩ := h.at_ k x hx
  exact ⟨p, h1, h4⟩
theorem xat_M {w : World} {v : Value} {l : List Md} (h : SliceOf EMd w v l) (k : Nat) (x : Md) (hx : l[k]? = some x) :
    ∃ p : Addr, (∀ W, (Instr.indexAt 27 v (.int .i64 (k : Int))).run Tryz.prog W = .ok (.pointer (some p)) W) ∧ LoadsL Tryz.prog w 54 (some p) (EMd.val x) := by
  obtain ⟨p, h1, _, _, h4⟩ := h.at_ k x hx
  exact ⟨p, h1, h4⟩
/-- the mark of a place -/
def mkMd (k i : Nat) : Md := (⟨z20, rfl⟩, ⟨(z20, mkT k i), rfl⟩)
def mdS (s : List UInt8) : Md := (⟨z20, rfl⟩, ⟨(z20, s), rfl⟩)
theorem build_pathM (s : List UInt8) (w : World) : (Instr.build 26 #[(1, .string ⟨s.toArray⟩)]).run Tryz.prog w = .ok (.agg (pC z20 s)) w := by kernel_rfl
theorem build_made1 (s : List UInt8) (w : World) : (Instr.build 54 #[(1, .agg (pC z20 s))]).run Tryz.prog w = .ok (.agg (mC (mdS s))) w := by kernel_rfl
set_option maxRecDepth 100000 in
set_option maxHeartbeats 1000000 in
theorem markMade_any (k i : Nat) (_hk : k ≤ 16777216) (_hi : i ≤ 16777216) (w : World) : Calls Tryz.prog 63 #[.int .i64 (k : Int), .int .i64 (i : Int)] w fun e w' => e = .returned (.agg (mC (mdS (mkT (k) (i))))) ∧ Below w.heap.size w w' := by
  obtain ⟨s, hs⟩ : ∃ s, mkT k i = s := ⟨_, rfl⟩
  have hm := fun w => markText_any k i w
  rw [hs] at hm
  rw [hs]
  have HM := Lib.hid hm
  clear hs hm
  go_enter Tryz.func63, Tryz.ntmps63
  go_wp2_with (first | (with_reducible refine Agg.wpList_zero rfl 54 rfl (mC zM) mC_zero ?_; intro g w1 hb1 hx1 hg1))
  refine (HM.out w1).mono ?_
  rintro e w2 ⟨rfl, hw2⟩
  have hb2 := hb1.below hw2
  have hx2 := Agg.belowThen hx1 (Nat.le_refl _) hw2
  clear hb1
  go_wp2_with (first | (with_reducible refine Agg.wpList_build1 26 1 _ rfl rfl (.string ⟨s.toArray⟩) rfl (.agg (pC z20 s)) (build_pathM s) ?_) | (with_reducible refine Agg.wpList_build1 54 1 _ rfl rfl (.agg (pC z20 s)) rfl (.agg (mC (mdS s))) (build_made1 s) ?_) | (with_reducible refine Agg.wpList_put rfl rfl 54 _ _ rfl g (mC (mdS s)) (mC zM) rfl rfl hb2 (mC_info _) (by rw [mC_size, mC_size]) (mC_one _) ?_; intro w3 hb3 hx3 _ _))
  exact Agg.post_row rfl rfl hb3 mC_under rfl (mC_info _) rfl ⟨rfl, hx2.trans (hx3.mono hg1)⟩
theorem markSum_M (k a b : Nat) (hk : k ≤ 16777216) (hi : a + b ≤ 16777216) (w : World) : Calls Tryz.prog 63 #[.int .i64 (k : Int), .int .i64 ((a : Int) + (b : Int))] w fun e w' => e = .returned (.agg (mC (mdS (mkT (k) (a + b))))) ∧ Below w.heap.size w w' := by
  rw [show ((a : Int) + (b : Int)) = ((a + b : Nat) : Int) by simp]
  exact markMade_any k (a + b) hk hi w
theorem markSumL_M (a b i : Nat) (hk : a + b ≤ 16777216) (hi : i ≤ 16777216) (w : World) : Calls Tryz.prog 63 #[.int .i64 ((a : Int) + (b : Int)), .int .i64 (i : Int)] w fun e w' => e = .returned (.agg (mC (mdS (mkT (a + b) (i))))) ∧ Below w.heap.size w w' := by
  rw [show ((a : Int) + (b : Int)) = ((a + b : Nat) : Int) by simp]
  exact markMade_any (a + b) i hk hi w
theorem eqlM (x y : Md) (w : World) : (binOp .eql 54 (.agg (mC x)) (.agg (mC y))).run Tryz.prog w = .ok (.bool (decide (x = y))) w := by rw [run_eql_struct, eqlInM 9996]; rfl
theorem eqM_M (k i : Nat) (W : World) : (binOp .eql 54 (.agg (mC (mdS (mkT (k) (i))))) (.agg (mC (mdS (mkT (k) (i)))))).run Tryz.prog W = .ok (.bool true) W := by
  rw [eqlM]
  simp
end Go.Proofs.YtniibcgomnjfgaaGreat
