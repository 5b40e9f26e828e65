/- Derivations: their cells, what lies in them, '==' of inputs by names; bytes and texts as elements. -/
import Derived.Test.YtfgjepfmcmppaaaElems
import Derived.Test.YtfgjepfmcmppaaaEqual
import Derived.Test.YtfgjepfmcmppaaaBytes
namespace Go.Proofs.Ytfgjepfmcmppaaa
open Go.RowKit Pl Go.Agg
abbrev H20 : Type := { h : List UInt8 // h.length = 20 }
abbrev Inp : Type := P20 × H20 × Bool
abbrev Nam : Type := List UInt8 × Inp
abbrev Drv : Type := List UInt8 × List Nam × List UInt8
instance : Inhabited H20 := ⟨⟨z20, rfl⟩⟩
instance : DecidableEq P20 := inferInstance
instance : DecidableEq H20 := inferInstance
instance : DecidableEq Inp := inferInstance
instance : DecidableEq Nam := inferInstance
instance : DecidableEq (List Nam) := inferInstance
instance : DecidableEq (List Nam × List UInt8) := inferInstance
instance : DecidableEq Drv := inferInstance
def iC (x : Inp) : Array Value := pC x.1.1.1 x.1.1.2 ++ (hC x.2.1.1 ++ #[.bool x.2.2])
def nmC (x : Nam) : Array Value := #[.string ⟨x.1.toArray⟩] ++ iC x.2
theorem iC_size (x : Inp) : (iC x).size = 42 := by simp [iC, pC_size, hC_size, x.1.2, x.2.1.2]
theorem nmC_size (x : Nam) : (nmC x).size = 43 := by simp [nmC, iC_size]
theorem iC_one (x : Inp) : (iC x).all (·.oneCell') = true := by
  rw [iC, Array.all_append, Array.all_append, pC_one, hC_one]; simp [Value.oneCell']
theorem nmC_one (x : Nam) : (nmC x).all (·.oneCell') = true := by
  rw [nmC, Array.all_append, iC_one]; simp [Value.oneCell']
theorem nmC_name (x : Nam) : (nmC x)[0]? = some (.string ⟨x.1.toArray⟩) := by rw [nmC, Array.getElem?_append_left (by simp)]; rfl
theorem nmC_inp (x : Nam) (j : Nat) (v : Value) (h : (iC x.2)[j]? = some v) : (nmC x)[1 + j]? = some v := by
  rw [nmC, Array.getElem?_append_right (by simp)]; simpa using h
theorem iC_src (x : Inp) (j : Nat) (v : Value) (h : (pC x.1.1.1 x.1.1.2)[j]? = some v) : (iC x)[0 + j]? = some v := by
  have := (Array.getElem?_eq_some_iff.1 h).1
  rw [iC, Nat.zero_add, Array.getElem?_append_left this]; exact h
theorem iC_cls (x : Inp) (j : Nat) (v : Value) (h : (hC x.2.1.1)[j]? = some v) : (iC x)[21 + j]? = some v := by
  have := (Array.getElem?_eq_some_iff.1 h).1
  rw [iC, Array.getElem?_append_right (by rw [pC_size, x.1.2]; omega), pC_size, x.1.2, show 21 + j - (20 + 1) = j by omega, Array.getElem?_append_left this]; exact h
theorem iC_is (x : Inp) : (iC x)[41]? = some (.bool x.2.2) := by
  rw [iC, Array.getElem?_append_right (by rw [pC_size, x.1.2]; omega), pC_size, x.1.2, Array.getElem?_append_right (by rw [hC_size, x.2.1.2]; omega), hC_size, x.2.1.2]; rfl
def zI : Inp := (⟨(z20, []), rfl⟩, ⟨z20, rfl⟩, false)
def zN : Nam := ([], zI)
theorem nmC_zero : (Try.prog.info? 64).map (·.zero) = some (some (.agg (nmC zN))) := by kernel_rfl
theorem nmC_info (x : Nam) : (Try.prog.info? 64).map (·.size) = some (nmC x).size := by rw [nmC_size]; kernel_rfl
theorem iC_info (x : Inp) : (Try.prog.info? 62).map (·.size) = some (iC x).size := by rw [iC_size]; kernel_rfl
theorem nmC_under : Try.prog.underlying 64 = some (.struct (Try.prog.fieldsOf 64)) := by kernel_rfl
theorem iC_under : Try.prog.underlying 62 = some (.struct (Try.prog.fieldsOf 62)) := by kernel_rfl
/-- inputs by names, as elements -/
def ENm : Elem Try.prog Nam where
  ty := 64
  st := 22
  n := 43
  bytes := 80
  val := fun x => .agg (nmC x)
  zero := .agg (nmC zN)
  pos := by omega
  small := by omega
  size := fun x => by simp [Value.cells, nmC_size]
  one := fun x v hv => one_of (nmC_one x) v hv
  zsize := by simp [Value.cells, nmC_size]
  slice := by kernel_rfl
  info := info_of nmC_zero (by kernel_rfl) (by kernel_rfl)
  load := fun w a x hp h => LoadsL.of_cells hp h nmC_under rfl (nmC_info x)
abbrev NamsAt (w : World) (v : Value) (l : List Nam) : Prop := SliceOf ENm w v l
theorem nams_len {w : World} {v : Value} {l : List Nam} (h : NamsAt w v l) (W : World) : (Builtin.len_ #[22] 3 #[v]).run Try.prog W = .ok (.int .i64 (l.length : Int)) W := h.len W
/-- what lies at an input by name -/
structure NamL (w : World) (p : Addr) (x : Nam) : Prop where
  all : LoadsL Try.prog w 64 (some p) (.agg (nmC x))
  name : LoadsL Try.prog w 9 (some (p.add 0)) (.string ⟨x.1.toArray⟩)
  is : LoadsL Try.prog w 4 (some ((p.add 1).add 41)) (.bool x.2.2.2)
  src : LoadsL Try.prog w 40 (some ((p.add 1).add 0)) (.agg (pC x.2.1.1.1 x.2.1.1.2))
  sname : LoadsL Try.prog w 9 (some (((p.add 1).add 0).add 20)) (.string ⟨x.2.1.1.2.toArray⟩)
  cls : LoadsL Try.prog w 38 (some ((p.add 1).add 21)) (.agg (hC x.2.2.1.1))
theorem NamL.of_cells {w : World} {p : Addr} {x : Nam} (hp : p.block < w.heap.size) (h : ∀ j u, (nmC x)[j]? = some u → w.cell? (p.add j) = some u) : NamL w p x where
  all := LoadsL.of_cells hp h nmC_under rfl (nmC_info x)
  name := LoadsL.of_cell (h 0 _ (nmC_name x)) Try.underlying9 rfl
  is := LoadsL.of_cell (by rw [add_add]; exact h _ _ (nmC_inp x 41 _ (iC_is x.2))) Try.underlying4 rfl
  src := LoadsL.of_cells (by rw [add_block, add_block]; exact hp) (fun j v hj => by rw [add_add, add_add]; exact h _ _ (nmC_inp x _ _ (iC_src x.2 j v hj))) pC_under rfl (pC_info _ _ x.2.1.2)
  sname := LoadsL.of_cell (by rw [add_add, add_add]; exact h _ _ (nmC_inp x _ _ (iC_src x.2 20 _ (pC_name _ _ x.2.1.2)))) Try.underlying9 rfl
  cls := LoadsL.of_cells (by rw [add_block, add_block]; exact hp) (fun j v hj => by rw [add_add, add_add]; exact h _ _ (nmC_inp x _ _ (iC_cls x.2 j v hj))) Try.underlying38 rfl (hC_info _ x.2.2.1.2)
theorem NamL.below {w w' : World} {p : Addr} {x : Nam} (h : NamL w p x) (hb : Below w.heap.size w w') : NamL w' p x :=
  ⟨h.all.below hb, h.name.below hb, h.is.below hb, h.src.below hb, h.sname.below hb, h.cls.below hb⟩
theorem NamL.of_blk {w : World} {g : Nat} {x : Nam} (h : Blk w g 64 (nmC x)) : NamL w ⟨g, 0, none⟩ x :=
  NamL.of_cells h.lt fun j u hj => by rw [add_plain, Nat.zero_add, h.cell]; exact hj
theorem nam_at {w : World} {v : Value} {l : List Nam} (h : NamsAt w v l) (k : Nat) (x : Nam) (hx : l[k]? = some x) :
    ∃ p : Addr, (∀ W, (Instr.indexAt 22 v (.int .i64 (k : Int))).run Try.prog W = .ok (.pointer (some p)) W) ∧ NamL w p x := by
  obtain ⟨p, h1, h2, h3, _⟩ := h.at_ k x hx
  exact ⟨p, h1, NamL.of_cells h2 h3⟩
/-! '==' -/
theorem eqlIn_path (d : Nat) (p q : P20) (w : World) : (Op.equalIn (d + 3) 40 (.agg (pC p.1.1 p.1.2)) (.agg (pC q.1.1 q.1.2))).run Try.prog w = .ok (decide (p = q)) w := by
  rw [run_equalIn_struct w (d + 2) 40 _ _ pC_under (by kernel_rfl)]
  have hf := path_fields
  generalize (Try.prog.fieldsOf 40).toList = fs at hf ⊢
  cases fs with
  | nil => exact absurd hf (by simp)
  | cons f1 fs =>
  cases fs with
  | nil => exact absurd hf (by simp)
  | cons f2 fs =>
  cases fs with
  | cons f3 fs => exact absurd hf (by simp)
  | nil =>
    simp only [List.map_cons, List.map_nil, List.cons.injEq, Prod.mk.injEq, and_true] at hf
    obtain ⟨⟨a1, a2, a3⟩, b1, b2, b3⟩ := hf
    have e : decide (p = q) = (p.1.1 == q.1.1 && p.1.2 == q.1.2) := by
      rw [Bool.eq_iff_iff]
      simp [Subtype.ext_iff, Prod.ext_iff]
    rw [e]
    simp only [Op.eqFields, a1, a2, a3, b1, b2, b3, Sem.run_bind, Sem.run_ite, part_hash _ _ p.2, part_hash _ _ q.2, part_name _ _ p.2, part_name _ _ q.2, Result.andThen_ok, eqlIn_hash d _ _ p.2 q.2, run_equalIn_string w (d + 1) 9 _ _ Try.underlying9, Agg.bytes_toList]
    cases p.1.1 == q.1.1 <;> cases p.1.2 == q.1.2 <;> simp
theorem inp_fields : (Try.prog.fieldsOf 62).toList.map (fun f => (f.name, f.type, f.offset)) = [("Src", 40, 0), ("Class", 38, 21), ("Is", 4, 41)] := by kernel_rfl
theorem nam_fields : (Try.prog.fieldsOf 64).toList.map (fun f => (f.name, f.type, f.offset)) = [("Name", 9, 0), ("Input", 62, 1)] := by kernel_rfl
theorem part_agg {ty : TypeId} {n : Nat} (ha : ∀ w, (isAgg ty).run Try.prog w = .ok true w) (hs : ∀ w, (sizeOf ty).run Try.prog w = .ok n w) (cs ds : Array Value) (off : Nat) (hn : ds.size = n) (h : ∀ j v, ds[j]? = some v → cs[off + j]? = some v) (w : World) :
    (Go.part ty cs off).run Try.prog w = .ok (.agg ds) w := by
  unfold Go.part
  simp only [Sem.run_bind, ha, Result.andThen_ok, if_true, hs, Sem.run_pure]
  congr 2
  apply Array.ext_getElem?
  intro j
  by_cases hj : j < n
  · have h1 : ds[j]? = some (ds[j]'(by omega)) := Array.getElem?_eq_getElem _
    have h2 := h j _ h1
    have h3 := (Array.getElem?_eq_some_iff.1 h2).1
    rw [h1, Array.getElem?_extract]
    rw [if_pos (by omega)]
    exact h2
  · rw [Array.getElem?_eq_none (xs := ds) (by omega), Array.getElem?_eq_none (by simp; omega)]
theorem part_cell {ty : TypeId} (ha : ∀ w, (isAgg ty).run Try.prog w = .ok false w) (cs : Array Value) (off : Nat) (v : Value) (h : cs[off]? = some v) (w : World) : (Go.part ty cs off).run Try.prog w = .ok v w := by
  unfold Go.part
  simp only [Sem.run_bind, ha, Result.andThen_ok, Bool.false_eq_true, if_false, h, Sem.run_pure]
theorem isAgg_path (w : World) : (isAgg 40).run Try.prog w = .ok true w := by kernel_rfl
theorem isAgg_inp (w : World) : (isAgg 62).run Try.prog w = .ok true w := by kernel_rfl
theorem isAgg_bool (w : World) : (isAgg 4).run Try.prog w = .ok false w := by kernel_rfl
theorem size_path (w : World) : (sizeOf 40).run Try.prog w = .ok 21 w := by kernel_rfl
theorem size_inp (w : World) : (sizeOf 62).run Try.prog w = .ok 42 w := by kernel_rfl
theorem eqlIn_bool (d : Nat) (b c : Bool) (w : World) : (Op.equalIn (d + 1) 4 (.bool b) (.bool c)).run Try.prog w = .ok (decide (b = c)) w := by
  have : Try.prog.underlying 4 = some .bool := Try.underlying4
  simp [Op.equalIn, run_underlying this]
  cases b <;> cases c <;> rfl
theorem eqlIn_inp (d : Nat) (x y : Inp) (w : World) : (Op.equalIn (d + 4) 62 (.agg (iC x)) (.agg (iC y))).run Try.prog w = .ok (decide (x = y)) w := by
  rw [run_equalIn_struct w (d + 3) 62 _ _ iC_under (by kernel_rfl)]
  have hf := inp_fields
  generalize (Try.prog.fieldsOf 62).toList = fs at hf ⊢
  cases fs with
  | nil => exact absurd hf (by simp)
  | cons f1 fs =>
  cases fs with
  | nil => exact absurd hf (by simp)
  | cons f2 fs =>
  cases fs with
  | nil => exact absurd hf (by simp)
  | cons f3 fs =>
  cases fs with
  | cons f4 fs => exact absurd hf (by simp)
  | nil =>
    simp only [List.map_cons, List.map_nil, List.cons.injEq, Prod.mk.injEq, and_true] at hf
    obtain ⟨⟨a1, a2, a3⟩, ⟨b1, b2, b3⟩, c1, c2, c3⟩ := hf
    have e : decide (x = y) = (decide (x.1 = y.1) && ((x.2.1.1 == y.2.1.1) && decide (x.2.2 = y.2.2))) := by
      rw [Bool.eq_iff_iff]
      simp [Subtype.ext_iff, Prod.ext_iff]
    rw [e]
    have p1 := fun z : Inp => part_agg isAgg_path size_path (iC z) (pC z.1.1.1 z.1.1.2) 0 (by rw [pC_size, z.1.2]) (iC_src z)
    have p2 := fun z : Inp => part_agg isAgg_hash size_hash (iC z) (hC z.2.1.1) 21 (by rw [hC_size, z.2.1.2]) (iC_cls z)
    have p3 := fun z : Inp => part_cell isAgg_bool (iC z) 41 _ (iC_is z)
    simp only [Op.eqFields, a1, a2, a3, b1, b2, b3, c1, c2, c3, Sem.run_bind, Sem.run_ite, p1, p2, p3, Result.andThen_ok, eqlIn_path d, eqlIn_hash (d + 1) _ _ x.2.1.2 y.2.1.2, eqlIn_bool (d + 2)]
    cases decide (x.1 = y.1) <;> cases x.2.1.1 == y.2.1.1 <;> cases decide (x.2.2 = y.2.2) <;> simp
theorem eqlIn_nam (d : Nat) (x y : Nam) (w : World) : (Op.equalIn (d + 5) 64 (.agg (nmC x)) (.agg (nmC y))).run Try.prog w = .ok (decide (x = y)) w := by
  rw [run_equalIn_struct w (d + 4) 64 _ _ nmC_under (by kernel_rfl)]
  have hf := nam_fields
  generalize (Try.prog.fieldsOf 64).toList = fs at hf ⊢
  cases fs with
  | nil => exact absurd hf (by simp)
  | cons f1 fs =>
  cases fs with
  | nil => exact absurd hf (by simp)
  | cons f2 fs =>
  cases fs with
  | cons f3 fs => exact absurd hf (by simp)
  | nil =>
    simp only [List.map_cons, List.map_nil, List.cons.injEq, Prod.mk.injEq, and_true] at hf
    obtain ⟨⟨a1, a2, a3⟩, b1, b2, b3⟩ := hf
    have e : decide (x = y) = ((x.1 == y.1) && decide (x.2 = y.2)) := by
      rw [Bool.eq_iff_iff]
      simp [Prod.ext_iff]
    rw [e]
    have p1 := fun z : Nam => part_cell isAgg_name (nmC z) 0 _ (nmC_name z)
    have p2 := fun z : Nam => part_agg isAgg_inp size_inp (nmC z) (iC z.2) 1 (iC_size _) (nmC_inp z)
    simp only [Op.eqFields, a1, a2, a3, b1, b2, b3, Sem.run_bind, Sem.run_ite, p1, p2, Result.andThen_ok, eqlIn_inp d, run_equalIn_string w (d + 3) 9 _ _ Try.underlying9, Agg.bytes_toList]
    cases x.1 == y.1 <;> cases decide (x.2 = y.2) <;> simp
theorem neq_nam (x y : Nam) (w : World) : (binOp .neq 64 (.agg (nmC x)) (.agg (nmC y))).run Try.prog w = .ok (.bool (!decide (x = y))) w := by
  rw [run_neq_struct, eqlIn_nam 9995]; rfl
theorem eql_nam (x y : Nam) (w : World) : (binOp .eql 64 (.agg (nmC x)) (.agg (nmC y))).run Try.prog w = .ok (.bool (decide (x = y))) w := by
  rw [run_eql_struct, eqlIn_nam 9995]; rfl
end Go.Proofs.Ytfgjepfmcmppaaa
