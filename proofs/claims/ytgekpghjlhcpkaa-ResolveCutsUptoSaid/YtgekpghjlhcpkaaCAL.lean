/- (resolve.Input).can, resolve.Can (Several texts in one.) -/
import Derived.Test.YtgekpghjlhcpkaaCAC
import Derived.Test.YtgekpghjlhcpkaaCAJ
import Derived.Sort.Statements
import Derived.Test.YtgekpghjlhcpkaaCAA
import Derived.Test.YtgekpghjlhcpkaaShelf
import Derived.Test.YtgekpghjlhcpkaaCAB
import Derived.Lib.Bytealg
import Derived.Lib.BytesEntry
import Derived.Test.YtgekpghjlhcpkaaCAF
/-! Paths in order: the plain law of both Sorted. -/
namespace Go.Proofs.Ytgekpghjlhcpkaa
open Pl
open Go.Lib (compareBytes)
theorem bytesLess_trans : ∀ (a b c : List UInt8), Op.bytesLess a b = true → Op.bytesLess b c = true → Op.bytesLess a c = true
  | [], [], _, h, _ => by simp [Op.bytesLess] at h
  | [], _ :: _, [], _, h => by simp [Op.bytesLess] at h
  | [], _ :: _, _ :: _, _, _ => by simp [Op.bytesLess]
  | _ :: _, [], _, h, _ => by simp [Op.bytesLess] at h
  | _ :: _, _ :: _, [], _, h => by simp [Op.bytesLess] at h
  | x :: a, y :: b, z :: c, h1, h2 => by
    simp only [Op.bytesLess, Bool.or_eq_true, Bool.and_eq_true, decide_eq_true_eq, beq_iff_eq] at h1 h2 ⊢
    rcases h1 with h1 | ⟨rfl, h1⟩
    · rcases h2 with h2 | ⟨rfl, h2⟩
      · exact .inl (UInt8.lt_trans h1 h2)
      · exact .inl h1
    · rcases h2 with h2 | ⟨rfl, h2⟩
      · exact .inl h2
      · exact .inr ⟨rfl, bytesLess_trans a b c h1 h2⟩
/-- how two paths stand, as the sort asks it -/
def cmp20 (p q : P20) : Int := cmpP p.1.1 p.1.2 q.1.1 q.1.2
def lt20 (p q : P20) : Bool := decide (cmp20 p q < 0)
theorem lt20_eq (p q : P20) : lt20 p q = if p.1.1 == q.1.1 then Op.bytesLess p.1.2 q.1.2 else Op.bytesLess p.1.1 q.1.1 := by
  unfold lt20 cmp20 cmpP
  split <;> exact compare_less _ _
theorem lt20_irrefl (p : P20) : lt20 p p = false := by rw [lt20_eq]; simp [bytesLess_irrefl]
theorem lt20_trans (p q r : P20) (h1 : lt20 p q = true) (h2 : lt20 q r = true) : lt20 p r = true := by
  rw [lt20_eq] at h1 h2 ⊢
  by_cases e1 : p.1.1 = q.1.1 <;> by_cases e2 : q.1.1 = r.1.1
  · have e3 : p.1.1 = r.1.1 := e1.trans e2
    simp only [beq_iff_eq, e1, e2, if_true] at h1 h2 ⊢
    exact bytesLess_trans _ _ _ h1 h2
  · have e3 : ¬ p.1.1 = r.1.1 := fun e => e2 (e1.symm.trans e)
    simp only [beq_iff_eq, e1, e2, if_false] at h2 ⊢
    exact h2
  · have e3 : ¬ p.1.1 = r.1.1 := fun e => e1 (e.trans e2.symm)
    simp only [beq_iff_eq, e1, e3, if_false] at h1 ⊢
    rwa [← e2]
  · simp only [beq_iff_eq, e1, e2, if_false] at h1 h2
    have h3 := bytesLess_trans _ _ _ h1 h2
    have e3 : ¬ p.1.1 = r.1.1 := fun e => by rw [e, bytesLess_irrefl] at h3; cases h3
    simp only [beq_iff_eq, e3, if_false]
    exact h3
theorem lt20_total (p q : P20) (hne : p ≠ q) (h : lt20 p q = false) : lt20 q p = true := by
  rw [lt20_eq] at h ⊢
  by_cases e : p.1.1 = q.1.1
  · have e' : q.1.1 = p.1.1 := e.symm
    simp only [beq_iff_eq, e, if_true] at h ⊢
    exact bytesLess_total _ _ (fun e2 => hne (Subtype.ext (Prod.ext e e2))) h
  · have e' : ¬ q.1.1 = p.1.1 := fun x => e x.symm
    simp only [beq_iff_eq, e, e', if_false] at h ⊢
    exact bytesLess_total _ _ e h
theorem lt20_asymm (p q : P20) (h : lt20 p q = true) : lt20 q p = false := by
  cases h2 : lt20 q p with
  | false => rfl
  | true => have := lt20_trans _ _ _ h h2; rw [lt20_irrefl] at this; cases this
theorem lt20_swo : Sort.SWO lt20 where
  irrefl := lt20_irrefl
  trans := lt20_trans
  ntrans := fun x y z h1 h2 => by
    cases h3 : lt20 x z with
    | false => rfl
    | true =>
      by_cases e : x = y
      · subst e; rw [h3] at h2; cases h2
      · have := lt20_trans _ _ _ (lt20_total _ _ e h1) h3
        rw [this] at h2; cases h2
/-- rising: each ahead of all behind it -/
def Rising (l : List P20) : Prop := l.Pairwise fun p q => lt20 p q = true
theorem rising_unique : ∀ (a b : List P20), Rising a → Rising b → (∀ x, x ∈ a ↔ x ∈ b) → a = b
  | [], [], _, _, _ => rfl
  | [], y :: b, _, _, h => absurd ((h y).2 (by simp)) (by simp)
  | x :: a, [], _, _, h => absurd ((h x).1 (by simp)) (by simp)
  | x :: a, y :: b, ha, hb, h => by
    rw [Rising, List.pairwise_cons] at ha hb
    have hxy : x = y := by
      rcases List.mem_cons.1 ((h x).1 (by simp)) with e | hx
      · exact e
      · rcases List.mem_cons.1 ((h y).2 (by simp)) with e | hy
        · exact e.symm
        · have h1 := hb.1 x hx
          have h2 := ha.1 y hy
          rw [lt20_asymm _ _ h1] at h2; cases h2
    subst hxy
    congr 1
    refine rising_unique a b ha.2 hb.2 fun z => ?_
    have hz := h z
    simp only [List.mem_cons] at hz
    constructor
    · intro hza
      rcases hz.1 (.inr hza) with e | hzb
      · subst e
        have := ha.1 z hza
        rw [lt20_irrefl] at this; cases this
      · exact hzb
    · intro hzb
      rcases hz.2 (.inr hzb) with e | hza
      · subst e
        have := hb.1 z hzb
        rw [lt20_irrefl] at this; cases this
      · exact hza
/-- a sorted list without doubles rises -/
theorem rising_of_sorted (l : List P20) (hn : l.Nodup) (hs : l.Pairwise fun p q => lt20 q p = false) : Rising l := by
  refine List.Pairwise.imp₂ ?_ hn hs
  intro p q hne h
  exact lt20_total q p (Ne.symm hne) h
end Go.Proofs.Ytgekpghjlhcpkaa
/-! Slices of paths. -/

/-! base.Letters: the letters of any hash. -/
namespace Go.Proofs.Ytgekpghjlhcpkaa
open Go.RowKit Pl
end Go.Proofs.Ytgekpghjlhcpkaa
/-! Bytes and texts as elements. -/
namespace Go.Proofs.Ytgekpghjlhcpkaa
open Go.RowKit Pl Go.Agg
end Go.Proofs.Ytgekpghjlhcpkaa
/-! Derivations: their cells, what lies in them, '==' of inputs by names; bytes and texts as elements. -/
namespace Go.Proofs.Ytgekpghjlhcpkaa
open Go.RowKit Pl Go.Agg
abbrev Inp : Type := P20 × H20 × Bool
abbrev Nam : Type := List UInt8 × Inp
abbrev Drv : Type := List UInt8 × List Nam × List UInt8
instance : DecidableEq Inp := inferInstance
instance : DecidableEq Nam := inferInstance
instance : DecidableEq (List Nam) := inferInstance
instance : DecidableEq (List Nam × List UInt8) := inferInstance
instance : DecidableEq Drv := inferInstance
def iC (x : Inp) : Array Value := pC x.1.1.1 x.1.1.2 ++ (hC x.2.1.1 ++ #[.bool x.2.2])
def nmC (x : Nam) : Array Value := #[.string ⟨x.1.toArray⟩] ++ iC x.2
theorem iC_size (x : Inp) : (iC x).size = 42 := by simp [iC, pC_size, hC_size, x.1.2, x.2.1.2]
theorem nmC_size (x : Nam) : (nmC x).size = 43 := by simp [nmC, iC_size]
theorem iC_one (x : Inp) : (iC x).all (·.oneCell') = true := by
  rw [iC, Array.all_append, Array.all_append, pC_one, hC_one]; simp [Value.oneCell']
theorem nmC_one (x : Nam) : (nmC x).all (·.oneCell') = true := by
  rw [nmC, Array.all_append, iC_one]; simp [Value.oneCell']
theorem nmC_name (x : Nam) : (nmC x)[0]? = some (.string ⟨x.1.toArray⟩) := by rw [nmC, Array.getElem?_append_left (by simp)]; rfl
theorem nmC_inp (x : Nam) (j : Nat) (v : Value) (h : (iC x.2)[j]? = some v) : (nmC x)[1 + j]? = some v := by
  rw [nmC, Array.getElem?_append_right (by simp)]; simpa using h
theorem iC_src (x : Inp) (j : Nat) (v : Value) (h : (pC x.1.1.1 x.1.1.2)[j]? = some v) : (iC x)[0 + j]? = some v := by
  have := (Array.getElem?_eq_some_iff.1 h).1
  rw [iC, Nat.zero_add, Array.getElem?_append_left this]; exact h
theorem iC_cls (x : Inp) (j : Nat) (v : Value) (h : (hC x.2.1.1)[j]? = some v) : (iC x)[21 + j]? = some v := by
  have := (Array.getElem?_eq_some_iff.1 h).1
  rw [iC, Array.getElem?_append_right (by rw [pC_size, x.1.2]; omega), pC_size, x.1.2, show 21 + j - (20 + 1) = j by omega, Array.getElem?_append_left this]; exact h
theorem iC_is (x : Inp) : (iC x)[41]? = some (.bool x.2.2) := by
  rw [iC, Array.getElem?_append_right (by rw [pC_size, x.1.2]; omega), pC_size, x.1.2, Array.getElem?_append_right (by rw [hC_size, x.2.1.2]; omega), hC_size, x.2.1.2]; rfl
def zI : Inp := (⟨(z20, []), rfl⟩, ⟨z20, rfl⟩, false)
def zN : Nam := ([], zI)
theorem nmC_zero : (Try.prog.info? 58).map (·.zero) = some (some (.agg (nmC zN))) := by kernel_rfl
theorem nmC_info (x : Nam) : (Try.prog.info? 58).map (·.size) = some (nmC x).size := by rw [nmC_size]; kernel_rfl
theorem iC_info (x : Inp) : (Try.prog.info? 56).map (·.size) = some (iC x).size := by rw [iC_size]; kernel_rfl
theorem nmC_under : Try.prog.underlying 58 = some (.struct (Try.prog.fieldsOf 58)) := by kernel_rfl
theorem iC_under : Try.prog.underlying 56 = some (.struct (Try.prog.fieldsOf 56)) := by kernel_rfl
/-- inputs by names, as elements -/
def ENm : Elem Try.prog Nam where
  ty := 58
  st := 22
  n := 43
  bytes := 80
  val := fun x => .agg (nmC x)
  zero := .agg (nmC zN)
  pos := by omega
  small := by omega
  size := fun x => by simp [Value.cells, nmC_size]
  one := fun x v hv => one_of (nmC_one x) v hv
  zsize := by simp [Value.cells, nmC_size]
  slice := by kernel_rfl
  info := info_of nmC_zero (by kernel_rfl) (by kernel_rfl)
  load := fun w a x hp h => LoadsL.of_cells hp h nmC_under rfl (nmC_info x)
abbrev NamsAt (w : World) (v : Value) (l : List Nam) : Prop := SliceOf ENm w v l
theorem nams_len {w : World} {v : Value} {l : List Nam} (h : NamsAt w v l) (W : World) : (Builtin.len_ #[22] 3 #[v]).run Try.prog W = .ok (.int .i64 (l.length : Int)) W := h.len W
/-- what lies at an input by name -/
structure NamL (w : World) (p : Addr) (x : Nam) : Prop where
  all : LoadsL Try.prog w 58 (some p) (.agg (nmC x))
  name : LoadsL Try.prog w 9 (some (p.add 0)) (.string ⟨x.1.toArray⟩)
  is : LoadsL Try.prog w 4 (some ((p.add 1).add 41)) (.bool x.2.2.2)
  src : LoadsL Try.prog w 47 (some ((p.add 1).add 0)) (.agg (pC x.2.1.1.1 x.2.1.1.2))
  sname : LoadsL Try.prog w 9 (some (((p.add 1).add 0).add 20)) (.string ⟨x.2.1.1.2.toArray⟩)
  cls : LoadsL Try.prog w 45 (some ((p.add 1).add 21)) (.agg (hC x.2.2.1.1))
theorem NamL.of_cells {w : World} {p : Addr} {x : Nam} (hp : p.block < w.heap.size) (h : ∀ j u, (nmC x)[j]? = some u → w.cell? (p.add j) = some u) : NamL w p x where
  all := LoadsL.of_cells hp h nmC_under rfl (nmC_info x)
  name := LoadsL.of_cell (h 0 _ (nmC_name x)) Try.underlying9 rfl
  is := LoadsL.of_cell (by rw [add_add]; exact h _ _ (nmC_inp x 41 _ (iC_is x.2))) Try.underlying4 rfl
  src := LoadsL.of_cells (by rw [add_block, add_block]; exact hp) (fun j v hj => by rw [add_add, add_add]; exact h _ _ (nmC_inp x _ _ (iC_src x.2 j v hj))) pC_under rfl (pC_info _ _ x.2.1.2)
  sname := LoadsL.of_cell (by rw [add_add, add_add]; exact h _ _ (nmC_inp x _ _ (iC_src x.2 20 _ (pC_name _ _ x.2.1.2)))) Try.underlying9 rfl
  cls := LoadsL.of_cells (by rw [add_block, add_block]; exact hp) (fun j v hj => by rw [add_add, add_add]; exact h _ _ (nmC_inp x _ _ (iC_cls x.2 j v hj))) Try.underlying45 rfl (hC_info _ x.2.2.1.2)
theorem NamL.below {w w' : World} {p : Addr} {x : Nam} (h : NamL w p x) (hb : Below w.heap.size w w') : NamL w' p x :=
  ⟨h.all.below hb, h.name.below hb, h.is.below hb, h.src.below hb, h.sname.below hb, h.cls.below hb⟩
theorem NamL.of_blk {w : World} {g : Nat} {x : Nam} (h : Blk w g 58 (nmC x)) : NamL w ⟨g, 0, none⟩ x :=
  NamL.of_cells h.lt fun j u hj => by rw [add_plain, Nat.zero_add, h.cell]; exact hj
theorem nam_at {w : World} {v : Value} {l : List Nam} (h : NamsAt w v l) (k : Nat) (x : Nam) (hx : l[k]? = some x) :
    ∃ p : Addr, (∀ W, (Instr.indexAt 22 v (.int .i64 (k : Int))).run Try.prog W = .ok (.pointer (some p)) W) ∧ NamL w p x := by
  obtain ⟨p, h1, h2, h3, _⟩ := h.at_ k x hx
  exact ⟨p, h1, NamL.of_cells h2 h3⟩
/-! '==' -/
theorem eqlIn_path (d : Nat) (p q : P20) (w : World) : (Op.equalIn (d + 3) 47 (.agg (pC p.1.1 p.1.2)) (.agg (pC q.1.1 q.1.2))).run Try.prog w = .ok (decide (p = q)) w := by
  rw [run_equalIn_struct w (d + 2) 47 _ _ pC_under (by kernel_rfl)]
  have hf := path_fields
  generalize (Try.prog.fieldsOf 47).toList = fs at hf ⊢
  cases fs with
  | nil => exact absurd hf (by simp)
  | cons f1 fs =>
  cases fs with
  | nil => exact absurd hf (by simp)
  | cons f2 fs =>
  cases fs with
  | cons f3 fs => exact absurd hf (by simp)
  | nil =>
    simp only [List.map_cons, List.map_nil, List.cons.injEq, Prod.mk.injEq, and_true] at hf
    obtain ⟨⟨a1, a2, a3⟩, b1, b2, b3⟩ := hf
    have e : decide (p = q) = (p.1.1 == q.1.1 && p.1.2 == q.1.2) := by
      rw [Bool.eq_iff_iff]
      simp [Subtype.ext_iff, Prod.ext_iff]
    rw [e]
    simp only [Op.eqFields, a1, a2, a3, b1, b2, b3, Sem.run_bind, Sem.run_ite, part_hash _ _ p.2, part_hash _ _ q.2, part_name _ _ p.2, part_name _ _ q.2, Result.andThen_ok, eqlIn_hash d _ _ p.2 q.2, run_equalIn_string w (d + 1) 9 _ _ Try.underlying9, Agg.bytes_toList]
    cases p.1.1 == q.1.1 <;> cases p.1.2 == q.1.2 <;> simp
theorem inp_fields : (Try.prog.fieldsOf 56).toList.map (fun f => (f.name, f.type, f.offset)) = [("Src", 47, 0), ("Class", 45, 21), ("Is", 4, 41)] := by kernel_rfl
theorem nam_fields : (Try.prog.fieldsOf 58).toList.map (fun f => (f.name, f.type, f.offset)) = [("Name", 9, 0), ("Input", 56, 1)] := by kernel_rfl
theorem part_agg {ty : TypeId} {n : Nat} (ha : ∀ w, (isAgg ty).run Try.prog w = .ok true w) (hs : ∀ w, (sizeOf ty).run Try.prog w = .ok n w) (cs ds : Array Value) (off : Nat) (hn : ds.size = n) (h : ∀ j v, ds[j]? = some v → cs[off + j]? = some v) (w : World) :
    (Go.part ty cs off).run Try.prog w = .ok (.agg ds) w := by
  unfold Go.part
  simp only [Sem.run_bind, ha, Result.andThen_ok, if_true, hs, Sem.run_pure]
  congr 2
  apply Array.ext_getElem?
  intro j
  by_cases hj : j < n
  · have h1 : ds[j]? = some (ds[j]'(by omega)) := Array.getElem?_eq_getElem _
    have h2 := h j _ h1
    have h3 := (Array.getElem?_eq_some_iff.1 h2).1
    rw [h1, Array.getElem?_extract]
    rw [if_pos (by omega)]
    exact h2
  · rw [Array.getElem?_eq_none (xs := ds) (by omega), Array.getElem?_eq_none (by simp; omega)]
theorem part_cell {ty : TypeId} (ha : ∀ w, (isAgg ty).run Try.prog w = .ok false w) (cs : Array Value) (off : Nat) (v : Value) (h : cs[off]? = some v) (w : World) : (Go.part ty cs off).run Try.prog w = .ok v w := by
  unfold Go.part
  simp only [Sem.run_bind, ha, Result.andThen_ok, Bool.false_eq_true, if_false, h, Sem.run_pure]
theorem isAgg_path (w : World) : (isAgg 47).run Try.prog w = .ok true w := by kernel_rfl
theorem isAgg_inp (w : World) : (isAgg 56).run Try.prog w = .ok true w := by kernel_rfl
theorem isAgg_bool (w : World) : (isAgg 4).run Try.prog w = .ok false w := by kernel_rfl
theorem size_path (w : World) : (sizeOf 47).run Try.prog w = .ok 21 w := by kernel_rfl
theorem size_inp (w : World) : (sizeOf 56).run Try.prog w = .ok 42 w := by kernel_rfl
theorem eqlIn_bool (d : Nat) (b c : Bool) (w : World) : (Op.equalIn (d + 1) 4 (.bool b) (.bool c)).run Try.prog w = .ok (decide (b = c)) w := by
  have : Try.prog.underlying 4 = some .bool := Try.underlying4
  simp [Op.equalIn, run_underlying this]
  cases b <;> cases c <;> rfl
theorem eqlIn_inp (d : Nat) (x y : Inp) (w : World) : (Op.equalIn (d + 4) 56 (.agg (iC x)) (.agg (iC y))).run Try.prog w = .ok (decide (x = y)) w := by
  rw [run_equalIn_struct w (d + 3) 56 _ _ iC_under (by kernel_rfl)]
  have hf := inp_fields
  generalize (Try.prog.fieldsOf 56).toList = fs at hf ⊢
  cases fs with
  | nil => exact absurd hf (by simp)
  | cons f1 fs =>
  cases fs with
  | nil => exact absurd hf (by simp)
  | cons f2 fs =>
  cases fs with
  | nil => exact absurd hf (by simp)
  | cons f3 fs =>
  cases fs with
  | cons f4 fs => exact absurd hf (by simp)
  | nil =>
    simp only [List.map_cons, List.map_nil, List.cons.injEq, Prod.mk.injEq, and_true] at hf
    obtain ⟨⟨a1, a2, a3⟩, ⟨b1, b2, b3⟩, c1, c2, c3⟩ := hf
    have e : decide (x = y) = (decide (x.1 = y.1) && ((x.2.1.1 == y.2.1.1) && decide (x.2.2 = y.2.2))) := by
      rw [Bool.eq_iff_iff]
      simp [Subtype.ext_iff, Prod.ext_iff]
    rw [e]
    have p1 := fun z : Inp => part_agg isAgg_path size_path (iC z) (pC z.1.1.1 z.1.1.2) 0 (by rw [pC_size, z.1.2]) (iC_src z)
    have p2 := fun z : Inp => part_agg isAgg_hash size_hash (iC z) (hC z.2.1.1) 21 (by rw [hC_size, z.2.1.2]) (iC_cls z)
    have p3 := fun z : Inp => part_cell isAgg_bool (iC z) 41 _ (iC_is z)
    simp only [Op.eqFields, a1, a2, a3, b1, b2, b3, c1, c2, c3, Sem.run_bind, Sem.run_ite, p1, p2, p3, Result.andThen_ok, eqlIn_path d, eqlIn_hash (d + 1) _ _ x.2.1.2 y.2.1.2, eqlIn_bool (d + 2)]
    cases decide (x.1 = y.1) <;> cases x.2.1.1 == y.2.1.1 <;> cases decide (x.2.2 = y.2.2) <;> simp
theorem eqlIn_nam (d : Nat) (x y : Nam) (w : World) : (Op.equalIn (d + 5) 58 (.agg (nmC x)) (.agg (nmC y))).run Try.prog w = .ok (decide (x = y)) w := by
  rw [run_equalIn_struct w (d + 4) 58 _ _ nmC_under (by kernel_rfl)]
  have hf := nam_fields
  generalize (Try.prog.fieldsOf 58).toList = fs at hf ⊢
  cases fs with
  | nil => exact absurd hf (by simp)
  | cons f1 fs =>
  cases fs with
  | nil => exact absurd hf (by simp)
  | cons f2 fs =>
  cases fs with
  | cons f3 fs => exact absurd hf (by simp)
  | nil =>
    simp only [List.map_cons, List.map_nil, List.cons.injEq, Prod.mk.injEq, and_true] at hf
    obtain ⟨⟨a1, a2, a3⟩, b1, b2, b3⟩ := hf
    have e : decide (x = y) = ((x.1 == y.1) && decide (x.2 = y.2)) := by
      rw [Bool.eq_iff_iff]
      simp [Prod.ext_iff]
    rw [e]
    have p1 := fun z : Nam => part_cell isAgg_name (nmC z) 0 _ (nmC_name z)
    have p2 := fun z : Nam => part_agg isAgg_inp size_inp (nmC z) (iC z.2) 1 (iC_size _) (nmC_inp z)
    simp only [Op.eqFields, a1, a2, a3, b1, b2, b3, Sem.run_bind, Sem.run_ite, p1, p2, Result.andThen_ok, eqlIn_inp d, run_equalIn_string w (d + 3) 9 _ _ Try.underlying9, Agg.bytes_toList]
    cases x.1 == y.1 <;> cases decide (x.2 = y.2) <;> simp
theorem neq_nam (x y : Nam) (w : World) : (binOp .neq 58 (.agg (nmC x)) (.agg (nmC y))).run Try.prog w = .ok (.bool (!decide (x = y))) w := by
  rw [run_neq_struct, eqlIn_nam 9995]; rfl
theorem eql_nam (x y : Nam) (w : World) : (binOp .eql 58 (.agg (nmC x)) (.agg (nmC y))).run Try.prog w = .ok (.bool (decide (x = y))) w := by
  rw [run_eql_struct, eqlIn_nam 9995]; rfl
end Go.Proofs.Ytgekpghjlhcpkaa
/-! base.order, base.Less, spenceref03.Less: how two paths stand. -/
namespace Go.Proofs.Ytgekpghjlhcpkaa
open Go.RowKit Pl Go.Agg
open Go.Lib (compareBytes)
end Go.Proofs.Ytgekpghjlhcpkaa
/-! Derivations as text: the plain law. -/
namespace Go.Proofs.Ytgekpghjlhcpkaa
open Pl Go.Agg
def zP : P20 := ⟨(z20, []), rfl⟩
def zH : H20 := ⟨z20, rfl⟩
/-- can an input be written, behind a name -/
def canNm (x : Nam) (b : List UInt8) : Bool := isName x.1 && Op.bytesLess b x.1 && (if x.2.2.2 then decide (x.2.1 = zP) else isName x.2.1.1.2 && decide (x.2.2.1 = zH))
def canAll : List UInt8 → List Nam → Bool
  | _, [] => true
  | b, x :: l => canNm x b && canAll x.1 l
def canDrv (d : Drv) : Bool := isName d.1 && decide (d.2.1.length ≤ 8) && decide (d.2.2.length ≤ 1000) && canAll [] d.2.1
/-- the last name -/
def behind (l : List Nam) : List UInt8 := match l.getLast? with | none => [] | some x => x.1
def lastOr (b : List UInt8) (l : List Nam) : List UInt8 := match l.getLast? with | none => b | some x => x.1
theorem canAll_append (b : List UInt8) (l m : List Nam) : canAll b (l ++ m) = (canAll b l && canAll (lastOr b l) m) := by
  induction l generalizing b with
  | nil => simp [canAll, lastOr]
  | cons x l ih =>
    have : lastOr b (x :: l) = lastOr x.1 l := by
      unfold lastOr
      cases l with
      | nil => rfl
      | cons y l => simp [List.getLast?_cons]
    simp only [List.cons_append, canAll, ih, this, Bool.and_assoc]
theorem lastOr_nil (l : List Nam) : lastOr [] l = behind l := rfl
theorem canAll_succ {l : List Nam} {k : Nat} {x : Nam} (h : l[k]? = some x) : canAll [] (l.take (k + 1)) = (canAll [] (l.take k) && canNm x (behind (l.take k))) := by
  rw [List.take_add_one, h, canAll_append, lastOr_nil]
  simp [canAll]
theorem behind_succ {l : List Nam} {k : Nat} {x : Nam} (h : l[k]? = some x) : behind (l.take (k + 1)) = x.1 := by
  rw [List.take_add_one, h]
  simp [behind]
theorem canAll_take {l : List Nam} {k : Nat} (h : canAll [] (l.take k) = false) : canAll [] l = false := by
  have := canAll_append [] (l.take k) (l.drop k)
  rw [List.take_append_drop, h, Bool.false_and] at this
  exact this
/-! digits -/
def hexd (n : Nat) : UInt8 := if n < 10 then UInt8.ofNat (48 + n) else UInt8.ofNat (87 + n)
def hex2 (c : UInt8) : List UInt8 := [hexd (c.toNat / 16), hexd (c.toNat % 16)]
def hexs (l : List UInt8) : List UInt8 := l.flatMap hex2
def digs16 (l : List UInt8) : List UInt8 := if l = [] then [45] else hexs l
theorem hexs_length (l : List UInt8) : (hexs l).length = 2 * l.length := by
  induction l with
  | nil => rfl
  | cons c l ih => simp only [hexs, List.flatMap_cons, List.length_append, hex2, List.length_cons, List.length_nil] at ih ⊢; omega
theorem hexs_append (a b : List UInt8) : hexs (a ++ b) = hexs a ++ hexs b := by simp [hexs]
theorem hexs_succ {l : List UInt8} {k : Nat} {c : UInt8} (h : l[k]? = some c) : hexs (l.take (k + 1)) = hexs (l.take k) ++ hex2 c := by
  rw [List.take_add_one, h, hexs_append]; simp [hexs]
theorem digs16_length (l : List UInt8) : (digs16 l).length ≤ 2 * l.length + 1 := by
  unfold digs16; split
  · simp
  · rw [hexs_length]; omega
/-! lines -/
def wDrv : List UInt8 := [100, 114, 118, 32]
def wClass : List UInt8 := [99, 108, 97, 115, 115, 32]
def wSrc : List UInt8 := [115, 114, 99, 32]
def wRun : List UInt8 := [114, 117, 110, 32]
def lineT (x : Nam) : List UInt8 := if x.2.2.2 then wClass ++ x.1 ++ [32] ++ letters x.2.2.1.1 else wSrc ++ x.1 ++ [32] ++ pathS x.2.1.1.1 x.2.1.1.2
def textD (d : Drv) : List UInt8 := wDrv ++ d.1 ++ [10] ++ d.2.1.flatMap (fun x => lineT x ++ [10]) ++ wRun ++ digs16 d.2.2 ++ [10]
def putE (d : Drv) : Nat := if canDrv d then (if (textD d).length ≤ 2000 then 0 else 3) else 2
def putB (d : Drv) : List UInt8 := if canDrv d then (if (textD d).length ≤ 2000 then textD d else []) else []
open Go.RowKit
theorem leq_not (a b : List UInt8) : (Op.bytesLess a b || a == b) = !Op.bytesLess b a := by
  by_cases e : a = b
  · subst e; simp [bytesLess_irrefl]
  · cases h : Op.bytesLess a b with
    | true => simp [bytesLess_asymm _ _ h]
    | false => simp [bytesLess_total _ _ e h, e]
/-! in memory -/
def DrvAt (w : World) (v : Value) (d : Drv) : Prop := ∃ vi vr, v = .agg #[.string ⟨d.1.toArray⟩, vi, vr] ∧ NamsAt w vi d.2.1 ∧ BytesAt w vr d.2.2
theorem DrvAt.below {w w' : World} {v : Value} {d : Drv} (h : DrvAt w v d) (hb : Below w.heap.size w w') : DrvAt w' v d := by
  obtain ⟨vi, vr, e, h1, h2⟩ := h
  exact ⟨vi, vr, e, h1.below hb, h2.below hb⟩
/-- what lies in a derivation's block -/
structure DrvL (w : World) (g : Nat) (n : List UInt8) (vi vr : Value) : Prop where
  all : LoadsL Try.prog w 25 (some ⟨g, 0, none⟩) (.agg #[.string ⟨n.toArray⟩, vi, vr])
  name : LoadsL Try.prog w 9 (some ⟨g, 0, none⟩) (.string ⟨n.toArray⟩)
  inp : LoadsL Try.prog w 22 (some ⟨g, 1, none⟩) vi
  rcp : LoadsL Try.prog w 23 (some ⟨g, 2, none⟩) vr
theorem DrvL.of_blk {w : World} {g : Nat} {n : List UInt8} {vi vr : Value} (h : Blk w g 25 #[.string ⟨n.toArray⟩, vi, vr]) : DrvL w g n vi vr where
  all := h.loads (by kernel_rfl : Try.prog.underlying 25 = some (.struct (Try.prog.fieldsOf 25))) rfl (by kernel_rfl)
  name := h.one 0 rfl Try.underlying9 rfl
  inp := h.one 1 rfl (by kernel_rfl : Try.prog.underlying 22 = some (.slice 58)) rfl
  rcp := h.one 2 rfl (by kernel_rfl : Try.prog.underlying 23 = some (.slice 5)) rfl
theorem DrvL.below {w w' : World} {g : Nat} {n : List UInt8} {vi vr : Value} (h : DrvL w g n vi vr) (hb : Below w.heap.size w w') : DrvL w' g n vi vr := ⟨h.all.below hb, h.name.below hb, h.inp.below hb, h.rcp.below hb⟩
/-- what lies in a named input's block -/
structure NamB (w : World) (g : Nat) (x : Nam) : Prop where
  all : LoadsL Try.prog w 58 (some ⟨g, 0, none⟩) (.agg (nmC x))
  name : LoadsL Try.prog w 9 (some ⟨g, 0, none⟩) (.string ⟨x.1.toArray⟩)
  is : LoadsL Try.prog w 4 (some ⟨g, 42, none⟩) (.bool x.2.2.2)
  src : LoadsL Try.prog w 47 (some ⟨g, 1, none⟩) (.agg (pC x.2.1.1.1 x.2.1.1.2))
  sname : LoadsL Try.prog w 9 (some ⟨g, 21, none⟩) (.string ⟨x.2.1.1.2.toArray⟩)
  cls : LoadsL Try.prog w 45 (some ⟨g, 22, none⟩) (.agg (hC x.2.2.1.1))
theorem NamB.of_blk {w : World} {g : Nat} {x : Nam} (h : Blk w g 58 (nmC x)) : NamB w g x :=
  ⟨(NamL.of_blk h).all, (NamL.of_blk h).name, (NamL.of_blk h).is, (NamL.of_blk h).src, (NamL.of_blk h).sname, (NamL.of_blk h).cls⟩
theorem NamB.below {w w' : World} {g : Nat} {x : Nam} (h : NamB w g x) (hb : Below w.heap.size w w') : NamB w' g x :=
  ⟨h.all.below hb, h.name.below hb, h.is.below hb, h.src.below hb, h.sname.below hb, h.cls.below hb⟩
theorem build_zP (w : World) : (Instr.build 47 #[]).run Try.prog w = .ok (.agg (pC zP.1.1 zP.1.2)) w := by kernel_rfl
theorem build_zH (w : World) : (Instr.build 45 #[]).run Try.prog w = .ok (.agg (hC zH.1)) w := by kernel_rfl
theorem beqH (x y : H20) : (x.1 == y.1) = decide (x = y) := by rw [Bool.eq_iff_iff]; simp [Subtype.ext_iff]
theorem eqlH (x y : H20) (w : World) : (binOp .eql 45 (.agg (hC x.1)) (.agg (hC y.1))).run Try.prog w = .ok (.bool (decide (x = y))) w := by rw [eql_hash _ _ x.2 y.2, beqH]
theorem neqH (x y : H20) (w : World) : (binOp .neq 45 (.agg (hC x.1)) (.agg (hC y.1))).run Try.prog w = .ok (.bool (!decide (x = y))) w := by
  rw [run_neq_struct, eqlIn_hash 9998 _ _ x.2 y.2, beqH]; rfl
theorem eqlP (x y : P20) (w : World) : (binOp .eql 47 (.agg (pC x.1.1 x.1.2)) (.agg (pC y.1.1 y.1.2))).run Try.prog w = .ok (.bool (decide (x = y))) w := by rw [run_eql_struct, eqlIn_path 9997]; rfl
theorem neqP (x y : P20) (w : World) : (binOp .neq 47 (.agg (pC x.1.1 x.1.2)) (.agg (pC y.1.1 y.1.2))).run Try.prog w = .ok (.bool (!decide (x = y))) w := by rw [run_neq_struct, eqlIn_path 9997]; rfl
end Go.Proofs.Ytgekpghjlhcpkaa
/-! spencekit.SameNameds. -/
namespace Go.Proofs.Ytgekpghjlhcpkaa
open Go.RowKit Pl Go.Agg
set_option maxRecDepth 100000 in
set_option maxHeartbeats 1000000 in
theorem sameNams_any (v u : Value) (a b : List Nam) (_ha : a.length ≤ 1048576) (hb : b.length ≤ 1048576) (w : World) (he : NamsAt w v a) (hf : NamsAt w u b) :
    Calls Try.prog 63 #[v, u] w fun e w' => e = .returned (.bool (decide (a = b))) ∧ Below w.heap.size w w' := by
  have hlv := fun W => nams_len he W
  have hlu := fun W => nams_len hf W
  have HE := Lib.hid he
  have HF := Lib.hid hf
  clear he hf
  by_cases hlen : a.length = b.length
  · have hne : ((a.length : Int) != (b.length : Int)) = false := by simp [hlen]
    have HLEN := Lib.hid hlen
    rw [hlen] at hlv hne
    clear hlen
    go_enter Try.func63, Try.ntmps63
    go_wp2_with fail
    go_loopw [5] (fun i wr => ∃ k : Nat, k ≤ b.length ∧ i = .int .i64 k ∧ a.take k = b.take k ∧ Below w.heap.size w wr) (fun i _ => b.length - (intOf i).toNat)
    case atStart => exact ⟨0, by omega, rfl, rfl, Below.refl _ _⟩
    case round =>
      obtain ⟨w1, rfl⟩ : ∃ w1 : World, w1 = wr := ⟨_, rfl⟩
      obtain ⟨k, hk, rfl, htk, hw⟩ := hrel
      have HTK := Lib.hid htk
      clear htk
      by_cases hlt : k < b.length
      · obtain ⟨y, hyk⟩ : ∃ y, b[k]? = some y := ⟨_, List.getElem?_eq_getElem hlt⟩
        obtain ⟨x, hxk⟩ : ∃ x, a[k]? = some x := ⟨_, List.getElem?_eq_getElem (by rw [HLEN.out]; exact hlt)⟩
        obtain ⟨p, hadr, hld⟩ := nam_at (HE.out.below hw) k x hxk
        obtain ⟨q, hadq, hlq⟩ := nam_at (HF.out.below hw) k y hyk
        have HLX := Lib.hid hld.all
        have HLY := Lib.hid hlq.all
        clear hld hlq
        have HX := Lib.hid hxk
        have HY := Lib.hid hyk
        clear hxk hyk
        by_cases hxy : x = y
        · have HXY := Lib.hid hxy
          have hq : ∀ w, (binOp .neq 58 (.agg (nmC x)) (.agg (nmC y))).run Try.prog w = .ok (.bool false) w := fun w => by rw [neq_nam]; simp [hxy]
          clear hxy
          go_wp2_with fail
          try simp only [Act.put, List.setIfInBounds_toArray, List.set_cons_succ, List.set_cons_zero]
          refine Agg.wp_region_later_lit (by kernel_rfl) (by kernel_rfl) ?_
          repeat (first | go_big_quiet_skip | ((first | (with_reducible refine Agg.wpQuiet_loadL HLX.out rfl _ rfl rfl ?_) | (with_reducible refine Agg.wpQuiet_loadL HLY.out rfl _ rfl rfl ?_) | (with_reducible refine Agg.wpQuiet_neq 58 58 _ _ rfl rfl (nmC x) (nmC y) rfl rfl (false) (by kernel_rfl) hq ?_)); simp only [Act.put, List.setIfInBounds_toArray, List.set_cons_succ, List.set_cons_zero]) | go_big_quiet_step (fail))
          refine wpQuiet_nil ?_
          intro _ hw'
          obtain ⟨x1, rfl⟩ := hw'
          go_wp2_with fail
          go_roundw
          case rel => exact ⟨k + 1, by omega, by go_num, take_eq_succ HX.out HY.out HTK.out HXY.out, Agg.belowThen hw (Nat.le_refl _) x1.h⟩
          case measure => simp [intOf]; omega
        · have HXY := Lib.hid hxy
          have hq : ∀ w, (binOp .neq 58 (.agg (nmC x)) (.agg (nmC y))).run Try.prog w = .ok (.bool true) w := fun w => by rw [neq_nam]; simp [hxy]
          clear hxy
          go_wp2_with fail
          try simp only [Act.put, List.setIfInBounds_toArray, List.set_cons_succ, List.set_cons_zero]
          refine Agg.wp_region_later_lit (by kernel_rfl) (by kernel_rfl) ?_
          repeat (first | go_big_quiet_skip | ((first | (with_reducible refine Agg.wpQuiet_loadL HLX.out rfl _ rfl rfl ?_) | (with_reducible refine Agg.wpQuiet_loadL HLY.out rfl _ rfl rfl ?_) | (with_reducible refine Agg.wpQuiet_neq 58 58 _ _ rfl rfl (nmC x) (nmC y) rfl rfl (true) (by kernel_rfl) hq ?_)); simp only [Act.put, List.setIfInBounds_toArray, List.set_cons_succ, List.set_cons_zero]) | go_big_quiet_step (fail))
          refine wpQuiet_nil ?_
          intro _ hw'
          obtain ⟨x1, rfl⟩ := hw'
          have hres : decide (a = b) = false := by simpa using ne_at HX.out HY.out HXY.out
          have HR := Lib.hid hres
          clear hres
          go_wp2_with fail
          go_ret
          exact ⟨ret_bool HR.out.symm, Agg.belowThen hw (Nat.le_refl _) x1.h⟩
      · obtain rfl : k = b.length := by omega
        have hres : decide (a = b) = true := by
          have := HTK.out
          rw [List.take_length, List.take_of_length_le (by rw [HLEN.out]; omega)] at this
          simpa using this
        have HR := Lib.hid hres
        clear hres
        go_wp2_with fail
        go_ret
        exact ⟨ret_bool HR.out.symm, hw⟩
  · have hne : ((a.length : Int) != (b.length : Int)) = true := by rw [bne_iff_ne]; omega
    have hres : decide (a = b) = false := by simp; exact fun e => hlen (by rw [e])
    have HR := Lib.hid hres
    clear hres
    go_enter Try.func63, Try.ntmps63
    go_wp2_with fail
    go_ret
    exact ⟨ret_bool HR.out.symm, Below.refl _ _⟩
end Go.Proofs.Ytgekpghjlhcpkaa
/-! (resolve.Input).can, resolve.Can -/
namespace Go.Proofs.Ytgekpghjlhcpkaa
open Go.RowKit Pl Go.Agg
set_option maxRecDepth 100000 in
set_option maxHeartbeats 2000000 in
theorem rcan_any (x : Rin) (b : List UInt8) (w : World) :
    Calls Try.prog 45 #[.agg (riC x), .string ⟨b.toArray⟩] w fun e w' => e = .returned (.bool (canRi x b)) ∧ Below w.heap.size w w' := by
  have hta := Agg.bytes_toList x.1
  have htb := Agg.bytes_toList b
  have hlq := leq_not x.1 b
  go_enter Try.func45, Try.ntmps45
  go_wp2_with (first | (with_reducible refine Agg.wpList_box rfl 49 _ rfl (riC x) rfl ?_; intro g w1 hb hx1 hg) | (with_reducible refine Agg.wpList_loadL (RinB.of_blk hb).name (by kernel_rfl) _ rfl rfl ?_))
  have hw1 := hx1
  refine (name_any _ _).mono ?_
  rintro e w2 ⟨rfl, hx⟩
  have HB := Lib.hid ((RinB.of_blk hb).below hx)
  have hw2 := Agg.belowThen hw1 (Nat.le_refl _) hx
  clear hb hx hx1 hg hw1
  cases hnm : isName x.1 with
  | false =>
    have HR : Hid (canRi x b = false) := Lib.hid (by simp [canRi, hnm])
    go_wp2_with fail
    go_ret
    exact ⟨ret_bool HR.out.symm, hw2⟩
  | true =>
    cases hls : Op.bytesLess b x.1 with
    | false =>
      have HR : Hid (canRi x b = false) := Lib.hid (by simp [canRi, hls])
      rw [hls] at hlq
      go_wp2_with (first | (with_reducible refine Agg.wpList_loadL HB.out.name (by kernel_rfl) _ rfl rfl ?_))
      go_ret
      exact ⟨ret_bool HR.out.symm, hw2⟩
    | true =>
      have HR0 : Hid (canRi x b = isName x.2.1.2) := Lib.hid (by simp [canRi, hnm, hls])
      rw [hls] at hlq
      clear hnm
      go_wp2_with (first | (with_reducible refine Agg.wpList_loadL HB.out.name (by kernel_rfl) _ rfl rfl ?_) | (with_reducible refine Agg.wpList_loadL HB.out.pname (by kernel_rfl) _ rfl rfl ?_))
      refine (name_any _ _).mono ?_
      rintro e w3 ⟨rfl, hx⟩
      have hw3 := Agg.belowThen hw2 (Nat.le_refl _) hx
      clear hx
      go_wp2_with fail
      go_ret
      exact ⟨ret_bool HR0.out.symm, hw3⟩
set_option maxRecDepth 100000 in
set_option maxHeartbeats 2000000 in
theorem rsCan_any (v : Value) (d : Rv) (hl : d.2.1.length ≤ 1048576) (w : World) (hd : RvAt w v d) :
    Calls Try.prog 19 #[v] w fun e w' => e = .returned (.bool (canRv d)) ∧ Below w.heap.size w w' := by
  obtain ⟨vi, vr, rfl, hvi, hvr⟩ := hd
  have hli := ris_len hvi
  have hlr := bytes_len hvr
  have HVI := Lib.hid hvi
  clear hvi hvr
  go_enter Try.func19, Try.ntmps19
  go_wp2_with (first | (with_reducible refine Agg.wpList_box rfl 33 _ rfl (#[.string ⟨d.1.toArray⟩, vi, vr]) rfl ?_; intro g w1 hb hx1 hg) | (with_reducible refine Agg.wpList_loadL (RvB.of_blk hb).inp (by kernel_rfl) _ rfl rfl ?_))
  have HD := Lib.hid (RvB.of_blk hb)
  have HVI1 := Lib.hid (HVI.out.below hx1)
  have hw1 := hx1
  clear hb hx1 hg
  go_loopw [3, 9] (fun bh i wr => ∃ k : Nat, k ≤ d.2.1.length ∧ i = .int .i64 k ∧ bh = .string ⟨(behindR (d.2.1.take k)).toArray⟩ ∧ canRs [] (d.2.1.take k) = true ∧ Below w1.heap.size w1 wr) (fun _ i _ => d.2.1.length - (intOf i).toNat)
  case atStart => exact ⟨0, by omega, rfl, rfl, rfl, Below.refl _ _⟩
  case round =>
    obtain ⟨w2, rfl⟩ : ∃ w2 : World, w2 = wr := ⟨_, rfl⟩
    obtain ⟨k, hk, rfl, rfl, hcan, hx⟩ := hrel
    have HCAN := Lib.hid hcan
    clear hcan
    by_cases hlt : k < d.2.1.length
    · obtain ⟨x, hxk⟩ : ∃ x, d.2.1[k]? = some x := ⟨_, List.getElem?_eq_getElem hlt⟩
      obtain ⟨p, hadr, hld, _⟩ := ri_at (HVI1.out.below hx) k x hxk
      have HL := Lib.hid hld
      have HCS := Lib.hid (canRs_succ hxk)
      have HBS := Lib.hid (behindR_succ hxk)
      have hd1 : decide (k < d.2.1.length) = true := by simpa using hlt
      clear hld hxk
      go_wp2_with (first | (with_reducible refine Agg.wpList_loadL HL.out (by kernel_rfl) _ rfl rfl ?_) | (refine Agg.wpList_new rfl rfl rfl 49 5 12 rfl rfl rfl (by decide) (riC zR) (riC x) riC_zero (by rw [riC_size, riC_size]) (riC_info x) (riC_one x) rfl (by simp [Act.put]) ?_; intro g2 w3 hb2 hx3 hg2) | (with_reducible refine Agg.wpList_loadL (RinB.of_blk hb2).all (by kernel_rfl) _ rfl rfl ?_))
      have hx' := Agg.belowThen hx (Nat.le_refl _) hx3
      refine (rcan_any _ _ _).mono ?_
      rintro e w4 ⟨rfl, hx4⟩
      have HB := Lib.hid ((RinB.of_blk hb2).below hx4)
      have hx5 := Agg.belowThen hx' (Nat.le_refl _) hx4
      clear hb2 hx3 hg2 hx' hx4
      cases hc : canRi x (behindR (d.2.1.take k)) with
      | true =>
        have HC := Lib.hid hc
        clear hc
        go_wp2_with (first | (with_reducible refine Agg.wpList_loadL HB.out.name (by kernel_rfl) _ rfl rfl ?_))
        go_roundw
        case rel => exact ⟨k + 1, by omega, by go_num, by rw [HBS.out], by rw [HCS.out, HCAN.out, HC.out]; rfl, hx5⟩
        case measure => simp [intOf]; omega
      | false =>
        have HR : Hid (canRv d = false) := Lib.hid (by
          have := canRs_take (l := d.2.1) (k := k + 1) (by rw [HCS.out, hc, Bool.and_false])
          simp [canRv, this])
        clear hc
        go_wp2_with fail
        go_ret
        exact ⟨ret_bool HR.out.symm, Agg.belowThen hw1 (Nat.le_refl _) hx5⟩
    · obtain rfl : k = d.2.1.length := by omega
      have hw2 := Agg.belowThen hw1 (Nat.le_refl _) hx
      have HD2 := Lib.hid (HD.out.below hx)
      have hca := HCAN.out
      rw [List.take_length] at hca
      have HR0 : Hid (canRv d = (isName d.1 && decide (d.2.1.length ≤ 8) && decide (d.2.2.length ≤ 1000))) := Lib.hid (by simp [canRv, hca])
      have hd1 : decide (d.2.1.length < d.2.1.length) = false := by simp
      clear hca hx
      go_wp2_with (first | (with_reducible refine Agg.wpList_loadL HD2.out.name (by kernel_rfl) _ rfl rfl ?_))
      refine (name_any _ _).mono ?_
      rintro e w3 ⟨rfl, hx⟩
      have hw3 := Agg.belowThen hw2 (Nat.le_refl _) hx
      have HD3 := Lib.hid (HD2.out.below hx)
      clear hx
      cases hnm : isName d.1 with
      | false =>
        have HR : Hid (canRv d = false) := Lib.hid (by rw [HR0.out, hnm]; rfl)
        clear hnm
        go_wp2_with fail
        go_ret
        exact ⟨ret_bool HR.out.symm, hw3⟩
      | true =>
        by_cases h8 : d.2.1.length ≤ 8
        · have hd8 : decide ((d.2.1.length : Int) ≤ 8) = true := by simp; omega
          by_cases h9 : d.2.2.length ≤ 1000
          · have hd9 : decide ((d.2.2.length : Int) ≤ 1000) = true := by simp; omega
            have HR : Hid (canRv d = true) := Lib.hid (by rw [HR0.out, hnm]; simp [h8, h9])
            clear hnm
            go_wp2_with (first | (with_reducible refine Agg.wpList_loadL HD3.out.inp (by kernel_rfl) _ rfl rfl ?_) | (with_reducible refine Agg.wpList_loadL HD3.out.rcp (by kernel_rfl) _ rfl rfl ?_))
            go_ret
            exact ⟨ret_bool HR.out.symm, hw3⟩
          · have hd9 : decide ((d.2.2.length : Int) ≤ 1000) = false := by simp; omega
            have HR : Hid (canRv d = false) := Lib.hid (by rw [HR0.out]; simp [h9])
            clear hnm
            go_wp2_with (first | (with_reducible refine Agg.wpList_loadL HD3.out.inp (by kernel_rfl) _ rfl rfl ?_) | (with_reducible refine Agg.wpList_loadL HD3.out.rcp (by kernel_rfl) _ rfl rfl ?_))
            go_ret
            exact ⟨ret_bool HR.out.symm, hw3⟩
        · have hd8 : decide ((d.2.1.length : Int) ≤ 8) = false := by simp; omega
          have HR : Hid (canRv d = false) := Lib.hid (by rw [HR0.out]; simp [h8])
          clear hnm
          go_wp2_with (first | (with_reducible refine Agg.wpList_loadL HD3.out.inp (by kernel_rfl) _ rfl rfl ?_) | (with_reducible refine Agg.wpList_loadL HD3.out.rcp (by kernel_rfl) _ rfl rfl ?_))
          go_ret
          exact ⟨ret_bool HR.out.symm, hw3⟩
end Go.Proofs.Ytgekpghjlhcpkaa
