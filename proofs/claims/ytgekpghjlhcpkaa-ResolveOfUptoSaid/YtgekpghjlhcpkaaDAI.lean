/- spencekit.SameNameds. (Several texts in one.) -/
import Derived.Test.YtgekpghjlhcpkaaDAG
import Derived.Test.YtgekpghjlhcpkaaDAC
import Derived.Test.YtgekpghjlhcpkaaDAD
import Derived.Sort.Statements
import Derived.Test.YtgekpghjlhcpkaaShelf
import Derived.Test.YtgekpghjlhcpkaaDAA
import Derived.Lib.Bytealg
import Derived.Lib.BytesEntry
import Derived.Lib.ConvBytes
import Derived.Laws.IdiomStrings
import Derived.Laws.BytesArg
/-! (of general use) spenceref03.Less -/
namespace Go.Proofs.Ytgekpghjlhcpkaa
open Go.RowKit Pl Go.Agg
open Go.Lib (compareBytes)
theorem compare_diff : ∀ (k : Nat) (a b : List UInt8) (x y : UInt8), a[k]? = some x → b[k]? = some y → a.take k = b.take k → x ≠ y → decide (compareBytes a b < 0) = decide (x < y)
  | 0, x :: a, y :: b, _, _, hx, hy, _, hne => by
    simp only [List.getElem?_cons_zero, Option.some.injEq] at hx hy
    subst hx hy
    unfold compareBytes
    by_cases h1 : x < y
    · simp [h1]
    · have h2 : y < x := UInt8.lt_of_le_of_ne (UInt8.not_lt.1 h1) (Ne.symm hne)
      simp [h1, h2]
  | k + 1, x :: a, y :: b, _, _, hx, hy, ht, hne => by
    simp only [List.getElem?_cons_succ] at hx hy
    simp only [List.take_succ_cons, List.cons.injEq] at ht
    obtain ⟨rfl, ht⟩ := ht
    have := compare_diff k a b _ _ hx hy ht hne
    unfold compareBytes
    simpa [UInt8.lt_irrefl] using this
  | 0, [], _, _, _, hx, _, _, _ => by simp at hx
  | 0, _ :: _, [], _, _, _, hy, _, _ => by simp at hy
  | _ + 1, [], _, _, _, hx, _, _, _ => by simp at hx
  | _ + 1, _ :: _, [], _, _, _, hy, _, _ => by simp at hy
theorem compare_less (a b : List UInt8) : decide (compareBytes a b < 0) = Op.bytesLess a b := by
  rw [compare_cases]
  cases Op.bytesLess a b <;> cases Op.bytesLess b a <;> simp
end Go.Proofs.Ytgekpghjlhcpkaa
/-! resolve.Resolved, resolve.Input: cells, elements, whether one can be. -/
namespace Go.Proofs.Ytgekpghjlhcpkaa
open Go.RowKit Pl Go.Agg
/-- a name, and a path -/
abbrev Rin : Type := List UInt8 × P20
abbrev Rv : Type := List UInt8 × List Rin × List UInt8
instance : DecidableEq Rin := inferInstance
instance : DecidableEq (List Rin × List UInt8) := inferInstance
instance : DecidableEq Rv := inferInstance
def riC (x : Rin) : Array Value := #[.string ⟨x.1.toArray⟩] ++ pC x.2.1.1 x.2.1.2
theorem riC_size (x : Rin) : (riC x).size = 22 := by simp [riC, pC_size, x.2.2]
theorem riC_one (x : Rin) : (riC x).all (·.oneCell') = true := by
  rw [riC, Array.all_append, pC_one]; simp [Value.oneCell']
theorem riC_name (x : Rin) : (riC x)[0]? = some (.string ⟨x.1.toArray⟩) := by rw [riC, Array.getElem?_append_left (by simp)]; rfl
theorem riC_path (x : Rin) (j : Nat) (v : Value) (h : (pC x.2.1.1 x.2.1.2)[j]? = some v) : (riC x)[1 + j]? = some v := by
  rw [riC, Array.getElem?_append_right (by simp)]; simpa using h
theorem riC_hash (x : Rin) (j : Nat) (v : Value) (h : (hC x.2.1.1)[j]? = some v) : (riC x)[1 + j]? = some v := by
  refine riC_path x j v ?_
  have := (Array.getElem?_eq_some_iff.1 h).1
  rw [show pC x.2.1.1 x.2.1.2 = hC x.2.1.1 ++ #[.string ⟨x.2.1.2.toArray⟩] from rfl, Array.getElem?_append_left this]; exact h
def zR : Rin := ([], ⟨(z20, []), rfl⟩)
theorem riC_zero : (Try.prog.info? 49).map (·.zero) = some (some (.agg (riC zR))) := by kernel_rfl
theorem riC_info (x : Rin) : (Try.prog.info? 49).map (·.size) = some (riC x).size := by rw [riC_size]; kernel_rfl
theorem riC_under : Try.prog.underlying 49 = some (.struct (Try.prog.fieldsOf 49)) := by kernel_rfl
theorem rfC_zero : (Try.prog.info? 85).map (·.zero) = some (some (.agg (riC zR))) := by kernel_rfl
theorem rfC_info (x : Rin) : (Try.prog.info? 85).map (·.size) = some (riC x).size := by rw [riC_size]; kernel_rfl
theorem rfC_under : Try.prog.underlying 85 = some (.struct (Try.prog.fieldsOf 85)) := by kernel_rfl
def ERi : Elem Try.prog Rin where
  ty := 49
  st := 31
  n := 22
  bytes := 56
  val := fun x => .agg (riC x)
  zero := .agg (riC zR)
  pos := by omega
  small := by omega
  size := fun x => by simp [Value.cells, riC_size]
  one := fun x v hv => one_of (riC_one x) v hv
  zsize := by simp [Value.cells, riC_size]
  slice := by kernel_rfl
  info := info_of riC_zero (by kernel_rfl) (by kernel_rfl)
  load := fun w a x hp h => LoadsL.of_cells hp h riC_under rfl (riC_info x)
/-- the document's -/
def ERf : Elem Try.prog Rin where
  ty := 85
  st := 37
  n := 22
  bytes := 56
  val := fun x => .agg (riC x)
  zero := .agg (riC zR)
  pos := by omega
  small := by omega
  size := fun x => by simp [Value.cells, riC_size]
  one := fun x v hv => one_of (riC_one x) v hv
  zsize := by simp [Value.cells, riC_size]
  slice := by kernel_rfl
  info := info_of rfC_zero (by kernel_rfl) (by kernel_rfl)
  load := fun w a x hp h => LoadsL.of_cells hp h rfC_under rfl (rfC_info x)
theorem ris_len {w : World} {v : Value} {l : List Rin} (h : SliceOf ERi w v l) (W : World) : (Builtin.len_ #[31] 3 #[v]).run Try.prog W = .ok (.int .i64 (l.length : Int)) W := h.len W
theorem rfs_len {w : World} {v : Value} {l : List Rin} (h : SliceOf ERf w v l) (W : World) : (Builtin.len_ #[37] 3 #[v]).run Try.prog W = .ok (.int .i64 (l.length : Int)) W := h.len W
/-- what lies at an input -/
structure RinL (w : World) (p : Addr) (x : Rin) : Prop where
  name : LoadsL Try.prog w 9 (some (p.add 0)) (.string ⟨x.1.toArray⟩)
  path : LoadsL Try.prog w 47 (some (p.add 1)) (.agg (pC x.2.1.1 x.2.1.2))
  pname : LoadsL Try.prog w 9 (some ((p.add 1).add 20)) (.string ⟨x.2.1.2.toArray⟩)
theorem RinL.of_cells {w : World} {p : Addr} {x : Rin} (hp : p.block < w.heap.size) (h : ∀ j u, (riC x)[j]? = some u → w.cell? (p.add j) = some u) : RinL w p x where
  name := LoadsL.of_cell (h 0 _ (riC_name x)) Try.underlying9 rfl
  path := LoadsL.of_cells (by rw [add_block]; exact hp) (fun j v hj => by rw [add_add]; exact h _ _ (riC_path x j v hj)) pC_under rfl (pC_info _ _ x.2.2)
  pname := LoadsL.of_cell (by rw [add_add]; exact h _ _ (riC_path x 20 _ (pC_name _ _ x.2.2))) Try.underlying9 rfl
theorem RinL.below {w w' : World} {p : Addr} {x : Rin} (h : RinL w p x) (hb : Below w.heap.size w w') : RinL w' p x := ⟨h.name.below hb, h.path.below hb, h.pname.below hb⟩
theorem ri_at {w : World} {v : Value} {l : List Rin} (h : SliceOf ERi w v l) (k : Nat) (x : Rin) (hx : l[k]? = some x) :
    ∃ p : Addr, (∀ W, (Instr.indexAt 31 v (.int .i64 (k : Int))).run Try.prog W = .ok (.pointer (some p)) W) ∧ LoadsL Try.prog w 49 (some p) (.agg (riC x)) ∧ RinL w p x := by
  obtain ⟨p, h1, h2, h3, h4⟩ := h.at_ k x hx
  exact ⟨p, h1, h4, RinL.of_cells h2 h3⟩
theorem rf_at {w : World} {v : Value} {l : List Rin} (h : SliceOf ERf w v l) (k : Nat) (x : Rin) (hx : l[k]? = some x) :
    ∃ p : Addr, (∀ W, (Instr.indexAt 37 v (.int .i64 (k : Int))).run Try.prog W = .ok (.pointer (some p)) W) ∧ LoadsL Try.prog w 85 (some p) (.agg (riC x)) ∧ RinL w p x := by
  obtain ⟨p, h1, h2, h3, h4⟩ := h.at_ k x hx
  exact ⟨p, h1, h4, RinL.of_cells h2 h3⟩
/-- what lies in an input's block -/
structure RinB (w : World) (g : Nat) (x : Rin) : Prop where
  all : LoadsL Try.prog w 49 (some ⟨g, 0, none⟩) (.agg (riC x))
  name : LoadsL Try.prog w 9 (some ⟨g, 0, none⟩) (.string ⟨x.1.toArray⟩)
  path : LoadsL Try.prog w 47 (some ⟨g, 1, none⟩) (.agg (pC x.2.1.1 x.2.1.2))
  pname : LoadsL Try.prog w 9 (some ⟨g, 21, none⟩) (.string ⟨x.2.1.2.toArray⟩)
theorem RinB.of_blk {w : World} {g : Nat} {x : Rin} (h : Blk w g 49 (riC x)) : RinB w g x where
  all := h.loads riC_under rfl (riC_info x)
  name := h.one 0 (riC_name x) Try.underlying9 rfl
  path := h.sub 1 _ (riC_path x) pC_under rfl (pC_info _ _ x.2.2)
  pname := h.one 21 (riC_path x 20 _ (pC_name _ _ x.2.2)) Try.underlying9 rfl
theorem RinB.below {w w' : World} {g : Nat} {x : Rin} (h : RinB w g x) (hb : Below w.heap.size w w') : RinB w' g x := ⟨h.all.below hb, h.name.below hb, h.path.below hb, h.pname.below hb⟩
/-- a resolved derivation in memory -/
def RvAt (w : World) (v : Value) (r : Rv) : Prop := ∃ vi vr, v = .agg #[.string ⟨r.1.toArray⟩, vi, vr] ∧ SliceOf ERi w vi r.2.1 ∧ BytesAt w vr r.2.2
def RfAt (w : World) (v : Value) (r : Rv) : Prop := ∃ vi vr, v = .agg #[.string ⟨r.1.toArray⟩, vi, vr] ∧ SliceOf ERf w vi r.2.1 ∧ BytesAt w vr r.2.2
theorem RvAt.below {w w' : World} {v : Value} {r : Rv} (h : RvAt w v r) (hb : Below w.heap.size w w') : RvAt w' v r := by
  obtain ⟨vi, vr, e, h1, h2⟩ := h
  exact ⟨vi, vr, e, h1.below hb, h2.below hb⟩
theorem RfAt.below {w w' : World} {v : Value} {r : Rv} (h : RfAt w v r) (hb : Below w.heap.size w w') : RfAt w' v r := by
  obtain ⟨vi, vr, e, h1, h2⟩ := h
  exact ⟨vi, vr, e, h1.below hb, h2.below hb⟩
/-- what lies in a resolved derivation's block -/
structure RvB (w : World) (g : Nat) (n : List UInt8) (vi vr : Value) : Prop where
  all : LoadsL Try.prog w 33 (some ⟨g, 0, none⟩) (.agg #[.string ⟨n.toArray⟩, vi, vr])
  name : LoadsL Try.prog w 9 (some ⟨g, 0, none⟩) (.string ⟨n.toArray⟩)
  inp : LoadsL Try.prog w 31 (some ⟨g, 1, none⟩) vi
  rcp : LoadsL Try.prog w 23 (some ⟨g, 2, none⟩) vr
theorem rv_under : Try.prog.underlying 33 = some (.struct (Try.prog.fieldsOf 33)) := by kernel_rfl
theorem ris_under : Try.prog.underlying 31 = some (.slice 49) := by kernel_rfl
theorem bytes_under : Try.prog.underlying 23 = some (.slice 5) := by kernel_rfl
theorem RvB.of_blk {w : World} {g : Nat} {n : List UInt8} {vi vr : Value} (h : Blk w g 33 #[.string ⟨n.toArray⟩, vi, vr]) : RvB w g n vi vr where
  all := h.loads rv_under rfl (by kernel_rfl)
  name := h.one 0 rfl Try.underlying9 rfl
  inp := h.one 1 rfl ris_under rfl
  rcp := h.one 2 rfl bytes_under rfl
theorem RvB.below {w w' : World} {g : Nat} {n : List UInt8} {vi vr : Value} (h : RvB w g n vi vr) (hb : Below w.heap.size w w') : RvB w' g n vi vr := ⟨h.all.below hb, h.name.below hb, h.inp.below hb, h.rcp.below hb⟩
structure RfB (w : World) (g : Nat) (n : List UInt8) (vi vr : Value) : Prop where
  all : LoadsL Try.prog w 39 (some ⟨g, 0, none⟩) (.agg #[.string ⟨n.toArray⟩, vi, vr])
  name : LoadsL Try.prog w 9 (some ⟨g, 0, none⟩) (.string ⟨n.toArray⟩)
  inp : LoadsL Try.prog w 37 (some ⟨g, 1, none⟩) vi
  rcp : LoadsL Try.prog w 23 (some ⟨g, 2, none⟩) vr
theorem rf_under : Try.prog.underlying 39 = some (.struct (Try.prog.fieldsOf 39)) := by kernel_rfl
theorem rfs_under : Try.prog.underlying 37 = some (.slice 85) := by kernel_rfl
theorem RfB.of_blk {w : World} {g : Nat} {n : List UInt8} {vi vr : Value} (h : Blk w g 39 #[.string ⟨n.toArray⟩, vi, vr]) : RfB w g n vi vr where
  all := h.loads rf_under rfl (by kernel_rfl)
  name := h.one 0 rfl Try.underlying9 rfl
  inp := h.one 1 rfl rfs_under rfl
  rcp := h.one 2 rfl bytes_under rfl
theorem RfB.below {w w' : World} {g : Nat} {n : List UInt8} {vi vr : Value} (h : RfB w g n vi vr) (hb : Below w.heap.size w w') : RfB w' g n vi vr := ⟨h.all.below hb, h.name.below hb, h.inp.below hb, h.rcp.below hb⟩
/-! whether one can be -/
def canRi (x : Rin) (b : List UInt8) : Bool := isName x.1 && Op.bytesLess b x.1 && isName x.2.1.2
def canRs : List UInt8 → List Rin → Bool
  | _, [] => true
  | b, x :: l => canRi x b && canRs x.1 l
def canRv (r : Rv) : Bool := isName r.1 && decide (r.2.1.length ≤ 8) && decide (r.2.2.length ≤ 1000) && canRs [] r.2.1
def behindR (l : List Rin) : List UInt8 := match l.getLast? with | none => [] | some x => x.1
def lastOrR (b : List UInt8) (l : List Rin) : List UInt8 := match l.getLast? with | none => b | some x => x.1
theorem canRs_append (b : List UInt8) (l m : List Rin) : canRs b (l ++ m) = (canRs b l && canRs (lastOrR b l) m) := by
  induction l generalizing b with
  | nil => simp [canRs, lastOrR]
  | cons x l ih =>
    have : lastOrR b (x :: l) = lastOrR x.1 l := by
      unfold lastOrR
      cases l with
      | nil => rfl
      | cons y l => simp [List.getLast?_cons]
    simp only [List.cons_append, canRs, ih, this, Bool.and_assoc]
theorem lastOrR_nil (l : List Rin) : lastOrR [] l = behindR l := rfl
theorem canRs_succ {l : List Rin} {k : Nat} {x : Rin} (h : l[k]? = some x) : canRs [] (l.take (k + 1)) = (canRs [] (l.take k) && canRi x (behindR (l.take k))) := by
  rw [List.take_add_one, h, canRs_append, lastOrR_nil]
  simp [canRs]
theorem behindR_succ {l : List Rin} {k : Nat} {x : Rin} (h : l[k]? = some x) : behindR (l.take (k + 1)) = x.1 := by
  rw [List.take_add_one, h]
  simp [behindR]
theorem canRs_take {l : List Rin} {k : Nat} (h : canRs [] (l.take k) = false) : canRs [] l = false := by
  have := canRs_append [] (l.take k) (l.drop k)
  rw [List.take_append_drop, h, Bool.false_and] at this
  exact this
end Go.Proofs.Ytgekpghjlhcpkaa
/-! Paths in order: the plain law of both Sorted. -/
namespace Go.Proofs.Ytgekpghjlhcpkaa
open Pl
open Go.Lib (compareBytes)
theorem bytesLess_trans : ∀ (a b c : List UInt8), Op.bytesLess a b = true → Op.bytesLess b c = true → Op.bytesLess a c = true
  | [], [], _, h, _ => by simp [Op.bytesLess] at h
  | [], _ :: _, [], _, h => by simp [Op.bytesLess] at h
  | [], _ :: _, _ :: _, _, _ => by simp [Op.bytesLess]
  | _ :: _, [], _, h, _ => by simp [Op.bytesLess] at h
  | _ :: _, _ :: _, [], _, h => by simp [Op.bytesLess] at h
  | x :: a, y :: b, z :: c, h1, h2 => by
    simp only [Op.bytesLess, Bool.or_eq_true, Bool.and_eq_true, decide_eq_true_eq, beq_iff_eq] at h1 h2 ⊢
    rcases h1 with h1 | ⟨rfl, h1⟩
    · rcases h2 with h2 | ⟨rfl, h2⟩
      · exact .inl (UInt8.lt_trans h1 h2)
      · exact .inl h1
    · rcases h2 with h2 | ⟨rfl, h2⟩
      · exact .inl h2
      · exact .inr ⟨rfl, bytesLess_trans a b c h1 h2⟩
/-- how two paths stand, as the sort asks it -/
def cmp20 (p q : P20) : Int := cmpP p.1.1 p.1.2 q.1.1 q.1.2
def lt20 (p q : P20) : Bool := decide (cmp20 p q < 0)
theorem lt20_eq (p q : P20) : lt20 p q = if p.1.1 == q.1.1 then Op.bytesLess p.1.2 q.1.2 else Op.bytesLess p.1.1 q.1.1 := by
  unfold lt20 cmp20 cmpP
  split <;> exact compare_less _ _
theorem lt20_irrefl (p : P20) : lt20 p p = false := by rw [lt20_eq]; simp [bytesLess_irrefl]
theorem lt20_trans (p q r : P20) (h1 : lt20 p q = true) (h2 : lt20 q r = true) : lt20 p r = true := by
  rw [lt20_eq] at h1 h2 ⊢
  by_cases e1 : p.1.1 = q.1.1 <;> by_cases e2 : q.1.1 = r.1.1
  · have e3 : p.1.1 = r.1.1 := e1.trans e2
    simp only [beq_iff_eq, e1, e2, if_true] at h1 h2 ⊢
    exact bytesLess_trans _ _ _ h1 h2
  · have e3 : ¬ p.1.1 = r.1.1 := fun e => e2 (e1.symm.trans e)
    simp only [beq_iff_eq, e1, e2, if_false] at h2 ⊢
    exact h2
  · have e3 : ¬ p.1.1 = r.1.1 := fun e => e1 (e.trans e2.symm)
    simp only [beq_iff_eq, e1, e3, if_false] at h1 ⊢
    rwa [← e2]
  · simp only [beq_iff_eq, e1, e2, if_false] at h1 h2
    have h3 := bytesLess_trans _ _ _ h1 h2
    have e3 : ¬ p.1.1 = r.1.1 := fun e => by rw [e, bytesLess_irrefl] at h3; cases h3
    simp only [beq_iff_eq, e3, if_false]
    exact h3
theorem lt20_total (p q : P20) (hne : p ≠ q) (h : lt20 p q = false) : lt20 q p = true := by
  rw [lt20_eq] at h ⊢
  by_cases e : p.1.1 = q.1.1
  · have e' : q.1.1 = p.1.1 := e.symm
    simp only [beq_iff_eq, e, if_true] at h ⊢
    exact bytesLess_total _ _ (fun e2 => hne (Subtype.ext (Prod.ext e e2))) h
  · have e' : ¬ q.1.1 = p.1.1 := fun x => e x.symm
    simp only [beq_iff_eq, e, e', if_false] at h ⊢
    exact bytesLess_total _ _ e h
theorem lt20_asymm (p q : P20) (h : lt20 p q = true) : lt20 q p = false := by
  cases h2 : lt20 q p with
  | false => rfl
  | true => have := lt20_trans _ _ _ h h2; rw [lt20_irrefl] at this; cases this
theorem lt20_swo : Sort.SWO lt20 where
  irrefl := lt20_irrefl
  trans := lt20_trans
  ntrans := fun x y z h1 h2 => by
    cases h3 : lt20 x z with
    | false => rfl
    | true =>
      by_cases e : x = y
      · subst e; rw [h3] at h2; cases h2
      · have := lt20_trans _ _ _ (lt20_total _ _ e h1) h3
        rw [this] at h2; cases h2
/-- rising: each ahead of all behind it -/
def Rising (l : List P20) : Prop := l.Pairwise fun p q => lt20 p q = true
theorem rising_unique : ∀ (a b : List P20), Rising a → Rising b → (∀ x, x ∈ a ↔ x ∈ b) → a = b
  | [], [], _, _, _ => rfl
  | [], y :: b, _, _, h => absurd ((h y).2 (by simp)) (by simp)
  | x :: a, [], _, _, h => absurd ((h x).1 (by simp)) (by simp)
  | x :: a, y :: b, ha, hb, h => by
    rw [Rising, List.pairwise_cons] at ha hb
    have hxy : x = y := by
      rcases List.mem_cons.1 ((h x).1 (by simp)) with e | hx
      · exact e
      · rcases List.mem_cons.1 ((h y).2 (by simp)) with e | hy
        · exact e.symm
        · have h1 := hb.1 x hx
          have h2 := ha.1 y hy
          rw [lt20_asymm _ _ h1] at h2; cases h2
    subst hxy
    congr 1
    refine rising_unique a b ha.2 hb.2 fun z => ?_
    have hz := h z
    simp only [List.mem_cons] at hz
    constructor
    · intro hza
      rcases hz.1 (.inr hza) with e | hzb
      · subst e
        have := ha.1 z hza
        rw [lt20_irrefl] at this; cases this
      · exact hzb
    · intro hzb
      rcases hz.2 (.inr hzb) with e | hza
      · subst e
        have := hb.1 z hzb
        rw [lt20_irrefl] at this; cases this
      · exact hza
/-- a sorted list without doubles rises -/
theorem rising_of_sorted (l : List P20) (hn : l.Nodup) (hs : l.Pairwise fun p q => lt20 q p = false) : Rising l := by
  refine List.Pairwise.imp₂ ?_ hn hs
  intro p q hne h
  exact lt20_total q p (Ne.symm hne) h
end Go.Proofs.Ytgekpghjlhcpkaa
/-! Slices of paths. -/

/-! base.Letters: the letters of any hash. -/
namespace Go.Proofs.Ytgekpghjlhcpkaa
open Go.RowKit Pl
end Go.Proofs.Ytgekpghjlhcpkaa
/-! Bytes and texts as elements. -/
namespace Go.Proofs.Ytgekpghjlhcpkaa
open Go.RowKit Pl Go.Agg
end Go.Proofs.Ytgekpghjlhcpkaa
/-! Derivations: their cells, what lies in them, '==' of inputs by names; bytes and texts as elements. -/
namespace Go.Proofs.Ytgekpghjlhcpkaa
open Go.RowKit Pl Go.Agg
abbrev Inp : Type := P20 × H20 × Bool
abbrev Nam : Type := List UInt8 × Inp
abbrev Drv : Type := List UInt8 × List Nam × List UInt8
instance : DecidableEq Inp := inferInstance
instance : DecidableEq Nam := inferInstance
instance : DecidableEq (List Nam) := inferInstance
instance : DecidableEq (List Nam × List UInt8) := inferInstance
instance : DecidableEq Drv := inferInstance
def iC (x : Inp) : Array Value := pC x.1.1.1 x.1.1.2 ++ (hC x.2.1.1 ++ #[.bool x.2.2])
def nmC (x : Nam) : Array Value := #[.string ⟨x.1.toArray⟩] ++ iC x.2
theorem iC_size (x : Inp) : (iC x).size = 42 := by simp [iC, pC_size, hC_size, x.1.2, x.2.1.2]
theorem nmC_size (x : Nam) : (nmC x).size = 43 := by simp [nmC, iC_size]
theorem iC_one (x : Inp) : (iC x).all (·.oneCell') = true := by
  rw [iC, Array.all_append, Array.all_append, pC_one, hC_one]; simp [Value.oneCell']
theorem nmC_one (x : Nam) : (nmC x).all (·.oneCell') = true := by
  rw [nmC, Array.all_append, iC_one]; simp [Value.oneCell']
theorem nmC_name (x : Nam) : (nmC x)[0]? = some (.string ⟨x.1.toArray⟩) := by rw [nmC, Array.getElem?_append_left (by simp)]; rfl
theorem nmC_inp (x : Nam) (j : Nat) (v : Value) (h : (iC x.2)[j]? = some v) : (nmC x)[1 + j]? = some v := by
  rw [nmC, Array.getElem?_append_right (by simp)]; simpa using h
theorem iC_src (x : Inp) (j : Nat) (v : Value) (h : (pC x.1.1.1 x.1.1.2)[j]? = some v) : (iC x)[0 + j]? = some v := by
  have := (Array.getElem?_eq_some_iff.1 h).1
  rw [iC, Nat.zero_add, Array.getElem?_append_left this]; exact h
theorem iC_cls (x : Inp) (j : Nat) (v : Value) (h : (hC x.2.1.1)[j]? = some v) : (iC x)[21 + j]? = some v := by
  have := (Array.getElem?_eq_some_iff.1 h).1
  rw [iC, Array.getElem?_append_right (by rw [pC_size, x.1.2]; omega), pC_size, x.1.2, show 21 + j - (20 + 1) = j by omega, Array.getElem?_append_left this]; exact h
theorem iC_is (x : Inp) : (iC x)[41]? = some (.bool x.2.2) := by
  rw [iC, Array.getElem?_append_right (by rw [pC_size, x.1.2]; omega), pC_size, x.1.2, Array.getElem?_append_right (by rw [hC_size, x.2.1.2]; omega), hC_size, x.2.1.2]; rfl
def zI : Inp := (⟨(z20, []), rfl⟩, ⟨z20, rfl⟩, false)
def zN : Nam := ([], zI)
theorem nmC_zero : (Try.prog.info? 58).map (·.zero) = some (some (.agg (nmC zN))) := by kernel_rfl
theorem nmC_info (x : Nam) : (Try.prog.info? 58).map (·.size) = some (nmC x).size := by rw [nmC_size]; kernel_rfl
theorem iC_info (x : Inp) : (Try.prog.info? 56).map (·.size) = some (iC x).size := by rw [iC_size]; kernel_rfl
theorem nmC_under : Try.prog.underlying 58 = some (.struct (Try.prog.fieldsOf 58)) := by kernel_rfl
theorem iC_under : Try.prog.underlying 56 = some (.struct (Try.prog.fieldsOf 56)) := by kernel_rfl
/-- inputs by names, as elements -/
def ENm : Elem Try.prog Nam where
  ty := 58
  st := 22
  n := 43
  bytes := 80
  val := fun x => .agg (nmC x)
  zero := .agg (nmC zN)
  pos := by omega
  small := by omega
  size := fun x => by simp [Value.cells, nmC_size]
  one := fun x v hv => one_of (nmC_one x) v hv
  zsize := by simp [Value.cells, nmC_size]
  slice := by kernel_rfl
  info := info_of nmC_zero (by kernel_rfl) (by kernel_rfl)
  load := fun w a x hp h => LoadsL.of_cells hp h nmC_under rfl (nmC_info x)
abbrev NamsAt (w : World) (v : Value) (l : List Nam) : Prop := SliceOf ENm w v l
theorem nams_len {w : World} {v : Value} {l : List Nam} (h : NamsAt w v l) (W : World) : (Builtin.len_ #[22] 3 #[v]).run Try.prog W = .ok (.int .i64 (l.length : Int)) W := h.len W
/-- what lies at an input by name -/
structure NamL (w : World) (p : Addr) (x : Nam) : Prop where
  all : LoadsL Try.prog w 58 (some p) (.agg (nmC x))
  name : LoadsL Try.prog w 9 (some (p.add 0)) (.string ⟨x.1.toArray⟩)
  is : LoadsL Try.prog w 4 (some ((p.add 1).add 41)) (.bool x.2.2.2)
  src : LoadsL Try.prog w 47 (some ((p.add 1).add 0)) (.agg (pC x.2.1.1.1 x.2.1.1.2))
  sname : LoadsL Try.prog w 9 (some (((p.add 1).add 0).add 20)) (.string ⟨x.2.1.1.2.toArray⟩)
  cls : LoadsL Try.prog w 45 (some ((p.add 1).add 21)) (.agg (hC x.2.2.1.1))
theorem NamL.of_cells {w : World} {p : Addr} {x : Nam} (hp : p.block < w.heap.size) (h : ∀ j u, (nmC x)[j]? = some u → w.cell? (p.add j) = some u) : NamL w p x where
  all := LoadsL.of_cells hp h nmC_under rfl (nmC_info x)
  name := LoadsL.of_cell (h 0 _ (nmC_name x)) Try.underlying9 rfl
  is := LoadsL.of_cell (by rw [add_add]; exact h _ _ (nmC_inp x 41 _ (iC_is x.2))) Try.underlying4 rfl
  src := LoadsL.of_cells (by rw [add_block, add_block]; exact hp) (fun j v hj => by rw [add_add, add_add]; exact h _ _ (nmC_inp x _ _ (iC_src x.2 j v hj))) pC_under rfl (pC_info _ _ x.2.1.2)
  sname := LoadsL.of_cell (by rw [add_add, add_add]; exact h _ _ (nmC_inp x _ _ (iC_src x.2 20 _ (pC_name _ _ x.2.1.2)))) Try.underlying9 rfl
  cls := LoadsL.of_cells (by rw [add_block, add_block]; exact hp) (fun j v hj => by rw [add_add, add_add]; exact h _ _ (nmC_inp x _ _ (iC_cls x.2 j v hj))) Try.underlying45 rfl (hC_info _ x.2.2.1.2)
theorem NamL.below {w w' : World} {p : Addr} {x : Nam} (h : NamL w p x) (hb : Below w.heap.size w w') : NamL w' p x :=
  ⟨h.all.below hb, h.name.below hb, h.is.below hb, h.src.below hb, h.sname.below hb, h.cls.below hb⟩
theorem NamL.of_blk {w : World} {g : Nat} {x : Nam} (h : Blk w g 58 (nmC x)) : NamL w ⟨g, 0, none⟩ x :=
  NamL.of_cells h.lt fun j u hj => by rw [add_plain, Nat.zero_add, h.cell]; exact hj
theorem nam_at {w : World} {v : Value} {l : List Nam} (h : NamsAt w v l) (k : Nat) (x : Nam) (hx : l[k]? = some x) :
    ∃ p : Addr, (∀ W, (Instr.indexAt 22 v (.int .i64 (k : Int))).run Try.prog W = .ok (.pointer (some p)) W) ∧ NamL w p x := by
  obtain ⟨p, h1, h2, h3, _⟩ := h.at_ k x hx
  exact ⟨p, h1, NamL.of_cells h2 h3⟩
/-! '==' -/
theorem eqlIn_path (d : Nat) (p q : P20) (w : World) : (Op.equalIn (d + 3) 47 (.agg (pC p.1.1 p.1.2)) (.agg (pC q.1.1 q.1.2))).run Try.prog w = .ok (decide (p = q)) w := by
  rw [run_equalIn_struct w (d + 2) 47 _ _ pC_under (by kernel_rfl)]
  have hf := path_fields
  generalize (Try.prog.fieldsOf 47).toList = fs at hf ⊢
  cases fs with
  | nil => exact absurd hf (by simp)
  | cons f1 fs =>
  cases fs with
  | nil => exact absurd hf (by simp)
  | cons f2 fs =>
  cases fs with
  | cons f3 fs => exact absurd hf (by simp)
  | nil =>
    simp only [List.map_cons, List.map_nil, List.cons.injEq, Prod.mk.injEq, and_true] at hf
    obtain ⟨⟨a1, a2, a3⟩, b1, b2, b3⟩ := hf
    have e : decide (p = q) = (p.1.1 == q.1.1 && p.1.2 == q.1.2) := by
      rw [Bool.eq_iff_iff]
      simp [Subtype.ext_iff, Prod.ext_iff]
    rw [e]
    simp only [Op.eqFields, a1, a2, a3, b1, b2, b3, Sem.run_bind, Sem.run_ite, part_hash _ _ p.2, part_hash _ _ q.2, part_name _ _ p.2, part_name _ _ q.2, Result.andThen_ok, eqlIn_hash d _ _ p.2 q.2, run_equalIn_string w (d + 1) 9 _ _ Try.underlying9, Agg.bytes_toList]
    cases p.1.1 == q.1.1 <;> cases p.1.2 == q.1.2 <;> simp
theorem inp_fields : (Try.prog.fieldsOf 56).toList.map (fun f => (f.name, f.type, f.offset)) = [("Src", 47, 0), ("Class", 45, 21), ("Is", 4, 41)] := by kernel_rfl
theorem nam_fields : (Try.prog.fieldsOf 58).toList.map (fun f => (f.name, f.type, f.offset)) = [("Name", 9, 0), ("Input", 56, 1)] := by kernel_rfl
theorem part_agg {ty : TypeId} {n : Nat} (ha : ∀ w, (isAgg ty).run Try.prog w = .ok true w) (hs : ∀ w, (sizeOf ty).run Try.prog w = .ok n w) (cs ds : Array Value) (off : Nat) (hn : ds.size = n) (h : ∀ j v, ds[j]? = some v → cs[off + j]? = some v) (w : World) :
    (Go.part ty cs off).run Try.prog w = .ok (.agg ds) w := by
  unfold Go.part
  simp only [Sem.run_bind, ha, Result.andThen_ok, if_true, hs, Sem.run_pure]
  congr 2
  apply Array.ext_getElem?
  intro j
  by_cases hj : j < n
  · have h1 : ds[j]? = some (ds[j]'(by omega)) := Array.getElem?_eq_getElem _
    have h2 := h j _ h1
    have h3 := (Array.getElem?_eq_some_iff.1 h2).1
    rw [h1, Array.getElem?_extract]
    rw [if_pos (by omega)]
    exact h2
  · rw [Array.getElem?_eq_none (xs := ds) (by omega), Array.getElem?_eq_none (by simp; omega)]
theorem part_cell {ty : TypeId} (ha : ∀ w, (isAgg ty).run Try.prog w = .ok false w) (cs : Array Value) (off : Nat) (v : Value) (h : cs[off]? = some v) (w : World) : (Go.part ty cs off).run Try.prog w = .ok v w := by
  unfold Go.part
  simp only [Sem.run_bind, ha, Result.andThen_ok, Bool.false_eq_true, if_false, h, Sem.run_pure]
theorem isAgg_path (w : World) : (isAgg 47).run Try.prog w = .ok true w := by kernel_rfl
theorem isAgg_inp (w : World) : (isAgg 56).run Try.prog w = .ok true w := by kernel_rfl
theorem isAgg_bool (w : World) : (isAgg 4).run Try.prog w = .ok false w := by kernel_rfl
theorem size_path (w : World) : (sizeOf 47).run Try.prog w = .ok 21 w := by kernel_rfl
theorem size_inp (w : World) : (sizeOf 56).run Try.prog w = .ok 42 w := by kernel_rfl
theorem eqlIn_bool (d : Nat) (b c : Bool) (w : World) : (Op.equalIn (d + 1) 4 (.bool b) (.bool c)).run Try.prog w = .ok (decide (b = c)) w := by
  have : Try.prog.underlying 4 = some .bool := Try.underlying4
  simp [Op.equalIn, run_underlying this]
  cases b <;> cases c <;> rfl
theorem eqlIn_inp (d : Nat) (x y : Inp) (w : World) : (Op.equalIn (d + 4) 56 (.agg (iC x)) (.agg (iC y))).run Try.prog w = .ok (decide (x = y)) w := by
  rw [run_equalIn_struct w (d + 3) 56 _ _ iC_under (by kernel_rfl)]
  have hf := inp_fields
  generalize (Try.prog.fieldsOf 56).toList = fs at hf ⊢
  cases fs with
  | nil => exact absurd hf (by simp)
  | cons f1 fs =>
  cases fs with
  | nil => exact absurd hf (by simp)
  | cons f2 fs =>
  cases fs with
  | nil => exact absurd hf (by simp)
  | cons f3 fs =>
  cases fs with
  | cons f4 fs => exact absurd hf (by simp)
  | nil =>
    simp only [List.map_cons, List.map_nil, List.cons.injEq, Prod.mk.injEq, and_true] at hf
    obtain ⟨⟨a1, a2, a3⟩, ⟨b1, b2, b3⟩, c1, c2, c3⟩ := hf
    have e : decide (x = y) = (decide (x.1 = y.1) && ((x.2.1.1 == y.2.1.1) && decide (x.2.2 = y.2.2))) := by
      rw [Bool.eq_iff_iff]
      simp [Subtype.ext_iff, Prod.ext_iff]
    rw [e]
    have p1 := fun z : Inp => part_agg isAgg_path size_path (iC z) (pC z.1.1.1 z.1.1.2) 0 (by rw [pC_size, z.1.2]) (iC_src z)
    have p2 := fun z : Inp => part_agg isAgg_hash size_hash (iC z) (hC z.2.1.1) 21 (by rw [hC_size, z.2.1.2]) (iC_cls z)
    have p3 := fun z : Inp => part_cell isAgg_bool (iC z) 41 _ (iC_is z)
    simp only [Op.eqFields, a1, a2, a3, b1, b2, b3, c1, c2, c3, Sem.run_bind, Sem.run_ite, p1, p2, p3, Result.andThen_ok, eqlIn_path d, eqlIn_hash (d + 1) _ _ x.2.1.2 y.2.1.2, eqlIn_bool (d + 2)]
    cases decide (x.1 = y.1) <;> cases x.2.1.1 == y.2.1.1 <;> cases decide (x.2.2 = y.2.2) <;> simp
theorem eqlIn_nam (d : Nat) (x y : Nam) (w : World) : (Op.equalIn (d + 5) 58 (.agg (nmC x)) (.agg (nmC y))).run Try.prog w = .ok (decide (x = y)) w := by
  rw [run_equalIn_struct w (d + 4) 58 _ _ nmC_under (by kernel_rfl)]
  have hf := nam_fields
  generalize (Try.prog.fieldsOf 58).toList = fs at hf ⊢
  cases fs with
  | nil => exact absurd hf (by simp)
  | cons f1 fs =>
  cases fs with
  | nil => exact absurd hf (by simp)
  | cons f2 fs =>
  cases fs with
  | cons f3 fs => exact absurd hf (by simp)
  | nil =>
    simp only [List.map_cons, List.map_nil, List.cons.injEq, Prod.mk.injEq, and_true] at hf
    obtain ⟨⟨a1, a2, a3⟩, b1, b2, b3⟩ := hf
    have e : decide (x = y) = ((x.1 == y.1) && decide (x.2 = y.2)) := by
      rw [Bool.eq_iff_iff]
      simp [Prod.ext_iff]
    rw [e]
    have p1 := fun z : Nam => part_cell isAgg_name (nmC z) 0 _ (nmC_name z)
    have p2 := fun z : Nam => part_agg isAgg_inp size_inp (nmC z) (iC z.2) 1 (iC_size _) (nmC_inp z)
    simp only [Op.eqFields, a1, a2, a3, b1, b2, b3, Sem.run_bind, Sem.run_ite, p1, p2, Result.andThen_ok, eqlIn_inp d, run_equalIn_string w (d + 3) 9 _ _ Try.underlying9, Agg.bytes_toList]
    cases x.1 == y.1 <;> cases decide (x.2 = y.2) <;> simp
theorem neq_nam (x y : Nam) (w : World) : (binOp .neq 58 (.agg (nmC x)) (.agg (nmC y))).run Try.prog w = .ok (.bool (!decide (x = y))) w := by
  rw [run_neq_struct, eqlIn_nam 9995]; rfl
theorem eql_nam (x y : Nam) (w : World) : (binOp .eql 58 (.agg (nmC x)) (.agg (nmC y))).run Try.prog w = .ok (.bool (decide (x = y))) w := by
  rw [run_eql_struct, eqlIn_nam 9995]; rfl
end Go.Proofs.Ytgekpghjlhcpkaa
/-! base.order, base.Less, spenceref03.Less: how two paths stand. -/
namespace Go.Proofs.Ytgekpghjlhcpkaa
open Go.RowKit Pl Go.Agg
open Go.Lib (compareBytes)
end Go.Proofs.Ytgekpghjlhcpkaa
/-! Derivations as text: the plain law. -/
namespace Go.Proofs.Ytgekpghjlhcpkaa
open Pl Go.Agg
def zP : P20 := ⟨(z20, []), rfl⟩
def zH : H20 := ⟨z20, rfl⟩
/-- can an input be written, behind a name -/
def canNm (x : Nam) (b : List UInt8) : Bool := isName x.1 && Op.bytesLess b x.1 && (if x.2.2.2 then decide (x.2.1 = zP) else isName x.2.1.1.2 && decide (x.2.2.1 = zH))
def canAll : List UInt8 → List Nam → Bool
  | _, [] => true
  | b, x :: l => canNm x b && canAll x.1 l
def canDrv (d : Drv) : Bool := isName d.1 && decide (d.2.1.length ≤ 8) && decide (d.2.2.length ≤ 1000) && canAll [] d.2.1
/-- the last name -/
def behind (l : List Nam) : List UInt8 := match l.getLast? with | none => [] | some x => x.1
def lastOr (b : List UInt8) (l : List Nam) : List UInt8 := match l.getLast? with | none => b | some x => x.1
theorem canAll_append (b : List UInt8) (l m : List Nam) : canAll b (l ++ m) = (canAll b l && canAll (lastOr b l) m) := by
  induction l generalizing b with
  | nil => simp [canAll, lastOr]
  | cons x l ih =>
    have : lastOr b (x :: l) = lastOr x.1 l := by
      unfold lastOr
      cases l with
      | nil => rfl
      | cons y l => simp [List.getLast?_cons]
    simp only [List.cons_append, canAll, ih, this, Bool.and_assoc]
theorem lastOr_nil (l : List Nam) : lastOr [] l = behind l := rfl
theorem canAll_succ {l : List Nam} {k : Nat} {x : Nam} (h : l[k]? = some x) : canAll [] (l.take (k + 1)) = (canAll [] (l.take k) && canNm x (behind (l.take k))) := by
  rw [List.take_add_one, h, canAll_append, lastOr_nil]
  simp [canAll]
theorem behind_succ {l : List Nam} {k : Nat} {x : Nam} (h : l[k]? = some x) : behind (l.take (k + 1)) = x.1 := by
  rw [List.take_add_one, h]
  simp [behind]
theorem canAll_take {l : List Nam} {k : Nat} (h : canAll [] (l.take k) = false) : canAll [] l = false := by
  have := canAll_append [] (l.take k) (l.drop k)
  rw [List.take_append_drop, h, Bool.false_and] at this
  exact this
/-! digits -/
def hexd (n : Nat) : UInt8 := if n < 10 then UInt8.ofNat (48 + n) else UInt8.ofNat (87 + n)
def hex2 (c : UInt8) : List UInt8 := [hexd (c.toNat / 16), hexd (c.toNat % 16)]
def hexs (l : List UInt8) : List UInt8 := l.flatMap hex2
def digs16 (l : List UInt8) : List UInt8 := if l = [] then [45] else hexs l
theorem hexs_length (l : List UInt8) : (hexs l).length = 2 * l.length := by
  induction l with
  | nil => rfl
  | cons c l ih => simp only [hexs, List.flatMap_cons, List.length_append, hex2, List.length_cons, List.length_nil] at ih ⊢; omega
theorem hexs_append (a b : List UInt8) : hexs (a ++ b) = hexs a ++ hexs b := by simp [hexs]
theorem hexs_succ {l : List UInt8} {k : Nat} {c : UInt8} (h : l[k]? = some c) : hexs (l.take (k + 1)) = hexs (l.take k) ++ hex2 c := by
  rw [List.take_add_one, h, hexs_append]; simp [hexs]
theorem digs16_length (l : List UInt8) : (digs16 l).length ≤ 2 * l.length + 1 := by
  unfold digs16; split
  · simp
  · rw [hexs_length]; omega
/-! lines -/
def wDrv : List UInt8 := [100, 114, 118, 32]
def wClass : List UInt8 := [99, 108, 97, 115, 115, 32]
def wSrc : List UInt8 := [115, 114, 99, 32]
def wRun : List UInt8 := [114, 117, 110, 32]
def lineT (x : Nam) : List UInt8 := if x.2.2.2 then wClass ++ x.1 ++ [32] ++ letters x.2.2.1.1 else wSrc ++ x.1 ++ [32] ++ pathS x.2.1.1.1 x.2.1.1.2
def textD (d : Drv) : List UInt8 := wDrv ++ d.1 ++ [10] ++ d.2.1.flatMap (fun x => lineT x ++ [10]) ++ wRun ++ digs16 d.2.2 ++ [10]
def putE (d : Drv) : Nat := if canDrv d then (if (textD d).length ≤ 2000 then 0 else 3) else 2
def putB (d : Drv) : List UInt8 := if canDrv d then (if (textD d).length ≤ 2000 then textD d else []) else []
open Go.RowKit
theorem leq_not (a b : List UInt8) : (Op.bytesLess a b || a == b) = !Op.bytesLess b a := by
  by_cases e : a = b
  · subst e; simp [bytesLess_irrefl]
  · cases h : Op.bytesLess a b with
    | true => simp [bytesLess_asymm _ _ h]
    | false => simp [bytesLess_total _ _ e h, e]
/-! in memory -/
def DrvAt (w : World) (v : Value) (d : Drv) : Prop := ∃ vi vr, v = .agg #[.string ⟨d.1.toArray⟩, vi, vr] ∧ NamsAt w vi d.2.1 ∧ BytesAt w vr d.2.2
theorem DrvAt.below {w w' : World} {v : Value} {d : Drv} (h : DrvAt w v d) (hb : Below w.heap.size w w') : DrvAt w' v d := by
  obtain ⟨vi, vr, e, h1, h2⟩ := h
  exact ⟨vi, vr, e, h1.below hb, h2.below hb⟩
/-- what lies in a derivation's block -/
structure DrvL (w : World) (g : Nat) (n : List UInt8) (vi vr : Value) : Prop where
  all : LoadsL Try.prog w 25 (some ⟨g, 0, none⟩) (.agg #[.string ⟨n.toArray⟩, vi, vr])
  name : LoadsL Try.prog w 9 (some ⟨g, 0, none⟩) (.string ⟨n.toArray⟩)
  inp : LoadsL Try.prog w 22 (some ⟨g, 1, none⟩) vi
  rcp : LoadsL Try.prog w 23 (some ⟨g, 2, none⟩) vr
theorem DrvL.of_blk {w : World} {g : Nat} {n : List UInt8} {vi vr : Value} (h : Blk w g 25 #[.string ⟨n.toArray⟩, vi, vr]) : DrvL w g n vi vr where
  all := h.loads (by kernel_rfl : Try.prog.underlying 25 = some (.struct (Try.prog.fieldsOf 25))) rfl (by kernel_rfl)
  name := h.one 0 rfl Try.underlying9 rfl
  inp := h.one 1 rfl (by kernel_rfl : Try.prog.underlying 22 = some (.slice 58)) rfl
  rcp := h.one 2 rfl (by kernel_rfl : Try.prog.underlying 23 = some (.slice 5)) rfl
theorem DrvL.below {w w' : World} {g : Nat} {n : List UInt8} {vi vr : Value} (h : DrvL w g n vi vr) (hb : Below w.heap.size w w') : DrvL w' g n vi vr := ⟨h.all.below hb, h.name.below hb, h.inp.below hb, h.rcp.below hb⟩
/-- what lies in a named input's block -/
structure NamB (w : World) (g : Nat) (x : Nam) : Prop where
  all : LoadsL Try.prog w 58 (some ⟨g, 0, none⟩) (.agg (nmC x))
  name : LoadsL Try.prog w 9 (some ⟨g, 0, none⟩) (.string ⟨x.1.toArray⟩)
  is : LoadsL Try.prog w 4 (some ⟨g, 42, none⟩) (.bool x.2.2.2)
  src : LoadsL Try.prog w 47 (some ⟨g, 1, none⟩) (.agg (pC x.2.1.1.1 x.2.1.1.2))
  sname : LoadsL Try.prog w 9 (some ⟨g, 21, none⟩) (.string ⟨x.2.1.1.2.toArray⟩)
  cls : LoadsL Try.prog w 45 (some ⟨g, 22, none⟩) (.agg (hC x.2.2.1.1))
theorem NamB.of_blk {w : World} {g : Nat} {x : Nam} (h : Blk w g 58 (nmC x)) : NamB w g x :=
  ⟨(NamL.of_blk h).all, (NamL.of_blk h).name, (NamL.of_blk h).is, (NamL.of_blk h).src, (NamL.of_blk h).sname, (NamL.of_blk h).cls⟩
theorem NamB.below {w w' : World} {g : Nat} {x : Nam} (h : NamB w g x) (hb : Below w.heap.size w w') : NamB w' g x :=
  ⟨h.all.below hb, h.name.below hb, h.is.below hb, h.src.below hb, h.sname.below hb, h.cls.below hb⟩
theorem build_zP (w : World) : (Instr.build 47 #[]).run Try.prog w = .ok (.agg (pC zP.1.1 zP.1.2)) w := by kernel_rfl
theorem build_zH (w : World) : (Instr.build 45 #[]).run Try.prog w = .ok (.agg (hC zH.1)) w := by kernel_rfl
theorem beqH (x y : H20) : (x.1 == y.1) = decide (x = y) := by rw [Bool.eq_iff_iff]; simp [Subtype.ext_iff]
theorem eqlH (x y : H20) (w : World) : (binOp .eql 45 (.agg (hC x.1)) (.agg (hC y.1))).run Try.prog w = .ok (.bool (decide (x = y))) w := by rw [eql_hash _ _ x.2 y.2, beqH]
theorem neqH (x y : H20) (w : World) : (binOp .neq 45 (.agg (hC x.1)) (.agg (hC y.1))).run Try.prog w = .ok (.bool (!decide (x = y))) w := by
  rw [run_neq_struct, eqlIn_hash 9998 _ _ x.2 y.2, beqH]; rfl
theorem eqlP (x y : P20) (w : World) : (binOp .eql 47 (.agg (pC x.1.1 x.1.2)) (.agg (pC y.1.1 y.1.2))).run Try.prog w = .ok (.bool (decide (x = y))) w := by rw [run_eql_struct, eqlIn_path 9997]; rfl
theorem neqP (x y : P20) (w : World) : (binOp .neq 47 (.agg (pC x.1.1 x.1.2)) (.agg (pC y.1.1 y.1.2))).run Try.prog w = .ok (.bool (!decide (x = y))) w := by rw [run_neq_struct, eqlIn_path 9997]; rfl
end Go.Proofs.Ytgekpghjlhcpkaa
/-! '[]byte(s)' and 'string(b)' -/
namespace Go.Proofs.Ytgekpghjlhcpkaa
open Go.RowKit Pl Go.Agg
theorem bytes_below (w : World) (e : TypeId) (s : ByteArray) : Below w.heap.size w (Lib.bytesWorld w e s) :=
  ⟨rfl, rfl, rfl, by rw [Lib.bytesWorld_size]; omega, fun k hk => Lib.bytesWorld_at_old w e s k hk⟩
/-- a new row of bytes, as '[]byte(s)' makes it -/
def NewBytes (w w' : World) (v : Value) (s : List UInt8) : Prop :=
  ∃ cap fr, v = .slice (some ⟨w.heap.size, 0, none⟩) s.length cap ∧ s.length ≤ cap ∧ w'.heap[w.heap.size]? = some (.cells ((Lib.byteCells s).toArray ++ Array.replicate (cap - s.length) (.int .u8 0)) 5 fr) ∧ (fr.1 = cap ∧ fr.2 = cap + 1)
theorem NewBytes.slice {w w' : World} {v : Value} {s : List UInt8} (h : NewBytes w w' v s) : BytesAt w' v s := by
  obtain ⟨cap, fr, rfl, hc, hb, _⟩ := h
  refine .inr ⟨_, cap, rfl, Agg.heap_lt hb, fun j u hj => ?_⟩
  rw [add_plain, Nat.zero_add, cell_of_row _ _ _ _ _ _ hb]
  obtain ⟨k, a, i, h1, h2, rfl⟩ := Elem.flat_all EB s j u hj
  have hi : i = 0 := by have := (Array.getElem?_eq_some_iff.1 h2).1; have e : (EB.val a).cells.size = 1 := rfl; omega
  subst hi
  have hk := (List.getElem?_eq_some_iff.1 h1).1
  have hn : EB.n = 1 := rfl
  rw [hn, Nat.mul_one, Nat.add_zero, Array.getElem?_append_left (by simpa [Lib.byteCells] using hk)]
  have e2 : u = .int .u8 (a.toNat : Int) := by
    have : (EB.val a).cells[0]? = some (.int .u8 (a.toNat : Int)) := rfl
    rw [this] at h2
    exact (Option.some.inj h2).symm
  simp [Lib.byteCells, h1, e2]
theorem run_toBytes (w : World) (s : List UInt8) : ∃ v w', (convert 9 23 (.string ⟨s.toArray⟩)).run Try.prog w = .ok v w' ∧ NewBytes w w' v s ∧ Below w.heap.size w w' := by
  refine ⟨_, _, Lib.run_convert_string_bytes w 9 23 5 ⟨s.toArray⟩ Try.underlying9 (by kernel_rfl) Try.underlying5, ?_, bytes_below _ _ _⟩
  have hsz : (⟨s.toArray⟩ : ByteArray).size = s.length := Agg.bytes_size s
  have hge := grownCap_ge w s.length 0 5
  refine ⟨grownCap w s.length 0 5, (grownCap w s.length 0 5, grownCap w s.length 0 5 + 1), by rw [hsz], hge, ?_, rfl, rfl⟩
  rw [Lib.bytesWorld_at_new]
  have e : Lib.bytesCells w 5 ⟨s.toArray⟩ = (Lib.byteCells s).toArray ++ Array.replicate (grownCap w s.length 0 5 - s.length) (.int .u8 0) := by
    simp [Lib.bytesCells, hsz, Lib.byteCells]
  have e2 : ((Lib.byteCells s).toArray ++ Array.replicate (grownCap w s.length 0 5 - s.length) (Value.int .u8 0)).size = grownCap w s.length 0 5 := by
    simp [Lib.byteCells]; omega
  rw [e, e2]
theorem run_toStr {w : World} {v : Value} {s : List UInt8} (h : BytesAt w v s) : (convert 23 9 v).run Try.prog w = .ok (.string ⟨s.toArray⟩) w := by
  rcases h with ⟨p, c, rfl, rfl⟩ | ⟨p, cap, rfl, hp, h⟩
  · cases p with
    | none => exact run_convert_bytes_nil w 23 5 (by kernel_rfl) Try.underlying5 0 c 9 Try.underlying9
    | some p => exact run_convert_bytes_back w 23 9 5 p c [] (by kernel_rfl) Try.underlying5 Try.underlying9 (fun j hj => by simp at hj)
  · refine run_convert_bytes_back w 23 9 5 p cap s (by kernel_rfl) Try.underlying5 Try.underlying9 fun j hj => ?_
    have := h (j * 1 + 0) (.int .u8 (s[j].toNat : Int)) (EB.flat_get s j s[j] 0 _ (List.getElem?_eq_getElem hj) rfl)
    rwa [Nat.mul_one, Nat.add_zero] at this
section
variable {ops : Array Oper} {rest : List Oper} {o : Oper} {a : Act} {w : World} {Q : Exit → Act → World → Prop}
theorem wpList_toBytes (s : List UInt8) (x : Operand) (ho : o.op = .convert 9 23 x) (hw : Region.wanted o (yielded ops a.tmps) = true) (hx : a.eval x = .string ⟨s.toArray⟩)
    (h : ∀ v' w', NewBytes w w' v' s → Below w.heap.size w w' → wpList Try.prog ops Q rest (a.put o.dst v') w') : wpList Try.prog ops Q (o :: rest) a w := by
  obtain ⟨v', w', hr, h1, h2⟩ := run_toBytes w s
  refine wpList_valw hw ?_ (h v' w' h1 h2)
  simp [execOp, ho, hx, hr]
theorem wpList_toStr {v : Value} {s : List UInt8} (hs : BytesAt w v s) (x : Operand) (ho : o.op = .convert 23 9 x) (hw : Region.wanted o (yielded ops a.tmps) = true) (hx : a.eval x = v)
    (h : wpList Try.prog ops Q rest (a.put o.dst (.string ⟨s.toArray⟩)) w) : wpList Try.prog ops Q (o :: rest) a w := by
  subst hx
  refine wpList_valw hw ?_ h
  simp [execOp, ho, run_toStr hs]
end
end Go.Proofs.Ytgekpghjlhcpkaa
/-! spencekit.SameBytes. -/
namespace Go.Proofs.Ytgekpghjlhcpkaa
open Go.RowKit Pl Go.Agg
theorem take_eq_succ {α : Type} {a b : List α} {k : Nat} {x y : α} (hx : a[k]? = some x) (hy : b[k]? = some y) (h : a.take k = b.take k) (hxy : x = y) : a.take (k + 1) = b.take (k + 1) := by
  rw [List.take_add_one, List.take_add_one, hx, hy, h, hxy]
theorem ne_at {α : Type} {a b : List α} {k : Nat} {x y : α} (hx : a[k]? = some x) (hy : b[k]? = some y) (hxy : x ≠ y) : a ≠ b := by
  rintro rfl
  exact hxy (Option.some.inj (hx.symm.trans hy))
theorem i64_nat {a b : Nat} (h : a = b) : Value.int .i64 (a : Int) = .int .i64 (b : Int) := by rw [h]
set_option maxRecDepth 100000 in
set_option maxHeartbeats 1000000 in
theorem sameBytes_any (v u : Value) (a b : List UInt8) (_ha : a.length ≤ 1048576) (hb : b.length ≤ 1048576) (w : World) (he : BytesAt w v a) (hf : BytesAt w u b) :
    Calls Try.prog 24 #[v, u] w fun e w' => e = .returned (.bool (decide (a = b))) ∧ Below w.heap.size w w' := by
  have hlv := fun W => bytes_len he W
  have hlu := fun W => bytes_len hf W
  have HE := Lib.hid he
  have HF := Lib.hid hf
  clear he hf
  by_cases hlen : a.length = b.length
  · have hne : ((a.length : Int) != (b.length : Int)) = false := by simp [hlen]
    have HLEN := Lib.hid hlen
    rw [hlen] at hlv hne
    clear hlen
    go_enter Try.func24, Try.ntmps24
    go_wp2_with fail
    go_loopw [5] (fun i wr => ∃ k : Nat, k ≤ b.length ∧ i = .int .i64 k ∧ a.take k = b.take k ∧ Below w.heap.size w wr) (fun i _ => b.length - (intOf i).toNat)
    case atStart => exact ⟨0, by omega, rfl, rfl, Below.refl _ _⟩
    case round =>
      obtain ⟨w1, rfl⟩ : ∃ w1 : World, w1 = wr := ⟨_, rfl⟩
      obtain ⟨k, hk, rfl, htk, hw⟩ := hrel
      have HTK := Lib.hid htk
      clear htk
      by_cases hlt : k < b.length
      · obtain ⟨y, hyk⟩ : ∃ y, b[k]? = some y := ⟨_, List.getElem?_eq_getElem hlt⟩
        obtain ⟨x, hxk⟩ : ∃ x, a[k]? = some x := ⟨_, List.getElem?_eq_getElem (by rw [HLEN.out]; exact hlt)⟩
        obtain ⟨p, hadr, hld⟩ := byte_at (HE.out.below hw) k x hxk
        obtain ⟨q, hadq, hlq⟩ := byte_at (HF.out.below hw) k y hyk
        have HLX := Lib.hid hld
        have HLY := Lib.hid hlq
        clear hld hlq
        have HX := Lib.hid hxk
        have HY := Lib.hid hyk
        clear hxk hyk
        by_cases hxy : x = y
        · have HXY := Lib.hid hxy
          have hq : ((x.toNat : Int) != (y.toNat : Int)) = false := by simp [hxy]
          clear hxy
          go_wp2_with fail
          try simp only [Act.put, List.setIfInBounds_toArray, List.set_cons_succ, List.set_cons_zero]
          refine Agg.wp_region_later_lit (by kernel_rfl) (by kernel_rfl) ?_
          repeat (first | go_big_quiet_skip | ((first | (with_reducible refine Agg.wpQuiet_loadL HLX.out rfl _ rfl rfl ?_) | (with_reducible refine Agg.wpQuiet_loadL HLY.out rfl _ rfl rfl ?_)); simp only [Act.put, List.setIfInBounds_toArray, List.set_cons_succ, List.set_cons_zero]) | go_big_quiet_step (fail))
          refine wpQuiet_nil ?_
          intro _ hw'
          obtain ⟨x1, rfl⟩ := hw'
          go_wp2_with fail
          go_roundw
          case rel => exact ⟨k + 1, by omega, by go_num, take_eq_succ HX.out HY.out HTK.out HXY.out, Agg.belowThen hw (Nat.le_refl _) x1.h⟩
          case measure => simp [intOf]; omega
        · have HXY := Lib.hid hxy
          have hq : ((x.toNat : Int) != (y.toNat : Int)) = true := by rw [bne_iff_ne]; intro e; exact hxy (UInt8.toNat_inj.1 (by omega))
          clear hxy
          go_wp2_with fail
          try simp only [Act.put, List.setIfInBounds_toArray, List.set_cons_succ, List.set_cons_zero]
          refine Agg.wp_region_later_lit (by kernel_rfl) (by kernel_rfl) ?_
          repeat (first | go_big_quiet_skip | ((first | (with_reducible refine Agg.wpQuiet_loadL HLX.out rfl _ rfl rfl ?_) | (with_reducible refine Agg.wpQuiet_loadL HLY.out rfl _ rfl rfl ?_)); simp only [Act.put, List.setIfInBounds_toArray, List.set_cons_succ, List.set_cons_zero]) | go_big_quiet_step (fail))
          refine wpQuiet_nil ?_
          intro _ hw'
          obtain ⟨x1, rfl⟩ := hw'
          have hres : decide (a = b) = false := by simpa using ne_at HX.out HY.out HXY.out
          have HR := Lib.hid hres
          clear hres
          go_wp2_with fail
          go_ret
          exact ⟨ret_bool HR.out.symm, Agg.belowThen hw (Nat.le_refl _) x1.h⟩
      · obtain rfl : k = b.length := by omega
        have hres : decide (a = b) = true := by
          have := HTK.out
          rw [List.take_length, List.take_of_length_le (by rw [HLEN.out]; omega)] at this
          simpa using this
        have HR := Lib.hid hres
        clear hres
        go_wp2_with fail
        go_ret
        exact ⟨ret_bool HR.out.symm, hw⟩
  · have hne : ((a.length : Int) != (b.length : Int)) = true := by rw [bne_iff_ne]; omega
    have hres : decide (a = b) = false := by simp; exact fun e => hlen (by rw [e])
    have HR := Lib.hid hres
    clear hres
    go_enter Try.func24, Try.ntmps24
    go_wp2_with fail
    go_ret
    exact ⟨ret_bool HR.out.symm, Below.refl _ _⟩
end Go.Proofs.Ytgekpghjlhcpkaa
/-! spencekit.SameNameds. -/
namespace Go.Proofs.Ytgekpghjlhcpkaa
open Go.RowKit Pl Go.Agg
set_option maxRecDepth 100000 in
set_option maxHeartbeats 1000000 in
theorem sameNams_any (v u : Value) (a b : List Nam) (_ha : a.length ≤ 1048576) (hb : b.length ≤ 1048576) (w : World) (he : NamsAt w v a) (hf : NamsAt w u b) :
    Calls Try.prog 63 #[v, u] w fun e w' => e = .returned (.bool (decide (a = b))) ∧ Below w.heap.size w w' := by
  have hlv := fun W => nams_len he W
  have hlu := fun W => nams_len hf W
  have HE := Lib.hid he
  have HF := Lib.hid hf
  clear he hf
  by_cases hlen : a.length = b.length
  · have hne : ((a.length : Int) != (b.length : Int)) = false := by simp [hlen]
    have HLEN := Lib.hid hlen
    rw [hlen] at hlv hne
    clear hlen
    go_enter Try.func63, Try.ntmps63
    go_wp2_with fail
    go_loopw [5] (fun i wr => ∃ k : Nat, k ≤ b.length ∧ i = .int .i64 k ∧ a.take k = b.take k ∧ Below w.heap.size w wr) (fun i _ => b.length - (intOf i).toNat)
    case atStart => exact ⟨0, by omega, rfl, rfl, Below.refl _ _⟩
    case round =>
      obtain ⟨w1, rfl⟩ : ∃ w1 : World, w1 = wr := ⟨_, rfl⟩
      obtain ⟨k, hk, rfl, htk, hw⟩ := hrel
      have HTK := Lib.hid htk
      clear htk
      by_cases hlt : k < b.length
      · obtain ⟨y, hyk⟩ : ∃ y, b[k]? = some y := ⟨_, List.getElem?_eq_getElem hlt⟩
        obtain ⟨x, hxk⟩ : ∃ x, a[k]? = some x := ⟨_, List.getElem?_eq_getElem (by rw [HLEN.out]; exact hlt)⟩
        obtain ⟨p, hadr, hld⟩ := nam_at (HE.out.below hw) k x hxk
        obtain ⟨q, hadq, hlq⟩ := nam_at (HF.out.below hw) k y hyk
        have HLX := Lib.hid hld.all
        have HLY := Lib.hid hlq.all
        clear hld hlq
        have HX := Lib.hid hxk
        have HY := Lib.hid hyk
        clear hxk hyk
        by_cases hxy : x = y
        · have HXY := Lib.hid hxy
          have hq : ∀ w, (binOp .neq 58 (.agg (nmC x)) (.agg (nmC y))).run Try.prog w = .ok (.bool false) w := fun w => by rw [neq_nam]; simp [hxy]
          clear hxy
          go_wp2_with fail
          try simp only [Act.put, List.setIfInBounds_toArray, List.set_cons_succ, List.set_cons_zero]
          refine Agg.wp_region_later_lit (by kernel_rfl) (by kernel_rfl) ?_
          repeat (first | go_big_quiet_skip | ((first | (with_reducible refine Agg.wpQuiet_loadL HLX.out rfl _ rfl rfl ?_) | (with_reducible refine Agg.wpQuiet_loadL HLY.out rfl _ rfl rfl ?_) | (with_reducible refine Agg.wpQuiet_neq 58 58 _ _ rfl rfl (nmC x) (nmC y) rfl rfl (false) (by kernel_rfl) hq ?_)); simp only [Act.put, List.setIfInBounds_toArray, List.set_cons_succ, List.set_cons_zero]) | go_big_quiet_step (fail))
          refine wpQuiet_nil ?_
          intro _ hw'
          obtain ⟨x1, rfl⟩ := hw'
          go_wp2_with fail
          go_roundw
          case rel => exact ⟨k + 1, by omega, by go_num, take_eq_succ HX.out HY.out HTK.out HXY.out, Agg.belowThen hw (Nat.le_refl _) x1.h⟩
          case measure => simp [intOf]; omega
        · have HXY := Lib.hid hxy
          have hq : ∀ w, (binOp .neq 58 (.agg (nmC x)) (.agg (nmC y))).run Try.prog w = .ok (.bool true) w := fun w => by rw [neq_nam]; simp [hxy]
          clear hxy
          go_wp2_with fail
          try simp only [Act.put, List.setIfInBounds_toArray, List.set_cons_succ, List.set_cons_zero]
          refine Agg.wp_region_later_lit (by kernel_rfl) (by kernel_rfl) ?_
          repeat (first | go_big_quiet_skip | ((first | (with_reducible refine Agg.wpQuiet_loadL HLX.out rfl _ rfl rfl ?_) | (with_reducible refine Agg.wpQuiet_loadL HLY.out rfl _ rfl rfl ?_) | (with_reducible refine Agg.wpQuiet_neq 58 58 _ _ rfl rfl (nmC x) (nmC y) rfl rfl (true) (by kernel_rfl) hq ?_)); simp only [Act.put, List.setIfInBounds_toArray, List.set_cons_succ, List.set_cons_zero]) | go_big_quiet_step (fail))
          refine wpQuiet_nil ?_
          intro _ hw'
          obtain ⟨x1, rfl⟩ := hw'
          have hres : decide (a = b) = false := by simpa using ne_at HX.out HY.out HXY.out
          have HR := Lib.hid hres
          clear hres
          go_wp2_with fail
          go_ret
          exact ⟨ret_bool HR.out.symm, Agg.belowThen hw (Nat.le_refl _) x1.h⟩
      · obtain rfl : k = b.length := by omega
        have hres : decide (a = b) = true := by
          have := HTK.out
          rw [List.take_length, List.take_of_length_le (by rw [HLEN.out]; omega)] at this
          simpa using this
        have HR := Lib.hid hres
        clear hres
        go_wp2_with fail
        go_ret
        exact ⟨ret_bool HR.out.symm, hw⟩
  · have hne : ((a.length : Int) != (b.length : Int)) = true := by rw [bne_iff_ne]; omega
    have hres : decide (a = b) = false := by simp; exact fun e => hlen (by rw [e])
    have HR := Lib.hid hres
    clear hres
    go_enter Try.func63, Try.ntmps63
    go_wp2_with fail
    go_ret
    exact ⟨ret_bool HR.out.symm, Below.refl _ _⟩
end Go.Proofs.Ytgekpghjlhcpkaa
