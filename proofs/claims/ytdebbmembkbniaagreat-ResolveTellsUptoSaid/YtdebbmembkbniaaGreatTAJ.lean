/- (resolve.Input).can, resolve.Can (Several texts in one.) -/
import Derived.Test.YtdebbmembkbniaaGreatTAB
import Derived.Test.YtdebbmembkbniaaGreatTAH
import Derived.Sort.Statements
import Derived.Test.YtdebbmembkbniaaGreatTAA
import Derived.Test.YtdebbmembkbniaaGreatShelf
import Derived.Lib.Bytealg
import Derived.Lib.BytesEntry
import Derived.Test.YtdebbmembkbniaaGreatTAD
/-! Paths in order: the plain law of both Sorted. -/
namespace Go.Proofs.YtdebbmembkbniaaGreat
open Pl
open Go.Lib (compareBytes)
theorem bytesLess_trans : ∀ (a b c : List UInt8), Op.bytesLess a b = true → Op.bytesLess b c = true → Op.bytesLess a c = true
 | [], [], _, h, _ => by simp [Op.bytesLess] at h
 | [], _ :: _, [], _, h => by simp [Op.bytesLess] at h
 | [], _ :: _, _ :: _, _, _ => by simp [Op.bytesLess]
 | _ :: _, [], _, h, _ => by simp [Op.bytesLess] at h
 | _ :: _, _ :: _, [], _, h => by simp [Op.bytesLess] at h
 | x :: a, y :: b, z :: c, h1, h2 => by
  simp only [Op.bytesLess, Bool.or_eq_true, Bool.and_eq_true, decide_eq_true_eq, beq_iff_eq] at h1 h2 ⊢
  rcases h1 with h1 | ⟨rfl, h1⟩
  ·rcases h2 with h2 | ⟨rfl, h2⟩
   ·exact .inl (UInt8.lt_trans h1 h2)
   ·exact .inl h1
  ·rcases h2 with h2 | ⟨rfl, h2⟩
   ·exact .inl h2
   ·exact .inr ⟨rfl, bytesLess_trans a b c h1 h2⟩
def cmp20 (p q : P20) : Int := cmpP p.1.1 p.1.2 q.1.1 q.1.2
def lt20 (p q : P20) : Bool := decide (cmp20 p q < 0)
theorem lt20_eq (p q : P20) : lt20 p q = if p.1.1 == q.1.1 then Op.bytesLess p.1.2 q.1.2 else Op.bytesLess p.1.1 q.1.1 := by
 unfold lt20 cmp20 cmpP
 split <;> exact compare_less _ _
theorem lt20_irrefl (p : P20) : lt20 p p = false := by rw [lt20_eq]; simp [bytesLess_irrefl]
theorem lt20_trans (p q r : P20) (h1 : lt20 p q = true) (h2 : lt20 q r = true) : lt20 p r = true := by
 rw [lt20_eq] at h1 h2 ⊢
 by_cases e1 : p.1.1 = q.1.1 <;> by_cases e2 : q.1.1 = r.1.1
 ·have e3 : p.1.1 = r.1.1 := e1.trans e2
  simp only [beq_iff_eq, e1, e2, if_true] at h1 h2 ⊢
  exact bytesLess_trans _ _ _ h1 h2
 ·have e3 : ¬ p.1.1 = r.1.1 := fun e => e2 (e1.symm.trans e)
  simp only [beq_iff_eq, e1, e2, if_false] at h2 ⊢
  exact h2
 ·have e3 : ¬ p.1.1 = r.1.1 := fun e => e1 (e.trans e2.symm)
  simp only [beq_iff_eq, e1, e3, if_false] at h1 ⊢
  rwa [← e2]
 ·simp only [beq_iff_eq, e1, e2, if_false] at h1 h2
  have h3 := bytesLess_trans _ _ _ h1 h2
  have e3 : ¬ p.1.1 = r.1.1 := fun e => by rw [e, bytesLess_irrefl] at h3; cases h3
  simp only [beq_iff_eq, e3, if_false]
  exact h3
theorem lt20_total (p q : P20) (hne : p ≠ q) (h : lt20 p q = false) : lt20 q p = true := by
 rw [lt20_eq] at h ⊢
 by_cases e : p.1.1 = q.1.1
 ·have e' : q.1.1 = p.1.1 := e.symm
  simp only [beq_iff_eq, e, if_true] at h ⊢
  exact bytesLess_total _ _ (fun e2 => hne (Subtype.ext (Prod.ext e e2))) h
 ·have e' : ¬ q.1.1 = p.1.1 := fun x => e x.symm
  simp only [beq_iff_eq, e, e', if_false] at h ⊢
  exact bytesLess_total _ _ e h
theorem lt20_asymm (p q : P20) (h : lt20 p q = true) : lt20 q p = false := by
 cases h2 : lt20 q p with
 | false => rfl
 | true => have := lt20_trans _ _ _ h h2; rw [lt20_irrefl] at this; cases this
theorem lt20_swo : Sort.SWO lt20 where
 irrefl := lt20_irrefl
 trans := lt20_trans
 ntrans := fun x y z h1 h2 => by
  cases h3 : lt20 x z with
  | false => rfl
  | true =>
   by_cases e : x = y
   ·subst e; rw [h3] at h2; cases h2
   ·have := lt20_trans _ _ _ (lt20_total _ _ e h1) h3
    rw [this] at h2; cases h2
def Rising (l : List P20) : Prop := l.Pairwise fun p q => lt20 p q = true
theorem rising_unique : ∀ (a b : List P20), Rising a → Rising b → (∀ x, x ∈ a ↔ x ∈ b) → a = b
 | [], [], _, _, _ => rfl
 | [], y :: b, _, _, h => absurd ((h y).2 (by simp)) (by simp)
 | x :: a, [], _, _, h => absurd ((h x).1 (by simp)) (by simp)
 | x :: a, y :: b, ha, hb, h => by
  rw [Rising, List.pairwise_cons] at ha hb
  have hxy : x = y := by
   rcases List.mem_cons.1 ((h x).1 (by simp)) with e | hx
   ·exact e
   ·rcases List.mem_cons.1 ((h y).2 (by simp)) with e | hy
    ·exact e.symm
    ·have h1 := hb.1 x hx
     have h2 := ha.1 y hy
     rw [lt20_asymm _ _ h1] at h2; cases h2
  subst hxy
  congr 1
  refine rising_unique a b ha.2 hb.2 fun z => ?_
  have hz := h z
  simp only [List.mem_cons] at hz
  constructor
  ·intro hza
   rcases hz.1 (.inr hza) with e | hzb
   ·subst e
    have := ha.1 z hza
    rw [lt20_irrefl] at this; cases this
   ·exact hzb
  ·intro hzb
   rcases hz.2 (.inr hzb) with e | hza
   ·subst e
    have := hb.1 z hzb
    rw [lt20_irrefl] at this; cases this
   ·exact hza
theorem rising_of_sorted (l : List P20) (hn : l.Nodup) (hs : l.Pairwise fun p q => lt20 q p = false) : Rising l := by
 refine List.Pairwise.imp₂ ?_ hn hs
 intro p q hne h
 exact lt20_total q p (Ne.symm hne) h
end Go.Proofs.YtdebbmembkbniaaGreat
/-! Slices of paths. -/

/-! base.Letters: the letters of any hash. -/
namespace Go.Proofs.YtdebbmembkbniaaGreat
open Go.RowKit Pl
end Go.Proofs.YtdebbmembkbniaaGreat
/-! Bytes and texts as elements. -/
namespace Go.Proofs.YtdebbmembkbniaaGreat
open Go.RowKit Pl Go.Agg
end Go.Proofs.YtdebbmembkbniaaGreat
/-! Derivations: their cells, what lies in them, '==' of inputs by names; bytes and texts as elements. -/
namespace Go.Proofs.YtdebbmembkbniaaGreat
open Go.RowKit Pl Go.Agg
abbrev Inp : Type := P20 × H20 × Bool
abbrev Nam : Type := List UInt8 × Inp
abbrev Drv : Type := List UInt8 × List Nam × List UInt8
instance : DecidableEq Inp := inferInstance
instance : DecidableEq Nam := inferInstance
instance : DecidableEq (List Nam) := inferInstance
instance : DecidableEq (List Nam × List UInt8) := inferInstance
instance : DecidableEq Drv := inferInstance
def iC (x : Inp) : Array Value := pC x.1.1.1 x.1.1.2 ++ (hC x.2.1.1 ++ #[.bool x.2.2])
def nmC (x : Nam) : Array Value := #[.string ⟨x.1.toArray⟩] ++ iC x.2
theorem iC_size (x : Inp) : (iC x).size = 42 := by simp [iC, pC_size, hC_size, x.1.2, x.2.1.2]
theorem nmC_size (x : Nam) : (nmC x).size = 43 := by simp [nmC, iC_size]
theorem iC_one (x : Inp) : (iC x).all (·.oneCell') = true := by
 rw [iC, Array.all_append, Array.all_append, pC_one, hC_one]; simp [Value.oneCell']
theorem nmC_one (x : Nam) : (nmC x).all (·.oneCell') = true := by
 rw [nmC, Array.all_append, iC_one]; simp [Value.oneCell']
theorem nmC_name (x : Nam) : (nmC x)[0]? = some (.string ⟨x.1.toArray⟩) := by rw [nmC, Array.getElem?_append_left (by simp)]; rfl
theorem nmC_inp (x : Nam) (j : Nat) (v : Value) (h : (iC x.2)[j]? = some v) : (nmC x)[1 + j]? = some v := by
 rw [nmC, Array.getElem?_append_right (by simp)]; simpa using h
theorem iC_src (x : Inp) (j : Nat) (v : Value) (h : (pC x.1.1.1 x.1.1.2)[j]? = some v) : (iC x)[0 + j]? = some v := by
 have := (Array.getElem?_eq_some_iff.1 h).1
 rw [iC, Nat.zero_add, Array.getElem?_append_left this]; exact h
theorem iC_cls (x : Inp) (j : Nat) (v : Value) (h : (hC x.2.1.1)[j]? = some v) : (iC x)[21 + j]? = some v := by
 have := (Array.getElem?_eq_some_iff.1 h).1
 rw [iC, Array.getElem?_append_right (by rw [pC_size, x.1.2]; omega), pC_size, x.1.2, show 21 + j - (20 + 1) = j by omega, Array.getElem?_append_left this]; exact h
theorem iC_is (x : Inp) : (iC x)[41]? = some (.bool x.2.2) := by
 rw [iC, Array.getElem?_append_right (by rw [pC_size, x.1.2]; omega), pC_size, x.1.2, Array.getElem?_append_right (by rw [hC_size, x.2.1.2]; omega), hC_size, x.2.1.2]; rfl
def zI : Inp := (⟨(z20, []), rfl⟩, ⟨z20, rfl⟩, false)
def zN : Nam := ([], zI)
theorem nmC_zero : (Tryz.prog.info? 73).map (·.zero) = some (some (.agg (nmC zN))) := by kernel_rfl
theorem nmC_info (x : Nam) : (Tryz.prog.info? 73).map (·.size) = some (nmC x).size := by rw [nmC_size]; kernel_rfl
theorem iC_info (x : Inp) : (Tryz.prog.info? 70).map (·.size) = some (iC x).size := by rw [iC_size]; kernel_rfl
theorem nmC_under : Tryz.prog.underlying 73 = some (.struct (Tryz.prog.fieldsOf 73)) := by kernel_rfl
theorem iC_under : Tryz.prog.underlying 70 = some (.struct (Tryz.prog.fieldsOf 70)) := by kernel_rfl
def ENm : Elem Tryz.prog Nam where
 ty := 73
 st := 64
 n := 43
 bytes := 80
 val := fun x => .agg (nmC x)
 zero := .agg (nmC zN)
 pos := by omega
 small := by omega
 size := fun x => by simp [Value.cells, nmC_size]
 one := fun x v hv => one_of (nmC_one x) v hv
 zsize := by simp [Value.cells, nmC_size]
 slice := by kernel_rfl
 info := info_of nmC_zero (by kernel_rfl) (by kernel_rfl)
 load := fun w a x hp h => LoadsL.of_cells hp h nmC_under rfl (nmC_info x)
abbrev NamsAt (w : World) (v : Value) (l : List Nam) : Prop := SliceOf ENm w v l
theorem nams_len {w : World} {v : Value} {l : List Nam} (h : NamsAt w v l) (W : World) : (Builtin.len_ #[64] 3 #[v]).run Tryz.prog W = .ok (.int .i64 (l.length : Int)) W := h.len W
structure NamL (w : World) (p : Addr) (x : Nam) : Prop where
 all : LoadsL Tryz.prog w 73 (some p) (.agg (nmC x))
 name : LoadsL Tryz.prog w 9 (some (p.add 0)) (.string ⟨x.1.toArray⟩)
 is : LoadsL Tryz.prog w 4 (some ((p.add 1).add 41)) (.bool x.2.2.2)
 src : LoadsL Tryz.prog w 48 (some ((p.add 1).add 0)) (.agg (pC x.2.1.1.1 x.2.1.1.2))
 sname : LoadsL Tryz.prog w 9 (some (((p.add 1).add 0).add 20)) (.string ⟨x.2.1.1.2.toArray⟩)
 cls : LoadsL Tryz.prog w 43 (some ((p.add 1).add 21)) (.agg (hC x.2.2.1.1))
theorem NamL.of_cells {w : World} {p : Addr} {x : Nam} (hp : p.block < w.heap.size) (h : ∀ j u, (nmC x)[j]? = some u → w.cell? (p.add j) = some u) : NamL w p x where
 all := LoadsL.of_cells hp h nmC_under rfl (nmC_info x)
 name := LoadsL.of_cell (h 0 _ (nmC_name x)) Tryz.underlying9 rfl
 is := LoadsL.of_cell (by rw [add_add]; exact h _ _ (nmC_inp x 41 _ (iC_is x.2))) Tryz.underlying4 rfl
 src := LoadsL.of_cells (by rw [add_block, add_block]; exact hp) (fun j v hj => by rw [add_add, add_add]; exact h _ _ (nmC_inp x _ _ (iC_src x.2 j v hj))) pC_under rfl (pC_info _ _ x.2.1.2)
 sname := LoadsL.of_cell (by rw [add_add, add_add]; exact h _ _ (nmC_inp x _ _ (iC_src x.2 20 _ (pC_name _ _ x.2.1.2)))) Tryz.underlying9 rfl
 cls := LoadsL.of_cells (by rw [add_block, add_block]; exact hp) (fun j v hj => by rw [add_add, add_add]; exact h _ _ (nmC_inp x _ _ (iC_cls x.2 j v hj))) Tryz.underlying43 rfl (hC_info _ x.2.2.1.2)
theorem NamL.below {w w' : World} {p : Addr} {x : Nam} (h : NamL w p x) (hb : Below w.heap.size w w') : NamL w' p x :=
 ⟨h.all.below hb, h.name.below hb, h.is.below hb, h.src.below hb, h.sname.below hb, h.cls.below hb⟩
theorem NamL.of_blk {w : World} {g : Nat} {x : Nam} (h : Blk w g 73 (nmC x)) : NamL w ⟨g, 0, none⟩ x :=
 NamL.of_cells h.lt fun j u hj => by rw [add_plain, Nat.zero_add, h.cell]; exact hj
theorem nam_at {w : World} {v : Value} {l : List Nam} (h : NamsAt w v l) (k : Nat) (x : Nam) (hx : l[k]? = some x) :
  ∃ p : Addr, (∀ W, (Instr.indexAt 64 v (.int .i64 (k : Int))).run Tryz.prog W = .ok (.pointer (some p)) W) ∧ NamL w p x := by
 obtain ⟨p, h1, h2, h3, _⟩ := h.at_ k x hx
 exact ⟨p, h1, NamL.of_cells h2 h3⟩
/-! '==' -/
theorem eqlIn_path (d : Nat) (p q : P20) (w : World) : (Op.equalIn (d + 3) 48 (.agg (pC p.1.1 p.1.2)) (.agg (pC q.1.1 q.1.2))).run Tryz.prog w = .ok (decide (p = q)) w := by
 rw [run_equalIn_struct w (d + 2) 48 _ _ pC_under (by kernel_rfl)]
 have hf := path_fields
 generalize (Tryz.prog.fieldsOf 48).toList = fs at hf ⊢
 cases fs with
 | nil => exact absurd hf (by simp)
 | cons f1 fs =>
 cases fs with
 | nil => exact absurd hf (by simp)
 | cons f2 fs =>
 cases fs with
 | cons f3 fs => exact absurd hf (by simp)
 | nil =>
  simp only [List.map_cons, List.map_nil, List.cons.injEq, Prod.mk.injEq, and_true] at hf
  obtain ⟨⟨a1, a2, a3⟩, b1, b2, b3⟩ := hf
  have e : decide (p = q) = (p.1.1 == q.1.1 && p.1.2 == q.1.2) := by
   rw [Bool.eq_iff_iff]
   simp [Subtype.ext_iff, Prod.ext_iff]
  rw [e]
  simp only [Op.eqFields, a1, a2, a3, b1, b2, b3, Sem.run_bind, Sem.run_ite, part_hash _ _ p.2, part_hash _ _ q.2, part_name _ _ p.2, part_name _ _ q.2, Result.andThen_ok, eqlIn_hash d _ _ p.2 q.2, run_equalIn_string w (d + 1) 9 _ _ Tryz.underlying9, Agg.bytes_toList]
  cases p.1.1 == q.1.1 <;> cases p.1.2 == q.1.2 <;> simp
end Go.Proofs.YtdebbmembkbniaaGreat
/-! base.order, base.Less, spenceref03.Less: how two paths stand. -/
namespace Go.Proofs.YtdebbmembkbniaaGreat
open Go.RowKit Pl Go.Agg
open Go.Lib (compareBytes)
end Go.Proofs.YtdebbmembkbniaaGreat
/-! Derivations as text: the plain law. -/
namespace Go.Proofs.YtdebbmembkbniaaGreat
open Pl Go.Agg
def zP : P20 := ⟨(z20, []), rfl⟩
def zH : H20 := ⟨z20, rfl⟩
def canNm (x : Nam) (b : List UInt8) : Bool := isName x.1 && Op.bytesLess b x.1 && (if x.2.2.2 then decide (x.2.1 = zP) else isName x.2.1.1.2 && decide (x.2.2.1 = zH))
def canAll : List UInt8 → List Nam → Bool
 | _, [] => true
 | b, x :: l => canNm x b && canAll x.1 l
def canDrv (d : Drv) : Bool := isName d.1 && decide (d.2.1.length ≤ 8) && decide (d.2.2.length ≤ 1000) && canAll [] d.2.1
def behind (l : List Nam) : List UInt8 := match l.getLast? with | none => [] | some x => x.1
def lastOr (b : List UInt8) (l : List Nam) : List UInt8 := match l.getLast? with | none => b | some x => x.1
theorem canAll_append (b : List UInt8) (l m : List Nam) : canAll b (l ++ m) = (canAll b l && canAll (lastOr b l) m) := by
 induction l generalizing b with
 | nil => simp [canAll, lastOr]
 | cons x l ih =>
  have : lastOr b (x :: l) = lastOr x.1 l := by
   unfold lastOr
   cases l with
   | nil => rfl
   | cons y l => simp [List.getLast?_cons]
  simp only [List.cons_append, canAll, ih, this, Bool.and_assoc]
theorem lastOr_nil (l : List Nam) : lastOr [] l = behind l := rfl
theorem canAll_succ {l : List Nam} {k : Nat} {x : Nam} (h : l[k]? = some x) : canAll [] (l.take (k + 1)) = (canAll [] (l.take k) && canNm x (behind (l.take k))) := by
 rw [List.take_add_one, h, canAll_append, lastOr_nil]
 simp [canAll]
theorem behind_succ {l : List Nam} {k : Nat} {x : Nam} (h : l[k]? = some x) : behind (l.take (k + 1)) = x.1 := by
 rw [List.take_add_one, h]
 simp [behind]
theorem canAll_take {l : List Nam} {k : Nat} (h : canAll [] (l.take k) = false) : canAll [] l = false := by
 have := canAll_append [] (l.take k) (l.drop k)
 rw [List.take_append_drop, h, Bool.false_and] at this
 exact this
/-! digits -/
/-! lines -/
open Go.RowKit
theorem leq_not (a b : List UInt8) : (Op.bytesLess a b || a == b) = !Op.bytesLess b a := by
 by_cases e : a = b
 ·subst e; simp [bytesLess_irrefl]
 ·cases h : Op.bytesLess a b with
  | true => simp [bytesLess_asymm _ _ h]
  | false => simp [bytesLess_total _ _ e h, e]
/-! in memory -/
def DrvAt (w : World) (v : Value) (d : Drv) : Prop := ∃ vi vr, v = .agg #[.string ⟨d.1.toArray⟩, vi, vr] ∧ NamsAt w vi d.2.1 ∧ BytesAt w vr d.2.2
structure DrvL (w : World) (g : Nat) (n : List UInt8) (vi vr : Value) : Prop where
 all : LoadsL Tryz.prog w 66 (some ⟨g, 0, none⟩) (.agg #[.string ⟨n.toArray⟩, vi, vr])
 name : LoadsL Tryz.prog w 9 (some ⟨g, 0, none⟩) (.string ⟨n.toArray⟩)
 inp : LoadsL Tryz.prog w 64 (some ⟨g, 1, none⟩) vi
 rcp : LoadsL Tryz.prog w 23 (some ⟨g, 2, none⟩) vr
theorem DrvL.of_blk {w : World} {g : Nat} {n : List UInt8} {vi vr : Value} (h : Blk w g 66 #[.string ⟨n.toArray⟩, vi, vr]) : DrvL w g n vi vr where
 all := h.loads (by kernel_rfl : Tryz.prog.underlying 66 = some (.struct (Tryz.prog.fieldsOf 66))) rfl (by kernel_rfl)
 name := h.one 0 rfl Tryz.underlying9 rfl
 inp := h.one 1 rfl (by kernel_rfl : Tryz.prog.underlying 64 = some (.slice 73)) rfl
 rcp := h.one 2 rfl (by kernel_rfl : Tryz.prog.underlying 23 = some (.slice 5)) rfl
theorem DrvL.below {w w' : World} {g : Nat} {n : List UInt8} {vi vr : Value} (h : DrvL w g n vi vr) (hb : Below w.heap.size w w') : DrvL w' g n vi vr := ⟨h.all.below hb, h.name.below hb, h.inp.below hb, h.rcp.below hb⟩
structure NamB (w : World) (g : Nat) (x : Nam) : Prop where
 all : LoadsL Tryz.prog w 73 (some ⟨g, 0, none⟩) (.agg (nmC x))
 name : LoadsL Tryz.prog w 9 (some ⟨g, 0, none⟩) (.string ⟨x.1.toArray⟩)
 is : LoadsL Tryz.prog w 4 (some ⟨g, 42, none⟩) (.bool x.2.2.2)
 src : LoadsL Tryz.prog w 48 (some ⟨g, 1, none⟩) (.agg (pC x.2.1.1.1 x.2.1.1.2))
 sname : LoadsL Tryz.prog w 9 (some ⟨g, 21, none⟩) (.string ⟨x.2.1.1.2.toArray⟩)
 cls : LoadsL Tryz.prog w 43 (some ⟨g, 22, none⟩) (.agg (hC x.2.2.1.1))
theorem NamB.of_blk {w : World} {g : Nat} {x : Nam} (h : Blk w g 73 (nmC x)) : NamB w g x :=
 ⟨(NamL.of_blk h).all, (NamL.of_blk h).name, (NamL.of_blk h).is, (NamL.of_blk h).src, (NamL.of_blk h).sname, (NamL.of_blk h).cls⟩
theorem NamB.below {w w' : World} {g : Nat} {x : Nam} (h : NamB w g x) (hb : Below w.heap.size w w') : NamB w' g x :=
 ⟨h.all.below hb, h.name.below hb, h.is.below hb, h.src.below hb, h.sname.below hb, h.cls.below hb⟩
theorem build_zP (w : World) : (Instr.build 48 #[]).run Tryz.prog w = .ok (.agg (pC zP.1.1 zP.1.2)) w := by kernel_rfl
theorem build_zH (w : World) : (Instr.build 43 #[]).run Tryz.prog w = .ok (.agg (hC zH.1)) w := by kernel_rfl
theorem beqH (x y : H20) : (x.1 == y.1) = decide (x = y) := by rw [Bool.eq_iff_iff]; simp [Subtype.ext_iff]
theorem eqlH (x y : H20) (w : World) : (binOp .eql 43 (.agg (hC x.1)) (.agg (hC y.1))).run Tryz.prog w = .ok (.bool (decide (x = y))) w := by rw [eql_hash _ _ x.2 y.2, beqH]
theorem neqH (x y : H20) (w : World) : (binOp .neq 43 (.agg (hC x.1)) (.agg (hC y.1))).run Tryz.prog w = .ok (.bool (!decide (x = y))) w := by
 rw [run_neq_struct, eqlIn_hash 9998 _ _ x.2 y.2, beqH]; rfl
theorem eqlP (x y : P20) (w : World) : (binOp .eql 48 (.agg (pC x.1.1 x.1.2)) (.agg (pC y.1.1 y.1.2))).run Tryz.prog w = .ok (.bool (decide (x = y))) w := by rw [run_eql_struct, eqlIn_path 9997]; rfl
theorem neqP (x y : P20) (w : World) : (binOp .neq 48 (.agg (pC x.1.1 x.1.2)) (.agg (pC y.1.1 y.1.2))).run Tryz.prog w = .ok (.bool (!decide (x = y))) w := by rw [run_neq_struct, eqlIn_path 9997]; rfl
end Go.Proofs.YtdebbmembkbniaaGreat
/-! spencekit.SameNameds. -/
namespace Go.Proofs.YtdebbmembkbniaaGreat
open Go.RowKit Pl Go.Agg
end Go.Proofs.YtdebbmembkbniaaGreat
/-! (resolve.Input).can, resolve.Can -/
namespace Go.Proofs.YtdebbmembkbniaaGreat
open Go.RowKit Pl Go.Agg
set_option maxRecDepth 100000 in
set_option maxHeartbeats 2000000 in
theorem rcan_any (x : Rin) (b : List UInt8) (w : World) :
  Calls Tryz.prog 52 #[.agg (riC x), .string ⟨b.toArray⟩] w fun e w' => e = .returned (.bool (canRi x b)) ∧ Below w.heap.size w w' := by
 have hta := Agg.bytes_toList x.1
 have htb := Agg.bytes_toList b
 have hlq := leq_not x.1 b
 go_enter Tryz.func52, Tryz.ntmps52
 go_wp2_with (first | (with_reducible refine wpList_box rfl 77 _ rfl (riC x) rfl ?_; intro g w1 hb hx1 hg) | (with_reducible refine wpList_loadL (RinB.of_blk hb).name (by kernel_rfl) _ rfl rfl ?_))
 have hw1 := hx1
 refine (name_any _ _).mono ?_
 rintro e w2 ⟨rfl, hx⟩
 have HB := Lib.hid ((RinB.of_blk hb).below hx)
 have hw2 := belowThen hw1 (Nat.le_refl _) hx
 clear hb hx hx1 hg hw1
 cases hnm : isName x.1 with
 | false =>
  have HR : Hid (canRi x b = false) := Lib.hid (by simp [canRi, hnm])
  go_wp2_with fail
  go_ret
  exact ⟨ret_bool HR.out.symm, hw2⟩
 | true =>
  cases hls : Op.bytesLess b x.1 with
  | false =>
   have HR : Hid (canRi x b = false) := Lib.hid (by simp [canRi, hls])
   rw [hls] at hlq
   go_wp2_with (first | (with_reducible refine wpList_loadL HB.out.name (by kernel_rfl) _ rfl rfl ?_))
   go_ret
   exact ⟨ret_bool HR.out.symm, hw2⟩
  | true =>
   have HR0 : Hid (canRi x b = isName x.2.1.2) := Lib.hid (by simp [canRi, hnm, hls])
   rw [hls] at hlq
   clear hnm
   go_wp2_with (first | (with_reducible refine wpList_loadL HB.out.name (by kernel_rfl) _ rfl rfl ?_) | (with_reducible refine wpList_loadL HB.out.pname (by kernel_rfl) _ rfl rfl ?_))
   refine (name_any _ _).mono ?_
   rintro e w3 ⟨rfl, hx⟩
   have hw3 := belowThen hw2 (Nat.le_refl _) hx
   clear hx
   go_wp2_with fail
   go_ret
   exact ⟨ret_bool HR0.out.symm, hw3⟩
set_option maxRecDepth 100000 in
set_option maxHeartbeats 2000000 in
theorem rsCan_any (v : Value) (d : Rv) (hl : d.2.1.length ≤ 1048576) (w : World) (hd : RvAt w v d) :
  Calls Tryz.prog 18 #[v] w fun e w' => e = .returned (.bool (canRv d)) ∧ Below w.heap.size w w' := by
 obtain ⟨vi, vr, rfl, hvi, hvr⟩ := hd
 have hli := ris_len hvi
 have hlr := bytes_len hvr
 have HVI := Lib.hid hvi
 clear hvi hvr
 go_enter Tryz.func18, Tryz.ntmps18
 go_wp2_with (first | (with_reducible refine wpList_box rfl 25 _ rfl (#[.string ⟨d.1.toArray⟩, vi, vr]) rfl ?_; intro g w1 hb hx1 hg) | (with_reducible refine wpList_loadL (RvB.of_blk hb).inp (by kernel_rfl) _ rfl rfl ?_))
 have HD := Lib.hid (RvB.of_blk hb)
 have HVI1 := Lib.hid (HVI.out.below hx1)
 have hw1 := hx1
 clear hb hx1 hg
 go_loopw [3, 9] (fun bh i wr => ∃ k : Nat, k ≤ d.2.1.length ∧ i = .int .i64 k ∧ bh = .string ⟨(behindR (d.2.1.take k)).toArray⟩ ∧ canRs [] (d.2.1.take k) = true ∧ Below w1.heap.size w1 wr) (fun _ i _ => d.2.1.length - (intOf i).toNat)
 case atStart => exact ⟨0, by omega, rfl, rfl, rfl, Below.refl _ _⟩
 case round =>
  obtain ⟨w2, rfl⟩ : ∃ w2 : World, w2 = wr := ⟨_, rfl⟩
  obtain ⟨k, hk, rfl, rfl, hcan, hx⟩ := hrel
  have HCAN := Lib.hid hcan
  clear hcan
  by_cases hlt : k < d.2.1.length
  ·obtain ⟨x, hxk⟩ : ∃ x, d.2.1[k]? = some x := ⟨_, List.getElem?_eq_getElem hlt⟩
   obtain ⟨p, hadr, hld, _⟩ := ri_at (HVI1.out.below hx) k x hxk
   have HL := Lib.hid hld
   have HCS := Lib.hid (canRs_succ hxk)
   have HBS := Lib.hid (behindR_succ hxk)
   have hd1 : decide (k < d.2.1.length) = true := by simpa using hlt
   clear hld hxk
   go_wp2_with (first | (with_reducible refine wpList_loadL HL.out (by kernel_rfl) _ rfl rfl ?_) | (refine wpList_new rfl rfl rfl 77 5 12 rfl rfl rfl (by decide) (riC zR) (riC x) riC_zero (by rw [riC_size, riC_size]) (riC_info x) (riC_one x) rfl (by simp [Act.put]) ?_; intro g2 w3 hb2 hx3 hg2) | (with_reducible refine wpList_loadL (RinB.of_blk hb2).all (by kernel_rfl) _ rfl rfl ?_))
   have hx' := belowThen hx (Nat.le_refl _) hx3
   refine (rcan_any _ _ _).mono ?_
   rintro e w4 ⟨rfl, hx4⟩
   have HB := Lib.hid ((RinB.of_blk hb2).below hx4)
   have hx5 := belowThen hx' (Nat.le_refl _) hx4
   clear hb2 hx3 hg2 hx' hx4
   cases hc : canRi x (behindR (d.2.1.take k)) with
   | true =>
    have HC := Lib.hid hc
    clear hc
    go_wp2_with (first | (with_reducible refine wpList_loadL HB.out.name (by kernel_rfl) _ rfl rfl ?_))
    go_roundw
    case rel => exact ⟨k + 1, by omega, by go_num, by rw [HBS.out], by rw [HCS.out, HCAN.out, HC.out]; rfl, hx5⟩
    case measure => simp [intOf]; omega
   | false =>
    have HR : Hid (canRv d = false) := Lib.hid (by
     have := canRs_take (l := d.2.1) (k := k + 1) (by rw [HCS.out, hc, Bool.and_false])
     simp [canRv, this])
    clear hc
    go_wp2_with fail
    go_ret
    exact ⟨ret_bool HR.out.symm, belowThen hw1 (Nat.le_refl _) hx5⟩
  ·obtain rfl : k = d.2.1.length := by omega
   have hw2 := belowThen hw1 (Nat.le_refl _) hx
   have HD2 := Lib.hid (HD.out.below hx)
   have hca := HCAN.out
   rw [List.take_length] at hca
   have HR0 : Hid (canRv d = (isName d.1 && decide (d.2.1.length ≤ 8) && decide (d.2.2.length ≤ 1000))) := Lib.hid (by simp [canRv, hca])
   have hd1 : decide (d.2.1.length < d.2.1.length) = false := by simp
   clear hca hx
   go_wp2_with (first | (with_reducible refine wpList_loadL HD2.out.name (by kernel_rfl) _ rfl rfl ?_))
   refine (name_any _ _).mono ?_
   rintro e w3 ⟨rfl, hx⟩
   have hw3 := belowThen hw2 (Nat.le_refl _) hx
   have HD3 := Lib.hid (HD2.out.below hx)
   clear hx
   cases hnm : isName d.1 with
   | false =>
    have HR : Hid (canRv d = false) := Lib.hid (by rw [HR0.out, hnm]; rfl)
    clear hnm
    go_wp2_with fail
    go_ret
    exact ⟨ret_bool HR.out.symm, hw3⟩
   | true =>
    by_cases h8 : d.2.1.length ≤ 8
    ·have hd8 : decide ((d.2.1.length : Int) ≤ 8) = true := by simp; omega
     by_cases h9 : d.2.2.length ≤ 1000
     ·have hd9 : decide ((d.2.2.length : Int) ≤ 1000) = true := by simp; omega
      have HR : Hid (canRv d = true) := Lib.hid (by rw [HR0.out, hnm]; simp [h8, h9])
      clear hnm
      go_wp2_with (first | (with_reducible refine wpList_loadL HD3.out.inp (by kernel_rfl) _ rfl rfl ?_) | (with_reducible refine wpList_loadL HD3.out.rcp (by kernel_rfl) _ rfl rfl ?_))
      go_ret
      exact ⟨ret_bool HR.out.symm, hw3⟩
     ·have hd9 : decide ((d.2.2.length : Int) ≤ 1000) = false := by simp; omega
      have HR : Hid (canRv d = false) := Lib.hid (by rw [HR0.out]; simp [h9])
      clear hnm
      go_wp2_with (first | (with_reducible refine wpList_loadL HD3.out.inp (by kernel_rfl) _ rfl rfl ?_) | (with_reducible refine wpList_loadL HD3.out.rcp (by kernel_rfl) _ rfl rfl ?_))
      go_ret
      exact ⟨ret_bool HR.out.symm, hw3⟩
    ·have hd8 : decide ((d.2.1.length : Int) ≤ 8) = false := by simp; omega
     have HR : Hid (canRv d = false) := Lib.hid (by rw [HR0.out]; simp [h8])
     clear hnm
     go_wp2_with (first | (with_reducible refine wpList_loadL HD3.out.inp (by kernel_rfl) _ rfl rfl ?_) | (with_reducible refine wpList_loadL HD3.out.rcp (by kernel_rfl) _ rfl rfl ?_))
     go_ret
     exact ⟨ret_bool HR.out.symm, hw3⟩
end Go.Proofs.YtdebbmembkbniaaGreat
