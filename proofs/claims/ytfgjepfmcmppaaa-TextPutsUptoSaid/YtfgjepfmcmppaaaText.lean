/- Derivations as text: the plain law. -/
import Derived.Test.YtfgjepfmcmppaaaDrv
import Derived.Test.YtfgjepfmcmppaaaOrder
namespace Go.Proofs.Ytfgjepfmcmppaaa
open Pl Go.Agg
def zP : P20 := ⟨(z20, []), rfl⟩
def zH : H20 := ⟨z20, rfl⟩
/-- can an input be written, behind a name -/
def canNm (x : Nam) (b : List UInt8) : Bool := isName x.1 && Op.bytesLess b x.1 && (if x.2.2.2 then decide (x.2.1 = zP) else isName x.2.1.1.2 && decide (x.2.2.1 = zH))
def canAll : List UInt8 → List Nam → Bool
  | _, [] => true
  | b, x :: l => canNm x b && canAll x.1 l
def canDrv (d : Drv) : Bool := isName d.1 && decide (d.2.1.length ≤ 8) && decide (d.2.2.length ≤ 1000) && canAll [] d.2.1
/-- the last name -/
def behind (l : List Nam) : List UInt8 := match l.getLast? with | none => [] | some x => x.1
def lastOr (b : List UInt8) (l : List Nam) : List UInt8 := match l.getLast? with | none => b | some x => x.1
theorem canAll_append (b : List UInt8) (l m : List Nam) : canAll b (l ++ m) = (canAll b l && canAll (lastOr b l) m) := by
  induction l generalizing b with
  | nil => simp [canAll, lastOr]
  | cons x l ih =>
    have : lastOr b (x :: l) = lastOr x.1 l := by
      unfold lastOr
      cases l with
      | nil => rfl
      | cons y l => simp [List.getLast?_cons]
    simp only [List.cons_append, canAll, ih, this, Bool.and_assoc]
theorem lastOr_nil (l : List Nam) : lastOr [] l = behind l := rfl
theorem canAll_succ {l : List Nam} {k : Nat} {x : Nam} (h : l[k]? = some x) : canAll [] (l.take (k + 1)) = (canAll [] (l.take k) && canNm x (behind (l.take k))) := by
  rw [List.take_add_one, h, canAll_append, lastOr_nil]
  simp [canAll]
theorem behind_succ {l : List Nam} {k : Nat} {x : Nam} (h : l[k]? = some x) : behind (l.take (k + 1)) = x.1 := by
  rw [List.take_add_one, h]
  simp [behind]
theorem canAll_take {l : List Nam} {k : Nat} (h : canAll [] (l.take k) = false) : canAll [] l = false := by
  have := canAll_append [] (l.take k) (l.drop k)
  rw [List.take_append_drop, h, Bool.false_and] at this
  exact this
/-! digits -/
def hexd (n : Nat) : UInt8 := if n < 10 then UInt8.ofNat (48 + n) else UInt8.ofNat (87 + n)
def hex2 (c : UInt8) : List UInt8 := [hexd (c.toNat / 16), hexd (c.toNat % 16)]
def hexs (l : List UInt8) : List UInt8 := l.flatMap hex2
def digs16 (l : List UInt8) : List UInt8 := if l = [] then [45] else hexs l
theorem hexs_length (l : List UInt8) : (hexs l).length = 2 * l.length := by
  induction l with
  | nil => rfl
  | cons c l ih => simp only [hexs, List.flatMap_cons, List.length_append, hex2, List.length_cons, List.length_nil] at ih ⊢; omega
theorem hexs_append (a b : List UInt8) : hexs (a ++ b) = hexs a ++ hexs b := by simp [hexs]
theorem hexs_succ {l : List UInt8} {k : Nat} {c : UInt8} (h : l[k]? = some c) : hexs (l.take (k + 1)) = hexs (l.take k) ++ hex2 c := by
  rw [List.take_add_one, h, hexs_append]; simp [hexs]
theorem digs16_length (l : List UInt8) : (digs16 l).length ≤ 2 * l.length + 1 := by
  unfold digs16; split
  · simp
  · rw [hexs_length]; omega
/-! lines -/
def wDrv : List UInt8 := [100, 114, 118, 32]
def wClass : List UInt8 := [99, 108, 97, 115, 115, 32]
def wSrc : List UInt8 := [115, 114, 99, 32]
def wRun : List UInt8 := [114, 117, 110, 32]
def lineT (x : Nam) : List UInt8 := if x.2.2.2 then wClass ++ x.1 ++ [32] ++ letters x.2.2.1.1 else wSrc ++ x.1 ++ [32] ++ pathS x.2.1.1.1 x.2.1.1.2
def textD (d : Drv) : List UInt8 := wDrv ++ d.1 ++ [10] ++ d.2.1.flatMap (fun x => lineT x ++ [10]) ++ wRun ++ digs16 d.2.2 ++ [10]
def putE (d : Drv) : Nat := if canDrv d then (if (textD d).length ≤ 2000 then 0 else 3) else 2
def putB (d : Drv) : List UInt8 := if canDrv d then (if (textD d).length ≤ 2000 then textD d else []) else []
open Go.RowKit
theorem leq_not (a b : List UInt8) : (Op.bytesLess a b || a == b) = !Op.bytesLess b a := by
  by_cases e : a = b
  · subst e; simp [bytesLess_irrefl]
  · cases h : Op.bytesLess a b with
    | true => simp [bytesLess_asymm _ _ h]
    | false => simp [bytesLess_total _ _ e h, e]
/-! in memory -/
def DrvAt (w : World) (v : Value) (d : Drv) : Prop := ∃ vi vr, v = .agg #[.string ⟨d.1.toArray⟩, vi, vr] ∧ NamsAt w vi d.2.1 ∧ BytesAt w vr d.2.2
theorem DrvAt.below {w w' : World} {v : Value} {d : Drv} (h : DrvAt w v d) (hb : Below w.heap.size w w') : DrvAt w' v d := by
  obtain ⟨vi, vr, e, h1, h2⟩ := h
  exact ⟨vi, vr, e, h1.below hb, h2.below hb⟩
/-- what lies in a derivation's block -/
structure DrvL (w : World) (g : Nat) (n : List UInt8) (vi vr : Value) : Prop where
  all : LoadsL Try.prog w 25 (some ⟨g, 0, none⟩) (.agg #[.string ⟨n.toArray⟩, vi, vr])
  name : LoadsL Try.prog w 9 (some ⟨g, 0, none⟩) (.string ⟨n.toArray⟩)
  inp : LoadsL Try.prog w 22 (some ⟨g, 1, none⟩) vi
  rcp : LoadsL Try.prog w 23 (some ⟨g, 2, none⟩) vr
theorem DrvL.of_blk {w : World} {g : Nat} {n : List UInt8} {vi vr : Value} (h : Blk w g 25 #[.string ⟨n.toArray⟩, vi, vr]) : DrvL w g n vi vr where
  all := h.loads (by kernel_rfl : Try.prog.underlying 25 = some (.struct (Try.prog.fieldsOf 25))) rfl (by kernel_rfl)
  name := h.one 0 rfl Try.underlying9 rfl
  inp := h.one 1 rfl (by kernel_rfl : Try.prog.underlying 22 = some (.slice 64)) rfl
  rcp := h.one 2 rfl (by kernel_rfl : Try.prog.underlying 23 = some (.slice 5)) rfl
theorem DrvL.below {w w' : World} {g : Nat} {n : List UInt8} {vi vr : Value} (h : DrvL w g n vi vr) (hb : Below w.heap.size w w') : DrvL w' g n vi vr := ⟨h.all.below hb, h.name.below hb, h.inp.below hb, h.rcp.below hb⟩
/-- what lies in a named input's block -/
structure NamB (w : World) (g : Nat) (x : Nam) : Prop where
  all : LoadsL Try.prog w 64 (some ⟨g, 0, none⟩) (.agg (nmC x))
  name : LoadsL Try.prog w 9 (some ⟨g, 0, none⟩) (.string ⟨x.1.toArray⟩)
  is : LoadsL Try.prog w 4 (some ⟨g, 42, none⟩) (.bool x.2.2.2)
  src : LoadsL Try.prog w 40 (some ⟨g, 1, none⟩) (.agg (pC x.2.1.1.1 x.2.1.1.2))
  sname : LoadsL Try.prog w 9 (some ⟨g, 21, none⟩) (.string ⟨x.2.1.1.2.toArray⟩)
  cls : LoadsL Try.prog w 38 (some ⟨g, 22, none⟩) (.agg (hC x.2.2.1.1))
theorem NamB.of_blk {w : World} {g : Nat} {x : Nam} (h : Blk w g 64 (nmC x)) : NamB w g x :=
  ⟨(NamL.of_blk h).all, (NamL.of_blk h).name, (NamL.of_blk h).is, (NamL.of_blk h).src, (NamL.of_blk h).sname, (NamL.of_blk h).cls⟩
theorem NamB.below {w w' : World} {g : Nat} {x : Nam} (h : NamB w g x) (hb : Below w.heap.size w w') : NamB w' g x :=
  ⟨h.all.below hb, h.name.below hb, h.is.below hb, h.src.below hb, h.sname.below hb, h.cls.below hb⟩
theorem build_zP (w : World) : (Instr.build 40 #[]).run Try.prog w = .ok (.agg (pC zP.1.1 zP.1.2)) w := by kernel_rfl
theorem build_zH (w : World) : (Instr.build 38 #[]).run Try.prog w = .ok (.agg (hC zH.1)) w := by kernel_rfl
theorem beqH (x y : H20) : (x.1 == y.1) = decide (x = y) := by rw [Bool.eq_iff_iff]; simp [Subtype.ext_iff]
theorem eqlH (x y : H20) (w : World) : (binOp .eql 38 (.agg (hC x.1)) (.agg (hC y.1))).run Try.prog w = .ok (.bool (decide (x = y))) w := by rw [eql_hash _ _ x.2 y.2, beqH]
theorem neqH (x y : H20) (w : World) : (binOp .neq 38 (.agg (hC x.1)) (.agg (hC y.1))).run Try.prog w = .ok (.bool (!decide (x = y))) w := by
  rw [run_neq_struct, eqlIn_hash 9998 _ _ x.2 y.2, beqH]; rfl
theorem eqlP (x y : P20) (w : World) : (binOp .eql 40 (.agg (pC x.1.1 x.1.2)) (.agg (pC y.1.1 y.1.2))).run Try.prog w = .ok (.bool (decide (x = y))) w := by rw [run_eql_struct, eqlIn_path 9997]; rfl
theorem neqP (x y : P20) (w : World) : (binOp .neq 40 (.agg (pC x.1.1 x.1.2)) (.agg (pC y.1.1 y.1.2))).run Try.prog w = .ok (.bool (!decide (x = y))) w := by rw [run_neq_struct, eqlIn_path 9997]; rfl
end Go.Proofs.Ytfgjepfmcmppaaa
