/- (of general use) wire.begin. (Several texts in one.) -/
import Derived.Test.YtfiadgdinhmgbaaGreatDoorEAI
import Derived.Test.YtfiadgdinhmgbaaGreatDoorEAH
import Derived.Lib.ConvBytes
import Derived.Laws.IdiomStrings
import Derived.Laws.BytesArg
import Derived.StillTailTactics
import Derived.Test.YtfiadgdinhmgbaaGreatDoorEAE
import Derived.Test.YtfiadgdinhmgbaaGreatDoorEAA
import Derived.Test.YtfiadgdinhmgbaaGreatDoorShelf
/-! resolve.Resolved, resolve.Input: cells, elements, whether one can be. -/
namespace Go.Proofs.YtfiadgdinhmgbaaGreatDoor
open Go.RowKit Pl Go.Agg
abbrev Rin : Type := List UInt8 × P20
abbrev Rv : Type := List UInt8 × List Rin × List UInt8
instance : DecidableEq Rin := inferInstance
instance : DecidableEq (List Rin × List UInt8) := inferInstance
instance : DecidableEq Rv := inferInstance
def riC (x : Rin) : Array Value := #[.string ⟨x.1.toArray⟩] ++ pC x.2.1.1 x.2.1.2
theorem riC_size (x : Rin) : (riC x).size = 22 := by simp [riC, pC_size, x.2.2]
theorem riC_one (x : Rin) : (riC x).all (·.oneCell') = true := by
 rw [riC, Array.all_append, pC_one]; simp [Value.oneCell']
theorem riC_name (x : Rin) : (riC x)[0]? = some (.string ⟨x.1.toArray⟩) := by rw [riC, Array.getElem?_append_left (by simp)]; rfl
theorem riC_path (x : Rin) (j : Nat) (v : Value) (h : (pC x.2.1.1 x.2.1.2)[j]? = some v) : (riC x)[1 + j]? = some v := by
 rw [riC, Array.getElem?_append_right (by simp)]; simpa using h
theorem riC_hash (x : Rin) (j : Nat) (v : Value) (h : (hC x.2.1.1)[j]? = some v) : (riC x)[1 + j]? = some v := by
 refine riC_path x j v ?_
 have := (Array.getElem?_eq_some_iff.1 h).1
 rw [show pC x.2.1.1 x.2.1.2 = hC x.2.1.1 ++ #[.string ⟨x.2.1.2.toArray⟩] from rfl, Array.getElem?_append_left this]; exact h
def zR : Rin := ([], ⟨(z20, []), rfl⟩)
structure RinL (w : World) (p : Addr) (x : Rin) : Prop where
 name : LoadsL Tryz.prog w 9 (some (p.add 0)) (.string ⟨x.1.toArray⟩)
 path : LoadsL Tryz.prog w 165 (some (p.add 1)) (.agg (pC x.2.1.1 x.2.1.2))
 pname : LoadsL Tryz.prog w 9 (some ((p.add 1).add 20)) (.string ⟨x.2.1.2.toArray⟩)
theorem RinL.of_cells {w : World} {p : Addr} {x : Rin} (hp : p.block < w.heap.size) (h : ∀ j u, (riC x)[j]? = some u → w.cell? (p.add j) = some u) : RinL w p x where
 name := LoadsL.of_cell (h 0 _ (riC_name x)) Tryz.underlying9 rfl
 path := LoadsL.of_cells (by rw [add_block]; exact hp) (fun j v hj => by rw [add_add]; exact h _ _ (riC_path x j v hj)) pC_under rfl (pC_info _ _ x.2.2)
 pname := LoadsL.of_cell (by rw [add_add]; exact h _ _ (riC_path x 20 _ (pC_name _ _ x.2.2))) Tryz.underlying9 rfl
theorem RinL.below {w w' : World} {p : Addr} {x : Rin} (h : RinL w p x) (hb : Below w.heap.size w w') : RinL w' p x := ⟨h.name.below hb, h.path.below hb, h.pname.below hb⟩
theorem bytes_under : Tryz.prog.underlying 23 = some (.slice 5) := by kernel_rfl
/-! whether one can be -/
def canRi (x : Rin) (b : List UInt8) : Bool := isName x.1 && Op.bytesLess b x.1 && isName x.2.1.2
def canRs : List UInt8 → List Rin → Bool
 | _, [] => true
 | b, x :: l => canRi x b && canRs x.1 l
def canRv (r : Rv) : Bool := isName r.1 && decide (r.2.1.length ≤ 8) && decide (r.2.2.length ≤ 1000) && canRs [] r.2.1
def behindR (l : List Rin) : List UInt8 := match l.getLast? with | none => [] | some x => x.1
def lastOrR (b : List UInt8) (l : List Rin) : List UInt8 := match l.getLast? with | none => b | some x => x.1
theorem canRs_append (b : List UInt8) (l m : List Rin) : canRs b (l ++ m) = (canRs b l && canRs (lastOrR b l) m) := by
 induction l generalizing b with
 | nil => simp [canRs, lastOrR]
 | cons x l ih =>
  have : lastOrR b (x :: l) = lastOrR x.1 l := by
   unfold lastOrR
   cases l with
   | nil => rfl
   | cons y l => simp [List.getLast?_cons]
  simp only [List.cons_append, canRs, ih, this, Bool.and_assoc]
theorem lastOrR_nil (l : List Rin) : lastOrR [] l = behindR l := rfl
theorem canRs_succ {l : List Rin} {k : Nat} {x : Rin} (h : l[k]? = some x) : canRs [] (l.take (k + 1)) = (canRs [] (l.take k) && canRi x (behindR (l.take k))) := by
 rw [List.take_add_one, h, canRs_append, lastOrR_nil]
 simp [canRs]
theorem behindR_succ {l : List Rin} {k : Nat} {x : Rin} (h : l[k]? = some x) : behindR (l.take (k + 1)) = x.1 := by
 rw [List.take_add_one, h]
 simp [behindR]
theorem canRs_take {l : List Rin} {k : Nat} (h : canRs [] (l.take k) = false) : canRs [] l = false := by
 have := canRs_append [] (l.take k) (l.drop k)
 rw [List.take_append_drop, h, Bool.false_and] at this
 exact this
end Go.Proofs.YtfiadgdinhmgbaaGreatDoor
/-! '[]byte(s)' and 'string(b)' -/
namespace Go.Proofs.YtfiadgdinhmgbaaGreatDoor
open Go.RowKit Pl Go.Agg
theorem bytes_below (w : World) (e : TypeId) (s : ByteArray) : Below w.heap.size w (Lib.bytesWorld w e s) :=
 ⟨rfl, rfl, rfl, by rw [Lib.bytesWorld_size]; omega, fun k hk => Lib.bytesWorld_at_old w e s k hk⟩
def NewBytes (w w' : World) (v : Value) (s : List UInt8) : Prop :=
 ∃ cap fr, v = .slice (some ⟨w.heap.size, 0, none⟩) s.length cap ∧ s.length ≤ cap ∧ w'.heap[w.heap.size]? = some (.cells ((Lib.byteCells s).toArray ++ Array.replicate (cap - s.length) (.int .u8 0)) 5 fr) ∧ (fr.1 = cap ∧ fr.2 = cap + 1)
theorem NewBytes.slice {w w' : World} {v : Value} {s : List UInt8} (h : NewBytes w w' v s) : BytesAt w' v s := by
 obtain ⟨cap, fr, rfl, hc, hb, _⟩ := h
 refine .inr ⟨_, cap, rfl, Agg.heap_lt hb, fun j u hj => ?_⟩
 rw [add_plain, Nat.zero_add, cell_of_row _ _ _ _ _ _ hb]
 obtain ⟨k, a, i, h1, h2, rfl⟩ := Elem.flat_all EB s j u hj
 have hi : i = 0 := by have := (Array.getElem?_eq_some_iff.1 h2).1; have e : (EB.val a).cells.size = 1 := rfl; omega
 subst hi
 have hk := (List.getElem?_eq_some_iff.1 h1).1
 have hn : EB.n = 1 := rfl
 rw [hn, Nat.mul_one, Nat.add_zero, Array.getElem?_append_left (by simpa [Lib.byteCells] using hk)]
 have e2 : u = .int .u8 (a.toNat : Int) := by
  have : (EB.val a).cells[0]? = some (.int .u8 (a.toNat : Int)) := rfl
  rw [this] at h2
  exact (Option.some.inj h2).symm
 simp [Lib.byteCells, h1, e2]
theorem run_toBytes (w : World) (s : List UInt8) : ∃ v w', (convert 9 23 (.string ⟨s.toArray⟩)).run Tryz.prog w = .ok v w' ∧ NewBytes w w' v s ∧ Below w.heap.size w w' := by
 refine ⟨_, _, Lib.run_convert_string_bytes w 9 23 5 ⟨s.toArray⟩ Tryz.underlying9 (by kernel_rfl) Tryz.underlying5, ?_, bytes_below _ _ _⟩
 have hsz : (⟨s.toArray⟩ : ByteArray).size = s.length := Agg.bytes_size s
 have hge := grownCap_ge w s.length 0 5
 refine ⟨grownCap w s.length 0 5, (grownCap w s.length 0 5, grownCap w s.length 0 5 + 1), by rw [hsz], hge, ?_, rfl, rfl⟩
 rw [Lib.bytesWorld_at_new]
 have e : Lib.bytesCells w 5 ⟨s.toArray⟩ = (Lib.byteCells s).toArray ++ Array.replicate (grownCap w s.length 0 5 - s.length) (.int .u8 0) := by
  simp [Lib.bytesCells, hsz, Lib.byteCells]
 have e2 : ((Lib.byteCells s).toArray ++ Array.replicate (grownCap w s.length 0 5 - s.length) (Value.int .u8 0)).size = grownCap w s.length 0 5 := by
  simp [Lib.byteCells]; omega
 rw [e, e2]
theorem run_toStr {w : World} {v : Value} {s : List UInt8} (h : BytesAt w v s) : (convert 23 9 v).run Tryz.prog w = .ok (.string ⟨s.toArray⟩) w := by
 rcases h with ⟨p, c, rfl, rfl⟩ | ⟨p, cap, rfl, hp, h⟩
 ·cases p with
  | none => exact run_convert_bytes_nil w 23 5 (by kernel_rfl) Tryz.underlying5 0 c 9 Tryz.underlying9
  | some p => exact run_convert_bytes_back w 23 9 5 p c [] (by kernel_rfl) Tryz.underlying5 Tryz.underlying9 (fun j hj => by simp at hj)
 ·refine run_convert_bytes_back w 23 9 5 p cap s (by kernel_rfl) Tryz.underlying5 Tryz.underlying9 fun j hj => ?_
  have := h (j * 1 + 0) (.int .u8 (s[j].toNat : Int)) (EB.flat_get s j s[j] 0 _ (List.getElem?_eq_getElem hj) rfl)
  rwa [Nat.mul_one, Nat.add_zero] at this
section
variable {ops : Array Oper} {rest : List Oper} {o : Oper} {a : Act} {w : World} {Q : Exit → Act → World → Prop}
theorem wpList_toBytes (s : List UInt8) (x : Operand) (ho : o.op = .convert 9 23 x) (hw : Region.wanted o (yielded ops a.tmps) = true) (hx : a.eval x = .string ⟨s.toArray⟩)
  (h : ∀ v' w', NewBytes w w' v' s → Below w.heap.size w w' → wpList Tryz.prog ops Q rest (a.put o.dst v') w') : wpList Tryz.prog ops Q (o :: rest) a w := by
 obtain ⟨v', w', hr, h1, h2⟩ := run_toBytes w s
 refine wpList_valw hw ?_ (h v' w' h1 h2)
 simp [execOp, ho, hx, hr]
theorem wpList_toStr {v : Value} {s : List UInt8} (hs : BytesAt w v s) (x : Operand) (ho : o.op = .convert 23 9 x) (hw : Region.wanted o (yielded ops a.tmps) = true) (hx : a.eval x = v)
  (h : wpList Tryz.prog ops Q rest (a.put o.dst (.string ⟨s.toArray⟩)) w) : wpList Tryz.prog ops Q (o :: rest) a w := by
 subst hx
 refine wpList_valw hw ?_ h
 simp [execOp, ho, run_toStr hs]
end
end Go.Proofs.YtfiadgdinhmgbaaGreatDoor
/-! (of general use) spencekit.mark, markByte; slices of slices of bytes -/
namespace Go.Agg
open Go.RowKit
variable {P : Program}
theorem wpStill_loadL {w : World} {ops : Array Oper} {rest : List Oper} {o : Oper} {a : Act} {Q : Act → Prop} {ty : TypeId} {p : Option Addr} {v : Value} (h : LoadsL P w ty p v) (hw : Region.wanted o (yielded ops a.tmps) = true) (x : Operand) (ho : o.op = .load ty x) (hx : a.eval x = .pointer p)
  (hk : wpStill P ops w Q rest (a.put o.dst v)) : wpStill P ops w Q (o :: rest) a := wpStill_load hw ty x ho _ hx v h.now hk
theorem wpList_store {w w' : World} {ops : Array Oper} {rest : List Oper} {o : Oper} {a : Act} {Q : Exit → Act → World → Prop} (hg : o.guard = none) (hd : o.dst = none) (ty : TypeId) (x y : Operand) (ho : o.op = .store ty x y) (p v : Value) (hx : a.eval x = p) (hy : a.eval y = v)
  (hrun : (Instr.storeAt ty p v).run P w = .ok () w') (h : wpList P ops Q rest a w') : wpList P ops Q (o :: rest) a w := by
 refine wpList_skp hg hd ?_ h
 simp [execOp, ho, hx, hy, hrun]
end Go.Agg
namespace Go.Proofs.YtfiadgdinhmgbaaGreatDoor
open Go.RowKit Pl Go.Agg
def mkB (k i : Nat) : UInt8 := UInt8.ofNat ((1000003 * (k + 7) + i) * 11400714819323198485 % 18446744073709551616 / 72057594037927936)
theorem mkB_int (k i : Nat) : IntKind.u64.wrap ((1000003 * ((k : Int) + 7) + (i : Int)) * 11400714819323198485) / 72057594037927936 % 256 = ((mkB k i).toNat : Int) := by
 have e : (1000003 * ((k : Int) + 7) + (i : Int)) * 11400714819323198485 = (((1000003 * (k + 7) + i) * 11400714819323198485 : Nat) : Int) := by simp
 rw [e]
 unfold mkB
 generalize (1000003 * (k + 7) + i) * 11400714819323198485 = n
 rw [show IntKind.u64.wrap (n : Int) = ((n % 18446744073709551616 : Nat) : Int) by simp [IntKind.wrap, IntKind.signed, IntKind.bits]]
 simp only [UInt8.toNat_ofNat']
 omega
theorem ret_u8 {a b : Int} (h : a = b) : Ending.returned (.int .u8 a) = .returned (.int .u8 b) := by rw [h]
def marks (k n : Nat) : List UInt8 := (List.range n).map (mkB k)
theorem marks_length (k n : Nat) : (marks k n).length = n := by simp [marks]
theorem marks_succ (k n : Nat) : marks k (n + 1) = marks k n ++ [mkB k n] := by simp [marks, List.range_succ]
theorem marks_get (k n i : Nat) (h : i < n) : (marks k n)[i]? = some (mkB k i) := by simp [marks, h]
def EBB : Elem Tryz.prog SV where
 ty := 23
 st := 49
 n := 1
 bytes := 24
 val := fun v => v.1
 zero := .slice none 0 0
 pos := by omega
 small := by omega
 size := fun v => by rw [sv_cells]; rfl
 one := fun v u hu => by
  rw [sv_cells] at hu
  obtain rfl : u = v.1 := by simpa using hu
  exact sv_one v
 zsize := rfl
 slice := by kernel_rfl
 info := info_of (by kernel_rfl) (by kernel_rfl) (by kernel_rfl)
 load := fun w a v hp h => LoadsL.of_cell (by have := h 0 v.1 (by rw [sv_cells]; rfl); rwa [show a.add 0 = a from rfl] at this) (by kernel_rfl : Tryz.prog.underlying 23 = some (.slice 5)) rfl
abbrev BBAt (w : World) (v : Value) (l : List SV) : Prop := SliceOf EBB w v l
theorem bb_len {w : World} {v : Value} {l : List SV} (h : BBAt w v l) (W : World) : (Builtin.len_ #[49] 3 #[v]).run Tryz.prog W = .ok (.int .i64 (l.length : Int)) W := h.len W
theorem bb_at {w : World} {v : Value} {l : List SV} (h : BBAt w v l) (k : Nat) (x : SV) (hx : l[k]? = some x) :
  ∃ p : Addr, (∀ W, (Instr.indexAt 49 v (.int .i64 (k : Int))).run Tryz.prog W = .ok (.pointer (some p)) W) ∧ LoadsL Tryz.prog w 23 (some p) x.1 := by
 obtain ⟨p, h1, _, _, h4⟩ := h.at_ k x hx
 exact ⟨p, h1, h4⟩
theorem RoomN.blen {w : World} {v : Value} {l : List UInt8} (h : RoomN EB w v l) (W : World) : (Builtin.len_ #[23] 3 #[v]).run Tryz.prog W = .ok (.int .i64 (l.length : Int)) W := h.slice.len W
end Go.Proofs.YtfiadgdinhmgbaaGreatDoor
/-! Frames of bytes: the plain law. -/
namespace Go.Agg
def encN (n : Nat) : List UInt8 := if h : 128 ≤ n then UInt8.ofNat (n % 128 + 128) :: encN (n / 128) else [UInt8.ofNat n]
termination_by n
decreasing_by omega
theorem encN_lt {n : Nat} (h : n < 128) : encN n = [UInt8.ofNat n] := by rw [encN, dif_neg (by omega)]
theorem encN_ge {n : Nat} (h : 128 ≤ n) : encN n = UInt8.ofNat (n % 128 + 128) :: encN (n / 128) := by rw [encN, dif_pos h]
def begGo : Nat → Nat → List UInt8 → Int × Nat
 | k, _, [] => if k = 3 then (-1, 0) else (0, 0)
 | k, n, c :: t => if k = 3 then (-1, 0) else
  if 65536 < n + c.toNat % 128 * 128 ^ k ∨ (c = 0 ∧ 0 < k) then (-1, 0) else
  if c.toNat < 128 then ((k : Int) + 1, n + c.toNat % 128 * 128 ^ k) else begGo (k + 1) (n + c.toNat % 128 * 128 ^ k) t
def beg (b : List UInt8) : Int × Nat := begGo 0 0 b
theorem begGo_append {x : List UInt8} : ∀ {k n : Nat} (y : List UInt8), (begGo k n x).1 ≠ 0 → begGo k n (x ++ y) = begGo k n x := by
 induction x with
 | nil =>
  intro k n y h
  by_cases hk : k = 3
  ·cases y <;> simp [begGo, hk]
  ·simp [begGo, hk] at h
 | cons c t ih =>
  intro k n y h
  simp only [List.cons_append, begGo] at h ⊢
  split
  ·rfl
  ·split
   ·rfl
   ·split
    ·rfl
    ·rename_i h1 h2 h3
     rw [if_neg h1, if_neg h2, if_neg h3] at h
     exact ih y h
theorem begGo_le {x : List UInt8} : ∀ {k n : Nat}, k ≤ 3 → (begGo k n x).1 ≤ k + x.length ∧ (0 ≤ (begGo k n x).1 → (begGo k n x).1 ≠ 0 → 1 ≤ (begGo k n x).1) ∧ (begGo k n x).1 ≤ 3 ∧ (begGo k n x).2 ≤ 65536 ∧ -1 ≤ (begGo k n x).1 := by
 induction x with
 | nil => intro k n hk; simp only [begGo]; split <;> simp <;> omega
 | cons c t ih =>
  intro k n hk
  simp only [begGo]
  split
  ·simp; omega
  ·split
   ·simp; omega
   ·split
    ·simp; omega
    ·have := ih (k := k + 1) (n := n + c.toNat % 128 * 128 ^ k) (by omega)
     simp only [List.length_cons]
     omega
theorem beg_le (x : List UInt8) : (beg x).1 ≤ x.length := by have := (begGo_le (x := x) (k := 0) (n := 0) (by omega)).1; simpa [beg] using this
theorem beg_most (x : List UInt8) : (beg x).2 ≤ 65536 := (begGo_le (x := x) (k := 0) (n := 0) (by omega)).2.2.2.1
theorem beg_three (x : List UInt8) : (beg x).1 ≤ 3 := (begGo_le (x := x) (k := 0) (n := 0) (by omega)).2.2.1
def frames (b : List UInt8) : Option (List (List UInt8) × List UInt8) :=
 if _h : (beg b).1 < 0 then none
 else if _h2 : (beg b).1 = 0 ∨ b.length < (beg b).1.toNat + (beg b).2 then some ([], b)
 else (frames (b.drop ((beg b).1.toNat + (beg b).2))).map fun x => ((b.drop (beg b).1.toNat).take (beg b).2 :: x.1, x.2)
termination_by b.length
decreasing_by simp only [List.length_drop]; omega
theorem frames_wrong {b : List UInt8} (h : (beg b).1 < 0) : frames b = none := by rw [frames, dif_pos h]
theorem frames_end {b : List UInt8} (h : ¬ (beg b).1 < 0) (h2 : (beg b).1 = 0 ∨ b.length < (beg b).1.toNat + (beg b).2) : frames b = some ([], b) := by rw [frames, dif_neg h, dif_pos h2]
theorem frames_step {b : List UInt8} (h : ¬ (beg b).1 < 0) (h2 : ¬ ((beg b).1 = 0 ∨ b.length < (beg b).1.toNat + (beg b).2)) :
  frames b = (frames (b.drop ((beg b).1.toNat + (beg b).2))).map fun x => ((b.drop (beg b).1.toNat).take (beg b).2 :: x.1, x.2) := by conv => lhs; rw [frames, dif_neg h, dif_neg h2]
theorem frames_append : ∀ (n : Nat) (x y : List UInt8), x.length ≤ n → frames (x ++ y) = (frames x).bind fun p => (frames (p.2 ++ y)).map fun q => (p.1 ++ q.1, q.2) := by
 intro n
 induction n with
 | zero =>
  intro x y h
  obtain rfl : x = [] := List.length_eq_zero_iff.1 (by omega)
  have h0 : beg [] = (0, 0) := rfl
  rw [frames_end (b := []) (by rw [h0]; omega) (.inl (by rw [h0]))]
  simp
 | succ n ih =>
  intro x y h
  by_cases h1 : (beg x).1 < 0
  ·have hb : beg (x ++ y) = beg x := begGo_append y (by unfold beg at h1; omega)
   rw [frames_wrong h1, frames_wrong (by rw [hb]; exact h1)]
   rfl
  ·by_cases h2 : (beg x).1 = 0 ∨ x.length < (beg x).1.toNat + (beg x).2
   ·rw [frames_end h1 h2]; simp
   ·have hb : beg (x ++ y) = beg x := begGo_append y (by unfold beg at h1 h2; omega)
    have hl : (beg x).1.toNat + (beg x).2 ≤ x.length := by omega
    have hd : (x ++ y).drop ((beg x).1.toNat + (beg x).2) = x.drop ((beg x).1.toNat + (beg x).2) ++ y := List.drop_append_of_le_length hl
    have ht : ((x ++ y).drop (beg x).1.toNat).take (beg x).2 = (x.drop (beg x).1.toNat).take (beg x).2 := by
     rw [List.drop_append_of_le_length (by omega), List.take_append_of_le_length (by simp; omega)]
    rw [frames_step h1 h2, frames_step (by rw [hb]; exact h1) (by rw [hb]; simp only [List.length_append]; omega), hb, hd, ht, ih _ y (by simp only [List.length_drop]; omega)]
    cases frames (x.drop ((beg x).1.toNat + (beg x).2)) with
    | none => rfl
    | some p =>
     simp only [Option.map_some, Option.bind_some]
     cases frames (p.2 ++ y) <;> simp
theorem frames_two (b : List UInt8) (k : Nat) : frames b = (frames (b.take k)).bind fun p => (frames (p.2 ++ b.drop k)).map fun q => (p.1 ++ q.1, q.2) := by
 have := frames_append _ (b.take k) (b.drop k) (Nat.le_refl _)
 rwa [List.take_append_drop] at this
theorem toNat_of (n : Nat) (h : n < 256) : (UInt8.ofNat n).toNat = n := by simp; omega
theorem beg_enc {n : Nat} (h : n ≤ 65536) (y : List UInt8) : beg (encN n ++ y) = (((encN n).length : Int), n) := by
 have one : ∀ (k m v : Nat), k < 3 → v < 128 → (v = 0 → k = 0) → m + v * 128 ^ k ≤ 65536 → ∀ t, begGo k m (UInt8.ofNat v :: t) = ((k : Int) + 1, m + v * 128 ^ k) := by
  intro k m v hk hv h0 hm t
  have e := toNat_of v (by omega)
  have hz : UInt8.ofNat v = 0 → v = 0 := fun h => by have := congrArg UInt8.toNat h; rw [e] at this; simpa using this
  have h1 : ¬ (65536 < m + v * 128 ^ k ∨ (UInt8.ofNat v = 0 ∧ 0 < k)) := by
   rintro (h | ⟨h, h'⟩)
   ·omega
   ·have := h0 (hz h); omega
  simp only [begGo, e, Nat.mod_eq_of_lt hv]
  rw [if_neg (by omega), if_neg h1, if_pos hv]
 have more : ∀ (k m v : Nat), k < 3 → v < 128 → m + v * 128 ^ k ≤ 65536 → ∀ t, begGo k m (UInt8.ofNat (v + 128) :: t) = begGo (k + 1) (m + v * 128 ^ k) t := by
  intro k m v hk hv hm t
  have e := toNat_of (v + 128) (by omega)
  have hm2 : (v + 128) % 128 = v := by omega
  have hz : ¬ UInt8.ofNat (v + 128) = 0 := fun h => by have := congrArg UInt8.toNat h; rw [e] at this; simp at this
  have h1 : ¬ (65536 < m + v * 128 ^ k ∨ (UInt8.ofNat (v + 128) = 0 ∧ 0 < k)) := by
   rintro (h | ⟨h, h'⟩)
   ·omega
   ·exact hz h
  simp only [begGo, e, hm2]
  rw [if_neg (by omega), if_neg h1, if_neg (by omega)]
 unfold beg
 by_cases h1 : n < 128
 ·rw [encN_lt h1, List.singleton_append, one 0 0 n (by omega) h1 (by omega) (by omega)]
  simp
 ·rw [encN_ge (by omega), List.cons_append, more 0 0 (n % 128) (by omega) (by omega) (by omega)]
  by_cases h2 : n / 128 < 128
  ·rw [encN_lt h2, List.singleton_append, one 1 _ (n / 128) (by omega) h2 (by omega) (by omega)]
   simp; omega
  ·rw [encN_ge (by omega), List.cons_append, more 1 _ (n / 128 % 128) (by omega) (by omega) (by omega)]
   have h3 : n / 128 / 128 < 128 := by omega
   rw [encN_lt h3, List.singleton_append, one 2 _ (n / 128 / 128) (by omega) h3 (by omega) (by omega)]
   simp; omega
def framed (l : List (List UInt8)) : List UInt8 := l.flatMap fun b => encN b.length ++ b
theorem frames_framed (l : List (List UInt8)) (h : ∀ b ∈ l, b.length ≤ 65536) : frames (framed l) = some (l, []) := by
 induction l with
 | nil =>
  have h0 : beg [] = (0, 0) := rfl
  exact frames_end (b := []) (by rw [h0]; omega) (.inl (by rw [h0]))
 | cons b l ih =>
  have hb : beg (framed (b :: l)) = (((encN b.length).length : Int), b.length) := by
   simp only [framed, List.flatMap_cons, List.append_assoc]
   exact beg_enc (h b (by simp)) _
  have hpos : 0 < (encN b.length).length := by
   rw [encN]; split <;> simp
  have hl : (framed (b :: l)).length = (encN b.length).length + b.length + (framed l).length := by simp [framed, Nat.add_assoc]
  rw [frames_step (by rw [hb]; omega) (by rw [hb, hl]; simp only [Int.toNat_natCast]; omega), hb]
  have e1 : (framed (b :: l)).drop ((encN b.length).length + b.length) = framed l := by
   simp only [framed, List.flatMap_cons]
   rw [← List.length_append, List.drop_left]
  have e2 : ((framed (b :: l)).drop (encN b.length).length).take b.length = b := by
   simp only [framed, List.flatMap_cons, List.append_assoc]
   rw [List.drop_left, List.take_left]
  simp only [Int.toNat_natCast, e1, e2, ih (fun c hc => h c (by simp [hc]))]
  rfl
end Go.Agg
/-! code.Maker's block; what a step of a maker leaves alone. -/
namespace Go.Agg
open Go.RowKit
theorem encN_len' : ∀ (m n : Nat), 0 < m → n < 128 ^ m → (encN n).length ≤ m := by
 intro m
 induction m with
 | zero => intro n h; omega
 | succ m ih =>
  intro n _ hn
  by_cases h : n < 128
  ·rw [encN_lt h]; simp
  ·rw [encN_ge (by omega), List.length_cons]
   have hm : 0 < m := by
    rcases Nat.eq_zero_or_pos m with h0 | h0
    ·subst h0; simp at hn; omega
    ·exact h0
   have := ih (n / 128) hm (by rw [Nat.pow_succ] at hn; exact Nat.div_lt_of_lt_mul (by rw [Nat.mul_comm]; exact hn))
   omega
theorem encN_len {n : Nat} (h : n ≤ 1099511627776) : (encN n).length ≤ 6 := encN_len' 6 n (by omega) (by omega)
section
variable {P : Program} {α : Type} {E : Elem P α} {ops : Array Oper} {rest : List Oper} {o o2 : Oper} {a : Act} {w : World} {Q : Exit → Act → World → Prop} {base : Nat} {v : Value} {l : List α}
def Grew (w : World) (v v' : Value) : Prop := ∀ k, v'.ownBlock = some k → v.ownBlock = some k ∨ w.heap.size ≤ k
theorem Grew.refl (w : World) (v : Value) : Grew w v v := fun _ h => .inl h
theorem grew_of {w0 w : World} {v v' : Value} (hs : w0.heap.size ≤ w.heap.size) (h : v'.ownBlock = v.ownBlock ∨ v'.ownBlock = some w.heap.size) : Grew w0 v v' := fun k hk => by
 rcases h with h | h
 ·rw [h] at hk; exact .inl hk
 ·rw [h] at hk; obtain rfl := Option.some.inj hk; exact .inr hs
theorem wpList_pushO (hg : o.guard = none) (hg2 : o2.guard = none) (d : Tmp) (hd : o.dst = some d) (y : Operand) (ho : o.op = .buildSlice E.st 1 #[(0, y)]) (s : Operand)
  (ho2 : o2.op = .call { callee := .builtin .append, args := #[s, .tmp d], argTypes := #[E.st, E.st] }) (x : α) (hy : a.eval y = E.val x) (hs : ∀ p, (a.put o.dst p).eval s = v) (hsz : d < a.tmps.size)
  (hown : Own E base w v l) (h63 : l.length + 1 ≤ 1099511627776 / 8) (hby : E.bytes ≤ 1000) (hbase : base ≤ w.heap.size)
  (h : ∀ u v' w', Own E base w' v' (l ++ [x]) → Pushed E base w w' v → Grew w v v' → wpList P ops Q rest ((a.put o.dst u).put o2.dst v') w') : wpList P ops Q (o :: o2 :: rest) a w := by
 refine wpList_val hg (v := .slice (some ⟨w.heap.size, 0, none⟩) 1 1) (w' := w.alloc (.cells (E.val x).cells E.ty)) (by simp [execOp, ho, hy, run_slice_one]) ?_
 have hb1 : Below w.heap.size w (w.alloc (.cells (E.val x).cells E.ty)) := (Below.refl _ _).alloc (Nat.le_refl _) _
 have hown1 := hown.below hb1
 obtain ⟨v', w', hrun, h2, h3, h4, _⟩ := run_append (ty := o2.type) hown1 _ [x] (slice_of_block (Blk.new w E.ty (E.val x).cells)) (by simpa using h63) hby (Nat.le_trans hbase hb1.size)
 have hp := pushed_of hown1 h3
 have hpu : Pushed E base w w' v := {
  below := fun B hB hs => (hb1.mono hs).trans (hp.below B hB (Nat.le_trans hs hb1.size))
  other := fun g hlt hne => (hp.other g (Nat.lt_of_lt_of_le hlt hb1.size) hne).trans (hb1.block g hlt)
  blk := fun g t cs fr hne hb => hp.blk g t cs fr hne (keep' hb1 hb)
  map := fun g es c hb => hp.map g es c (keep' hb1 hb)
  size := Nat.le_trans hb1.size hp.size }
 refine wpList_val hg2 (v := v') (w' := w') ?_ (h _ v' w' h2 hpu (grew_of hb1.size h4))
 have e2 : (a.put o.dst (.slice (some ⟨w.heap.size, 0, none⟩) 1 1)).eval (.tmp d) = .slice (some ⟨w.heap.size, 0, none⟩) 1 1 := by rw [hd]; simp [Act.put, Act.eval, hsz]
 simp [execOp, ho2, resolve, invoke, builtin, hs, e2, hrun]
theorem wpList_appendO (hg : o.guard = none) (s x : Operand) (ho : o.op = .call { callee := .builtin .append, args := #[s, x], argTypes := #[E.st, E.st] }) (vx : Value) (hs : a.eval s = v) (hx : a.eval x = vx) (m : List α)
  (hown : Own E base w v l) (hm : SliceOf E w vx m) (h63 : l.length + m.length ≤ 1099511627776 / 8) (hby : E.bytes ≤ 1000) (hbase : base ≤ w.heap.size)
  (h : ∀ v' w', Own E base w' v' (l ++ m) → Pushed E base w w' v → Grew w v v' → wpList P ops Q rest (a.put o.dst v') w') : wpList P ops Q (o :: rest) a w := by
 obtain ⟨v', w', hrun, h2, h3, h4, _⟩ := run_append (ty := o.type) hown _ m hm h63 hby hbase
 refine wpList_val hg (v := v') (w' := w') ?_ (h v' w' h2 (pushed_of hown h3) (grew_of (Nat.le_refl _) h4))
 simp [execOp, ho, resolve, invoke, builtin, hs, hx, hrun]
theorem Pushed.only {w' : World} (h : Pushed E base w w' v) : Only (fun k => v.ownBlock = some k) w w' where
 os := (h.below 0 (Nat.zero_le _) (Nat.zero_le _)).os
 tape := (h.below 0 (Nat.zero_le _) (Nat.zero_le _)).tape
 output := (h.below 0 (Nat.zero_le _) (Nat.zero_le _)).output
 size := h.size
 block := fun k hk hne => h.other k hk (fun e => hne e.symm)
structure MkStep (g : Nat) (w w' : World) (v v' : Value) : Prop where
 only : Only (fun k => k = g ∨ v.ownBlock = some k) w w'
 grew : Grew w v v'
variable {g : Nat} {w1 w2 : World} {v1 v2 : Value}
theorem MkStep.refl (g : Nat) (w : World) (v : Value) : MkStep g w w v v := ⟨Only.refl _ _, Grew.refl _ _⟩
theorem MkStep.trans (h : MkStep g w w1 v v1) (k : MkStep g w1 w2 v1 v2) : MkStep g w w2 v v2 where
 only := h.only.trans k.only fun i hi hT => by
  rcases hT with rfl | hT
  ·exact .inl rfl
  ·rcases h.grew i hT with h | h
   ·exact .inr h
   ·omega
 grew := fun i hi => by
  rcases k.grew i hi with h1 | h1
  ·exact h.grew i h1
  ·exact .inr (Nat.le_trans h.only.size h1)
theorem MkStep.later (h : MkStep g w w1 v v1) (hb : Below w1.heap.size w1 w2) : MkStep g w w2 v v1 := ⟨h.only.trans (Only.of_below (S := fun _ => False) hb) (fun _ _ h => h.elim), h.grew⟩
theorem MkStep.of_below (hb : Below w.heap.size w w1) : MkStep g w w1 v v := ⟨(Only.of_below (S := fun _ => False) hb).mono (fun _ _ h => h.elim), Grew.refl _ _⟩
theorem MkStep.below (h : MkStep g w w1 v v1) (hg : g ≤ w.heap.size) (hv : ∀ k, v.ownBlock = some k → g ≤ k) : Below g w w1 := h.only.below hg fun i hi => by
 rcases hi with rfl | hi
 ·exact Nat.le_refl _
 ·exact hv i hi
def Off {β : Type} (F : Elem P β) (g : Nat) (w : World) (mv x : Value) (l : List β) : Prop := SliceOf F w x l ∧ (l = [] ∨ ∀ k, x.ownBlock = some k → k < w.heap.size ∧ k ≠ g ∧ mv.ownBlock ≠ some k)
theorem SliceOf.nil_any {β : Type} {F : Elem P β} {x : Value} (h : SliceOf F w x []) (w' : World) : SliceOf F w' x [] := by
 rcases h with ⟨p, c, rfl, _⟩ | ⟨p, cap, rfl, _⟩
 ·exact SliceOf.nil _ _ _
 ·exact SliceOf.nil _ _ _
theorem Off.step {β : Type} {F : Elem P β} {x : Value} {l : List β} (h : Off F g w v x l) (k : MkStep g w w1 v v1) : Off F g w1 v1 x l := by
 obtain ⟨h1, rfl | h2⟩ := h
 ·exact ⟨h1.nil_any _, .inl rfl⟩
 ·refine ⟨h1.onlyS k.only fun b hb hS => ?_, .inr fun b hb => ?_⟩
  ·obtain ⟨_, h3, h4⟩ := h2 b hb
   rcases hS with rfl | hS
   ·exact h3 rfl
   ·exact h4 hS
  ·obtain ⟨h5, h3, h4⟩ := h2 b hb
   refine ⟨Nat.lt_of_lt_of_le h5 k.only.size, h3, fun e => ?_⟩
   rcases k.grew b e with h | h
   ·exact h4 h
   ·omega
theorem Off.slice {β : Type} {F : Elem P β} {x : Value} {l : List β} (h : Off F g w v x l) : SliceOf F w x l := h.1
theorem Off.before {β : Type} {F : Elem P β} {w0 : World} {x : Value} {l : List β} (h : SliceOf F w0 x l) (hb : Below w0.heap.size w0 w) (hg : w0.heap.size ≤ g) (hv : ∀ k, v.ownBlock = some k → w0.heap.size ≤ k) : Off F g w v x l := by
 refine ⟨h.below hb, ?_⟩
 rcases h with ⟨_, _, _, rfl⟩ | ⟨p, cap, rfl, hp, _⟩
 ·exact .inl rfl
 ·refine .inr fun k hk => ?_
  obtain rfl : p.block = k := by simpa [Value.ownBlock] using hk
  have := hb.size
  exact ⟨by omega, by omega, fun e => by have := hv _ e; omega⟩
theorem Off.behind {β : Type} {F : Elem P β} {w0 : World} {x : Value} {l : List β} (h : SliceOf F w x l) (hx : ∀ k, x.ownBlock = some k → w0.heap.size ≤ k) (hg : g < w0.heap.size) (hv : ∀ k, v.ownBlock = some k → k < w0.heap.size) : Off F g w v x l := by
 refine ⟨h, ?_⟩
 rcases h with ⟨_, _, _, rfl⟩ | ⟨p, cap, rfl, hp, _⟩
 ·exact .inl rfl
 ·refine .inr fun k hk => ?_
  have hk' := hk
  obtain rfl : p.block = k := by simpa [Value.ownBlock] using hk
  have := hx _ hk'
  exact ⟨hp, by omega, fun e => by have := hv _ e; omega⟩
end
end Go.Agg
namespace Go.Proofs.YtfiadgdinhmgbaaGreatDoor
open Go.RowKit Pl Go.Agg
def mkC (v : Value) : Array Value := #[v, .bool false]
structure MkV (g : Nat) (w : World) (v : Value) (b : List UInt8) : Prop where
 blk : Blk w g 109 (mkC v)
 own : Own EB (g + 1) w v b
section
variable {g : Nat} {w w' : World} {v : Value} {b : List UInt8}
theorem MkV.load (h : MkV g w v b) : LoadsL Tryz.prog w 23 (some ⟨g, 0, none⟩) v :=
 h.blk.one (P := Tryz.prog) 0 rfl (by kernel_rfl : Tryz.prog.underlying 23 = some (.slice 5)) rfl
theorem MkV.bad (h : MkV g w v b) : LoadsL Tryz.prog w 4 (some ⟨g, 1, none⟩) (.bool false) :=
 h.blk.one (P := Tryz.prog) 1 rfl Tryz.underlying4 rfl
theorem MkV.below (h : MkV g w v b) (hb : Below w.heap.size w w') : MkV g w' v b := ⟨h.blk.below hb, h.own.below hb⟩
theorem MkV.ge (h : MkV g w v b) : ∀ k, v.ownBlock = some k → g ≤ k := fun k hk => by have := (h.own.block k hk).1; omega
theorem MkV.lt (h : MkV g w v b) : ∀ k, v.ownBlock = some k → k < w.heap.size := fun k hk => by
 obtain ⟨_, cur, hc⟩ := h.own.block k hk
 exact Agg.heap_lt hc
theorem MkV.put {w1 : World} {v1 : Value} {l : List UInt8} (h : MkV g w v b) (ho : Own EB (g + 1) w1 v1 l) (hp : Pushed EB (g + 1) w w1 v) (hgr : Grew w v v1) :
  ∃ w2, (Instr.storeAt 23 (.pointer (some ⟨g, 0, none⟩)) v1).run Tryz.prog w1 = .ok () w2 ∧ MkV g w2 v1 l ∧ MkStep g w w2 v v1 := by
 have h1 : Blk w1 g 109 (mkC v) := hp.blk g _ _ _ (by decide) h.blk
 obtain ⟨p, c, rfl⟩ := ho.slice.form
 refine ⟨_, h1.run_put 0 (by simp [mkC]) _ rfl rfl (by kernel_rfl), ⟨h1.set 0 _, ho.keep fun k cur t fr hk hb => ?_⟩, ⟨?_, hgr⟩⟩
 ·rw [Below.heap_setCell _ _ _ _ (by show k ≠ g; omega)]; exact hb
 ·refine (hp.only.mono fun _ _ h => .inr h).trans (T := fun k => k = g) ⟨rfl, rfl, rfl, by simp [World.setCell], fun k _ hk => Below.heap_setCell _ _ _ _ hk⟩ fun _ _ h => .inl h
theorem MkV.stepBelow {v1 : Value} (h : MkV g w v b) (hs : MkStep g w w' v v1) : Below g w w' := hs.below (Nat.le_of_lt h.blk.lt) h.ge
end
def EI : Elem Tryz.prog Nat where
 ty := 3
 st := 158
 n := 1
 bytes := 8
 val := fun c => .int .i64 (c : Int)
 zero := .int .i64 0
 pos := by omega
 small := by omega
 size := fun x => rfl
 one := fun x v hv => by
  obtain rfl : v = .int .i64 (x : Int) := by simpa [Value.cells] using hv
  rfl
 zsize := rfl
 slice := by kernel_rfl
 info := info_of (by kernel_rfl) (by kernel_rfl) (by kernel_rfl)
 load := fun w a x hp h => LoadsL.of_cell (by have := h 0 _ rfl; rwa [show a.add 0 = a from rfl] at this) Tryz.underlying3 rfl
theorem ints_len {w : World} {v : Value} {l : List Nat} (h : SliceOf EI w v l) (W : World) : (Builtin.len_ #[158] 3 #[v]).run Tryz.prog W = .ok (.int .i64 (l.length : Int)) W := h.len W
theorem int_at {w : World} {v : Value} {l : List Nat} (h : SliceOf EI w v l) (k : Nat) (x : Nat) (hx : l[k]? = some x) :
  ∃ p : Addr, (∀ W, (Instr.indexAt 158 v (.int .i64 (k : Int))).run Tryz.prog W = .ok (.pointer (some p)) W) ∧ LoadsL Tryz.prog w 3 (some p) (.int .i64 (x : Int)) := by
 obtain ⟨p, h1, _, _, h4⟩ := h.at_ k x hx
 exact ⟨p, h1, h4⟩
end Go.Proofs.YtfiadgdinhmgbaaGreatDoor
/-! code.Maker: numbers and texts as bytes. -/
namespace Go.Proofs.YtfiadgdinhmgbaaGreatDoor
open Go.RowKit Pl Go.Agg
theorem or128 (k : Nat) : bits .or .u8 ((k : Int) % 256) 128 = ((UInt8.ofNat (k % 128 + 128)).toNat : Int) := by
 have h : ∀ m : Nat, m < 256 → bits .or .u8 (m : Int) 128 = ((UInt8.ofNat (m % 128 + 128)).toNat : Int) := by decide +kernel
 have := h (k % 256) (by omega)
 rw [show k % 256 % 128 = k % 128 by omega] at this
 rw [← this]
 congr 1
set_option maxRecDepth 100000 in
set_option maxHeartbeats 1000000 in
theorem number_any (g n : Nat) (v0 : Value) (b : List UInt8) (w : World) (hn : n ≤ 1099511627776) (hb : b.length ≤ 16777216) (hm : MkV g w v0 b) :
  Calls Tryz.prog 129 #[.pointer (some ⟨g, 0, none⟩), .int .u64 (n : Int)] w fun e w' => (∃ r, e = .returned r) ∧ ∃ v', MkV g w' v' (b ++ encN n) ∧ MkStep g w w' v0 v' := by
 have HM0 := Lib.hid hm
 clear hm
 go_enter Tryz.func129, Tryz.ntmps129
 go_wp2_with fail
 go_loopw [1] (fun x wr => ∃ k : Nat, x = .int .u64 (k : Int) ∧ k ≤ 1099511627776 ∧ ∃ bs v, MkV g wr v bs ∧ bs ++ encN k = b ++ encN n ∧ MkStep g w wr v0 v) (fun x _ => (intOf x).toNat)
 case atStart => exact ⟨n, rfl, hn, b, v0, HM0.out, rfl, MkStep.refl _ _ _⟩
 case round =>
  obtain ⟨w1, rfl⟩ : ∃ w1 : World, w1 = wr := ⟨_, rfl⟩
  obtain ⟨k, rfl, hk, bs, v, hm, heq, hw⟩ := hrel
  have hbs : bs.length ≤ 33554432 := by
   have h1 := congrArg List.length heq
   have h2 := encN_len hn
   simp only [List.length_append] at h1
   omega
  have h63 : bs.length + 1 ≤ 1099511627776 / 8 := by omega
  have hbase : g + 1 ≤ w1.heap.size := hm.blk.lt
  have HM := Lib.hid hm
  have HO := Lib.hid hm.own
  have HEQ := Lib.hid heq
  have HW := Lib.hid hw
  clear hm heq hw
  by_cases hlt : 128 ≤ k
  ·have hI : (128 : Int) ≤ (k : Int) := by omega
   have hor := or128 k
   obtain ⟨c, hc⟩ : ∃ c, UInt8.ofNat (k % 128 + 128) = c := ⟨_, rfl⟩
   rw [hc] at hor
   have HE : Hid (bs ++ [c] ++ encN (k / 128) = b ++ encN n) := Lib.hid (by rw [← hc, ← HEQ.out, encN_ge hlt, List.append_assoc]; rfl)
   clear hlt hc
   go_wp2_with (first | (with_reducible refine wpList_loadL HM.out.load rfl _ rfl rfl ?_) | (refine Agg.wpList_pushO (E := EB) (base := g + 1) rfl rfl 16 rfl _ rfl _ rfl (c) rfl (fun _ => rfl) (by simp) HO.out h63 (by decide) hbase ?_; intro u1 v1 w2 ho1 hp1 hgr1; obtain ⟨w3, hrun, hmk, hst⟩ := MkV.put HM.out ho1 hp1 hgr1; have HMK := Lib.hid hmk; have HST := Lib.hid hst; clear ho1 hp1 hgr1 hmk hst) | (refine wpList_store rfl rfl 23 _ _ rfl (.pointer (some ⟨g, 0, none⟩)) _ rfl rfl hrun ?_))
   go_roundw
   case rel => exact ⟨k / 128, by go_num, by omega, _, _, HMK.out, HE.out, HW.out.trans HST.out⟩
   case measure => simp [intOf]; omega
  ·obtain ⟨c, rfl⟩ : ∃ c : UInt8, k = c.toNat := ⟨UInt8.ofNat k, by simp; omega⟩
   have hI : ¬ (128 : Int) ≤ (c.toNat : Int) := by omega
   have HE : Hid (bs ++ [c] = b ++ encN n) := Lib.hid (by rw [← HEQ.out, encN_lt (by omega), UInt8.ofNat_toNat])
   clear hlt
   go_wp2_with (first | (with_reducible refine wpList_loadL HM.out.load rfl _ rfl rfl ?_) | (refine Agg.wpList_pushO (E := EB) (base := g + 1) rfl rfl 27 rfl _ rfl _ rfl (c) rfl (fun _ => rfl) (by simp) HO.out h63 (by decide) hbase ?_; intro u1 v1 w2 ho1 hp1 hgr1; obtain ⟨w3, hrun, hmk, hst⟩ := MkV.put HM.out ho1 hp1 hgr1; have HMK := Lib.hid hmk; have HST := Lib.hid hst; clear ho1 hp1 hgr1 hmk hst) | (refine wpList_store rfl rfl 23 _ _ rfl (.pointer (some ⟨g, 0, none⟩)) _ rfl rfl hrun ?_))
   refine bodyPost_end (results_none rfl _ _ _) rfl ?_
   exact ⟨⟨_, rfl⟩, _, by rw [← HE.out]; exact HMK.out, HW.out.trans HST.out⟩
set_option maxRecDepth 100000 in
set_option maxHeartbeats 1000000 in
theorem allow_any (g n m : Nat) (v : Value) (b : List UInt8) (w : World) (hn : n ≤ m) (hm : m ≤ 1099511627776) (hv : MkV g w v b) :
  Calls Tryz.prog 128 #[.pointer (some ⟨g, 0, none⟩), .int .i64 (n : Int), .int .i64 (m : Int)] w fun e w' => e = .returned (.bool true) ∧ w' = w := by
 have HB := Lib.hid hv.bad
 clear hv
 have hI : ¬ (m : Int) < (n : Int) := by omega
 go_enter Tryz.func128, Tryz.ntmps128
 go_wp2_with (first | (with_reducible refine wpList_loadL HB.out rfl _ rfl rfl ?_))
 go_ret
 exact ⟨rfl, rfl⟩
set_option maxRecDepth 100000 in
set_option maxHeartbeats 1000000 in
theorem num_any (g : Nat) (v0 x : Value) (ns : List Nat) (b : List UInt8) (w : World) (hall : ∀ n ∈ ns, n ≤ 1099511627776) (hl : ns.length ≤ 16) (hb : b.length ≤ 8388608) (hx : Off EI g w v0 x ns) (hm : MkV g w v0 b) :
  Calls Tryz.prog 100 #[.pointer (some ⟨g, 0, none⟩), x] w fun e w' => e = .returned (.pointer (some ⟨g, 0, none⟩)) ∧ ∃ v', MkV g w' v' (b ++ ns.flatMap encN) ∧ MkStep g w w' v0 v' := by
 have HM0 := Lib.hid hm
 have hlx := fun W => ints_len hx.slice W
 have HX := Lib.hid hx
 clear hm hx
 go_enter Tryz.func100, Tryz.ntmps100
 go_wp2_with fail
 go_loopw [11] (fun i wr => ∃ k : Nat, k ≤ ns.length ∧ i = .int .i64 (k : Int) ∧ ∃ v, MkV g wr v (b ++ (ns.take k).flatMap encN) ∧ MkStep g w wr v0 v) (fun i _ => ns.length - (intOf i).toNat)
 case atStart => exact ⟨0, by omega, rfl, v0, by simpa using HM0.out, MkStep.refl _ _ _⟩
 case round =>
  obtain ⟨w1, rfl⟩ : ∃ w1 : World, w1 = wr := ⟨_, rfl⟩
  obtain ⟨k, hk, rfl, v, hm, hst⟩ := hrel
  have HM := Lib.hid hm
  have HS := Lib.hid hst
  clear hm hst
  by_cases hlt : k < ns.length
  ·obtain ⟨y, hyk⟩ : ∃ y, ns[k]? = some y := ⟨_, List.getElem?_eq_getElem hlt⟩
   have hy : y ≤ 1099511627776 := hall y (List.mem_of_getElem? hyk)
   obtain ⟨p, hadr, hld⟩ := int_at (HX.out.step HS.out).slice k y hyk
   have HL := Lib.hid hld
   have hbl : (b ++ (ns.take k).flatMap encN).length ≤ 16777216 := by
    have : ∀ l : List Nat, (∀ n ∈ l, n ≤ 1099511627776) → (l.flatMap encN).length ≤ l.length * 6 := by
     intro l
     induction l with
     | nil => intro _; simp
     | cons a l ih =>
      intro h
      have h1 := encN_len (h a (by simp))
      have h2 := ih fun n hn => h n (by simp [hn])
      simp only [List.flatMap_cons, List.length_append, List.length_cons]
      omega
    have h1 := this (ns.take k) fun n hn => hall n (List.mem_of_mem_take hn)
    simp only [List.length_append]
    have : (ns.take k).length ≤ 16 := by simp; omega
    omega
   have hfl : b ++ (ns.take k).flatMap encN ++ encN y = b ++ (ns.take (k + 1)).flatMap encN := by rw [List.take_add_one, hyk]; simp
   have HF := Lib.hid hfl
   have hbn : ((y : Int) % 18446744073709551616) = (y : Int) := by omega
   clear hld hyk hfl
   go_wp2_with (first | (with_reducible refine wpList_loadL HL.out rfl _ rfl rfl ?_))
   refine (allow_any g y 1099511627776 v _ w1 hy (by omega) HM.out).mono ?_
   rintro e w2 ⟨rfl, rfl⟩
   go_wp2_with fail
   refine (number_any g y v _ _ hy hbl HM.out).mono ?_
   rintro e w3 ⟨⟨r, rfl⟩, v3, hm3, hs3⟩
   rw [HF.out] at hm3
   have HM3 := Lib.hid hm3
   have HS3 := Lib.hid hs3
   clear hm3 hs3
   go_wp2_with fail
   go_roundw
   case rel => exact ⟨k + 1, by omega, by go_num, v3, HM3.out, HS.out.trans HS3.out⟩
   case measure => simp [intOf]; omega
  ·obtain rfl : k = ns.length := by omega
   have HMT := Lib.hid (show MkV g w1 v (b ++ ns.flatMap encN) by have := HM.out; rwa [List.take_length] at this)
   go_wp2_with fail
   go_ret
   exact ⟨rfl, v, HMT.out, HS.out⟩
set_option maxRecDepth 100000 in
set_option maxHeartbeats 1000000 in
theorem raw_any (g : Nat) (v x : Value) (l b : List UInt8) (w : World) (hb : b.length ≤ 16777216) (hl : l.length ≤ 16777216) (hx : SliceOf EB w x l) (hm : MkV g w v b) :
  Calls Tryz.prog 130 #[.pointer (some ⟨g, 0, none⟩), x] w fun e w' => e = .returned (.pointer (some ⟨g, 0, none⟩)) ∧ ∃ v', MkV g w' v' (b ++ l) ∧ MkStep g w w' v v' := by
 have HM := Lib.hid hm
 have HX := Lib.hid hx
 have HO := Lib.hid hm.own
 have h63 : b.length + l.length ≤ 1099511627776 / 8 := by omega
 have hbase : g + 1 ≤ w.heap.size := hm.blk.lt
 clear hm hx
 go_enter Tryz.func130, Tryz.ntmps130
 go_wp2_with (first | (with_reducible refine wpList_loadL HM.out.load rfl _ rfl rfl ?_) | (refine Agg.wpList_appendO (E := EB) (base := g + 1) rfl _ _ rfl x rfl rfl l HO.out HX.out h63 (by decide) hbase ?_; intro v1 w2 ho1 hp1 hgr1; obtain ⟨w3, hrun, hmk, hst⟩ := MkV.put HM.out ho1 hp1 hgr1; have HMK := Lib.hid hmk; have HST := Lib.hid hst; clear ho1 hp1 hgr1 hmk hst) | (refine wpList_store rfl rfl 23 _ _ rfl (.pointer (some ⟨g, 0, none⟩)) _ rfl rfl hrun ?_))
 go_ret
 exact ⟨rfl, v1, HMK.out, HST.out⟩
end Go.Proofs.YtfiadgdinhmgbaaGreatDoor
/-! bytes.Clone; code.Maker: Text, Done. -/
namespace Go.Proofs.YtfiadgdinhmgbaaGreatDoor
open Go.RowKit Pl Go.Agg
theorem nil_is (n c : Nat) (W : World) : (binOp .eql 23 (.slice none n c) (.slice none 0 0)).run Tryz.prog W = .ok (.bool true) W := by kernel_rfl
theorem nil_not (a : Addr) (n c : Nat) (W : World) : (binOp .eql 23 (.slice (some a) n c) (.slice none 0 0)).run Tryz.prog W = .ok (.bool false) W := by kernel_rfl
set_option maxRecDepth 100000 in
set_option maxHeartbeats 1000000 in
theorem bclone_any (x : Value) (l : List UInt8) (w : World) (hl : l.length ≤ 33554432) (hx : SliceOf EB w x l) :
  Calls Tryz.prog 45 #[x] w fun e w' => ∃ v', e = .returned v' ∧ Own EB w.heap.size w' v' l ∧ Below w.heap.size w w' := by
 have HX := Lib.hid hx
 have h63 : ([] : List UInt8).length + l.length ≤ 1099511627776 / 8 := by simp; omega
 obtain ⟨q, c, rfl⟩ := hx.form
 cases q with
 | none =>
  have hl0 : l = [] := by
   rcases hx with ⟨_, _, _, h⟩ | ⟨a, cap, e, _⟩
   ·exact h
   ·injection e with e; cases e
  subst hl0
  have hnl := nil_is 0 c
  clear hx
  go_enter Tryz.func45, Tryz.ntmps45
  go_wp2_with fail
  go_ret
  exact ⟨_, rfl, Own.nil _ _ _, Below.refl _ _⟩
 | some a =>
  have hnl := nil_not a l.length c
  clear hx
  go_enter Tryz.func45, Tryz.ntmps45
  go_wp2_with (first | (refine wpList_slice0 (base := w.heap.size) EB rfl rfl (Nat.le_refl _) ?_; intro v1 w1 ho1 hx1 _; have HO1 := Lib.hid ho1; have HX1 := Lib.hid (SliceOf.below HX.out hx1); have hsz := hx1.size; clear ho1) | (refine Agg.wpList_appendO (E := EB) (base := w.heap.size) rfl _ _ rfl (.slice (some a) l.length c) rfl rfl l HO1.out HX1.out h63 (by decide) hsz ?_; intro v2 w2 ho2 hp2 _; have HO2 := Lib.hid ho2; have HP2 := Lib.hid (hx1.trans (hp2.below w.heap.size (Nat.le_refl _) hsz)); clear ho2 hp2))
  go_ret
  exact ⟨_, rfl, by simpa using HO2.out, HP2.out⟩
set_option maxRecDepth 100000 in
set_option maxHeartbeats 1000000 in
theorem done_any (g : Nat) (v : Value) (b : List UInt8) (w : World) (hb : b.length ≤ 33554432) (hm : MkV g w v b) :
  Calls Tryz.prog 56 #[.pointer (some ⟨g, 0, none⟩)] w fun e w' => ∃ v', e = .returned (.tuple #[v', .int .i64 0]) ∧ Own EB w.heap.size w' v' b ∧ Below w.heap.size w w' := by
 have HM := Lib.hid hm
 clear hm
 go_enter Tryz.func56, Tryz.ntmps56
 go_wp2_with (first | (with_reducible refine wpList_loadL HM.out.load rfl _ rfl rfl ?_) | (with_reducible refine wpList_loadL HM.out.bad rfl _ rfl rfl ?_))
 refine (bclone_any v b w hb HM.out.own.slice).mono ?_
 rintro e w1 ⟨v1, rfl, ho, hx⟩
 have HO := Lib.hid ho
 clear ho
 go_wp2_with fail
 go_ret2
 exact ⟨_, rfl, HO.out, hx⟩
set_option maxRecDepth 100000 in
set_option maxHeartbeats 1000000 in
theorem text_any (g : Nat) (v x : Value) (s : SV) (l b : List UInt8) (w : World) (hb : b.length ≤ 4194304) (hl : l.length ≤ 1048576) (hx : Off EBB g w v x [s]) (hs : Off EB g w v s.1 l) (hm : MkV g w v b) :
  Calls Tryz.prog 101 #[.pointer (some ⟨g, 0, none⟩), x] w fun e w' => e = .returned (.pointer (some ⟨g, 0, none⟩)) ∧ ∃ v', MkV g w' v' (b ++ (encN l.length ++ l)) ∧ MkStep g w w' v v' := by
 have HM := Lib.hid hm
 have HS := Lib.hid hs
 have hlx := fun W => bb_len hx.slice W
 have hls := fun W => bytes_len hs.slice W
 obtain ⟨q, hadr0, hld⟩ := bb_at hx.slice 0 s rfl
 have hadr : ∀ W, (Instr.indexAt 49 x (.int .i64 0)).run Tryz.prog W = .ok (.pointer (some q)) W := hadr0
 clear hadr0
 have HL := Lib.hid hld
 have hlt := fun k hk => hm.lt k hk
 have HLT := Lib.hid hlt
 have hg := hm.blk.lt
 clear hm hs hx hld hlt
 go_enter Tryz.func101, Tryz.ntmps101
 go_wp2_with fail
 go_loopw [9] (fun i wr => (i = .int .i64 0 ∧ wr = w) ∨ (i = .int .i64 1 ∧ ∃ v', MkV g wr v' (b ++ (encN l.length ++ l)) ∧ MkStep g w wr v v')) (fun i _ => 1 - (intOf i).toNat)
 case atStart => exact .inl ⟨rfl, rfl⟩
 case round =>
  obtain ⟨w1, rfl⟩ : ∃ w1 : World, w1 = wr := ⟨_, rfl⟩
  rcases hrel with ⟨rfl, rfl⟩ | ⟨rfl, v', hm', hs'⟩
  ·go_wp2_with (first | (with_reducible refine wpList_loadL HL.out rfl _ rfl rfl ?_))
   refine (allow_any g l.length 1048576 v b _ hl (by omega) HM.out).mono ?_
   rintro e w2 ⟨rfl, rfl⟩
   go_wp2_with (first | (refine wpList_slice1 (E := EI) (base := w2.heap.size) rfl _ rfl l.length rfl (Nat.le_refl _) ?_; intro xs w3 hxs hx3; have HXS := Lib.hid hxs; have HX3 := Lib.hid hx3; clear hxs hx3))
   have hx3 := HX3.out
   have hsz := hx3.size
   have hoff : Off EI g w3 v xs [l.length] := Off.behind (w0 := w2) HXS.out.slice (fun k hk => (HXS.out.block k hk).1) hg HLT.out
   refine (num_any g v xs [l.length] b w3 (by simp; omega) (by simp) (by omega) hoff (HM.out.below hx3)).mono ?_
   rintro e w4 ⟨rfl, v4, hm4, hs4⟩
   have hs24 : MkStep g w2 w4 v v4 := (MkStep.of_below hx3).trans hs4
   have hoff4 := HS.out.step hs24
   have he6 := encN_len (n := l.length) (by omega)
   have HM4 := Lib.hid hm4
   have HS4 := Lib.hid hs24
   clear hs4 hs24 hoff
   have hfl : b ++ [l.length].flatMap encN = b ++ encN l.length := by simp
   go_wp2_with fail
   refine (raw_any g v4 s.1 l _ w4 (by simp only [hfl, List.length_append]; omega) (by omega) hoff4.slice HM4.out).mono ?_
   rintro e w5 ⟨rfl, v5, hm5, hs5⟩
   have HM5 := Lib.hid (show MkV g w5 v5 (b ++ (encN l.length ++ l)) by rw [hfl, List.append_assoc] at hm5; exact hm5)
   have HS5 := Lib.hid (HS4.out.trans hs5)
   clear hm5 hs5 hm4 hoff4 hfl
   go_wp2_with fail
   go_roundw
   case rel => exact .inr ⟨by go_num, v5, HM5.out, HS5.out⟩
   case measure => simp [intOf]
  ·have HM' := Lib.hid hm'
   have HS' := Lib.hid hs'
   clear hm' hs'
   go_wp2_with fail
   go_ret
   exact ⟨rfl, v', HM'.out, HS'.out⟩
end Go.Proofs.YtfiadgdinhmgbaaGreatDoor
/-! slices.Clone at bytes. -/
namespace Go.Proofs.YtfiadgdinhmgbaaGreatDoor
open Go.RowKit Pl Go.Agg
end Go.Proofs.YtfiadgdinhmgbaaGreatDoor
/-! (of general use) wire.Frame. -/
namespace Go.Proofs.YtfiadgdinhmgbaaGreatDoor
open Go.RowKit Pl Go.Agg
structure RowsIn (w : World) (vs : List SV) (ls : List (List UInt8)) : Prop where
 len : vs.length = ls.length
 row : ∀ (k : Nat) (s : SV) (l : List UInt8), vs[k]? = some s → ls[k]? = some l → BytesAt w s.1 l
theorem RowsIn.below {w w' : World} {vs : List SV} {ls : List (List UInt8)} (h : RowsIn w vs ls) (hb : Below w.heap.size w w') : RowsIn w' vs ls := ⟨h.len, fun k s l h1 h2 => (h.row k s l h1 h2).below hb⟩
theorem framed_take {ls : List (List UInt8)} {k : Nat} {l : List UInt8} (h : ls[k]? = some l) : framed (ls.take k) ++ (encN l.length ++ l) = framed (ls.take (k + 1)) := by
 rw [List.take_add_one, h]; simp [framed]
theorem framed_le (ls : List (List UInt8)) (k : Nat) : (framed (ls.take k)).length ≤ (framed ls).length := by
 have : framed ls = framed (ls.take k) ++ framed (ls.drop k) := by
  unfold framed; rw [← List.flatMap_append, List.take_append_drop]
 rw [this, List.length_append]; omega
end Go.Proofs.YtfiadgdinhmgbaaGreatDoor
/-! (of general use) wire.begin. -/
namespace Go.Proofs.YtfiadgdinhmgbaaGreatDoor
open Go.RowKit Pl Go.Agg
theorem sliceOf_taken {α : Type} {E : Elem Tryz.prog α} {w : World} {p : Option Addr} {c : Nat} {l : List α} (h : SliceOf E w (.slice p l.length c) l) (n : Nat) (hn : n ≤ l.length) : SliceOf E w (.slice p n c) (l.take n) := by
 rcases h with ⟨q, d, e, rfl⟩ | ⟨q, d, e, hq, hc⟩
 ·obtain rfl : n = 0 := by simpa using hn
  exact SliceOf.nil _ _ _
 ·simp only [Value.slice.injEq] at e
  obtain ⟨rfl, _, rfl⟩ := e
  refine .inr ⟨q, c, by rw [List.length_take, Nat.min_eq_left hn], hq, fun j u hj => hc j u ?_⟩
  have : E.flat l = E.flat (l.take n) ++ E.flat (l.drop n) := by rw [← Elem.flat_append, List.take_append_drop]
  rw [this, List.getElem?_append_left (List.getElem?_eq_some_iff.1 hj).1]
  exact hj
theorem and127 (b : UInt8) : bits .and .u8 (b.toNat : Int) 127 = ((b.toNat % 128 : Nat) : Int) := by
 have h : ∀ m : Nat, m < 256 → bits .and .u8 (m : Int) 127 = ((m % 128 : Nat) : Int) := by decide +kernel
 exact h _ b.toNat_lt
theorem and128 (b : UInt8) : bits .and .u8 (b.toNat : Int) 128 = ((b.toNat / 128 * 128 : Nat) : Int) := by
 have h : ∀ m : Nat, m < 256 → bits .and .u8 (m : Int) 128 = ((m / 128 * 128 : Nat) : Int) := by decide +kernel
 exact h _ b.toNat_lt
theorem i64_or_nat (a b : Nat) (ha : a < 9223372036854775808) (hb : b < 9223372036854775808) : bits .or .i64 (a : Int) (b : Int) = ((a ||| b : Nat) : Int) := by
 have hx : a ||| b < 2 ^ 63 := Nat.or_lt_two_pow (by omega) (by omega)
 show IntKind.i64.wrap ((BitVec.ofInt 64 (a : Int) ||| BitVec.ofInt 64 (b : Int)).toNat : Int) = _
 rw [BitVec.toNat_or, ofInt_u64 a (by omega), ofInt_u64 b (by omega), IntKind.wrap_i64]
 omega
theorem or_add (N x k : Nat) (hx : x < 128) (hN : N < 2 ^ (7 * k)) (hk : k < 4) : bits .or .i64 (N : Int) ((x * 2 ^ (7 * k) : Nat) : Int) = ((N + x * 2 ^ (7 * k) : Nat) : Int) := by
 have h5 : 2 ^ (7 * k) ≤ 2 ^ 21 := Nat.pow_le_pow_right (by omega) (by omega)
 have hp : x * 2 ^ (7 * k) ≤ 128 * 2 ^ 21 := Nat.mul_le_mul (by omega) h5
 rw [i64_or_nat _ _ (by omega) (by omega), Nat.or_comm, Nat.mul_comm, ← Nat.two_pow_add_eq_or_of_lt hN, Nat.add_comm]
end Go.Proofs.YtfiadgdinhmgbaaGreatDoor
