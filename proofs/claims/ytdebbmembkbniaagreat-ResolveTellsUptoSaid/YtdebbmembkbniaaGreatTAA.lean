/- Steps of a walk that keep the world abstract, over any program: loads that stay, new blocks, stores into them. (Several texts in one.) -/
import Derived.WalkKit
import Derived.WalkSpells
import Derived.WalkLawsBesides
import Derived.Lib.OthersKept
import Derived.Lib.Hide
import Derived.BigQuiet
import Derived.Test.YtdebbmembkbniaaGreatChecked
import Derived.Deep.QuietTactic
import Derived.Test.YtdebbmembkbniaaGreatShelf
import Derived.BigGuardPart
import GoSem.Instr.MapUpdate
import Derived.Stop.BytesEq
import Derived.Great.FillDense
import Derived.StillTailTactics
/-! Small laws on operations at whole arrays and structs, over any program. -/
namespace Go.Agg
open Go.RowKit
variable {P : Program}
theorem run_index_agg {t e : TypeId} {n : Nat} {cs : List Value} {k : IntKind} {i : Nat} {v : Value} (w : World) (ht : P.underlying t = some (.array n e)) (hs : (P.info? e).map (·.size) = some 1)
  (ha : ∀ w, (isAgg e).run P w = .ok false w) (hi : i < n) (hv : cs[i]? = some v) : (Instr.index t (.agg cs.toArray) (.int k i)).run P w = .ok v w := by
 cases hq : P.info? e with
 | none => simp [hq] at hs
 | some j =>
  have hs' : j.size = 1 := by simpa [hq] using hs
  have h0 : (i : Int) < n := by omega
  simp [Instr.index, asIntOf, Sem.run_bind, run_underlying ht, hi, sizeOf, typeInfo, hq, hs', part, ha, hv]
theorem run_index_str {t : TypeId} {s : List UInt8} {k : IntKind} {i : Nat} {c : UInt8} (w : World) (ht : P.underlying t = some .string) (hv : s[i]? = some c) :
  (Instr.index t (.string ⟨s.toArray⟩) (.int k (i : Int))).run P w = .ok (.int .u8 (c.toNat : Int)) w := by
 obtain ⟨hi, he⟩ := List.getElem?_eq_some_iff.1 hv
 rw [run_index_string w t _ k _ ht]
 have hsz : (⟨s.toArray⟩ : ByteArray).size = s.length := by simp [ByteArray.size]
 rw [dif_pos ⟨by omega, by rw [hsz]; omega⟩]
 simp [ByteArray.getElem_eq_getElem_data, he]
/-! Strings as lists of bytes. -/
theorem bytes_toList (a : List UInt8) : (⟨a.toArray⟩ : ByteArray).toList = a := by
 simp [ByteArray.toList_eq]
theorem bytes_size (a : List UInt8) : (⟨a.toArray⟩ : ByteArray).size = a.length := by simp [ByteArray.size]
theorem heap_lt {w : World} {k : Nat} {o : Obj} (h : w.heap[k]? = some o) : k < w.heap.size := (Array.getElem?_eq_some_iff.1 h).1
theorem keep {B k : Nat} {w w' : World} {o : Obj} (hb : Below B w w') (h : w.heap[k]? = some o) (hk : k < B) : w'.heap[k]? = some o := (hb.block k hk).trans h
theorem keep' {k : Nat} {w w' : World} {o : Obj} (hb : Below w.heap.size w w') (h : w.heap[k]? = some o) : w'.heap[k]? = some o := keep hb h (heap_lt h)
section
variable {ops : Array Oper} {rest : List Oper} {o : Oper} {a : Act} {w : World} {Q : Exit → Act → World → Prop}
theorem wpList_val (hg : o.guard = none) {v : Value} {w' : World} (hrun : (execOp a.eval o).run P w = .ok (.value v) w') (h : wpList P ops Q rest (a.put o.dst v) w') : wpList P ops Q (o :: rest) a w := by
 refine wpList_plain hg fun K' hK' => ?_
 unfold Oper.wp
 rw [hrun]
 exact hK' _ _ h
theorem wpList_skp (hg : o.guard = none) (hd : o.dst = none) {w' : World} (hrun : (execOp a.eval o).run P w = .ok .skip w') (h : wpList P ops Q rest a w') : wpList P ops Q (o :: rest) a w := by
 refine wpList_plain hg fun K' hK' => ?_
 unfold Oper.wp
 rw [hrun, Oper.upon_skip, hd]
 exact hK' _ _ h
theorem wpList_alloc_row (hg : o.guard = none) (ty : TypeId) (ho : o.op = .alloc ty) (cs : Array Value) (hz : (P.info? ty).map (·.zero) = some (some (.agg cs)))
  (h : wpList P ops Q rest (a.put o.dst (.pointer (some ⟨w.heap.size, 0, none⟩))) (w.alloc (.cells cs ty))) : wpList P ops Q (o :: rest) a w := by
 refine wpList_val hg ?_ h
 cases hq : P.info? ty with
 | none => simp [hq] at hz
 | some i =>
  have hs : i.zero = some (.agg cs) := by simpa [hq] using hz
  simp [execOp, ho, Instr.alloc, zeroValue, typeInfo, hq, hs, newVar, newRow, Value.cells]
theorem wpList_set_row (hg : o.guard = none) (hd : o.dst = none) (ty : TypeId) (x y : Operand) (ho : o.op = .store ty x y) (g : Nat) (cells : Array Value) (hx : a.eval x = .pointer (some ⟨g, 0, none⟩)) (hy : a.eval y = .agg cells)
  (t : TypeId) (old : Array Value) (hb : w.heap[g]? = some (.cells old t (0, 0))) (hi : (P.info? ty).map (·.size) = some cells.size) (hold : old.size = cells.size) (h1 : cells.all (·.oneCell') = true)
  (h : wpList P ops Q rest a (w.setRow g cells)) : wpList P ops Q (o :: rest) a w := by
 refine wpList_skp hg hd ?_ h
 simp [execOp, ho, hx, hy, Instr.storeAt, Instr.sureAddr, run_storeVar_row w g t ty old cells hb hi hold h1]
theorem post_row_tmp {fn : Func} {p u : Tmp} {ty : TypeId} (h : fn.results = #[.cell p ty, .tmp u]) {R : Ending → World → Prop} {g : Nat} {t : TypeId} {cs : Array Value} {fr : Nat × Nat} {d : TypeDesc} {v : Value}
  (hp : a.tmps.getD p undef = .pointer (some ⟨g, 0, none⟩)) (hv : a.tmps.getD u undef = v) (hb : w.heap[g]? = some (.cells cs t fr)) (hu : P.underlying ty = some d)
  (hd : (match d with | .struct _ | .array _ _ => true | _ => false) = true) (hi : (P.info? ty).map (·.size) = some cs.size) (hdf : a.defers = []) (hR : R (.returned (.tuple #[.agg cs, v])) w) : bodyPost P fn R .ret a w := by
 refine bodyPost_ret ?_ hdf hR
 rw [results_cell_tmp h, hp, hv]
 simp [asAddr, run_loadVar_row w g t ty cs fr d hb hu hd hi, Result.andThen]
theorem post_row {fn : Func} {p : Tmp} {ty : TypeId} (h : fn.results = #[.cell p ty]) {R : Ending → World → Prop} {g : Nat} {t : TypeId} {cs : Array Value} {fr : Nat × Nat} {d : TypeDesc}
  (hp : a.tmps.getD p undef = .pointer (some ⟨g, 0, none⟩)) (hb : w.heap[g]? = some (.cells cs t fr)) (hu : P.underlying ty = some d)
  (hd : (match d with | .struct _ | .array _ _ => true | _ => false) = true) (hi : (P.info? ty).map (·.size) = some cs.size) (hdf : a.defers = []) (hR : R (.returned (.agg cs)) w) : bodyPost P fn R .ret a w :=
 bodyPost_ret (results_cell_row h a.tmps w g t cs fr d hp hb hu hd hi) hdf hR
end
/-! A region that draws its order, whose operations read and call: in whatever order. The class of worlds: those behind W, below W's size as W. -/
structure Later (W : World) where
 w : World
 h : Below W.heap.size W w
def Later.mk' (W : World) : Later W := ⟨W, Below.refl _ _⟩
instance (W : World) : Nonempty (Later W) := ⟨Later.mk' W⟩
theorem Later.cell {W : World} (x : Later W) {p : Addr} {v : Value} (h : W.cell? p = some v) : x.w.cell? p = some v := (x.h.cell (block_lt_of_cell h)).trans h
theorem Calls.later {f : FuncId} {args : Array Value} {W : World} {x : Later W} {v : Value} (h : Calls P f args x.w fun e w' => e = .returned v ∧ Below x.w.heap.size x.w w') :
  Calls P f args x.w fun e w'' => e = .returned v ∧ ∃ y : Later W, w'' = y.w :=
 h.mono fun _ w' ⟨he, hw⟩ => ⟨he, ⟨w', x.h.trans (hw.mono x.h.size)⟩, rfl⟩
theorem wp_region_later_lit {id : Nat} {Q : Exit → Act → World → Prop} {a : Act} {w : World} {l : List Oper} (hm : P.follows .mixedOrders = true) (hB : Region.lexB .any l.toArray = true)
  (h : wpQuiet P l.toArray (fun w' => ∃ x : Later w, w' = x.w) (fun a' => ∀ w', (∃ x : Later w, w' = x.w) → Q .normal a' w') l a) : (Code.region id l.toArray true).wp P Q a w :=
 wp_region_quiet (C := fun w' => ∃ x : Later w, w' = x.w) hm hB ⟨⟨_, (Below.refl _ _).drew⟩, rfl⟩ (by simpa using h)
theorem wpQuiet_load {ops : Array Oper} {rest : List Oper} {o : Oper} {a : Act} {C : World → Prop} {Q : Act → Prop} (hw : Region.wanted o (yielded ops a.tmps) = true) (ty : TypeId) (x : Operand) (ho : o.op = .load ty x) (p : Value) (hx : a.eval x = p) (v : Value)
  (hrun : ∀ w, C w → (Instr.loadAt ty p).run P w = .ok v w) (h : wpQuiet P ops C Q rest (a.put o.dst v)) : wpQuiet P ops C Q (o :: rest) a := by
 refine wpQuiet_step fun K hK => ?_
 rw [if_pos hw]
 refine ⟨v, fun w hC => ?_, hK _ h⟩
 unfold Oper.quietAt
 simp [execOp, ho, hx, hrun w hC, Oper.quietUpon]
theorem later_all {W : World} {R : World → Prop} (h : ∀ x : Later W, R x.w) : ∀ w, (∃ x : Later W, w = x.w) → R w := fun _ ⟨x, e⟩ => e ▸ h x
theorem run_loadAt_sub {w : World} {g off : Nat} {t ty : TypeId} {C cs : Array Value} {fr : Nat × Nat} {d : TypeDesc} (hb : w.heap[g]? = some (.cells C t fr)) (hsub : ∀ j v, cs[j]? = some v → C[off + j]? = some v)
  (hu : P.underlying ty = some d) (hd : (match d with | .struct _ | .array _ _ => true | _ => false) = true) (hi : (P.info? ty).map (·.size) = some cs.size) :
  (Instr.loadAt ty (.pointer (some ⟨g, off, none⟩))).run P w = .ok (.agg cs) w := by
 have hl : (loadCells ⟨g, off, none⟩ cs.toList.length).run P w = .ok cs.toList.toArray w :=
  run_loadCells_list (P := P) w ⟨g, off, none⟩ cs.toList (fun j v hv => by
   have hadd : (⟨g, off, none⟩ : Addr).add j = ⟨g, off + j, none⟩ := by unfold Addr.add; split <;> simp_all
   rw [hadd, cell_of_row w g (off + j) C t fr hb]
   exact hsub j v (by simpa using hv))
 cases hq : P.info? ty with
 | none => simp [hq] at hi
 | some i =>
  have hs : i.size = cs.size := by simpa [hq] using hi
  have hagg : (isAgg ty).run P w = .ok true w := by
   unfold isAgg
   rw [Sem.run_bind, run_underlying hu w]
   cases d <;> simp_all
  simp only [Array.length_toList, Array.toArray_toList] at hl
  simp [Instr.loadAt, Instr.sureAddr, loadVar, Sem.run_bind, hagg, sizeOf, typeInfo, hq, hs, hl]
theorem below_setRow {B g : Nat} {a w : World} {cs : Array Value} (h : Below B a w) (hg : B ≤ g) : Below B a (w.setRow g cs) :=
 h.trans ⟨rfl, rfl, rfl, by simp, fun k hk => setRow_other w g k cs (by omega)⟩
end Go.Agg
/-! Plain numbers and letters of chapter 3: no program in sight. -/
namespace Pl
/-! Numbers in base 256 and 32, lowest first. -/
def num (b : Nat) : List Nat → Nat
 | [] => 0
 | x :: l => x + b * num b l
def digs (b : Nat) : Nat → Nat → List Nat
 | 0, _ => []
 | n + 1, x => x % b :: digs b n (x / b)

/-! The letters. -/
def alpha : List UInt8 := [48, 49, 50, 51, 52, 53, 54, 55, 56, 57, 97, 98, 99, 100, 102, 103, 104, 105, 106, 107, 108, 109, 110, 112, 113, 114, 115, 118, 119, 120, 121, 122]
def val (c : UInt8) : Option Nat := alpha.idxOf? c
def nats (l : List UInt8) : List Nat := l.map UInt8.toNat
def bytes (l : List Nat) : List UInt8 := l.map UInt8.ofNat
def letter (n : Nat) : UInt8 := alpha.getD n 0
def letters (h : List UInt8) : List UInt8 := (digs 32 32 (num 256 (nats h))).map letter
def hash (s : List UInt8) : Option (List UInt8) :=
 if s.length = 32 then (s.mapM val).map fun l => bytes (digs 256 20 (num 32 l)) else none
end Pl
namespace Pl
end Pl
namespace Pl
def sgn (c : UInt8) : Bool := (97 ≤ c && c ≤ 122) || (65 ≤ c && c ≤ 90) || (48 ≤ c && c ≤ 57) || c == 46 || c == 95 || c == 43 || c == 45
def isName (s : List UInt8) : Bool := s.all sgn && (s.length != 0) && decide (s.length ≤ 24) && (s.getD 0 0 != 46)
def signN (r : Nat) : Bool := (decide (65 ≤ r) && decide (97 ≤ r ||| 32) && decide (r ||| 32 ≤ 122)) || (decide (48 ≤ r) && decide (r ≤ 57)) || decide (0 ≤ (if r = 46 then 0 else if r = 95 then 1 else if r = 43 then 2 else if r = 45 then 3 else -1 : Int))
theorem signN_sgn : ∀ c : UInt8, c.toNat < 128 → signN c.toNat = sgn c := by
 intro c h
 have : ∀ n, n < 128 → signN n = sgn (UInt8.ofNat n) := by decide +kernel
 have := this c.toNat h
 rwa [UInt8.ofNat_toNat] at this
theorem sgn_small (c : UInt8) (h : sgn c = true) : c.toNat < 128 := by
 have : ∀ n, n < 256 → sgn (UInt8.ofNat n) = true → n < 128 := by decide +kernel
 have h2 := this c.toNat c.toNat_lt
 rw [UInt8.ofNat_toNat] at h2
 exact h2 h
end Pl
namespace Pl
/-! The hash of letters, as it is gathered. -/
end Pl
namespace Pl
def hN (P : Nat) : List UInt8 := bytes (digs 256 20 P)
end Pl
namespace Pl
end Pl
/-! (of general use) base.Letters: the letters of any hash. -/
namespace Go.Proofs.YtdebbmembkbniaaGreat
open Go.RowKit Pl
def hC (h : List UInt8) : Array Value := (Lib.byteCells h).toArray
theorem hC_size (h : List UInt8) : (hC h).size = h.length := by simp [hC, Lib.byteCells]
end Go.Proofs.YtdebbmembkbniaaGreat
/-! Small facts about numbers. -/
namespace Go.Proofs.YtdebbmembkbniaaGreat
open Go.RowKit Pl
theorem ret_num {k : IntKind} {a b : Int} (h : a = b) : Ending.returned (.int k a) = .returned (.int k b) := by rw [h]
def wi (c lo hi : Int) : Bool := decide (lo ≤ c) && decide (c ≤ hi)
end Go.Proofs.YtdebbmembkbniaaGreat
/-! base.sign: whether a rune may stand in a name. -/
namespace Go.Proofs.YtdebbmembkbniaaGreat
open Go.RowKit Pl
theorem ret_bool {a b : Bool} (h : a = b) : Ending.returned (.bool a) = .returned (.bool b) := by rw [h]
def smallN (r : Nat) : Nat := r ||| 32
theorem small_eq (r : Nat) (h : r < 128) : bits .or .i32 (r : Int) 32 = ((smallN r : Nat) : Int) := by
 unfold smallN
 have : ∀ r : Nat, r < 128 → bits .or .i32 (r : Int) 32 = ((r ||| 32 : Nat) : Int) := by decide +kernel
 exact this r h
theorem index_eq (r : Nat) (h : r < 128) : Lib.indexByte [46, 95, 43, 45] (r : Int).toNat.toUInt8 = (if r = 46 then 0 else if r = 95 then 1 else if r = 43 then 2 else if r = 45 then 3 else -1 : Int) := by
 have : ∀ r : Nat, r < 128 → Lib.indexByte [46, 95, 43, 45] (r : Int).toNat.toUInt8 = (if r = 46 then 0 else if r = 95 then 1 else if r = 43 then 2 else if r = 45 then 3 else -1 : Int) := by decide +kernel
 exact this r h
def placeN (r : Nat) : Int := if r = 46 then 0 else if r = 95 then 1 else if r = 43 then 2 else if r = 45 then 3 else -1
theorem index_any (r : Int) (h0 : 0 ≤ r) (h : r < 128) (w : World) : Calls Tryz.prog 126 #[.string ⟨#[46, 95, 43, 45]⟩, .int .u8 r] w fun e w' => e = .returned (.int .i64 (placeN r.toNat)) ∧ w = w' := by
 obtain ⟨n, rfl⟩ := Int.eq_ofNat_of_zero_le h0
 refine (Tryz.strings_IndexByte _ _ _).mono ?_
 rintro e w' ⟨rfl, rfl⟩
 refine ⟨ret_num ?_, rfl⟩
 exact index_eq n (by omega)
theorem signN_eq (r : Nat) : signN r = ((decide (65 ≤ r) && decide (97 ≤ smallN r) && decide (smallN r ≤ 122)) || (decide (48 ≤ r) && decide (r ≤ 57)) || decide (0 ≤ placeN r)) := rfl
set_option maxRecDepth 100000 in
set_option maxHeartbeats 1000000 in
theorem sign_low (r : Nat) (h : r < 128) (w : World) :
  Calls Tryz.prog 86 #[.int .i32 (r : Int)] w fun e w' => e = .returned (.bool (signN r)) ∧ w = w' := by
 have hs := small_eq r h
 have h' : (r : Int) < 128 := by omega
 go_enter Tryz.func86, Tryz.ntmps86
 go_wp2_with (go_at_call 126; refine (index_any _ (by omega) (by omega) _).mono ?_; rintro e w' ⟨rfl, rfl⟩)
 all_goals go_ret
 all_goals refine ⟨?_, rfl⟩
 all_goals exact ret_bool (by rw [signN_eq, Bool.eq_iff_iff]; simp only [Bool.or_eq_true, Bool.and_eq_true, decide_eq_true_eq, true_iff]; omega)
set_option maxRecDepth 100000 in
theorem sign_high (r : Int) (h : 128 ≤ r) (w : World) :
  Calls Tryz.prog 86 #[.int .i32 r] w fun e w' => e = .returned (.bool false) ∧ w = w' := by
 have hd : decide (r < 128) = false := by simp; omega
 go_enter Tryz.func86, Tryz.ntmps86
 go_wp2_with fail
 go_ret
 exact ⟨rfl, rfl⟩
def signR (r : Int) : Bool := if r < 128 then signN r.toNat else false
theorem sign_any (r : Int) (h : 0 ≤ r) (w : World) :
  Calls Tryz.prog 86 #[.int .i32 r] w fun e w' => e = .returned (.bool (signR r)) ∧ w = w' := by
 unfold signR
 by_cases h3 : r < 128
 ·rw [if_pos h3]
  obtain ⟨n, rfl⟩ := Int.eq_ofNat_of_zero_le h
  exact sign_low n (by omega) w
 ·rw [if_neg h3]
  exact sign_high r (by omega) w
end Go.Proofs.YtdebbmembkbniaaGreat
/-! base.Name and spenceref03.Name: whether a text is a name. -/
namespace Go.Proofs.YtdebbmembkbniaaGreat
open Go.RowKit Pl
theorem isName_bad (s : List UInt8) (k : Nat) (hk : k < s.length) (h : sgn s[k] = false) : isName s = false := by
 have : s.all sgn = false := by
  rw [List.all_eq_false]; exact ⟨s[k], List.getElem_mem hk, by simp [h]⟩
 simp [isName, this]
theorem isName_good (s : List UInt8) (h : ∀ k (hk : k < s.length), sgn s[k] = true) : isName s = ((s.length != 0) && decide (s.length ≤ 24) && (s.getD 0 0 != 46)) := by
 have : s.all sgn = true := by
  rw [List.all_eq_true]; intro x hx; obtain ⟨k, hk, rfl⟩ := List.getElem_of_mem hx; exact h k hk
 simp [isName, this]
theorem next_low (w : World) (s : List UInt8) (k : Nat) (ty : TypeId) (hk : k < s.length) (ha : s[k].toNat < 128) :
  (Instr.next (.pointer (some ⟨w.heap.size, 0, none⟩)) true ty).run Tryz.prog (w.iter ⟨s.toArray⟩ k) = .ok (.tuple #[.bool true, .int .i64 (k : Int), .int .i32 (s[k].toNat : Int)]) (w.iter ⟨s.toArray⟩ (k + 1)) := by
 have hs : k < (⟨s.toArray⟩ : ByteArray).size := by rw [Agg.bytes_size]; exact hk
 have he : (⟨s.toArray⟩ : ByteArray)[k]'hs = s[k] := by simp [ByteArray.getElem_eq_getElem_data]
 have := run_next_ascii (P := Tryz.prog) w ⟨s.toArray⟩ k ty hs (by rw [he]; exact ha)
 rw [he] at this
 exact this
theorem next_high (w : World) (s : List UInt8) (k : Nat) (ty : TypeId) (hk : k < s.length) (ha : 128 ≤ s[k].toNat) :
  ∃ (r : Int) (k' : Nat), 128 ≤ r ∧ k < k' ∧ (Instr.next (.pointer (some ⟨w.heap.size, 0, none⟩)) true ty).run Tryz.prog (w.iter ⟨s.toArray⟩ k) = .ok (.tuple #[.bool true, .int .i64 (k : Int), .int .i32 r]) (w.iter ⟨s.toArray⟩ k') := by
 have hs : k < (⟨s.toArray⟩ : ByteArray).size := by rw [Agg.bytes_size]; exact hk
 have he : (⟨s.toArray⟩ : ByteArray)[k]'hs = s[k] := by simp [ByteArray.getElem_eq_getElem_data]
 obtain ⟨h1, h2⟩ := decode_high ⟨s.toArray⟩ k hs (by rw [he]; exact ha)
 exact ⟨_, _, by exact_mod_cast h1, by omega, run_next_any (P := Tryz.prog) w ⟨s.toArray⟩ k ty hs⟩
theorem next_end (w : World) (s : List UInt8) (ty : TypeId) :
  (Instr.next (.pointer (some ⟨w.heap.size, 0, none⟩)) true ty).run Tryz.prog (w.iter ⟨s.toArray⟩ s.length) = .ok (.tuple #[.bool false]) (w.iter ⟨s.toArray⟩ s.length) :=
 run_next_end (P := Tryz.prog) w ⟨s.toArray⟩ s.length ty (by rw [Agg.bytes_size]; omega)
theorem signR_byte (c : UInt8) (hc : c.toNat < 128) : signR (c.toNat : Int) = sgn c := by
 unfold signR
 rw [if_pos (by omega)]
 exact signN_sgn c hc
theorem below_iter (w : World) (s : ByteArray) (k : Nat) : Below w.heap.size w (w.iter s k) := (Below.refl _ _).alloc (Nat.le_refl _) _
set_option maxRecDepth 100000 in
set_option maxHeartbeats 1000000 in
theorem name_any (s : List UInt8) (w : World) :
  Calls Tryz.prog 53 #[.string ⟨s.toArray⟩] w fun e w' => e = .returned (.bool (isName s)) ∧ Below w.heap.size w w' := by
 go_enter Tryz.func53, Tryz.ntmps53
 go_wp2_with fail
 go_loopw [4] (fun _ wr => ∃ k : Nat, k ≤ s.length ∧ wr = w.iter ⟨s.toArray⟩ k ∧ ∀ j (hj : j < s.length), j < k → sgn s[j] = true) (fun _ wr => s.length - wr.iterPos w.heap.size)
 case atStart => exact ⟨0, by omega, rfl, by intros; omega⟩
 case round =>
  obtain ⟨k, hk, rfl, hg⟩ := hrel
  have HG := Lib.hid hg
  clear hg
  by_cases hlt : k < s.length
  ·by_cases hc : s[k].toNat < 128
   ·have hn := next_low w s k 0 hlt hc
    cases hsg : sgn s[k] with
    | true =>
     go_wp2_with (go_at_call 86; refine (sign_any _ (by omega) _).mono ?_; rintro e w' ⟨rfl, rfl⟩; rw [signR_byte _ hc, hsg])
     go_roundw
     case rel => exact ⟨k + 1, by omega, rfl, fun j hj h => by
      rcases Nat.lt_or_ge j k with h' | h'
      ·exact HG.out j hj h'
      ·obtain rfl : j = k := by omega
       exact hsg⟩
     case measure => simp; omega
    | false =>
     go_wp2_with (go_at_call 86; refine (sign_any _ (by omega) _).mono ?_; rintro e w' ⟨rfl, rfl⟩; rw [signR_byte _ hc, hsg])
     go_ret
     exact ⟨ret_bool (isName_bad s k hlt hsg).symm, below_iter _ _ _⟩
   ·obtain ⟨r, k', hr, hk', hn⟩ := next_high w s k 0 hlt (by omega)
    have hsg : sgn s[k] = false := by
     cases h : sgn s[k] with
     | true => exact absurd (sgn_small _ h) hc
     | false => rfl
    have HS := Lib.hid hsg
    clear hsg
    go_wp2_with (go_at_call 86; refine (sign_high _ hr _).mono ?_; rintro e w' ⟨rfl, rfl⟩)
    go_ret
    exact ⟨ret_bool (isName_bad s k hlt HS.out).symm, below_iter _ _ _⟩
  ·obtain rfl : k = s.length := by omega
   have hn := next_end w s 0
   have hgood := isName_good s (fun j hj => HG.out j hj hj)
   have HI := Lib.hid hgood
   clear hgood
   cases s with
   | nil =>
    simp only [List.length_nil] at hn
    go_wp2_with fail
    go_ret
    exact ⟨ret_bool (by rw [HI.out]; rfl), below_iter _ _ _⟩
   | cons c l =>
    have hix : ∀ w, (Instr.index 9 (.string ⟨(c :: l).toArray⟩) (.int .i64 0)).run Tryz.prog w = .ok (.int .u8 (c.toNat : Int)) w := fun w => Agg.run_index_str (i := 0) w Tryz.underlying9 rfl
    simp only [List.length_cons] at hn
    go_wp2_with fail
    all_goals go_ret
    all_goals refine ⟨ret_bool ?_, below_iter _ _ _⟩
    all_goals rw [HI.out]
    ·have h24 : (l.length : Int) + 1 ≤ 24 := by assumption
     have e : (((c.toNat : Int)) != 46) = (c != 46) := by
      rw [Bool.eq_iff_iff]; simp only [bne_iff_ne, ne_eq]; rw [← UInt8.toNat_inj]; simp; omega
     simp [e, show l.length + 1 ≤ 24 by omega]
    ·have h24 : 24 < (l.length : Int) + 1 := by assumption
     simp [show ¬ l.length + 1 ≤ 24 by omega]
end Go.Proofs.YtdebbmembkbniaaGreat
/-! Maps that a call makes, over any program and any key: what a map's block holds, its look-up and its store. -/
namespace Go.Mp
open Go.RowKit Go.Instr
section
variable {P : Program} {α β : Type} [DecidableEq α]
def MapIs (w : World) (b : Nat) (κ : α → Value) (ν : β → Value) (m : List (α × β)) : Prop :=
 ∃ es clock, w.heap[b]? = some (.map es clock) ∧ es.toList.map (fun e => (e.key, e.val)) = m.map (fun p => (κ p.1, ν p.2))
structure KeyEq (P : Program) (K : TypeId) (κ : α → Value) : Prop where
 check : ∀ empty a w, (checkKey empty 10000 K (κ a)).run P w = .ok () w
 desc : ∃ d, P.underlying K = some d ∧ ((∀ a b, sameNow d (κ a) (κ b) = some (decide (a = b))) ∨ ((∀ a b, sameNow d (κ a) (κ b) = none) ∧ ∀ a b w, (Op.equal K (κ a) (κ b)).run P w = .ok (decide (a = b)) w))
 bits : ∀ a, sameBits 10000 (κ a) (κ a) = true
def mget (m : List (α × β)) (a : α) : Option β := (m.find? (fun p => decide (a = p.1))).map (·.2)
def mput (m : List (α × β)) (a : α) (v : β) : List (α × β) := match m with
 | [] => [(a, v)]
 | p :: r => if a = p.1 then (a, v) :: r else p :: mput r a v
theorem mget_mput (m : List (α × β)) (a c : α) (v : β) : mget (mput m a v) c = if c = a then some v else mget m c := by
 induction m with
 | nil => by_cases h : c = a <;> simp [mput, mget, h]
 | cons p r ih =>
  unfold mput
  by_cases h : a = p.1
  ·rw [if_pos h]
   by_cases h2 : c = a
   ·simp [mget, h2]
   ·have : ¬ c = p.1 := fun e => h2 (e.trans h.symm)
    simp [mget, h2, this]
  ·rw [if_neg h]
   by_cases h2 : c = p.1
   ·have h3 : ¬ c = a := fun e => h (e.symm.trans h2)
    have h4 : ¬ p.1 = a := fun e => h e.symm
    simp [mget, h2, h4]
   ·simp only [mget, List.find?_cons, h2, decide_false] at ih ⊢
    exact ih
def place (m : List (α × β)) (a : α) (i : Nat) : Option (Nat × β) := match m with
 | [] => none
 | p :: r => if a = p.1 then some (i, p.2) else place r a (i + 1)
theorem findNow_eq {d : TypeDesc} {κ : α → Value} {ν : β → Value} (h : ∀ a b, sameNow d (κ a) (κ b) = some (decide (a = b))) (a : α) :
  ∀ (m : List (α × β)) (es : List MapEntry) (i : Nat), es.map (fun e => (e.key, e.val)) = m.map (fun p => (κ p.1, ν p.2)) →
   findNow d (κ a) es i = some ((place m a i).map fun x => (x.1, ν x.2))
 | [], [], i, _ => rfl
 | [], e :: es, i, he => by simp at he
 | p :: m, [], i, he => by simp at he
 | p :: m, e :: es, i, he => by
  simp only [List.map_cons, List.cons.injEq, Prod.mk.injEq] at he
  obtain ⟨⟨hk, hv⟩, hr⟩ := he
  unfold findNow place
  rw [hk, h a p.1]
  by_cases e' : a = p.1
  ·simp [e', hv]
  ·simp only [e', decide_false, if_false]
   exact findNow_eq h a m es (i + 1) hr
theorem findAsking_eq {K : TypeId} {κ : α → Value} {ν : β → Value} (h : ∀ a b w, (Op.equal K (κ a) (κ b)).run P w = .ok (decide (a = b)) w) (a : α) :
  ∀ (m : List (α × β)) (es : List MapEntry) (i : Nat) (w : World), es.map (fun e => (e.key, e.val)) = m.map (fun p => (κ p.1, ν p.2)) →
   (findAsking K (κ a) es i).run P w = .ok ((place m a i).map fun x => (x.1, ν x.2)) w
 | [], [], i, w, _ => rfl
 | [], e :: es, i, w, he => by simp at he
 | p :: m, [], i, w, he => by simp at he
 | p :: m, e :: es, i, w, he => by
  simp only [List.map_cons, List.cons.injEq, Prod.mk.injEq] at he
  obtain ⟨⟨hk, hv⟩, hr⟩ := he
  unfold findAsking place
  rw [Sem.run_bind, hk, h a p.1 w]
  by_cases e' : a = p.1
  ·simp [e', hv, Result.andThen, Sem.run_pure]
  ·simp only [e', decide_false, if_false, Result.andThen, Bool.false_eq_true]
   exact findAsking_eq h a m es (i + 1) w hr
theorem findKey_eq {K : TypeId} {κ : α → Value} {ν : β → Value} (hK : KeyEq P K κ) (a : α) (m : List (α × β)) (es : List MapEntry) (w : World) (he : es.map (fun e => (e.key, e.val)) = m.map (fun p => (κ p.1, ν p.2))) :
  (findKey K (κ a) es).run P w = .ok ((place m a 0).map fun x => (x.1, ν x.2)) w := by
 obtain ⟨d, hd, h⟩ := hK.desc
 unfold findKey
 rw [Sem.run_bind, run_underlying hd w]
 simp only [Result.andThen]
 rcases h with h | ⟨h1, h2⟩
 ·rw [findNow_eq h a m es 0 he]
  rfl
 ·cases hn : findNow d (κ a) es 0 with
  | none => exact findAsking_eq h2 a m es 0 w he
  | some r =>
   -- only where there is no entry
   cases es with
   | nil => cases m with
    | nil => simp [findNow] at hn; subst hn; rfl
    | cons p m => simp at he
   | cons e es => cases m with
    | nil => simp at he
    | cons p m =>
     simp only [List.map_cons, List.cons.injEq, Prod.mk.injEq] at he
     simp [findNow, he.1.1, h1 a p.1] at hn
theorem place_get (m : List (α × β)) (a : α) (i : Nat) : (place m a i).map (·.2) = mget m a := by
 induction m generalizing i with
 | nil => rfl
 | cons p r ih =>
  unfold place
  by_cases e : a = p.1
  ·simp [mget, e]
  ·rw [if_neg e, ih]; simp [mget, e]
def setMap (w : World) (b : Nat) (es : Array MapEntry) (c : Nat) : World := { w with heap := w.heap.setIfInBounds b (.map es c) }
theorem setMap_same {w : World} {b : Nat} {es : Array MapEntry} {c : Nat} (h : b < w.heap.size) : (setMap w b es c).heap[b]? = some (.map es c) := by simp [setMap, h]
theorem setMap_other {w : World} {b k : Nat} {es : Array MapEntry} {c : Nat} (h : k ≠ b) : (setMap w b es c).heap[k]? = w.heap[k]? := by simp [setMap, Ne.symm h]
theorem setMap_size {w : World} {b : Nat} {es : Array MapEntry} {c : Nat} : (setMap w b es c).heap.size = w.heap.size := by simp [setMap]
theorem below_setMap {B b : Nat} {a w : World} {es : Array MapEntry} {c : Nat} (h : Below B a w) (hb : B ≤ b) : Below B a (setMap w b es c) :=
 h.trans ⟨rfl, rfl, rfl, by rw [setMap_size]; exact Nat.le_refl _, fun k hk => setMap_other (by omega)⟩
def ButMap (b : Nat) (w w' : World) : Prop := ∃ es c, w' = setMap w b es c
theorem ButMap.other {b k : Nat} {w w' : World} (h : ButMap b w w') (hk : k ≠ b) : w'.heap[k]? = w.heap[k]? := by obtain ⟨es, c, rfl⟩ := h; exact setMap_other hk
theorem ButMap.size {b : Nat} {w w' : World} (h : ButMap b w w') : w'.heap.size = w.heap.size := by obtain ⟨es, c, rfl⟩ := h; exact setMap_size
theorem ButMap.below {B b : Nat} {a w w' : World} (h : ButMap b w w') (hw : Below B a w) (hb : B ≤ b) : Below B a w' := by obtain ⟨es, c, rfl⟩ := h; exact below_setMap hw hb
omit [DecidableEq α] in
theorem MapIs.empty (w : World) (κ : α → Value) (ν : β → Value) : MapIs (w.alloc (.map #[] 0)) w.heap.size κ ν [] := ⟨#[], 0, heap_alloc_new _ _, rfl⟩
omit [DecidableEq α] in
theorem MapIs.keep {w w' : World} {b : Nat} {κ : α → Value} {ν : β → Value} {m : List (α × β)} (h : MapIs w b κ ν m) (hk : w'.heap[b]? = w.heap[b]?) : MapIs w' b κ ν m := by
 obtain ⟨es, c, hb, he⟩ := h
 exact ⟨es, c, hk.trans hb, he⟩
omit [DecidableEq α] in
theorem MapIs.lt {w : World} {b : Nat} {κ : α → Value} {ν : β → Value} {m : List (α × β)} (h : MapIs w b κ ν m) : b < w.heap.size := by
 obtain ⟨es, c, hb, _⟩ := h; exact Agg.heap_lt hb
theorem run_lookup_ok {t K E : TypeId} {w : World} {b : Nat} {κ : α → Value} {ν : β → Value} {m : List (α × β)} {z : Value} (ht : P.underlying t = some (.map K E)) (hK : KeyEq P K κ) (hz : ∀ w, (zeroValue E).run P w = .ok z w)
  (h : MapIs w b κ ν m) (a : α) :
  (lookup t (.map (some b)) (κ a) true).run P w = .ok (.tuple #[(match mget m a with | some v => ν v | none => z), .bool (mget m a).isSome]) w := by
 obtain ⟨es, c, hb, he⟩ := h
 unfold lookup
 rw [Sem.run_bind, run_underlying ht w]
 simp only [Result.andThen, Sem.run_bind, getObj, Sem.run, hb, Sem.run_pure, hK.check, findKey_eq hK a m es.toList w he]
 have hg := place_get m a 0
 cases hp : place m a 0 with
 | none =>
  rw [hp] at hg
  simp [← hg, hz, Result.andThen]
 | some x =>
  rw [hp] at hg
  simp [← hg]
theorem place_mput (m : List (α × β)) (a : α) (v : β) (κ : α → Value) (ν : β → Value) : ∀ (es : List MapEntry) (i : Nat), es.map (fun e => (e.key, e.val)) = m.map (fun p => (κ p.1, ν p.2)) →
  (∀ j x, place m a i = some (j, x) → i ≤ j ∧ ∃ e, es[j - i]? = some e ∧ e.key = κ a ∧ (es.modify (j - i) (fun e => { e with key := κ a, val := ν v })).map (fun e => (e.key, e.val)) = (mput m a v).map (fun p => (κ p.1, ν p.2))) ∧
  (place m a i = none → (mput m a v) = m ++ [(a, v)]) := by
 induction m with
 | nil => intro es i he; exact ⟨fun j x h => by simp [place] at h, fun _ => rfl⟩
 | cons p r ih =>
  intro es i he
  cases es with
  | nil => simp at he
  | cons e es =>
   simp only [List.map_cons, List.cons.injEq, Prod.mk.injEq] at he
   obtain ⟨⟨hk, hv⟩, hr⟩ := he
   obtain ⟨h1, h2⟩ := ih es (i + 1) hr
   unfold place mput
   by_cases e' : a = p.1
   ·simp only [e', if_true]
    refine ⟨fun j x h => ?_, fun h => by simp at h⟩
    simp only [Option.some.injEq, Prod.mk.injEq] at h
    obtain ⟨rfl, rfl⟩ := h
    exact ⟨Nat.le_refl _, e, by simp, by rw [hk], by simp [hr]⟩
   ·simp only [e', if_false]
    refine ⟨fun j x h => ?_, fun h => by rw [h2 h]; rfl⟩
    obtain ⟨hle, e2, h3, h4, h5⟩ := h1 j x h
    refine ⟨by omega, e2, ?_, h4, ?_⟩
    ·rw [show j - i = (j - (i + 1)) + 1 by omega]; exact h3
    ·rw [show j - i = (j - (i + 1)) + 1 by omega]; simp [hk, hv, h5]
theorem run_mapUpdate {t K E : TypeId} {w : World} {b : Nat} {κ : α → Value} {ν : β → Value} {m : List (α × β)} (ht : P.underlying t = some (.map K E)) (hK : KeyEq P K κ)
  (h : MapIs w b κ ν m) (a : α) (v : β) :
  ∃ w', (mapUpdate t (.map (some b)) (κ a) (ν v)).run P w = .ok () w' ∧ MapIs w' b κ ν (mput m a v) ∧ ButMap b w w' := by
 obtain ⟨es, c, hb, he⟩ := h
 have hlt := Agg.heap_lt hb
 obtain ⟨h1, h2⟩ := place_mput m a v κ ν es.toList 0 he
 cases hp : place m a 0 with
 | none =>
  refine ⟨setMap w b (es.push { key := κ a, val := ν v, born := c }) (c + 1), ?_, ⟨_, _, setMap_same hlt, ?_⟩, _, _, rfl⟩
  ·unfold mapUpdate
   rw [Sem.run_bind, run_underlying ht w]
   simp only [Result.andThen, Sem.run_bind, getObj, Sem.run, hb, hK.check, findKey_eq hK a m es.toList w he, hp]
   simp [setObj, Sem.run, hb, setMap]
  ·rw [h2 hp]; simp [he]
 | some x =>
  obtain ⟨_, e, h3, h4, h5⟩ := h1 x.1 x.2 hp
  simp only [Nat.sub_zero] at h3 h5
  refine ⟨setMap w b (es.modify x.1 fun e => { e with key := κ a, val := ν v }) c, ?_, ⟨_, _, setMap_same hlt, ?_⟩, _, _, rfl⟩
  ·unfold mapUpdate
   rw [Sem.run_bind, run_underlying ht w]
   simp only [Result.andThen, Sem.run_bind, getObj, Sem.run, hb, hK.check, findKey_eq hK a m es.toList w he, hp]
   have h3' : es[x.1]? = some e := by simpa using h3
   simp [setObj, Sem.run, hb, setMap, h3', h4, keyThatStays, hK.bits]
  ·rw [Array.toList_modify]; exact h5
/-! At a list of operations. -/
variable {ops : Array Oper} {rest : List Oper} {o : Oper} {a : Act} {w : World} {Q : Exit → Act → World → Prop}
theorem wpList_lookup_ok (hg : o.guard = none) (mo xo : Operand) (t K E : TypeId) (hop : o.op = Op.lookup t mo xo true) (ht : P.underlying t = some (.map K E)) {κ : α → Value} {ν : β → Value} {z : Value}
  (hK : KeyEq P K κ) (hz : ∀ w, (zeroValue E).run P w = .ok z w) {b : Nat} {m : List (α × β)} (hm : a.eval mo = .map (some b)) (h : MapIs w b κ ν m) (x : α) (hx : a.eval xo = κ x)
  (hk : wpList P ops Q rest (a.put o.dst (.tuple #[(match mget m x with | some v => ν v | none => z), .bool (mget m x).isSome])) w) : wpList P ops Q (o :: rest) a w := by
 refine wpList_plain hg fun K' hK' => ?_
 unfold Oper.wp
 simp [execOp, hop, hm, hx, run_lookup_ok ht hK hz h x, Result.andThen]
 exact hK' _ _ hk
theorem wpList_lookup_hit (hg : o.guard = none) (mo xo : Operand) (t K E : TypeId) (hop : o.op = Op.lookup t mo xo true) (ht : P.underlying t = some (.map K E)) {κ : α → Value} {ν : β → Value} {z : Value}
  (hK : KeyEq P K κ) (hz : ∀ w, (zeroValue E).run P w = .ok z w) {b : Nat} {m : List (α × β)} (hm : a.eval mo = .map (some b)) (h : MapIs w b κ ν m) (x : α) (hx : a.eval xo = κ x) (v : β) (hv : mget m x = some v)
  (hk : wpList P ops Q rest (a.put o.dst (.tuple #[ν v, .bool true])) w) : wpList P ops Q (o :: rest) a w :=
 wpList_lookup_ok hg mo xo t K E hop ht hK hz hm h x hx (by rw [hv]; exact hk)
theorem wpList_lookup_miss (hg : o.guard = none) (mo xo : Operand) (t K E : TypeId) (hop : o.op = Op.lookup t mo xo true) (ht : P.underlying t = some (.map K E)) {κ : α → Value} {ν : β → Value} {z : Value}
  (hK : KeyEq P K κ) (hz : ∀ w, (zeroValue E).run P w = .ok z w) {b : Nat} {m : List (α × β)} (hm : a.eval mo = .map (some b)) (h : MapIs w b κ ν m) (x : α) (hx : a.eval xo = κ x) (hv : mget m x = none)
  (hk : wpList P ops Q rest (a.put o.dst (.tuple #[z, .bool false])) w) : wpList P ops Q (o :: rest) a w :=
 wpList_lookup_ok hg mo xo t K E hop ht hK hz hm h x hx (by rw [hv]; exact hk)
theorem wpList_mapUpdate (hg : o.guard = none) (hd : o.dst = none) (mo xo vo : Operand) (t K E : TypeId) (hop : o.op = Op.mapUpdate t mo xo vo) (ht : P.underlying t = some (.map K E)) {κ : α → Value} {ν : β → Value}
  (hK : KeyEq P K κ) {b : Nat} {m : List (α × β)} (hm : a.eval mo = .map (some b)) (h : MapIs w b κ ν m) (x : α) (hx : a.eval xo = κ x) (v : β) (hv : a.eval vo = ν v)
  (hk : ∀ w', MapIs w' b κ ν (mput m x v) → ButMap b w w' → wpList P ops Q rest a w') : wpList P ops Q (o :: rest) a w := by
 refine wpList_plain hg fun K' hK' => ?_
 obtain ⟨w', hr, h1, h2⟩ := run_mapUpdate ht hK h x v
 unfold Oper.wp
 simp [execOp, hop, hm, hx, hv, hr, Result.andThen]
 rw [Oper.upon_skip, hd]
 exact hK' _ _ (hk w' h1 h2)
end
end Go.Mp
/-! (of general use) base.values and base.Hash: the hash of letters. -/
namespace Go.Proofs.YtdebbmembkbniaaGreat
open Go.RowKit Pl Go.Mp
def z20 : List UInt8 := List.replicate 20 0
theorem z20_length : z20.length = 20 := rfl
theorem hC_info (h : List UInt8) (hl : h.length = 20) : (Tryz.prog.info? 43).map (·.size) = some (hC h).size := by rw [hC_size, hl]; kernel_rfl
theorem hC_one (h : List UInt8) : (hC h).all (·.oneCell') = true := by simp [hC, Lib.byteCells, Value.oneCell']
theorem hC_get (h : List UInt8) (i : Nat) (hi : i < h.length) : (hC h)[i]? = some (.int .u8 (h[i].toNat : Int)) := by simp [hC, Lib.byteCells, hi]
end Go.Proofs.YtdebbmembkbniaaGreat
/-! (of general use) Path: a path's text (base and spenceref03). -/
namespace Go.Proofs.YtdebbmembkbniaaGreat
open Go.RowKit Pl Go.Mp Go.Agg
def pC (h n : List UInt8) : Array Value := hC h ++ #[.string ⟨n.toArray⟩]
theorem pC_size (h n : List UInt8) : (pC h n).size = h.length + 1 := by simp [pC, hC_size]
theorem pC_name (h n : List UInt8) (hl : h.length = 20) : (pC h n)[20]? = some (.string ⟨n.toArray⟩) := by
 rw [pC, Array.getElem?_append, if_neg (by rw [hC_size]; omega), hC_size, hl]; rfl
theorem pC_hash (h n : List UInt8) (j : Nat) (v : Value) (hv : (hC h)[j]? = some v) : (pC h n)[0 + j]? = some v := by
 have hlt : j < (hC h).size := (Array.getElem?_eq_some_iff.1 hv).1
 rw [Nat.zero_add, pC, Array.getElem?_append, if_pos hlt]; exact hv
theorem isName_le {n : List UInt8} (h : isName n = true) : n.length ≤ 24 := by
 simp only [isName, Bool.and_eq_true, decide_eq_true_eq] at h
 exact h.1.2
end Go.Proofs.YtdebbmembkbniaaGreat
/-! (of general use) Parse: a text's path (base and spenceref03). -/
namespace Go.Agg
open Go.RowKit
section
variable {P : Program} {ops : Array Oper} {rest : List Oper} {o : Oper} {a : Act} {w : World} {Q : Exit → Act → World → Prop}
end
end Go.Agg
namespace Go.Proofs.YtdebbmembkbniaaGreat
open Go.RowKit Pl Go.Mp Go.Agg
theorem pC_zero : (Tryz.prog.info? 48).map (·.zero) = some (some (.agg (pC z20 []))) := by kernel_rfl
theorem pC_info (h n : List UInt8) (hl : h.length = 20) : (Tryz.prog.info? 48).map (·.size) = some (pC h n).size := by rw [pC_size, hl]; kernel_rfl
theorem pC_one (h n : List UInt8) : (pC h n).all (·.oneCell') = true := by simp [pC, hC, Lib.byteCells, Value.oneCell']
theorem pC_under : Tryz.prog.underlying 48 = some (.struct (Tryz.prog.fieldsOf 48)) := by kernel_rfl
theorem pC_setHash (h h' n : List UInt8) (hl : h.length = 20) (hl' : h'.length = 20) : ((pC h n).toList.take 0 ++ (hC h').toList ++ (pC h n).toList.drop (0 + (hC h').size)).toArray = pC h' n := by
 apply Array.ext'
 simp [pC, hC, Lib.byteCells, hl, hl']
end Go.Proofs.YtdebbmembkbniaaGreat
/-! '==' of hashes and of paths. -/
namespace Go.Proofs.YtdebbmembkbniaaGreat
open Go.RowKit Pl Go.Agg
set_option maxRecDepth 100000 in
theorem eqlIn_hash (d : Nat) (h h' : List UInt8) (hl : h.length = 20) (hl' : h'.length = 20) (w : World) : (Op.equalIn (d + 2) 43 (.agg (hC h)) (.agg (hC h'))).run Tryz.prog w = .ok (h == h') w :=
 run_equalIn_bytes w d 43 5 20 Tryz.underlying43 rfl (fun w => by kernel_rfl) h h' hl hl'
theorem eql_hash (h h' : List UInt8) (hl : h.length = 20) (hl' : h'.length = 20) (w : World) : (binOp .eql 43 (.agg (hC h)) (.agg (hC h'))).run Tryz.prog w = .ok (.bool (h == h')) w := by
 rw [run_eql_struct, eqlIn_hash 9998 h h' hl hl' w]; rfl
theorem path_fields : (Tryz.prog.fieldsOf 48).toList.map (fun f => (f.name, f.type, f.offset)) = [("Hash", 43, 0), ("Name", 9, 20)] := by kernel_rfl
theorem isAgg_hash (w : World) : (isAgg 43).run Tryz.prog w = .ok true w := by kernel_rfl
theorem isAgg_name (w : World) : (isAgg 9).run Tryz.prog w = .ok false w := by kernel_rfl
theorem size_hash (w : World) : (sizeOf 43).run Tryz.prog w = .ok 20 w := by kernel_rfl
theorem part_hash (h n : List UInt8) (hl : h.length = 20) (w : World) : (Go.part 43 (pC h n) 0).run Tryz.prog w = .ok (.agg (hC h)) w := by
 unfold Go.part
 simp only [Sem.run_bind, isAgg_hash, Result.andThen_ok, if_true, size_hash, Sem.run_pure]
 congr 2
 simp [pC, hC_size, hl]
theorem part_name (h n : List UInt8) (hl : h.length = 20) (w : World) : (Go.part 9 (pC h n) 20).run Tryz.prog w = .ok (.string ⟨n.toArray⟩) w := by
 unfold Go.part
 simp only [Sem.run_bind, isAgg_name, Result.andThen_ok, Bool.false_eq_true, if_false, pC_name h n hl, Sem.run_pure]
theorem eql_path (h n h' n' : List UInt8) (hl : h.length = 20) (hl' : h'.length = 20) (w : World) : (binOp .eql 48 (.agg (pC h n)) (.agg (pC h' n'))).run Tryz.prog w = .ok (.bool (h == h' && n == n')) w := by
 rw [run_eql_struct, run_equalIn_struct w 9999 48 _ _ pC_under (by kernel_rfl)]
 have hf := path_fields
 generalize (Tryz.prog.fieldsOf 48).toList = fs at hf ⊢
 cases fs with
 | nil => exact absurd hf (by simp)
 | cons f1 fs =>
 cases fs with
 | nil => exact absurd hf (by simp)
 | cons f2 fs =>
 cases fs with
 | cons f3 fs => exact absurd hf (by simp)
 | nil =>
  simp only [List.map_cons, List.map_nil, List.cons.injEq, Prod.mk.injEq, and_true] at hf
  obtain ⟨⟨a1, a2, a3⟩, b1, b2, b3⟩ := hf
  simp only [Op.eqFields, a1, a2, a3, b1, b2, b3, Sem.run_bind, Sem.run_ite, part_hash _ _ hl, part_hash _ _ hl', part_name _ _ hl, part_name _ _ hl', Result.andThen_ok, eqlIn_hash 9997 _ _ hl hl', run_equalIn_string w 9998 9 _ _ Tryz.underlying9, Agg.bytes_toList]
  cases h == h' <;> cases n == n' <;> simp
end Go.Proofs.YtdebbmembkbniaaGreat
/-! Struct literals of parts of several cells, over any program. -/
namespace Go.Agg
open Go.RowKit
def splice (C : Array Value) (off : Nat) (cs : Array Value) : Array Value := (C.toList.take off ++ cs.toList ++ C.toList.drop (off + cs.size)).toArray
theorem splice_size (C : Array Value) (off : Nat) (cs : Array Value) (h : off + cs.size ≤ C.size) : (splice C off cs).size = C.size := by
 simp [splice]; omega
theorem fill_cons {place : Nat → Option (Nat × Nat)} {C : Array Value} {i off size : Nat} {v : Value} {rest : List (Nat × Value)} (hp : place i = some (off, size)) (hs : v.cells.size = size) (hle : off + size ≤ C.size) :
  Instr.fill place C ((i, v) :: rest) = Instr.fill place (splice C off v.cells) rest := by
 subst hs
 rw [Instr.fill]
 simp only [hp]
 rw [if_neg (by simp; omega)]
 congr 1
 obtain ⟨h1, h2⟩ := Great.foldl_set off v.cells.toList 0 C
 apply Array.ext_getElem?
 intro k
 have e : Array.foldl (fun (cs : Array Value) (x : Value × Nat) => cs.setIfInBounds (off + x.2) x.1) C v.cells.zipIdx = (v.cells.toList.zipIdx 0).foldl (fun cs (x : Value × Nat) => cs.setIfInBounds (off + x.2) x.1) C := by
  rw [← Array.foldl_toList, Array.toList_zipIdx]
 refine (congrArg (fun (x : Array Value) => x[k]?) e).trans ?_
 rw [h2 k]
 simp only [splice, Nat.add_zero, List.getElem?_toArray, Array.length_toList]
 have hC : C.toList.length = C.size := Array.length_toList
 by_cases hk : k < off
 ·rw [if_neg (by omega), List.append_assoc, List.getElem?_append_left (by simp; omega), List.getElem?_take, if_pos hk]; simp
 ·by_cases hk2 : k < off + v.cells.size
  ·rw [if_pos ⟨by omega, hk2, by omega⟩, List.getElem?_append_left (by simp; omega), List.getElem?_append_right (by simp; omega)]
   simp [show min off C.size = off by omega]
  ·rw [if_neg (by omega), List.getElem?_append_right (by simp; omega), List.getElem?_drop]
   simp [show min off C.size = off by omega]
   congr 1; omega
theorem fill_nil {place : Nat → Option (Nat × Nat)} {C : Array Value} : Instr.fill place C [] = some C := rfl
theorem belowThen {B : Nat} {a b c : World} (h : Below B a b) (hB : B ≤ a.heap.size) (k : Below b.heap.size b c) : Below B a c := h.trans (k.mono (Nat.le_trans hB h.size))
theorem wpQuiet_val {P : Program} {ops : Array Oper} {rest : List Oper} {o : Oper} {a : Act} {C : World → Prop} {Q : Act → Prop} (hw : Region.wanted o (yielded ops a.tmps) = true) (v : Value)
  (hrun : ∀ w, C w → (execOp a.eval o).run P w = .ok (.value v) w) (h : wpQuiet P ops C Q rest (a.put o.dst v)) : wpQuiet P ops C Q (o :: rest) a := by
 refine wpQuiet_step fun K hK => ?_
 rw [if_pos hw]
 refine ⟨v, fun w hC => ?_, hK _ h⟩
 unfold Oper.quietAt
 simp [hrun w hC, Oper.quietUpon]
theorem wpQuiet_eql {P : Program} {ops : Array Oper} {rest : List Oper} {o : Oper} {a : Act} {C : World → Prop} {Q : Act → Prop} (hw : Region.wanted o (yielded ops a.tmps) = true) (t u : TypeId) (x y : Operand) (ho : o.op = .binOp .eql t x y u)
  (xs ys : Array Value) (hx : a.eval x = .agg xs) (hy : a.eval y = .agg ys) (b : Bool) (hg : P.eqGuardType P.depth t = false) (hrun : ∀ w, (binOp .eql t (.agg xs) (.agg ys)).run P w = .ok (.bool b) w)
  (h : wpQuiet P ops C Q rest (a.put o.dst (.bool b))) : wpQuiet P ops C Q (o :: rest) a := by
 refine wpQuiet_val hw _ (fun w _ => ?_) h
 simp [execOp, ho, hx, hy, hrun, run_eqGuard_agg w .eql t x y xs ys hg]
theorem wpQuiet_build0 {P : Program} {ops : Array Oper} {rest : List Oper} {o : Oper} {a : Act} {C : World → Prop} {Q : Act → Prop} (ty : TypeId) (ho : o.op = .build ty #[]) (hw : Region.wanted o (yielded ops a.tmps) = true)
  (v : Value) (hrun : ∀ w, (Instr.build ty #[]).run P w = .ok v w) (h : wpQuiet P ops C Q rest (a.put o.dst v)) : wpQuiet P ops C Q (o :: rest) a := by
 refine wpQuiet_val hw _ (fun w _ => ?_) h
 simp [execOp, ho, hrun]
end Go.Agg
/-! Guarded operations in a region that keeps its order: struct literals. -/
namespace Go.Agg
open Go.RowKit
section
variable {P : Program} {ops : Array Oper} {rest : List Oper} {o : Oper} {a : Act} {w : World} {Q : Exit → Act → World → Prop}
theorem wpList_valw (hw : Region.wanted o (yielded ops a.tmps) = true) {v : Value} {w' : World} (hrun : (execOp a.eval o).run P w = .ok (.value v) w') (h : wpList P ops Q rest (a.put o.dst v) w') : wpList P ops Q (o :: rest) a w := by
 unfold wpList
 rw [if_pos hw]
 left
 unfold Oper.wp
 rw [hrun]
 exact h
theorem wpList_build2 (ty : TypeId) (i : Nat) (x : Operand) (j : Nat) (y : Operand) (ho : o.op = .build ty #[(i, x), (j, y)]) (hw : Region.wanted o (yielded ops a.tmps) = true)
  (vx vy : Value) (hx : a.eval x = vx) (hy : a.eval y = vy) (v : Value) (hrun : ∀ w, (Instr.build ty #[(i, vx), (j, vy)]).run P w = .ok v w) (h : wpList P ops Q rest (a.put o.dst v) w) : wpList P ops Q (o :: rest) a w := by
 subst hx hy
 refine wpList_valw hw ?_ h
 simp [execOp, ho, hrun]
theorem wpList_build1 (ty : TypeId) (i : Nat) (x : Operand) (ho : o.op = .build ty #[(i, x)]) (hw : Region.wanted o (yielded ops a.tmps) = true)
  (vx : Value) (hx : a.eval x = vx) (v : Value) (hrun : ∀ w, (Instr.build ty #[(i, vx)]).run P w = .ok v w) (h : wpList P ops Q rest (a.put o.dst v) w) : wpList P ops Q (o :: rest) a w := by
 subst hx
 refine wpList_valw hw ?_ h
 simp [execOp, ho, hrun]
theorem wpList_build0 (ty : TypeId) (ho : o.op = .build ty #[]) (hw : Region.wanted o (yielded ops a.tmps) = true)
  (v : Value) (hrun : ∀ w, (Instr.build ty #[]).run P w = .ok v w) (h : wpList P ops Q rest (a.put o.dst v) w) : wpList P ops Q (o :: rest) a w := by
 refine wpList_valw hw ?_ h
 simp [execOp, ho, hrun]
theorem wpList_loadw (ty : TypeId) (x : Operand) (ho : o.op = .load ty x) (hw : Region.wanted o (yielded ops a.tmps) = true) (p : Value) (hx : a.eval x = p) (v : Value) (hrun : (Instr.loadAt ty p).run P w = .ok v w) (h : wpList P ops Q rest (a.put o.dst v) w) : wpList P ops Q (o :: rest) a w := by
 refine wpList_valw hw ?_ h
 simp [execOp, ho, hx, hrun]
theorem run_eqw (op : BinOp) (hop : op = .eql ∨ op = .neq) (t u : TypeId) (x y : Operand) (ho : o.op = .binOp op t x y u) (xs ys : Array Value) (hx : a.eval x = .agg xs) (hy : a.eval y = .agg ys) (b : Bool) (hg : P.eqGuardType P.depth t = false)
  (hrun : ∀ w, (binOp op t (.agg xs) (.agg ys)).run P w = .ok (.bool b) w) (w : World) : (execOp a.eval o).run P w = .ok (.value (.bool b)) w := by
 rcases hop with rfl | rfl <;> simp [execOp, ho, hx, hy, hrun, run_eqGuard_agg w _ t x y xs ys hg]
theorem wpQuiet_neq {C : World → Prop} {Q : Act → Prop} (t u : TypeId) (x y : Operand) (ho : o.op = .binOp .neq t x y u) (hw : Region.wanted o (yielded ops a.tmps) = true) (xs ys : Array Value) (hx : a.eval x = .agg xs) (hy : a.eval y = .agg ys) (b : Bool) (hg : P.eqGuardType P.depth t = false)
  (hrun : ∀ w, (binOp .neq t (.agg xs) (.agg ys)).run P w = .ok (.bool b) w) (h : wpQuiet P ops C Q rest (a.put o.dst (.bool b))) : wpQuiet P ops C Q (o :: rest) a :=
 wpQuiet_val hw _ (fun w _ => run_eqw .neq (.inr rfl) t u x y ho xs ys hx hy b hg hrun w) h
theorem wpList_eqlw (t u : TypeId) (x y : Operand) (ho : o.op = .binOp .eql t x y u) (hw : Region.wanted o (yielded ops a.tmps) = true) (xs ys : Array Value) (hx : a.eval x = .agg xs) (hy : a.eval y = .agg ys) (b : Bool) (hg : P.eqGuardType P.depth t = false)
  (hrun : ∀ w, (binOp .eql t (.agg xs) (.agg ys)).run P w = .ok (.bool b) w) (h : wpList P ops Q rest (a.put o.dst (.bool b)) w) : wpList P ops Q (o :: rest) a w :=
 wpList_valw hw (run_eqw .eql (.inl rfl) t u x y ho xs ys hx hy b hg hrun w) h
theorem wpList_buildSlice1 (ty : TypeId) (len i : Nat) (x : Operand) (ho : o.op = .buildSlice ty len #[(i, x)]) (hw : Region.wanted o (yielded ops a.tmps) = true)
  (vx : Value) (hx : a.eval x = vx) (v : Value) (w' : World) (hrun : (Instr.buildSlice ty len #[(i, vx)]).run P w = .ok v w') (h : wpList P ops Q rest (a.put o.dst v) w') : wpList P ops Q (o :: rest) a w := by
 subst hx
 refine wpList_valw hw ?_ h
 simp [execOp, ho, hrun]
end
end Go.Agg
/-! Steps of a walk that keep the world abstract, over any program: loads that stay, new blocks, stores into them. -/
namespace Go.Agg
open Go.RowKit
variable {P : Program}
def LoadsL (P : Program) (W : World) (ty : TypeId) (p : Option Addr) (v : Value) : Prop := ∀ y : Later W, (Instr.loadAt ty (.pointer p)).run P y.w = .ok v y.w
theorem LoadsL.now {W : World} {ty : TypeId} {p : Option Addr} {v : Value} (h : LoadsL P W ty p v) : (Instr.loadAt ty (.pointer p)).run P W = .ok v W := h (Later.mk' W)
theorem LoadsL.below {W W' : World} {ty : TypeId} {p : Option Addr} {v : Value} (h : LoadsL P W ty p v) (hb : Below W.heap.size W W') : LoadsL P W' ty p v := fun y => h ⟨y.w, belowThen hb (Nat.le_refl _) y.h⟩
theorem add_plain (g off j : Nat) : (⟨g, off, none⟩ : Addr).add j = ⟨g, off + j, none⟩ := by unfold Addr.add; split <;> simp_all
theorem add_block (a : Addr) (j : Nat) : (a.add j).block = a.block := by unfold Addr.add; split <;> rfl
theorem add_add (a : Addr) (i j : Nat) : (a.add i).add j = a.add (i + j) := by
 unfold Addr.add
 by_cases hi : i = 0 <;> by_cases hj : j = 0 <;> simp [hi, hj, Nat.add_assoc]
theorem LoadsL.of_cells {w : World} {a : Addr} {ty : TypeId} {cs : Array Value} {d : TypeDesc} (hg : a.block < w.heap.size) (h : ∀ j v, cs[j]? = some v → w.cell? (a.add j) = some v)
  (hu : P.underlying ty = some d) (hd : (match d with | .struct _ | .array _ _ => true | _ => false) = true) (hi : (P.info? ty).map (·.size) = some cs.size) : LoadsL P w ty (some a) (.agg cs) := fun y => by
 have hl : (loadCells a cs.toList.length).run P y.w = .ok cs.toList.toArray y.w :=
  run_loadCells_list (P := P) y.w a cs.toList (fun j v hv => (y.h.cell (p := a.add j) (by rw [add_block]; exact hg)).trans (h j v (by simpa using hv)))
 cases hq : P.info? ty with
 | none => simp [hq] at hi
 | some i =>
  have hs : i.size = cs.size := by simpa [hq] using hi
  have hagg : (isAgg ty).run P y.w = .ok true y.w := by
   unfold isAgg
   rw [Sem.run_bind, run_underlying hu y.w]
   cases d <;> simp_all
  simp only [Array.length_toList, Array.toArray_toList] at hl
  simp [Instr.loadAt, Instr.sureAddr, loadVar, Sem.run_bind, hagg, sizeOf, typeInfo, hq, hs, hl]
theorem LoadsL.of_cell {w : World} {a : Addr} {ty : TypeId} {v : Value} {d : TypeDesc} (h : w.cell? a = some v) (hu : P.underlying ty = some d) (hd : (match d with | .struct _ | .array _ _ => true | _ => false) = false) :
  LoadsL P w ty (some a) v := fun y => by
 have hc := y.cell h
 have hagg : (isAgg ty).run P y.w = .ok false y.w := by
  unfold isAgg
  rw [Sem.run_bind, run_underlying hu y.w]
  cases d <;> simp_all
 simp [Instr.loadAt, Instr.sureAddr, loadVar, Sem.run_bind, hagg, go_sem, hc]
def Blk (w : World) (g : Nat) (t : TypeId) (cs : Array Value) : Prop := w.heap[g]? = some (.cells cs t (0, 0))
section
variable {w w' : World} {g : Nat} {t : TypeId} {cs : Array Value}
theorem Blk.lt (h : Blk w g t cs) : g < w.heap.size := heap_lt h
theorem Blk.cell (h : Blk w g t cs) (i : Nat) : w.cell? ⟨g, i, none⟩ = cs[i]? := cell_of_row w g i cs t (0, 0) h
theorem Blk.below (h : Blk w g t cs) (hb : Below w.heap.size w w') : Blk w' g t cs := keep' hb h
theorem Blk.loads (h : Blk w g t cs) {ty : TypeId} {d : TypeDesc} (hu : P.underlying ty = some d) (hd : (match d with | .struct _ | .array _ _ => true | _ => false) = true) (hi : (P.info? ty).map (·.size) = some cs.size) :
  LoadsL P w ty (some ⟨g, 0, none⟩) (.agg cs) :=
 LoadsL.of_cells h.lt (fun j v hj => by rw [add_plain, h.cell, Nat.zero_add]; exact hj) hu hd hi
theorem Blk.sub (h : Blk w g t cs) {ty : TypeId} {d : TypeDesc} (off : Nat) (ds : Array Value) (hsub : ∀ j v, ds[j]? = some v → cs[off + j]? = some v) (hu : P.underlying ty = some d) (hd : (match d with | .struct _ | .array _ _ => true | _ => false) = true) (hi : (P.info? ty).map (·.size) = some ds.size) :
  LoadsL P w ty (some ⟨g, off, none⟩) (.agg ds) :=
 LoadsL.of_cells h.lt (fun j v hj => by rw [add_plain, h.cell]; exact hsub j v hj) hu hd hi
theorem Blk.one (h : Blk w g t cs) {ty : TypeId} {d : TypeDesc} (off : Nat) {v : Value} (hv : cs[off]? = some v) (hu : P.underlying ty = some d) (hd : (match d with | .struct _ | .array _ _ => true | _ => false) = false) :
  LoadsL P w ty (some ⟨g, off, none⟩) v := LoadsL.of_cell (by rw [h.cell]; exact hv) hu hd
theorem Blk.new (w : World) (t : TypeId) (cs : Array Value) : Blk (w.alloc (.cells cs t)) w.heap.size t cs := heap_alloc_new w _
end
/-! at a list of operations -/
section
variable {ops : Array Oper} {rest : List Oper} {o : Oper} {a : Act} {w : World} {Q : Exit → Act → World → Prop}
theorem wpList_loadL {ty : TypeId} {p : Option Addr} {v : Value} (h : LoadsL P w ty p v) (hw : Region.wanted o (yielded ops a.tmps) = true) (x : Operand) (ho : o.op = .load ty x) (hx : a.eval x = .pointer p) (hk : wpList P ops Q rest (a.put o.dst v) w) : wpList P ops Q (o :: rest) a w :=
 wpList_loadw ty x ho hw _ hx v h.now hk
theorem wpQuiet_loadL {W : World} {Q : Act → Prop} {ty : TypeId} {p : Option Addr} {v : Value} (h : LoadsL P W ty p v) (hw : Region.wanted o (yielded ops a.tmps) = true) (x : Operand) (ho : o.op = .load ty x) (hx : a.eval x = .pointer p)
  (hk : wpQuiet P ops (fun w' => ∃ x : Later W, w' = x.w) Q rest (a.put o.dst v)) : wpQuiet P ops (fun w' => ∃ x : Later W, w' = x.w) Q (o :: rest) a :=
 wpQuiet_load hw ty x ho _ hx v (later_all h) hk
theorem walk_stop {p : Prop} (h : p ∧ True) : p := h.1
theorem wpList_zero (hg : o.guard = none) (ty : TypeId) (ho : o.op = .alloc ty) (cs : Array Value) (hz : (P.info? ty).map (·.zero) = some (some (.agg cs)))
  (h : ∀ g w', Blk w' g ty cs → Below w.heap.size w w' → w.heap.size ≤ g → wpList P ops Q rest (a.put o.dst (.pointer (some ⟨g, 0, none⟩))) w') : wpList P ops Q (o :: rest) a w :=
 wpList_alloc_row hg ty ho cs hz (h _ _ (Blk.new _ _ _) ((Below.refl _ _).alloc (Nat.le_refl _) _) (Nat.le_refl _))
theorem wpList_box (hg : o.guard = none) (ty : TypeId) (x : Operand) (ho : o.op = .box ty x) (cs : Array Value) (hx : a.eval x = .agg cs)
  (h : ∀ g w', Blk w' g ty cs → Below w.heap.size w w' → w.heap.size ≤ g → wpList P ops Q rest (a.put o.dst (.pointer (some ⟨g, 0, none⟩))) w') : wpList P ops Q (o :: rest) a w := by
 refine wpList_val hg ?_ (h _ _ (Blk.new w ty cs) ((Below.refl _ _).alloc (Nat.le_refl _) _) (Nat.le_refl _))
 simp [execOp, ho, hx, Instr.box, newVar, newRow, Value.cells]
theorem wpList_new {o2 : Oper} (hg : o.guard = none) (hg2 : o2.guard = none) (hd2 : o2.dst = none) (ty : TypeId) (d k : Tmp) (ho : o.op = .alloc ty) (hd : o.dst = some d) (ho2 : o2.op = .store ty (.tmp d) (.tmp k)) (hkd : Nat.beq d k = false) (z cs : Array Value)
  (hz : (P.info? ty).map (·.zero) = some (some (.agg z))) (hzs : z.size = cs.size) (hi : (P.info? ty).map (·.size) = some cs.size) (h1 : cs.all (·.oneCell') = true)
  (hy : a.eval (.tmp k) = .agg cs) (hsz : d < a.tmps.size)
  (h : ∀ g w', Blk w' g ty cs → Below w.heap.size w w' → w.heap.size ≤ g → wpList P ops Q rest (a.put o.dst (.pointer (some ⟨g, 0, none⟩))) w') : wpList P ops Q (o :: o2 :: rest) a w := by
 refine wpList_alloc_row hg ty ho z hz ?_
 have hb := heap_alloc_new w (.cells z ty)
 have hne : d ≠ k := Nat.ne_of_beq_eq_false hkd
 refine wpList_set_row hg2 hd2 ty _ _ ho2 w.heap.size cs ?_ ?_ ty z hb hi hzs h1 ?_
 ·rw [hd]
  simp [Act.put, Act.eval, hsz]
 ·rw [hd, ← hy]
  simp [Act.put, Act.eval, hne]
 ·exact h _ _ (setRow_heap _ _ _ _ _ _ hb) (below_setRow ((Below.refl _ _).alloc (Nat.le_refl _) _) (Nat.le_refl _)) (Nat.le_refl _)
theorem wpList_put (hg : o.guard = none) (hd : o.dst = none) (ty : TypeId) (x y : Operand) (ho : o.op = .store ty x y) (g : Nat) (cs old : Array Value) (hx : a.eval x = .pointer (some ⟨g, 0, none⟩)) (hy : a.eval y = .agg cs)
  (hb : Blk w g ty old) (hi : (P.info? ty).map (·.size) = some cs.size) (hold : old.size = cs.size) (h1 : cs.all (·.oneCell') = true)
  (h : ∀ w', Blk w' g ty cs → Below g w w' → w'.heap.size = w.heap.size → (∀ k, k ≠ g → w'.heap[k]? = w.heap[k]?) → wpList P ops Q rest a w') : wpList P ops Q (o :: rest) a w := by
 refine wpList_set_row hg hd ty x y ho g cs hx hy ty old hb hi hold h1 ?_
 exact h _ (setRow_heap _ _ _ _ _ _ hb) (below_setRow (Below.refl _ _) (Nat.le_refl _)) (by simp) (fun k hk => setRow_other w g k cs hk)
end
end Go.Agg
