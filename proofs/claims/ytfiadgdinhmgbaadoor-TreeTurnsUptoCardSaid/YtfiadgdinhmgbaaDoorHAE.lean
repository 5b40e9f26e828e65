/- code.Maker's block; what a step of a maker leaves alone. (Several texts in one.) -/
import Derived.Test.YtfiadgdinhmgbaaDoorHAD
import Derived.Deep.RegionHeld3
import Derived.Test.YtfiadgdinhmgbaaDoorHAC
import Derived.Stop.BytesEq
import Derived.Test.YtfiadgdinhmgbaaDoorHAB
import Derived.Lib.Bytealg
import Derived.Lib.BytesEntry
import Derived.Lib.ConvBytes
import Derived.Laws.IdiomStrings
import Derived.Laws.BytesArg
import Derived.StillTailTactics
/-! A region that draws its order, step by step: each operation that may come up, by its own law. -/
namespace Go.Agg
open Go.RowKit
variable {P : Program}
section
variable {l : List Oper} {md : Region.Mode} {Q : Exit → Act → World → Prop} {S : World → Prop} {fuel : Nat} {listed : Array Bool} {a : Act} {w : World}
def takeB (md : Region.Mode) (l : List Oper) (listed : Array Bool) (i : Nat) : Bool :=
 Region.noSelect l.toArray && Region.free md l.toArray listed i && (Region.ready md l.toArray listed).contains i
theorem any_take {o : Oper} (i : Nat) (v : Value) (ho : l[i]? = some o) (hB : takeB md l listed i = true) (hQ : ∀ c a w, Q (.panic c) (a.put o.dst v) w → Q (.panic c) a w) (hw : Region.wanted o (yielded l.toArray a.tmps) = true)
  (hy : ∀ w, (execOp a.eval o).run P w = .ok (.value v) w) (h : wpAny P md l.toArray Q fuel (listed.setIfInBounds i true) (a.put o.dst v) w) : wpAny P md l.toArray Q (fuel + 1) listed a w := by
 simp only [takeB, Bool.and_eq_true] at hB
 exact wpAny_take (by simpa using ho) hB.1.1 hB.1.2 hB.2 hQ (.inl ⟨hw, hy⟩) h
theorem any_ready (rs : List Nat) (hr : Region.ready md l.toArray listed = rs) (hne : rs ≠ []) (h : AllReady P md l.toArray Q fuel listed a w rs) : wpAny P md l.toArray Q (fuel + 1) listed a w := wpAny_ready hr hne h
theorem any_cons {o : Oper} {i : Nat} {rs : List Nat} (ho : l[i]? = some o)
  (h : if Region.wanted o (yielded l.toArray a.tmps) = true then Oper.wp P o a w (wpAny P md l.toArray Q fuel (listed.setIfInBounds i true)) Q else wpAny P md l.toArray Q fuel (listed.setIfInBounds i true) (a.put o.dst undef) w)
  (hs : AllReady P md l.toArray Q fuel listed a w rs) : AllReady P md l.toArray Q fuel listed a w (i :: rs) :=
 AllReady.cons (by simpa using ho) (fun K' hK => by
  split at h
  ·rename_i hw; rw [if_pos hw]; exact Oper.wp_mono hK h
  ·rename_i hw; rw [if_neg hw]; exact hK _ _ h) hs
theorem any_end (hr : Region.ready md l.toArray listed = []) (h : Q .normal a w) : wpAny P md l.toArray Q fuel listed a w := by
 cases fuel with
 | zero => exact ⟨hr, h⟩
 | succ n => exact ⟨fun _ => h, by rw [hr]; intro i hi; cases hi⟩
/-! .. while S holds -/
theorem held_take {o : Oper} (i : Nat) (v : Value) (ho : l[i]? = some o) (hB : takeB md l listed i = true) (hQ : ∀ c a w, Q (.panic c) (a.put o.dst v) w → Q (.panic c) a w) (hw : Region.wanted o (yielded l.toArray a.tmps) = true)
  (hy : ∀ w, S w → (execOp a.eval o).run P w = .ok (.value v) w) (hS : S w) (h : wpAnyH P md l.toArray Q S fuel (listed.setIfInBounds i true) (a.put o.dst v) w) : wpAnyH P md l.toArray Q S (fuel + 1) listed a w := by
 simp only [takeB, Bool.and_eq_true] at hB
 exact wpAnyH_take (by simpa using ho) hB.1.1 hB.1.2 hB.2 hQ (.inl ⟨hw, hy⟩) hS h
theorem held_ready (rs : List Nat) (hr : Region.ready md l.toArray listed = rs) (hne : rs ≠ []) (h : AllReadyH P md l.toArray Q S fuel listed a w rs) : wpAnyH P md l.toArray Q S (fuel + 1) listed a w := wpAnyH_ready hr hne h
theorem held_cons {o : Oper} {i : Nat} {rs : List Nat} (ho : l[i]? = some o)
  (h : if Region.wanted o (yielded l.toArray a.tmps) = true then Oper.wp P o a w (fun a' w' => S w' ∧ wpAnyH P md l.toArray Q S fuel (listed.setIfInBounds i true) a' w') Q else S w ∧ wpAnyH P md l.toArray Q S fuel (listed.setIfInBounds i true) (a.put o.dst undef) w)
  (hs : AllReadyH P md l.toArray Q S fuel listed a w rs) : AllReadyH P md l.toArray Q S fuel listed a w (i :: rs) :=
 AllReadyH.cons (by simpa using ho) (fun K' hK => by
  split at h
  ·rename_i hw; rw [if_pos hw]; exact Oper.wp_mono (fun a w h => hK.out a w h.1 fun _ => h.2) h
  ·rename_i hw; rw [if_neg hw]; exact hK.out _ _ h.1 fun _ => h.2) hs
theorem held_end (hr : Region.ready md l.toArray listed = []) (h : Q .normal a w) : wpAnyH P md l.toArray Q S fuel listed a w := by
 cases fuel with
 | zero => exact ⟨hr, h⟩
 | succ n => exact ⟨fun _ => h, by rw [hr]; intro i hi; cases hi⟩
theorem any_one {o : Oper} (i : Nat) (ho : l[i]? = some o) (hr : Region.ready md l.toArray listed = [i])
  (h : if Region.wanted o (yielded l.toArray a.tmps) = true then Oper.wp P o a w (wpAny P md l.toArray Q fuel (listed.setIfInBounds i true)) Q else wpAny P md l.toArray Q fuel (listed.setIfInBounds i true) (a.put o.dst undef) w) : wpAny P md l.toArray Q (fuel + 1) listed a w :=
 any_ready [i] hr (by simp) (any_cons ho h AllReady.nil)
theorem held_one {o : Oper} (i : Nat) (ho : l[i]? = some o) (hr : Region.ready md l.toArray listed = [i])
  (h : if Region.wanted o (yielded l.toArray a.tmps) = true then Oper.wp P o a w (fun a' w' => S w' ∧ wpAnyH P md l.toArray Q S fuel (listed.setIfInBounds i true) a' w') Q else S w ∧ wpAnyH P md l.toArray Q S fuel (listed.setIfInBounds i true) (a.put o.dst undef) w) : wpAnyH P md l.toArray Q S (fuel + 1) listed a w :=
 held_ready [i] hr (by simp) (held_cons ho h AllReadyH.nil)
end
section
variable {ops : Array Oper} {o : Oper} {a : Act} {w : World} {Q : Exit → Act → World → Prop} {K : Act → World → Prop} {F : Prop}
theorem step_call (hg : o.guard = none) (f : FuncId) (xs : Array Operand) (ts : Array TypeId) (ho : o.op = .call { callee := .value (.func f), args := xs, argTypes := ts }) (vs : Array Value) (hv : xs.map a.eval = vs)
  (he : ∀ w, (callFunc f vs).run P w = .ok (.enter f vs) w) (h : Calls P f vs w fun e w' => ∃ v, e = .returned v ∧ K (a.put o.dst v) w') : if Region.wanted o (yielded ops a.tmps) = true then o.wp P a w K Q else F := by
 rw [if_pos (by simp [Region.wanted, hg])]
 unfold Oper.wp
 have : (execOp a.eval o).run P w = .ok (.enter f vs) w := by
  subst hv
  have hf : a.eval (Operand.func f) = .func (.func f) #[] #[] := rfl
  simp [execOp, ho, resolve, invoke, hf, Deferred.ofValue, he]
 rw [this, Oper.upon_enter]
 refine h.mono ?_
 rintro e w' ⟨v, rfl, hk⟩
 exact hk
theorem step_load (hg : o.guard = none) (ty : TypeId) (x : Operand) (ho : o.op = .load ty x) (p v : Value) (hx : a.eval x = p) (hrun : (Instr.loadAt ty p).run P w = .ok v w) (h : K (a.put o.dst v) w) : if Region.wanted o (yielded ops a.tmps) = true then o.wp P a w K Q else F :=
 step_val hg (by simp [execOp, ho, hx, hrun]) h
end
end Go.Agg
/-! (of general use) base.values and base.Hash: the hash of letters. -/
namespace Go.Proofs.YtfiadgdinhmgbaaDoor
open Go.RowKit Pl Go.Mp
theorem nextAt_low (w : World) (b : Nat) (s : List UInt8) (k : Nat) (ty : TypeId) (hb : w.heap[b]? = some (.stringIter ⟨s.toArray⟩ k)) (hk : k < s.length) (ha : s[k].toNat < 128) :
  (Instr.next (.pointer (some ⟨b, 0, none⟩)) true ty).run Tryd.prog w = .ok (.tuple #[.bool true, .int .i64 (k : Int), .int .i32 (s[k].toNat : Int)]) (w.iterAt b ⟨s.toArray⟩ (k + 1)) := by
 have hs : k < (⟨s.toArray⟩ : ByteArray).size := by rw [Agg.bytes_size]; exact hk
 have he : (⟨s.toArray⟩ : ByteArray)[k]'hs = s[k] := by simp [ByteArray.getElem_eq_getElem_data]
 have := Lib.run_next_ascii_at (P := Tryd.prog) w b ⟨s.toArray⟩ k ty hb hs (by rw [he]; exact ha)
 rw [he] at this
 exact this
theorem nextAt_high (w : World) (b : Nat) (s : List UInt8) (k : Nat) (ty : TypeId) (hb : w.heap[b]? = some (.stringIter ⟨s.toArray⟩ k)) (hk : k < s.length) (ha : 128 ≤ s[k].toNat) :
  ∃ (r : Int) (k' : Nat), 128 ≤ r ∧ r ≤ 2147483647 ∧ k < k' ∧ (Instr.next (.pointer (some ⟨b, 0, none⟩)) true ty).run Tryd.prog w = .ok (.tuple #[.bool true, .int .i64 (k : Int), .int .i32 r]) (w.iterAt b ⟨s.toArray⟩ k') := by
 have hs : k < (⟨s.toArray⟩ : ByteArray).size := by rw [Agg.bytes_size]; exact hk
 have he : (⟨s.toArray⟩ : ByteArray)[k]'hs = s[k] := by simp [ByteArray.getElem_eq_getElem_data]
 obtain ⟨h1, h2⟩ := decode_high ⟨s.toArray⟩ k hs (by rw [he]; exact ha)
 have h3 := decode_le ⟨s.toArray⟩ k
 exact ⟨_, _, by omega, by omega, by omega, Lib.run_next_any_at (P := Tryd.prog) w b ⟨s.toArray⟩ k ty hb hs⟩
theorem nextAt_end (w : World) (b : Nat) (s : List UInt8) (ty : TypeId) (hb : w.heap[b]? = some (.stringIter ⟨s.toArray⟩ s.length)) :
  (Instr.next (.pointer (some ⟨b, 0, none⟩)) true ty).run Tryd.prog w = .ok (.tuple #[.bool false]) w :=
 Lib.run_next_end_at (P := Tryd.prog) w b ⟨s.toArray⟩ s.length ty hb (by rw [Agg.bytes_size]; omega)
def rK (n : Int) : Value := .int .i32 n
def nV (n : Nat) : Value := .int .u32 (n : Int)
def vals (k : Nat) : List (Int × Nat) := (List.range k).map fun i => (((letter i).toNat : Int), i)
theorem vals_step : ∀ k, k < 32 → mput (vals k) ((letter k).toNat : Int) k = vals (k + 1) := by decide +kernel
theorem vals_get : ∀ n : Nat, n < 256 → mget (vals 32) (n : Int) = val (UInt8.ofNat n) := by decide +kernel
theorem vals_high (r : Int) (h : 128 ≤ r) : mget (vals 32) r = none := by
 have hk : ∀ p ∈ vals 32, p.1 < 128 := by decide +kernel
 simp only [mget, Option.map_eq_none_iff, List.find?_eq_none, decide_eq_true_eq]
 intro p hp e
 have := hk p hp
 omega
theorem keyR : KeyEq Tryd.prog 21 rK := int_key Tryd.underlying21
def z20 : List UInt8 := List.replicate 20 0
theorem z20_length : z20.length = 20 := rfl
theorem hC_one (h : List UInt8) : (hC h).all (·.oneCell') = true := by simp [hC, Lib.byteCells, Value.oneCell']
def hashH (s : List UInt8) : List UInt8 := (Pl.hash s).getD z20
def hashE (s : List UInt8) : Int := if (Pl.hash s).isSome then 0 else 4
theorem val_low {c : UInt8} {n : Nat} (h : val c = some n) : c.toNat < 128 := by
 have h1 : ∀ n, n < 32 → (letter n).toNat < 128 := by decide
 have := h1 n (val_lt h)
 rwa [letter_val h] at this
theorem mapM_take {s : List UInt8} (k : Nat) (hk : k < s.length) {l : List Nat} {n : Nat} (hl : (s.take k).mapM val = some l) (hn : val s[k] = some n) : (s.take (k + 1)).mapM val = some (l ++ [n]) := by
 rw [List.take_succ_eq_append_getElem hk, List.mapM_append, hl]
 simp [hn]
theorem mapM_none {s : List UInt8} (k : Nat) (hk : k < s.length) (hn : val s[k] = none) : s.mapM val = none := by
 have : s = s.take k ++ s[k] :: s.drop (k + 1) := by simp
 rw [this, List.mapM_append, List.mapM_cons]
 simp [hn]
theorem zero99 (w : World) : (zeroValue 145).run Tryd.prog w = .ok (.int .u32 0) w := by kernel_rfl
theorem hC_get (h : List UInt8) (i : Nat) (hi : i < h.length) : (hC h)[i]? = some (.int .u8 (h[i].toNat : Int)) := by simp [hC, Lib.byteCells, hi]
theorem hC_set (h : List UInt8) (i : Nat) (c : UInt8) : (hC h).setIfInBounds i (.int .u8 (c.toNat : Int)) = hC (h.set i c) := by
 apply Array.ext'
 simp [hC, Lib.byteCells, List.map_set]
theorem or_disjoint8 (a x m : Nat) (ha : a < 2 ^ m) (hx : x < 32) (hm : m < 8) : bits .or .u32 (a : Int) ((x : Int) * 2 ^ m % 4294967296) = ((a + 2 ^ m * x : Nat) : Int) := by
 have h5 : 2 ^ m ≤ 2 ^ 7 := Nat.pow_le_pow_right (by omega) (by omega)
 have hp : 2 ^ m * x ≤ 2 ^ 7 * 31 := Nat.mul_le_mul h5 (by omega)
 have e : ((x : Int) * 2 ^ m % 4294967296) = ((2 ^ m * x : Nat) : Int) := by
  have : (x : Int) * 2 ^ m = ((2 ^ m * x : Nat) : Int) := by push_cast; exact Int.mul_comm _ _
  rw [this, Int.emod_eq_of_lt (by omega) (by omega)]
 rw [e, u32_or_nat _ _ (by omega) (by omega), Nat.or_comm, ← Nat.two_pow_add_eq_or_of_lt ha, Nat.add_comm]
end Go.Proofs.YtfiadgdinhmgbaaDoor
/-! (of general use) Path: a path's text (base and spenceref03). -/
namespace Go.Proofs.YtfiadgdinhmgbaaDoor
open Go.RowKit Pl Go.Mp Go.Agg
def pC (h n : List UInt8) : Array Value := hC h ++ #[.string ⟨n.toArray⟩]
theorem pC_size (h n : List UInt8) : (pC h n).size = h.length + 1 := by simp [pC, hC_size]
theorem pC_name (h n : List UInt8) (hl : h.length = 20) : (pC h n)[20]? = some (.string ⟨n.toArray⟩) := by
 rw [pC, Array.getElem?_append, if_neg (by rw [hC_size]; omega), hC_size, hl]; rfl
theorem pC_hash (h n : List UInt8) (j : Nat) (v : Value) (hv : (hC h)[j]? = some v) : (pC h n)[0 + j]? = some v := by
 have hlt : j < (hC h).size := (Array.getElem?_eq_some_iff.1 hv).1
 rw [Nat.zero_add, pC, Array.getElem?_append, if_pos hlt]; exact hv
theorem isName_le {n : List UInt8} (h : isName n = true) : n.length ≤ 24 := by
 simp only [isName, Bool.and_eq_true, decide_eq_true_eq] at h
 exact h.1.2
def pathS (h n : List UInt8) : List UInt8 := if isName n then letters h ++ 45 :: n else []
def pathE (n : List UInt8) : Int := if isName n then 0 else 2
theorem ret_pair {a b : ByteArray} {k : IntKind} {x y : Int} (h : a = b) (h2 : x = y) : Ending.returned (.tuple #[.string a, .int k x]) = .returned (.tuple #[.string b, .int k y]) := by rw [h, h2]
theorem text_eq (h n : List UInt8) (hn : isName n = true) : ({ data := (letters h).toArray } : ByteArray) ++ { data := #[45] } ++ { data := n.toArray } = ⟨(pathS h n).toArray⟩ := by
 have : ({ data := #[45] } : ByteArray) = ⟨[45].toArray⟩ := rfl
 rw [this, Agg.bytes_append, Agg.bytes_append, pathS, if_pos hn]
 simp
end Go.Proofs.YtfiadgdinhmgbaaDoor
/-! (of general use) Parse: a text's path (base and spenceref03). -/
namespace Go.Agg
open Go.RowKit
section
variable {P : Program} {ops : Array Oper} {rest : List Oper} {o : Oper} {a : Act} {w : World} {Q : Exit → Act → World → Prop}
theorem wpList_set_sub (hg : o.guard = none) (hd : o.dst = none) (ty : TypeId) (x y : Operand) (ho : o.op = .store ty x y) (g off : Nat) (cells new : Array Value) (hx : a.eval x = .pointer (some ⟨g, off, none⟩)) (hy : a.eval y = .agg cells)
  (t : TypeId) (old : Array Value) (hb : w.heap[g]? = some (.cells old t (0, 0))) (hi : (P.info? ty).map (·.size) = some cells.size) (hle : off + cells.size ≤ old.size) (h1 : cells.all (·.oneCell') = true)
  (hnew : (old.toList.take off ++ cells.toList ++ old.toList.drop (off + cells.size)).toArray = new)
  (h : wpList P ops Q rest a (w.setRow g new)) : wpList P ops Q (o :: rest) a w := by
 refine wpList_skp hg hd ?_ h
 have hr := run_storeCells_at (P := P) g off t cells.toList 0 old w hb (by simp; omega) (fun v hv => (Array.all_eq_true_iff_forall_mem.1 h1) v (by simpa using hv))
 simp only [Nat.add_zero, Array.length_toList] at hr
 rw [hnew] at hr
 cases hq : P.info? ty with
 | none => simp [hq] at hi
 | some i =>
  have hs : cells.size = i.size := by simp [hq] at hi; omega
  simp [execOp, ho, hx, hy, Instr.storeAt, Instr.sureAddr, storeVar, sizeOf, typeInfo, hq, Value.cells, hs, hr]
end
end Go.Agg
namespace Go.Proofs.YtfiadgdinhmgbaaDoor
open Go.RowKit Pl Go.Mp Go.Agg
def parseH (s : List UInt8) : List UInt8 := ((parse s).map (·.1)).getD z20
def parseN (s : List UInt8) : List UInt8 := ((parse s).map (·.2)).getD []
def parseE (s : List UInt8) : Int := if (parse s).isSome then 0 else 4
theorem pC_one (h n : List UInt8) : (pC h n).all (·.oneCell') = true := by simp [pC, hC, Lib.byteCells, Value.oneCell']
theorem sixteen (s : List UInt8) (hs : s.length < 4294967281) : (⟨s.toArray⟩ : ByteArray).size < 4294967281 := by rw [Agg.bytes_size]; exact hs
theorem pC_setHash (h h' n : List UInt8) (hl : h.length = 20) (hl' : h'.length = 20) : ((pC h n).toList.take 0 ++ (hC h').toList ++ (pC h n).toList.drop (0 + (hC h').size)).toArray = pC h' n := by
 apply Array.ext'
 simp [pC, hC, Lib.byteCells, hl, hl']
theorem pC_setName (h n n' : List UInt8) (hl : h.length = 20) : (pC h n).setIfInBounds 20 (.string ⟨n'.toArray⟩) = pC h n' := by
 apply Array.ext'
 simp [pC, hC, Lib.byteCells, hl]
theorem hashH_length (s : List UInt8) : (hashH s).length = 20 := by
 unfold hashH
 cases h : Pl.hash s with
 | none => rfl
 | some x => exact hash_length h
theorem cut_le (c : UInt8) (s : List UInt8) : (cut1 c s).2.1.length ≤ s.length := by
 induction s with
 | nil => simp [cut1]
 | cons b l ih => unfold cut1; split <;> simp <;> omega
end Go.Proofs.YtfiadgdinhmgbaaDoor
/-! '==' of hashes and of paths. -/
namespace Go.Proofs.YtfiadgdinhmgbaaDoor
open Go.RowKit Pl Go.Agg
theorem isAgg_name (w : World) : (isAgg 9).run Tryd.prog w = .ok false w := by kernel_rfl
theorem part_name (h n : List UInt8) (hl : h.length = 20) (w : World) : (Go.part 9 (pC h n) 20).run Tryd.prog w = .ok (.string ⟨n.toArray⟩) w := by
 unfold Go.part
 simp only [Sem.run_bind, isAgg_name, Result.andThen_ok, Bool.false_eq_true, if_false, pC_name h n hl, Sem.run_pure]
end Go.Proofs.YtfiadgdinhmgbaaDoor
/-! Slices of paths: what they hold. -/
namespace Go.Proofs.YtfiadgdinhmgbaaDoor
open Go.RowKit Pl Go.Agg
abbrev P20 : Type := { p : List UInt8 × List UInt8 // p.1.length = 20 }
instance : Inhabited P20 := ⟨⟨(z20, []), rfl⟩⟩
def pV (p : P20) : Value := .agg (pC p.1.1 p.1.2)
def cells20 (p : P20) : List Value := (pC p.1.1 p.1.2).toList
theorem cells20_length (p : P20) : (cells20 p).length = 21 := by simp [cells20, pC_size, p.2]
def flat (l : List P20) : List Value := l.flatMap cells20
theorem flat_length (l : List P20) : (flat l).length = l.length * 21 := by
 induction l with
 | nil => rfl
 | cons p l ih => simp only [flat, List.flatMap_cons, List.length_append, cells20_length, List.length_cons] at ih ⊢; omega
theorem flat_append (a b : List P20) : flat (a ++ b) = flat a ++ flat b := by simp [flat]
theorem flat_get : ∀ (l : List P20) (j : Nat) (p : P20) (i : Nat) (v : Value), l[j]? = some p → (pC p.1.1 p.1.2)[i]? = some v → (flat l)[j * 21 + i]? = some v
 | [], j, p, i, v, h, _ => by simp at h
 | q :: l, 0, p, i, v, h, hv => by
  obtain rfl : q = p := by simpa using h
  have hlt : i < (cells20 q).length := by rw [cells20_length]; have := (Array.getElem?_eq_some_iff.1 hv).1; rw [pC_size, q.2] at this; omega
  rw [flat, List.flatMap_cons, Nat.zero_mul, Nat.zero_add, List.getElem?_append_left hlt]
  simpa [cells20] using hv
 | q :: l, j + 1, p, i, v, h, hv => by
  have ih := flat_get l j p i v (by simpa using h) hv
  rw [flat, List.flatMap_cons, List.getElem?_append_right (by rw [cells20_length]; omega), cells20_length, show (j + 1) * 21 + i - 21 = j * 21 + i by omega]
  exact ih
theorem cells20_one (p : P20) (v : Value) (hv : v ∈ cells20 p) : v.oneCell' = true := by
 have h := pC_one p.1.1 p.1.2
 rw [Array.all_eq_true_iff_forall_mem] at h
 exact h v (by simpa [cells20] using hv)
end Go.Proofs.YtfiadgdinhmgbaaDoor
/-! Hashes of twenty bytes. -/
namespace Go.Proofs.YtfiadgdinhmgbaaDoor
open Go.RowKit Pl Go.Agg
abbrev H20 : Type := { h : List UInt8 // h.length = 20 }
instance : Inhabited H20 := ⟨⟨z20, rfl⟩⟩
instance : DecidableEq P20 := inferInstance
instance : DecidableEq H20 := inferInstance
end Go.Proofs.YtfiadgdinhmgbaaDoor
/-! (of general use) base.order, base.Less, spenceref03.Less: how two paths stand. -/
namespace Go.Proofs.YtfiadgdinhmgbaaDoor
open Go.RowKit Pl Go.Agg
open Go.Lib (compareBytes)
def cmpP (h n h' n' : List UInt8) : Int := if h == h' then compareBytes n n' else compareBytes h h'
theorem run_compareBytes (w : World) (a b : List UInt8) (g off g' off' c c' : Nat) (ha : ∀ j x, a[j]? = some x → w.cell? ⟨g, off + j, none⟩ = some (.int .u8 (x.toNat : Int))) (hb : ∀ j x, b[j]? = some x → w.cell? ⟨g', off' + j, none⟩ = some (.int .u8 (x.toNat : Int))) :
  (Extern.BytealgCompare.compare #[.slice (some ⟨g, off, none⟩) a.length c, .slice (some ⟨g', off', none⟩) b.length c']).run Tryd.prog w = .ok (.int .i64 (compareBytes a b)) w := by
 change Sem.run Tryd.prog (do pure (goInt (Extern.BytealgCompare.cmp (← Extern.Bytes.bytesOf (.slice (some ⟨g, off, none⟩) a.length c)) (← Extern.Bytes.bytesOf (.slice (some ⟨g', off', none⟩) b.length c'))))) w = _
 have key : ∀ (l : List UInt8) (g off : Nat), (∀ j x, l[j]? = some x → w.cell? ⟨g, off + j, none⟩ = some (.int .u8 (x.toNat : Int))) → (Extern.Bytes.loadBytes ⟨g, off, none⟩ l.length .empty).run Tryd.prog w = .ok ⟨l.toArray⟩ w := fun l g off h => by
  have := Lib.run_loadBytesX (P := Tryd.prog) (w := w) (l.map fun c => (c.toNat : Int)) ⟨g, off, none⟩ .empty (fun j x hj => by
   rw [List.getElem?_map] at hj
   cases hl : l[j]? with
   | none => rw [hl] at hj; simp at hj
   | some c =>
    rw [hl] at hj
    obtain rfl := Option.some.inj hj
    have := h j c hl
    rw [Addr.add]
    split
    ·rename_i h0; simpa [h0] using this
    ·exact this)
  simp only [List.length_map] at this
  rw [this]
  have : Lib.bytesOf (l.map fun c => (c.toNat : Int)) = l := by
   simp [Lib.bytesOf, Function.comp_def]
  rw [this]; simp
 have h1 := key a g off ha
 have h2 := key b g' off' hb
 simp only [Extern.Bytes.bytesOf, Sem.run_bind, Sem.run_pure, Result.andThen, h1, h2]
 rw [Lib.cmp_eq]
 simp [goInt]
theorem compare_cases : ∀ (a b : List UInt8), compareBytes a b = if Op.bytesLess a b then -1 else if Op.bytesLess b a then 1 else 0
 | [], [] => rfl
 | [], _ :: _ => by simp [compareBytes, Op.bytesLess]
 | _ :: _, [] => by simp [compareBytes, Op.bytesLess]
 | x :: a, y :: b => by
  have ih := compare_cases a b
  unfold compareBytes Op.bytesLess
  by_cases h1 : x < y
  ·simp [h1]
  ·by_cases h2 : y < x
   ·have : ¬ x = y := fun e => by subst e; exact h1 h2
    simp [h1, h2, this]
   ·have : x = y := UInt8.le_antisymm (UInt8.not_lt.1 h2) (UInt8.not_lt.1 h1)
    subst this
    simp [h1, ih]
theorem bytesLess_asymm : ∀ (a b : List UInt8), Op.bytesLess a b = true → Op.bytesLess b a = false
 | [], [], h => by simp [Op.bytesLess] at h
 | [], _ :: _, _ => by simp [Op.bytesLess]
 | _ :: _, [], h => by simp [Op.bytesLess] at h
 | x :: a, y :: b, h => by
  simp only [Op.bytesLess, Bool.or_eq_true, Bool.and_eq_true, decide_eq_true_eq, beq_iff_eq] at h
  simp only [Op.bytesLess, Bool.or_eq_false_iff, decide_eq_false_iff_not, Bool.and_eq_false_iff, beq_eq_false_iff_ne]
  rcases h with h | ⟨rfl, h⟩
  ·exact ⟨fun h' => absurd (UInt8.lt_trans h h') (UInt8.lt_irrefl _), .inl (fun e => by subst e; exact UInt8.lt_irrefl _ h)⟩
  ·exact ⟨UInt8.lt_irrefl _, .inr (bytesLess_asymm a b h)⟩
theorem bytesLess_irrefl (a : List UInt8) : Op.bytesLess a a = false := by
 cases h : Op.bytesLess a a with
 | false => rfl
 | true => exact absurd (bytesLess_asymm a a h) (by rw [h]; simp)
theorem bytesLess_total : ∀ (a b : List UInt8), a ≠ b → Op.bytesLess a b = false → Op.bytesLess b a = true
 | [], [], h, _ => absurd rfl h
 | [], _ :: _, _, h => by simp [Op.bytesLess] at h
 | _ :: _, [], _, _ => by simp [Op.bytesLess]
 | x :: a, y :: b, hne, h => by
  simp only [Op.bytesLess, Bool.or_eq_false_iff, decide_eq_false_iff_not, Bool.and_eq_false_iff, beq_eq_false_iff_ne] at h
  simp only [Op.bytesLess, Bool.or_eq_true, Bool.and_eq_true, decide_eq_true_eq, beq_iff_eq]
  by_cases e : x = y
  ·subst e
   refine .inr ⟨rfl, bytesLess_total a b (fun e => hne (by rw [e])) ?_⟩
   exact h.2.resolve_left (fun h' => h' rfl)
  ·exact .inl (UInt8.lt_of_le_of_ne (UInt8.not_lt.1 h.1) (Ne.symm e))
theorem pC_byte (h n : List UInt8) (j : Nat) (x : UInt8) (hj : h[j]? = some x) : (pC h n)[j]? = some (.int .u8 (x.toNat : Int)) := by
 have hlt := (List.getElem?_eq_some_iff.1 hj).1
 have := pC_hash h n j (.int .u8 (x.toNat : Int)) (by rw [hC_get h j hlt]; rw [List.getElem?_eq_getElem hlt] at hj; rw [Option.some.inj hj])
 simpa using this
end Go.Proofs.YtfiadgdinhmgbaaDoor
/-! (of general use) spenceref03.Less -/
namespace Go.Proofs.YtfiadgdinhmgbaaDoor
open Go.RowKit Pl Go.Agg
open Go.Lib (compareBytes)
theorem compare_diff : ∀ (k : Nat) (a b : List UInt8) (x y : UInt8), a[k]? = some x → b[k]? = some y → a.take k = b.take k → x ≠ y → decide (compareBytes a b < 0) = decide (x < y)
 | 0, x :: a, y :: b, _, _, hx, hy, _, hne => by
  simp only [List.getElem?_cons_zero, Option.some.injEq] at hx hy
  subst hx hy
  unfold compareBytes
  by_cases h1 : x < y
  ·simp [h1]
  ·have h2 : y < x := UInt8.lt_of_le_of_ne (UInt8.not_lt.1 h1) (Ne.symm hne)
   simp [h1, h2]
 | k + 1, x :: a, y :: b, _, _, hx, hy, ht, hne => by
  simp only [List.getElem?_cons_succ] at hx hy
  simp only [List.take_succ_cons, List.cons.injEq] at ht
  obtain ⟨rfl, ht⟩ := ht
  have := compare_diff k a b _ _ hx hy ht hne
  unfold compareBytes
  simpa [UInt8.lt_irrefl] using this
 | 0, [], _, _, _, hx, _, _, _ => by simp at hx
 | 0, _ :: _, [], _, _, _, hy, _, _ => by simp at hy
 | _ + 1, [], _, _, _, hx, _, _, _ => by simp at hx
 | _ + 1, _ :: _, [], _, _, _, hy, _, _ => by simp at hy
theorem compare_less (a b : List UInt8) : decide (compareBytes a b < 0) = Op.bytesLess a b := by
 rw [compare_cases]
 cases Op.bytesLess a b <;> cases Op.bytesLess b a <;> simp
end Go.Proofs.YtfiadgdinhmgbaaDoor
/-! resolve.Resolved, resolve.Input: cells, elements, whether one can be. -/
namespace Go.Proofs.YtfiadgdinhmgbaaDoor
open Go.RowKit Pl Go.Agg
abbrev Rin : Type := List UInt8 × P20
abbrev Rv : Type := List UInt8 × List Rin × List UInt8
instance : DecidableEq Rin := inferInstance
instance : DecidableEq (List Rin × List UInt8) := inferInstance
instance : DecidableEq Rv := inferInstance
def riC (x : Rin) : Array Value := #[.string ⟨x.1.toArray⟩] ++ pC x.2.1.1 x.2.1.2
theorem riC_size (x : Rin) : (riC x).size = 22 := by simp [riC, pC_size, x.2.2]
theorem riC_one (x : Rin) : (riC x).all (·.oneCell') = true := by
 rw [riC, Array.all_append, pC_one]; simp [Value.oneCell']
theorem riC_name (x : Rin) : (riC x)[0]? = some (.string ⟨x.1.toArray⟩) := by rw [riC, Array.getElem?_append_left (by simp)]; rfl
theorem riC_path (x : Rin) (j : Nat) (v : Value) (h : (pC x.2.1.1 x.2.1.2)[j]? = some v) : (riC x)[1 + j]? = some v := by
 rw [riC, Array.getElem?_append_right (by simp)]; simpa using h
theorem riC_hash (x : Rin) (j : Nat) (v : Value) (h : (hC x.2.1.1)[j]? = some v) : (riC x)[1 + j]? = some v := by
 refine riC_path x j v ?_
 have := (Array.getElem?_eq_some_iff.1 h).1
 rw [show pC x.2.1.1 x.2.1.2 = hC x.2.1.1 ++ #[.string ⟨x.2.1.2.toArray⟩] from rfl, Array.getElem?_append_left this]; exact h
def zR : Rin := ([], ⟨(z20, []), rfl⟩)
theorem bytes_under : Tryd.prog.underlying 23 = some (.slice 5) := by kernel_rfl
/-! whether one can be -/
def canRi (x : Rin) (b : List UInt8) : Bool := isName x.1 && Op.bytesLess b x.1 && isName x.2.1.2
def canRs : List UInt8 → List Rin → Bool
 | _, [] => true
 | b, x :: l => canRi x b && canRs x.1 l
def canRv (r : Rv) : Bool := isName r.1 && decide (r.2.1.length ≤ 8) && decide (r.2.2.length ≤ 1000) && canRs [] r.2.1
def behindR (l : List Rin) : List UInt8 := match l.getLast? with | none => [] | some x => x.1
def lastOrR (b : List UInt8) (l : List Rin) : List UInt8 := match l.getLast? with | none => b | some x => x.1
theorem canRs_append (b : List UInt8) (l m : List Rin) : canRs b (l ++ m) = (canRs b l && canRs (lastOrR b l) m) := by
 induction l generalizing b with
 | nil => simp [canRs, lastOrR]
 | cons x l ih =>
  have : lastOrR b (x :: l) = lastOrR x.1 l := by
   unfold lastOrR
   cases l with
   | nil => rfl
   | cons y l => simp [List.getLast?_cons]
  simp only [List.cons_append, canRs, ih, this, Bool.and_assoc]
theorem lastOrR_nil (l : List Rin) : lastOrR [] l = behindR l := rfl
theorem canRs_succ {l : List Rin} {k : Nat} {x : Rin} (h : l[k]? = some x) : canRs [] (l.take (k + 1)) = (canRs [] (l.take k) && canRi x (behindR (l.take k))) := by
 rw [List.take_add_one, h, canRs_append, lastOrR_nil]
 simp [canRs]
theorem behindR_succ {l : List Rin} {k : Nat} {x : Rin} (h : l[k]? = some x) : behindR (l.take (k + 1)) = x.1 := by
 rw [List.take_add_one, h]
 simp [behindR]
theorem canRs_take {l : List Rin} {k : Nat} (h : canRs [] (l.take k) = false) : canRs [] l = false := by
 have := canRs_append [] (l.take k) (l.drop k)
 rw [List.take_append_drop, h, Bool.false_and] at this
 exact this
end Go.Proofs.YtfiadgdinhmgbaaDoor
/-! '[]byte(s)' and 'string(b)' -/
namespace Go.Proofs.YtfiadgdinhmgbaaDoor
open Go.RowKit Pl Go.Agg
theorem bytes_below (w : World) (e : TypeId) (s : ByteArray) : Below w.heap.size w (Lib.bytesWorld w e s) :=
 ⟨rfl, rfl, rfl, by rw [Lib.bytesWorld_size]; omega, fun k hk => Lib.bytesWorld_at_old w e s k hk⟩
def NewBytes (w w' : World) (v : Value) (s : List UInt8) : Prop :=
 ∃ cap fr, v = .slice (some ⟨w.heap.size, 0, none⟩) s.length cap ∧ s.length ≤ cap ∧ w'.heap[w.heap.size]? = some (.cells ((Lib.byteCells s).toArray ++ Array.replicate (cap - s.length) (.int .u8 0)) 5 fr) ∧ (fr.1 = cap ∧ fr.2 = cap + 1)
theorem NewBytes.slice {w w' : World} {v : Value} {s : List UInt8} (h : NewBytes w w' v s) : BytesAt w' v s := by
 obtain ⟨cap, fr, rfl, hc, hb, _⟩ := h
 refine .inr ⟨_, cap, rfl, Agg.heap_lt hb, fun j u hj => ?_⟩
 rw [add_plain, Nat.zero_add, cell_of_row _ _ _ _ _ _ hb]
 obtain ⟨k, a, i, h1, h2, rfl⟩ := Elem.flat_all EB s j u hj
 have hi : i = 0 := by have := (Array.getElem?_eq_some_iff.1 h2).1; have e : (EB.val a).cells.size = 1 := rfl; omega
 subst hi
 have hk := (List.getElem?_eq_some_iff.1 h1).1
 have hn : EB.n = 1 := rfl
 rw [hn, Nat.mul_one, Nat.add_zero, Array.getElem?_append_left (by simpa [Lib.byteCells] using hk)]
 have e2 : u = .int .u8 (a.toNat : Int) := by
  have : (EB.val a).cells[0]? = some (.int .u8 (a.toNat : Int)) := rfl
  rw [this] at h2
  exact (Option.some.inj h2).symm
 simp [Lib.byteCells, h1, e2]
theorem run_toBytes (w : World) (s : List UInt8) : ∃ v w', (convert 9 23 (.string ⟨s.toArray⟩)).run Tryd.prog w = .ok v w' ∧ NewBytes w w' v s ∧ Below w.heap.size w w' := by
 refine ⟨_, _, Lib.run_convert_string_bytes w 9 23 5 ⟨s.toArray⟩ Tryd.underlying9 (by kernel_rfl) Tryd.underlying5, ?_, bytes_below _ _ _⟩
 have hsz : (⟨s.toArray⟩ : ByteArray).size = s.length := Agg.bytes_size s
 have hge := grownCap_ge w s.length 0 5
 refine ⟨grownCap w s.length 0 5, (grownCap w s.length 0 5, grownCap w s.length 0 5 + 1), by rw [hsz], hge, ?_, rfl, rfl⟩
 rw [Lib.bytesWorld_at_new]
 have e : Lib.bytesCells w 5 ⟨s.toArray⟩ = (Lib.byteCells s).toArray ++ Array.replicate (grownCap w s.length 0 5 - s.length) (.int .u8 0) := by
  simp [Lib.bytesCells, hsz, Lib.byteCells]
 have e2 : ((Lib.byteCells s).toArray ++ Array.replicate (grownCap w s.length 0 5 - s.length) (Value.int .u8 0)).size = grownCap w s.length 0 5 := by
  simp [Lib.byteCells]; omega
 rw [e, e2]
theorem run_toStr {w : World} {v : Value} {s : List UInt8} (h : BytesAt w v s) : (convert 23 9 v).run Tryd.prog w = .ok (.string ⟨s.toArray⟩) w := by
 rcases h with ⟨p, c, rfl, rfl⟩ | ⟨p, cap, rfl, hp, h⟩
 ·cases p with
  | none => exact run_convert_bytes_nil w 23 5 (by kernel_rfl) Tryd.underlying5 0 c 9 Tryd.underlying9
  | some p => exact run_convert_bytes_back w 23 9 5 p c [] (by kernel_rfl) Tryd.underlying5 Tryd.underlying9 (fun j hj => by simp at hj)
 ·refine run_convert_bytes_back w 23 9 5 p cap s (by kernel_rfl) Tryd.underlying5 Tryd.underlying9 fun j hj => ?_
  have := h (j * 1 + 0) (.int .u8 (s[j].toNat : Int)) (EB.flat_get s j s[j] 0 _ (List.getElem?_eq_getElem hj) rfl)
  rwa [Nat.mul_one, Nat.add_zero] at this
section
variable {ops : Array Oper} {rest : List Oper} {o : Oper} {a : Act} {w : World} {Q : Exit → Act → World → Prop}
theorem wpList_toBytes (s : List UInt8) (x : Operand) (ho : o.op = .convert 9 23 x) (hw : Region.wanted o (yielded ops a.tmps) = true) (hx : a.eval x = .string ⟨s.toArray⟩)
  (h : ∀ v' w', NewBytes w w' v' s → Below w.heap.size w w' → wpList Tryd.prog ops Q rest (a.put o.dst v') w') : wpList Tryd.prog ops Q (o :: rest) a w := by
 obtain ⟨v', w', hr, h1, h2⟩ := run_toBytes w s
 refine wpList_valw hw ?_ (h v' w' h1 h2)
 simp [execOp, ho, hx, hr]
theorem wpList_toStr {v : Value} {s : List UInt8} (hs : BytesAt w v s) (x : Operand) (ho : o.op = .convert 23 9 x) (hw : Region.wanted o (yielded ops a.tmps) = true) (hx : a.eval x = v)
  (h : wpList Tryd.prog ops Q rest (a.put o.dst (.string ⟨s.toArray⟩)) w) : wpList Tryd.prog ops Q (o :: rest) a w := by
 subst hx
 refine wpList_valw hw ?_ h
 simp [execOp, ho, run_toStr hs]
end
end Go.Proofs.YtfiadgdinhmgbaaDoor
/-! (of general use) spencekit.mark, markByte; slices of slices of bytes -/
namespace Go.Agg
open Go.RowKit
variable {P : Program}
theorem wpStill_loadL {w : World} {ops : Array Oper} {rest : List Oper} {o : Oper} {a : Act} {Q : Act → Prop} {ty : TypeId} {p : Option Addr} {v : Value} (h : LoadsL P w ty p v) (hw : Region.wanted o (yielded ops a.tmps) = true) (x : Operand) (ho : o.op = .load ty x) (hx : a.eval x = .pointer p)
  (hk : wpStill P ops w Q rest (a.put o.dst v)) : wpStill P ops w Q (o :: rest) a := wpStill_load hw ty x ho _ hx v h.now hk
theorem wpList_store {w w' : World} {ops : Array Oper} {rest : List Oper} {o : Oper} {a : Act} {Q : Exit → Act → World → Prop} (hg : o.guard = none) (hd : o.dst = none) (ty : TypeId) (x y : Operand) (ho : o.op = .store ty x y) (p v : Value) (hx : a.eval x = p) (hy : a.eval y = v)
  (hrun : (Instr.storeAt ty p v).run P w = .ok () w') (h : wpList P ops Q rest a w') : wpList P ops Q (o :: rest) a w := by
 refine wpList_skp hg hd ?_ h
 simp [execOp, ho, hx, hy, hrun]
end Go.Agg
namespace Go.Proofs.YtfiadgdinhmgbaaDoor
open Go.RowKit Pl Go.Agg
def mkB (k i : Nat) : UInt8 := UInt8.ofNat ((1000003 * (k + 7) + i) * 11400714819323198485 % 18446744073709551616 / 72057594037927936)
theorem mkB_int (k i : Nat) : IntKind.u64.wrap ((1000003 * ((k : Int) + 7) + (i : Int)) * 11400714819323198485) / 72057594037927936 % 256 = ((mkB k i).toNat : Int) := by
 have e : (1000003 * ((k : Int) + 7) + (i : Int)) * 11400714819323198485 = (((1000003 * (k + 7) + i) * 11400714819323198485 : Nat) : Int) := by simp
 rw [e]
 unfold mkB
 generalize (1000003 * (k + 7) + i) * 11400714819323198485 = n
 rw [show IntKind.u64.wrap (n : Int) = ((n % 18446744073709551616 : Nat) : Int) by simp [IntKind.wrap, IntKind.signed, IntKind.bits]]
 simp only [UInt8.toNat_ofNat']
 omega
theorem ret_u8 {a b : Int} (h : a = b) : Ending.returned (.int .u8 a) = .returned (.int .u8 b) := by rw [h]
def marks (k n : Nat) : List UInt8 := (List.range n).map (mkB k)
theorem marks_length (k n : Nat) : (marks k n).length = n := by simp [marks]
theorem marks_succ (k n : Nat) : marks k (n + 1) = marks k n ++ [mkB k n] := by simp [marks, List.range_succ]
theorem marks_get (k n i : Nat) (h : i < n) : (marks k n)[i]? = some (mkB k i) := by simp [marks, h]
def EBB : Elem Tryd.prog SV where
 ty := 23
 st := 135
 n := 1
 bytes := 24
 val := fun v => v.1
 zero := .slice none 0 0
 pos := by omega
 small := by omega
 size := fun v => by rw [sv_cells]; rfl
 one := fun v u hu => by
  rw [sv_cells] at hu
  obtain rfl : u = v.1 := by simpa using hu
  exact sv_one v
 zsize := rfl
 slice := by kernel_rfl
 info := info_of (by kernel_rfl) (by kernel_rfl) (by kernel_rfl)
 load := fun w a v hp h => LoadsL.of_cell (by have := h 0 v.1 (by rw [sv_cells]; rfl); rwa [show a.add 0 = a from rfl] at this) (by kernel_rfl : Tryd.prog.underlying 23 = some (.slice 5)) rfl
abbrev BBAt (w : World) (v : Value) (l : List SV) : Prop := SliceOf EBB w v l
theorem bb_len {w : World} {v : Value} {l : List SV} (h : BBAt w v l) (W : World) : (Builtin.len_ #[135] 3 #[v]).run Tryd.prog W = .ok (.int .i64 (l.length : Int)) W := h.len W
theorem bb_at {w : World} {v : Value} {l : List SV} (h : BBAt w v l) (k : Nat) (x : SV) (hx : l[k]? = some x) :
  ∃ p : Addr, (∀ W, (Instr.indexAt 135 v (.int .i64 (k : Int))).run Tryd.prog W = .ok (.pointer (some p)) W) ∧ LoadsL Tryd.prog w 23 (some p) x.1 := by
 obtain ⟨p, h1, _, _, h4⟩ := h.at_ k x hx
 exact ⟨p, h1, h4⟩
theorem RoomN.blen {w : World} {v : Value} {l : List UInt8} (h : RoomN EB w v l) (W : World) : (Builtin.len_ #[23] 3 #[v]).run Tryd.prog W = .ok (.int .i64 (l.length : Int)) W := h.slice.len W
end Go.Proofs.YtfiadgdinhmgbaaDoor
/-! Frames of bytes: the plain law. -/
namespace Go.Agg
def encN (n : Nat) : List UInt8 := if h : 128 ≤ n then UInt8.ofNat (n % 128 + 128) :: encN (n / 128) else [UInt8.ofNat n]
termination_by n
decreasing_by omega
theorem encN_lt {n : Nat} (h : n < 128) : encN n = [UInt8.ofNat n] := by rw [encN, dif_neg (by omega)]
theorem encN_ge {n : Nat} (h : 128 ≤ n) : encN n = UInt8.ofNat (n % 128 + 128) :: encN (n / 128) := by rw [encN, dif_pos h]
def begGo : Nat → Nat → List UInt8 → Int × Nat
 | k, _, [] => if k = 3 then (-1, 0) else (0, 0)
 | k, n, c :: t => if k = 3 then (-1, 0) else
  if 65536 < n + c.toNat % 128 * 128 ^ k ∨ (c = 0 ∧ 0 < k) then (-1, 0) else
  if c.toNat < 128 then ((k : Int) + 1, n + c.toNat % 128 * 128 ^ k) else begGo (k + 1) (n + c.toNat % 128 * 128 ^ k) t
def beg (b : List UInt8) : Int × Nat := begGo 0 0 b
theorem begGo_append {x : List UInt8} : ∀ {k n : Nat} (y : List UInt8), (begGo k n x).1 ≠ 0 → begGo k n (x ++ y) = begGo k n x := by
 induction x with
 | nil =>
  intro k n y h
  by_cases hk : k = 3
  ·cases y <;> simp [begGo, hk]
  ·simp [begGo, hk] at h
 | cons c t ih =>
  intro k n y h
  simp only [List.cons_append, begGo] at h ⊢
  split
  ·rfl
  ·split
   ·rfl
   ·split
    ·rfl
    ·rename_i h1 h2 h3
     rw [if_neg h1, if_neg h2, if_neg h3] at h
     exact ih y h
theorem begGo_le {x : List UInt8} : ∀ {k n : Nat}, k ≤ 3 → (begGo k n x).1 ≤ k + x.length ∧ (0 ≤ (begGo k n x).1 → (begGo k n x).1 ≠ 0 → 1 ≤ (begGo k n x).1) ∧ (begGo k n x).1 ≤ 3 ∧ (begGo k n x).2 ≤ 65536 ∧ -1 ≤ (begGo k n x).1 := by
 induction x with
 | nil => intro k n hk; simp only [begGo]; split <;> simp <;> omega
 | cons c t ih =>
  intro k n hk
  simp only [begGo]
  split
  ·simp; omega
  ·split
   ·simp; omega
   ·split
    ·simp; omega
    ·have := ih (k := k + 1) (n := n + c.toNat % 128 * 128 ^ k) (by omega)
     simp only [List.length_cons]
     omega
theorem beg_le (x : List UInt8) : (beg x).1 ≤ x.length := by have := (begGo_le (x := x) (k := 0) (n := 0) (by omega)).1; simpa [beg] using this
theorem beg_most (x : List UInt8) : (beg x).2 ≤ 65536 := (begGo_le (x := x) (k := 0) (n := 0) (by omega)).2.2.2.1
theorem beg_three (x : List UInt8) : (beg x).1 ≤ 3 := (begGo_le (x := x) (k := 0) (n := 0) (by omega)).2.2.1
def frames (b : List UInt8) : Option (List (List UInt8) × List UInt8) :=
 if _h : (beg b).1 < 0 then none
 else if _h2 : (beg b).1 = 0 ∨ b.length < (beg b).1.toNat + (beg b).2 then some ([], b)
 else (frames (b.drop ((beg b).1.toNat + (beg b).2))).map fun x => ((b.drop (beg b).1.toNat).take (beg b).2 :: x.1, x.2)
termination_by b.length
decreasing_by simp only [List.length_drop]; omega
theorem frames_wrong {b : List UInt8} (h : (beg b).1 < 0) : frames b = none := by rw [frames, dif_pos h]
theorem frames_end {b : List UInt8} (h : ¬ (beg b).1 < 0) (h2 : (beg b).1 = 0 ∨ b.length < (beg b).1.toNat + (beg b).2) : frames b = some ([], b) := by rw [frames, dif_neg h, dif_pos h2]
theorem frames_step {b : List UInt8} (h : ¬ (beg b).1 < 0) (h2 : ¬ ((beg b).1 = 0 ∨ b.length < (beg b).1.toNat + (beg b).2)) :
  frames b = (frames (b.drop ((beg b).1.toNat + (beg b).2))).map fun x => ((b.drop (beg b).1.toNat).take (beg b).2 :: x.1, x.2) := by conv => lhs; rw [frames, dif_neg h, dif_neg h2]
theorem frames_append : ∀ (n : Nat) (x y : List UInt8), x.length ≤ n → frames (x ++ y) = (frames x).bind fun p => (frames (p.2 ++ y)).map fun q => (p.1 ++ q.1, q.2) := by
 intro n
 induction n with
 | zero =>
  intro x y h
  obtain rfl : x = [] := List.length_eq_zero_iff.1 (by omega)
  have h0 : beg [] = (0, 0) := rfl
  rw [frames_end (b := []) (by rw [h0]; omega) (.inl (by rw [h0]))]
  simp
 | succ n ih =>
  intro x y h
  by_cases h1 : (beg x).1 < 0
  ·have hb : beg (x ++ y) = beg x := begGo_append y (by unfold beg at h1; omega)
   rw [frames_wrong h1, frames_wrong (by rw [hb]; exact h1)]
   rfl
  ·by_cases h2 : (beg x).1 = 0 ∨ x.length < (beg x).1.toNat + (beg x).2
   ·rw [frames_end h1 h2]; simp
   ·have hb : beg (x ++ y) = beg x := begGo_append y (by unfold beg at h1 h2; omega)
    have hl : (beg x).1.toNat + (beg x).2 ≤ x.length := by omega
    have hd : (x ++ y).drop ((beg x).1.toNat + (beg x).2) = x.drop ((beg x).1.toNat + (beg x).2) ++ y := List.drop_append_of_le_length hl
    have ht : ((x ++ y).drop (beg x).1.toNat).take (beg x).2 = (x.drop (beg x).1.toNat).take (beg x).2 := by
     rw [List.drop_append_of_le_length (by omega), List.take_append_of_le_length (by simp; omega)]
    rw [frames_step h1 h2, frames_step (by rw [hb]; exact h1) (by rw [hb]; simp only [List.length_append]; omega), hb, hd, ht, ih _ y (by simp only [List.length_drop]; omega)]
    cases frames (x.drop ((beg x).1.toNat + (beg x).2)) with
    | none => rfl
    | some p =>
     simp only [Option.map_some, Option.bind_some]
     cases frames (p.2 ++ y) <;> simp
theorem frames_two (b : List UInt8) (k : Nat) : frames b = (frames (b.take k)).bind fun p => (frames (p.2 ++ b.drop k)).map fun q => (p.1 ++ q.1, q.2) := by
 have := frames_append _ (b.take k) (b.drop k) (Nat.le_refl _)
 rwa [List.take_append_drop] at this
theorem toNat_of (n : Nat) (h : n < 256) : (UInt8.ofNat n).toNat = n := by simp; omega
theorem beg_enc {n : Nat} (h : n ≤ 65536) (y : List UInt8) : beg (encN n ++ y) = (((encN n).length : Int), n) := by
 have one : ∀ (k m v : Nat), k < 3 → v < 128 → (v = 0 → k = 0) → m + v * 128 ^ k ≤ 65536 → ∀ t, begGo k m (UInt8.ofNat v :: t) = ((k : Int) + 1, m + v * 128 ^ k) := by
  intro k m v hk hv h0 hm t
  have e := toNat_of v (by omega)
  have hz : UInt8.ofNat v = 0 → v = 0 := fun h => by have := congrArg UInt8.toNat h; rw [e] at this; simpa using this
  have h1 : ¬ (65536 < m + v * 128 ^ k ∨ (UInt8.ofNat v = 0 ∧ 0 < k)) := by
   rintro (h | ⟨h, h'⟩)
   ·omega
   ·have := h0 (hz h); omega
  simp only [begGo, e, Nat.mod_eq_of_lt hv]
  rw [if_neg (by omega), if_neg h1, if_pos hv]
 have more : ∀ (k m v : Nat), k < 3 → v < 128 → m + v * 128 ^ k ≤ 65536 → ∀ t, begGo k m (UInt8.ofNat (v + 128) :: t) = begGo (k + 1) (m + v * 128 ^ k) t := by
  intro k m v hk hv hm t
  have e := toNat_of (v + 128) (by omega)
  have hm2 : (v + 128) % 128 = v := by omega
  have hz : ¬ UInt8.ofNat (v + 128) = 0 := fun h => by have := congrArg UInt8.toNat h; rw [e] at this; simp at this
  have h1 : ¬ (65536 < m + v * 128 ^ k ∨ (UInt8.ofNat (v + 128) = 0 ∧ 0 < k)) := by
   rintro (h | ⟨h, h'⟩)
   ·omega
   ·exact hz h
  simp only [begGo, e, hm2]
  rw [if_neg (by omega), if_neg h1, if_neg (by omega)]
 unfold beg
 by_cases h1 : n < 128
 ·rw [encN_lt h1, List.singleton_append, one 0 0 n (by omega) h1 (by omega) (by omega)]
  simp
 ·rw [encN_ge (by omega), List.cons_append, more 0 0 (n % 128) (by omega) (by omega) (by omega)]
  by_cases h2 : n / 128 < 128
  ·rw [encN_lt h2, List.singleton_append, one 1 _ (n / 128) (by omega) h2 (by omega) (by omega)]
   simp; omega
  ·rw [encN_ge (by omega), List.cons_append, more 1 _ (n / 128 % 128) (by omega) (by omega) (by omega)]
   have h3 : n / 128 / 128 < 128 := by omega
   rw [encN_lt h3, List.singleton_append, one 2 _ (n / 128 / 128) (by omega) h3 (by omega) (by omega)]
   simp; omega
def framed (l : List (List UInt8)) : List UInt8 := l.flatMap fun b => encN b.length ++ b
theorem frames_framed (l : List (List UInt8)) (h : ∀ b ∈ l, b.length ≤ 65536) : frames (framed l) = some (l, []) := by
 induction l with
 | nil =>
  have h0 : beg [] = (0, 0) := rfl
  exact frames_end (b := []) (by rw [h0]; omega) (.inl (by rw [h0]))
 | cons b l ih =>
  have hb : beg (framed (b :: l)) = (((encN b.length).length : Int), b.length) := by
   simp only [framed, List.flatMap_cons, List.append_assoc]
   exact beg_enc (h b (by simp)) _
  have hpos : 0 < (encN b.length).length := by
   rw [encN]; split <;> simp
  have hl : (framed (b :: l)).length = (encN b.length).length + b.length + (framed l).length := by simp [framed, Nat.add_assoc]
  rw [frames_step (by rw [hb]; omega) (by rw [hb, hl]; simp only [Int.toNat_natCast]; omega), hb]
  have e1 : (framed (b :: l)).drop ((encN b.length).length + b.length) = framed l := by
   simp only [framed, List.flatMap_cons]
   rw [← List.length_append, List.drop_left]
  have e2 : ((framed (b :: l)).drop (encN b.length).length).take b.length = b := by
   simp only [framed, List.flatMap_cons, List.append_assoc]
   rw [List.drop_left, List.take_left]
  simp only [Int.toNat_natCast, e1, e2, ih (fun c hc => h c (by simp [hc]))]
  rfl
end Go.Agg
/-! code.Maker's block; what a step of a maker leaves alone. -/
namespace Go.Agg
open Go.RowKit
theorem encN_len' : ∀ (m n : Nat), 0 < m → n < 128 ^ m → (encN n).length ≤ m := by
 intro m
 induction m with
 | zero => intro n h; omega
 | succ m ih =>
  intro n _ hn
  by_cases h : n < 128
  ·rw [encN_lt h]; simp
  ·rw [encN_ge (by omega), List.length_cons]
   have hm : 0 < m := by
    rcases Nat.eq_zero_or_pos m with h0 | h0
    ·subst h0; simp at hn; omega
    ·exact h0
   have := ih (n / 128) hm (by rw [Nat.pow_succ] at hn; exact Nat.div_lt_of_lt_mul (by rw [Nat.mul_comm]; exact hn))
   omega
theorem encN_len {n : Nat} (h : n ≤ 1099511627776) : (encN n).length ≤ 6 := encN_len' 6 n (by omega) (by omega)
section
variable {P : Program} {α : Type} {E : Elem P α} {ops : Array Oper} {rest : List Oper} {o o2 : Oper} {a : Act} {w : World} {Q : Exit → Act → World → Prop} {base : Nat} {v : Value} {l : List α}
def Grew (w : World) (v v' : Value) : Prop := ∀ k, v'.ownBlock = some k → v.ownBlock = some k ∨ w.heap.size ≤ k
theorem Grew.refl (w : World) (v : Value) : Grew w v v := fun _ h => .inl h
theorem grew_of {w0 w : World} {v v' : Value} (hs : w0.heap.size ≤ w.heap.size) (h : v'.ownBlock = v.ownBlock ∨ v'.ownBlock = some w.heap.size) : Grew w0 v v' := fun k hk => by
 rcases h with h | h
 ·rw [h] at hk; exact .inl hk
 ·rw [h] at hk; obtain rfl := Option.some.inj hk; exact .inr hs
theorem wpList_pushO (hg : o.guard = none) (hg2 : o2.guard = none) (d : Tmp) (hd : o.dst = some d) (y : Operand) (ho : o.op = .buildSlice E.st 1 #[(0, y)]) (s : Operand)
  (ho2 : o2.op = .call { callee := .builtin .append, args := #[s, .tmp d], argTypes := #[E.st, E.st] }) (x : α) (hy : a.eval y = E.val x) (hs : ∀ p, (a.put o.dst p).eval s = v) (hsz : d < a.tmps.size)
  (hown : Own E base w v l) (h63 : l.length + 1 ≤ 1099511627776 / 8) (hby : E.bytes ≤ 1000) (hbase : base ≤ w.heap.size)
  (h : ∀ u v' w', Own E base w' v' (l ++ [x]) → Pushed E base w w' v → Grew w v v' → wpList P ops Q rest ((a.put o.dst u).put o2.dst v') w') : wpList P ops Q (o :: o2 :: rest) a w := by
 refine wpList_val hg (v := .slice (some ⟨w.heap.size, 0, none⟩) 1 1) (w' := w.alloc (.cells (E.val x).cells E.ty)) (by simp [execOp, ho, hy, run_slice_one]) ?_
 have hb1 : Below w.heap.size w (w.alloc (.cells (E.val x).cells E.ty)) := (Below.refl _ _).alloc (Nat.le_refl _) _
 have hown1 := hown.below hb1
 obtain ⟨v', w', hrun, h2, h3, h4, _⟩ := run_append (ty := o2.type) hown1 _ [x] (slice_of_block (Blk.new w E.ty (E.val x).cells)) (by simpa using h63) hby (Nat.le_trans hbase hb1.size)
 have hp := pushed_of hown1 h3
 have hpu : Pushed E base w w' v := {
  below := fun B hB hs => (hb1.mono hs).trans (hp.below B hB (Nat.le_trans hs hb1.size))
  other := fun g hlt hne => (hp.other g (Nat.lt_of_lt_of_le hlt hb1.size) hne).trans (hb1.block g hlt)
  blk := fun g t cs fr hne hb => hp.blk g t cs fr hne (keep' hb1 hb)
  map := fun g es c hb => hp.map g es c (keep' hb1 hb)
  size := Nat.le_trans hb1.size hp.size }
 refine wpList_val hg2 (v := v') (w' := w') ?_ (h _ v' w' h2 hpu (grew_of hb1.size h4))
 have e2 : (a.put o.dst (.slice (some ⟨w.heap.size, 0, none⟩) 1 1)).eval (.tmp d) = .slice (some ⟨w.heap.size, 0, none⟩) 1 1 := by rw [hd]; simp [Act.put, Act.eval, hsz]
 simp [execOp, ho2, resolve, invoke, builtin, hs, e2, hrun]
theorem wpList_appendO (hg : o.guard = none) (s x : Operand) (ho : o.op = .call { callee := .builtin .append, args := #[s, x], argTypes := #[E.st, E.st] }) (vx : Value) (hs : a.eval s = v) (hx : a.eval x = vx) (m : List α)
  (hown : Own E base w v l) (hm : SliceOf E w vx m) (h63 : l.length + m.length ≤ 1099511627776 / 8) (hby : E.bytes ≤ 1000) (hbase : base ≤ w.heap.size)
  (h : ∀ v' w', Own E base w' v' (l ++ m) → Pushed E base w w' v → Grew w v v' → wpList P ops Q rest (a.put o.dst v') w') : wpList P ops Q (o :: rest) a w := by
 obtain ⟨v', w', hrun, h2, h3, h4, _⟩ := run_append (ty := o.type) hown _ m hm h63 hby hbase
 refine wpList_val hg (v := v') (w' := w') ?_ (h v' w' h2 (pushed_of hown h3) (grew_of (Nat.le_refl _) h4))
 simp [execOp, ho, resolve, invoke, builtin, hs, hx, hrun]
theorem Pushed.only {w' : World} (h : Pushed E base w w' v) : Only (fun k => v.ownBlock = some k) w w' where
 os := (h.below 0 (Nat.zero_le _) (Nat.zero_le _)).os
 tape := (h.below 0 (Nat.zero_le _) (Nat.zero_le _)).tape
 output := (h.below 0 (Nat.zero_le _) (Nat.zero_le _)).output
 size := h.size
 block := fun k hk hne => h.other k hk (fun e => hne e.symm)
structure MkStep (g : Nat) (w w' : World) (v v' : Value) : Prop where
 only : Only (fun k => k = g ∨ v.ownBlock = some k) w w'
 grew : Grew w v v'
variable {g : Nat} {w1 w2 : World} {v1 v2 : Value}
theorem MkStep.refl (g : Nat) (w : World) (v : Value) : MkStep g w w v v := ⟨Only.refl _ _, Grew.refl _ _⟩
theorem MkStep.trans (h : MkStep g w w1 v v1) (k : MkStep g w1 w2 v1 v2) : MkStep g w w2 v v2 where
 only := h.only.trans k.only fun i hi hT => by
  rcases hT with rfl | hT
  ·exact .inl rfl
  ·rcases h.grew i hT with h | h
   ·exact .inr h
   ·omega
 grew := fun i hi => by
  rcases k.grew i hi with h1 | h1
  ·exact h.grew i h1
  ·exact .inr (Nat.le_trans h.only.size h1)
theorem MkStep.later (h : MkStep g w w1 v v1) (hb : Below w1.heap.size w1 w2) : MkStep g w w2 v v1 := ⟨h.only.trans (Only.of_below (S := fun _ => False) hb) (fun _ _ h => h.elim), h.grew⟩
theorem MkStep.of_below (hb : Below w.heap.size w w1) : MkStep g w w1 v v := ⟨(Only.of_below (S := fun _ => False) hb).mono (fun _ _ h => h.elim), Grew.refl _ _⟩
theorem MkStep.below (h : MkStep g w w1 v v1) (hg : g ≤ w.heap.size) (hv : ∀ k, v.ownBlock = some k → g ≤ k) : Below g w w1 := h.only.below hg fun i hi => by
 rcases hi with rfl | hi
 ·exact Nat.le_refl _
 ·exact hv i hi
def Off {β : Type} (F : Elem P β) (g : Nat) (w : World) (mv x : Value) (l : List β) : Prop := SliceOf F w x l ∧ (l = [] ∨ ∀ k, x.ownBlock = some k → k < w.heap.size ∧ k ≠ g ∧ mv.ownBlock ≠ some k)
theorem SliceOf.nil_any {β : Type} {F : Elem P β} {x : Value} (h : SliceOf F w x []) (w' : World) : SliceOf F w' x [] := by
 rcases h with ⟨p, c, rfl, _⟩ | ⟨p, cap, rfl, _⟩
 ·exact SliceOf.nil _ _ _
 ·exact SliceOf.nil _ _ _
theorem Off.step {β : Type} {F : Elem P β} {x : Value} {l : List β} (h : Off F g w v x l) (k : MkStep g w w1 v v1) : Off F g w1 v1 x l := by
 obtain ⟨h1, rfl | h2⟩ := h
 ·exact ⟨h1.nil_any _, .inl rfl⟩
 ·refine ⟨h1.onlyS k.only fun b hb hS => ?_, .inr fun b hb => ?_⟩
  ·obtain ⟨_, h3, h4⟩ := h2 b hb
   rcases hS with rfl | hS
   ·exact h3 rfl
   ·exact h4 hS
  ·obtain ⟨h5, h3, h4⟩ := h2 b hb
   refine ⟨Nat.lt_of_lt_of_le h5 k.only.size, h3, fun e => ?_⟩
   rcases k.grew b e with h | h
   ·exact h4 h
   ·omega
theorem Off.slice {β : Type} {F : Elem P β} {x : Value} {l : List β} (h : Off F g w v x l) : SliceOf F w x l := h.1
theorem Off.before {β : Type} {F : Elem P β} {w0 : World} {x : Value} {l : List β} (h : SliceOf F w0 x l) (hb : Below w0.heap.size w0 w) (hg : w0.heap.size ≤ g) (hv : ∀ k, v.ownBlock = some k → w0.heap.size ≤ k) : Off F g w v x l := by
 refine ⟨h.below hb, ?_⟩
 rcases h with ⟨_, _, _, rfl⟩ | ⟨p, cap, rfl, hp, _⟩
 ·exact .inl rfl
 ·refine .inr fun k hk => ?_
  obtain rfl : p.block = k := by simpa [Value.ownBlock] using hk
  have := hb.size
  exact ⟨by omega, by omega, fun e => by have := hv _ e; omega⟩
theorem Off.behind {β : Type} {F : Elem P β} {w0 : World} {x : Value} {l : List β} (h : SliceOf F w x l) (hx : ∀ k, x.ownBlock = some k → w0.heap.size ≤ k) (hg : g < w0.heap.size) (hv : ∀ k, v.ownBlock = some k → k < w0.heap.size) : Off F g w v x l := by
 refine ⟨h, ?_⟩
 rcases h with ⟨_, _, _, rfl⟩ | ⟨p, cap, rfl, hp, _⟩
 ·exact .inl rfl
 ·refine .inr fun k hk => ?_
  have hk' := hk
  obtain rfl : p.block = k := by simpa [Value.ownBlock] using hk
  have := hx _ hk'
  exact ⟨hp, by omega, fun e => by have := hv _ e; omega⟩
end
end Go.Agg
namespace Go.Proofs.YtfiadgdinhmgbaaDoor
open Go.RowKit Pl Go.Agg
def mkC (v : Value) : Array Value := #[v, .bool false]
structure MkV (g : Nat) (w : World) (v : Value) (b : List UInt8) : Prop where
 blk : Blk w g 113 (mkC v)
 own : Own EB (g + 1) w v b
section
variable {g : Nat} {w w' : World} {v : Value} {b : List UInt8}
theorem MkV.load (h : MkV g w v b) : LoadsL Tryd.prog w 23 (some ⟨g, 0, none⟩) v :=
 h.blk.one (P := Tryd.prog) 0 rfl (by kernel_rfl : Tryd.prog.underlying 23 = some (.slice 5)) rfl
theorem MkV.bad (h : MkV g w v b) : LoadsL Tryd.prog w 4 (some ⟨g, 1, none⟩) (.bool false) :=
 h.blk.one (P := Tryd.prog) 1 rfl Tryd.underlying4 rfl
theorem MkV.below (h : MkV g w v b) (hb : Below w.heap.size w w') : MkV g w' v b := ⟨h.blk.below hb, h.own.below hb⟩
theorem MkV.ge (h : MkV g w v b) : ∀ k, v.ownBlock = some k → g ≤ k := fun k hk => by have := (h.own.block k hk).1; omega
theorem MkV.lt (h : MkV g w v b) : ∀ k, v.ownBlock = some k → k < w.heap.size := fun k hk => by
 obtain ⟨_, cur, hc⟩ := h.own.block k hk
 exact Agg.heap_lt hc
theorem MkV.put {w1 : World} {v1 : Value} {l : List UInt8} (h : MkV g w v b) (ho : Own EB (g + 1) w1 v1 l) (hp : Pushed EB (g + 1) w w1 v) (hgr : Grew w v v1) :
  ∃ w2, (Instr.storeAt 23 (.pointer (some ⟨g, 0, none⟩)) v1).run Tryd.prog w1 = .ok () w2 ∧ MkV g w2 v1 l ∧ MkStep g w w2 v v1 := by
 have h1 : Blk w1 g 113 (mkC v) := hp.blk g _ _ _ (by decide) h.blk
 obtain ⟨p, c, rfl⟩ := ho.slice.form
 refine ⟨_, h1.run_put 0 (by simp [mkC]) _ rfl rfl (by kernel_rfl), ⟨h1.set 0 _, ho.keep fun k cur t fr hk hb => ?_⟩, ⟨?_, hgr⟩⟩
 ·rw [Below.heap_setCell _ _ _ _ (by show k ≠ g; omega)]; exact hb
 ·refine (hp.only.mono fun _ _ h => .inr h).trans (T := fun k => k = g) ⟨rfl, rfl, rfl, by simp [World.setCell], fun k _ hk => Below.heap_setCell _ _ _ _ hk⟩ fun _ _ h => .inl h
theorem MkV.stepBelow {v1 : Value} (h : MkV g w v b) (hs : MkStep g w w' v v1) : Below g w w' := hs.below (Nat.le_of_lt h.blk.lt) h.ge
end
def EI : Elem Tryd.prog Nat where
 ty := 3
 st := 136
 n := 1
 bytes := 8
 val := fun c => .int .i64 (c : Int)
 zero := .int .i64 0
 pos := by omega
 small := by omega
 size := fun x => rfl
 one := fun x v hv => by
  obtain rfl : v = .int .i64 (x : Int) := by simpa [Value.cells] using hv
  rfl
 zsize := rfl
 slice := by kernel_rfl
 info := info_of (by kernel_rfl) (by kernel_rfl) (by kernel_rfl)
 load := fun w a x hp h => LoadsL.of_cell (by have := h 0 _ rfl; rwa [show a.add 0 = a from rfl] at this) Tryd.underlying3 rfl
theorem ints_len {w : World} {v : Value} {l : List Nat} (h : SliceOf EI w v l) (W : World) : (Builtin.len_ #[136] 3 #[v]).run Tryd.prog W = .ok (.int .i64 (l.length : Int)) W := h.len W
theorem int_at {w : World} {v : Value} {l : List Nat} (h : SliceOf EI w v l) (k : Nat) (x : Nat) (hx : l[k]? = some x) :
  ∃ p : Addr, (∀ W, (Instr.indexAt 136 v (.int .i64 (k : Int))).run Tryd.prog W = .ok (.pointer (some p)) W) ∧ LoadsL Tryd.prog w 3 (some p) (.int .i64 (x : Int)) := by
 obtain ⟨p, h1, _, _, h4⟩ := h.at_ k x hx
 exact ⟨p, h1, h4⟩
end Go.Proofs.YtfiadgdinhmgbaaDoor
