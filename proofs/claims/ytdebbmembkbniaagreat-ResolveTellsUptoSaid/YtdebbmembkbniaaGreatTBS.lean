/- Resolved derivations as arguments. (Several texts in one.) -/
import Derived.Test.YtdebbmembkbniaaGreatShelf
import Derived.JoinedCond
import Derived.OpenShut
import Derived.Shelf.Vars
import Derived.Lib.UnsafeStr
import Derived.Test.YtdebbmembkbniaaGreatTAB
import Derived.Test.YtdebbmembkbniaaGreatRows
import Derived.Carry
import Derived.Deep.Slices
import Derived.Test.YtdebbmembkbniaaGreatTAA
/-! A row's argument of bytes, read and laid again; the wrap for a row of the second form with the world's shape. -/
namespace Go.Agg
open Go.RowKit Go.ChangeShapes Go.WideShapes Go.ChangeAt
section
variable {H : Type} {enc : TypeId × Value → H} {P : Program} {w : World} {base : Nat} {sp : Nat → Bool} {held : Bool}
def byteData {H : Type} (l : List UInt8) : List (DataW H) := l.map fun c => .lit (.int .u8 (c.toNat : Int))
theorem open_bytes {t e : TypeId} {n fuel : Nat} {cs : List Value} {x : DataW H × List MemPlace} (ht : P.underlying t = some (.array n e)) (he : P.underlying e = some (.int .u8)) (hc : P.cellsOf e = 1) (hn : P.cellsOf t = n)
  (h : DataW.trod enc P w base sp held fuel t cs = some x) : ∃ l : List UInt8, l.length = n ∧ cs = Lib.byteCells l ∧ x = (.agg (byteData l), []) := by
 obtain ⟨xs, m, rfl, rfl, hl, hx, ha⟩ := DataW.trod_array ht h
 have key : ∀ i, i < n → ∃ c : UInt8, cs[i]? = some (.int .u8 (c.toNat : Int)) ∧ xs[i]? = some (.lit (.int .u8 (c.toNat : Int)), []) := fun i hi => by
  have hxi : xs[i]? = some xs[i] := List.getElem?_eq_getElem (by omega)
  have h1 := (ha i hi).trans hxi
  rw [hc] at h1
  obtain ⟨k, hk, hd, hw⟩ := DataW.trod_int he h1
  have hb := bounds_u8 hw
  refine ⟨UInt8.ofNat k.toNat, ?_, ?_⟩
  ·have : (cs.drop (i * 1)).take 1 = [.int .u8 k] := hk
   have h2 := congrArg (·[0]?) this
   simp at h2
   rw [h2]
   simp; omega
  ·rw [hxi, hd]
   simp; omega
 have hlen : cs.length = n := hl.trans hn
 refine ⟨cs.map fun | .int _ k => UInt8.ofNat k.toNat | _ => 0, by simp [hlen], ?_, ?_⟩
 ·refine List.ext_getElem? fun i => ?_
  by_cases hi : i < n
  ·obtain ⟨c, h1, _⟩ := key i hi
   simp [Lib.byteCells, h1]
  ·rw [List.getElem?_eq_none (by omega), List.getElem?_eq_none (by simp [Lib.byteCells]; omega)]
 ·have hfst : xs.map (·.1) = byteData (cs.map fun | .int _ k => UInt8.ofNat k.toNat | _ => 0) := by
   refine List.ext_getElem? fun i => ?_
   by_cases hi : i < n
   ·obtain ⟨c, h1, h2⟩ := key i hi
    simp [byteData, h1, h2]
   ·rw [List.getElem?_eq_none (by simp; omega), List.getElem?_eq_none (by simp [byteData]; omega)]
  have hsnd : xs.flatMap (·.2) = [] := by
   rw [List.flatMap_eq_nil_iff]
   intro y hy
   obtain ⟨i, hi, rfl⟩ := List.getElem_of_mem hy
   obtain ⟨c, _, h2⟩ := key i (by omega)
   rw [List.getElem?_eq_getElem hi] at h2
   rw [Option.some.inj h2]
  rw [hfst, hsnd]
end
theorem post_below {H : Type} {enc : TypeId × Value → H} {P : Program} {f : Func} {s : ChangeSpec} {apart fresh handsOn again : Bool} {W W' : World} {args : Array Value} {v : Value} {ds gs : List (DataW H)} {before pa pv : List MemPlace}
  (hW : DataW.Whole enc P f.params.toList s.vars apart W args.toList ds gs before)
  (hres : ∀ (b : Nat) (sp : Nat → Bool) (hd : Bool), DataW.TrodAll enc P W' b sp hd f.resultTypes.toList (v.resultList f.resultTypes.size) (s.fn H (ds ++ gs)).results [])
  (hargs : ∀ sp : Nat → Bool, (∀ p ∈ before, sp p.block = true) → DataW.TrodAll enc P W' 0 sp true f.params.toList args.toList (s.fn H (ds ++ gs)).args pa)
  (hvars : ∀ sp : Nat → Bool, (∀ p ∈ before, sp p.block = true) → DataW.TrodVars enc P W' sp s.vars (s.fn H (ds ++ gs)).vars pv)
  (hps : before = pa ++ pv) (hg : Below W.heap.size W W')
  (hok : ∀ (j : Nat) (t : TypeId) (r : Value), f.resultTypes[j]? = some t → (v.resultList f.resultTypes.size)[j]? = some r → Value.okWide P W' .any 0 t r) :
  s.post enc P f apart fresh handsOn again W args v W' := by
 have hold : ∀ p ∈ before, (fun b => decide (b < W.heap.size)) p.block = true := fun p hp => by simpa using hW.lt p hp
 refine ⟨ds, gs, before, [], pa, pv, hW, hres _ _ _, hargs _ hold, hvars _ hold, World.keptBut_mono (fun p hp => ⟨hp, ?_⟩) (hg.frame (· ∈ before)), fun _ => ?_⟩
 ·rw [hps, List.mem_append] at hp
  exact Or.inr hp
 ·have hlt := hW.lt
  obtain ⟨_, _, _, _, _, hz, hn⟩ := hW
  refine ⟨hok, _, _, ([] ++ pa) ++ pv, ⟨[] ++ pa, pv, trodAll_append (hargs _ (fun _ _ => rfl)) (hres _ _ _), hvars _ (fun _ _ => rfl), rfl, ?_, ?_⟩, ?_⟩
  ·intro b off hp
   have hp' : MemPlace.cell b off ∈ before := by rw [hps]; simpa using hp
   rw [hg.frozen (hlt _ hp')]
   exact hz b off hp'
  ·intro ha
   have := hn ha
   rw [hps] at this
   simpa using this
  ·intro p hp _
   rw [hps]
   simpa using hp
theorem handed_cond_shaped {H : Type} {enc : TypeId × Value → H} {a : Assume} {C : Checked} {os : Os} {f : FuncId} {fn : Func} {s : OpenSpec} {k : (H : Type) → List (DataW H) → Bool} (hk : s.cond = some k) {F : Stop.Interp} {conds : List PathCond} {apart fresh handsOn again : Bool}
  (own : ownKnob C.prog.godebug = none) (started : os.Started) (noInit : C.prog.inits.idxOf? f = none) (hfn : C.prog.funcs[f]? = some fn)
  (witness : ∃ (w : World) (tape : Tape) (i : Input), w.os = os ∧ (w.forCall tape i).Shaped C.prog ∧ i.vars = [] ∧ Input.okWide C.prog (w.forCall tape i) .any w.heap.size f i ∧
   s.pre6 enc C.prog fn conds apart (w.forCall tape i).memory i.args ∧ a.holds C.prog (lone (Frame.enter C.prog f i.args .normal) [] (w.forCall tape i)))
  (contract : ∀ (W : World) (base : Nat) (args : Array Value) (ds gs : List (DataW H)) (before : List MemPlace),
   (∀ (j : Nat) t v, fn.params[j]? = some t → args[j]? = some v → Value.okWide C.prog W .any base t v) →
   DataW.Whole enc C.prog fn.params.toList s.vars apart W args.toList ds gs before → k H (ds ++ gs) = true → W.ShapedOpen C.prog →
   Calls C.prog f args W fun e W' => ∃ v, e = .returned v ∧ (s.at F).post enc C.prog fn apart fresh handsOn again W args v W') :
  ReturnsInHanded a C os f .any (s.pre6 enc C.prog fn conds apart) ((s.at F).post enc C.prog fn apart fresh handsOn again) := by
 refine returnsInHanded_of_calls own started noInit witness ?_
 intro w tape i _ hsh _ hok hpre _
 obtain ⟨_, _, _, fn', hfn', _, _, _, _, hval⟩ := hok
 obtain rfl : fn' = fn := Option.some.inj (hfn'.symm.trans hfn)
 obtain ⟨ds, gs, before, hw, _, hkk⟩ := (OpenSpec.pre_some hk conds apart _ _).1 hpre.1
 refine (contract (w.forCall tape i) w.heap.size i.args ds gs before hval (DataW.Whole.of_heap (w' := w.forCall tape i) (by rfl) hw) hkk hsh).mono fun e W' ⟨v, he, hp⟩ => ?_
 subst he
 exact ChangeSpec.post_blind hp
end Go.Agg
/-! A law that returns true and keeps all that was there: its row's proof; slices, bytes as arguments. -/
namespace Go.Agg
open Go.RowKit Go.ChangeShapes Go.WideShapes Go.ChangeAt
section
variable {H : Type} {enc : TypeId × Value → H} {P : Program}
theorem trodAll_stays (hl : laidOutB P = true) : ∀ {ts : List TypeId}, (∀ t ∈ ts, P.readableRec t = true ∧ t < P.types.size) → ∀ {W W' : World} {base : Nat} {sp' : Nat → Bool} {vs : List Value} {ds : List (DataW H)} {ps : List MemPlace},
  DataW.TrodAll enc P W base (fun _ => true) true ts vs ds ps → (∀ p ∈ ps, W.sameAt W' p) → (∀ p ∈ ps, sp' p.block = true) → DataW.TrodAll enc P W' base sp' true ts vs ds ps
 | [], _, _, _, _, _, _, _, _, h, _, _ => by
  obtain ⟨rfl, rfl, rfl⟩ := trodAll_nil h
  exact trodAll_mk0
 | t :: ts, hr, _, _, _, _, _, _, _, h, hs, hp => by
  obtain ⟨v, vs', d, ds', p, q, rfl, rfl, rfl, h1, h2⟩ := trodAll_cons h
  exact trodAll_cons_mk (WideElems.Trod_stays hl (hr t (by simp)).1 (hr t (by simp)).2 h1 (fun x hx => hs x (by simp [hx])) (fun x hx => hp x (by simp [hx])))
   (trodAll_stays hl (fun t ht => hr t (by simp [ht])) h2 (fun x hx => hs x (by simp [hx])) (fun x hx => hp x (by simp [hx])))
theorem post_law {f : Func} {s : ChangeSpec} {apart fresh handsOn again : Bool} {W W' : World} {args : Array Value} {ds gs : List (DataW H)} {before : List MemPlace} {bt : TypeId}
  (hW : DataW.Whole enc P f.params.toList s.vars apart W args.toList ds gs before) (hv : s.vars = []) (hl : laidOutB P = true) (hr : ∀ t ∈ f.params.toList, P.readableRec t = true ∧ t < P.types.size)
  (hfr : (s.fn H (ds ++ gs)).results = [.lit (.bool true)]) (hfa : (s.fn H (ds ++ gs)).args = ds) (hfv : (s.fn H (ds ++ gs)).vars = []) (hrt : f.resultTypes = #[bt]) (hbt : P.underlying bt = some .bool) (hg : Below W.heap.size W W') :
  s.post enc P f apart fresh handsOn again W args (.bool true) W' := by
 obtain ⟨p, q, hA, hV, rfl, hfz, hnd⟩ := id hW
 rw [hv] at hV
 obtain ⟨rfl, rfl⟩ := trodVars_none hV
 have hlt := hW.lt
 have hst : ∀ sp : Nat → Bool, (∀ x ∈ p ++ [], sp x.block = true) → DataW.TrodAll enc P W' 0 sp true f.params.toList args.toList ds p := fun sp hsp =>
  trodAll_stays hl hr hA (fun x hx => hg.same (hlt x (by simp [hx]))) (fun x hx => hsp x (by simp [hx]))
 refine post_below (pa := p) (pv := []) hW ?_ (fun sp hsp => by rw [hfa]; exact hst sp hsp) (fun sp hsp => by rw [hfv, hv]; rfl) rfl hg ?_
 ·intro b sp hd
  rw [hfr, hrt]
  exact trodAll_mk1 (shut_bool hbt _)
 ·exact ok_one hrt rfl (okWide_bool_mk hbt _)
end
structure ElemD (P : Program) (α : Type) extends Elem P α where
 cellsOf : P.cellsOf ty = n
 data : (H : Type) → α → DataW H
 open_ : ∀ (H : Type) (enc : TypeId × Value → H) (w : World) (base : Nat) (sp : Nat → Bool) (held : Bool) (fuel : Nat) (cs : List Value) (x : DataW H × List MemPlace),
  DataW.trod enc P w base sp held fuel ty cs = some x → ∃ a, cs = (val a).cells.toList ∧ x = (data H a, [])
theorem open_sliceE {P : Program} {α : Type} [Inhabited α] (E : ElemD P α) {H : Type} {enc : TypeId × Value → H} {w : World} {base : Nat} {sp : Nat → Bool} {held : Bool} {fuel : Nat} {cs : List Value} {x : DataW H × List MemPlace}
  (h : DataW.trod enc P w base sp held fuel E.st cs = some x) : ∃ (v : Value) (l : List α), cs = [v] ∧ SliceOf E.toElem w v l ∧ ((l = [] ∧ x.1 = .nil) ∨ ∃ rest, x.1 = .slice (l.map (E.data H)) rest) := by
 rcases Go.Deep.open_slice E.slice h with ⟨rfl, rfl⟩ | ⟨a, len, cap, m, n, D, Pl, rfl, _, hlc, _, hm, rfl, hel⟩
 ·exact ⟨_, [], rfl, SliceOf.nil _ _ _, .inl ⟨rfl, rfl⟩⟩
 ·have hlm : len ≤ m := by rw [hm]; split <;> omega
  have each : ∀ i, i < len → ∃ b : α, (∀ j u, (E.val b).cells[j]? = some u → w.cell? ((a.add (i * E.n)).add j) = some u) ∧ D i = E.data H b := fun i hi => by
   obtain ⟨cs', hc, ht⟩ := hel i (by omega)
   rw [E.cellsOf] at hc
   obtain ⟨b, rfl, hx⟩ := E.open_ H enc w base sp held n cs' _ ht
   obtain ⟨_, hcl, hat⟩ := World.cells?_some hc
   refine ⟨b, fun j u hj => ?_, congrArg Prod.fst hx⟩
   have hjn : j < E.n := by have := (Array.getElem?_eq_some_iff.1 hj).1; rw [E.size] at this; exact this
   rw [hat j hjn]
   simpa using hj
  obtain ⟨f, hf⟩ := Go.Deep.choose_lt each
  refine ⟨_, (List.range len).map f, rfl, ?_, .inr ⟨(List.range (m - len)).map fun j => D (len + j), ?_⟩⟩
  ·by_cases h0 : len = 0
   ·subst h0; exact SliceOf.nil _ _ _
   ·have hb : a.block < w.heap.size := by
     have hpos := E.pos
     have hc0 := (hf 0 (by omega)).1 0 _ (Array.getElem?_eq_getElem (by rw [E.size]; exact hpos))
     have := block_lt_of_cell hc0
     rwa [add_block, add_block] at this
    refine .inr ⟨a, cap, by simp, hb, fun j u hj => ?_⟩
    obtain ⟨k, b, i, h1, h2, rfl⟩ := Elem.flat_all E.toElem _ j u hj
    obtain ⟨hk, hkb⟩ := List.getElem?_eq_some_iff.1 h1
    have hkl : k < len := by simpa using hk
    have hfb : f k = b := by simpa using hkb
    subst hfb
    rw [← add_add]
    exact (hf k hkl).1 i u h2
  ·simp only [List.map_map]
   congr 1
   refine List.map_congr_left fun i hi => ?_
   exact (hf i (List.mem_range.1 hi)).2
end Go.Agg
namespace Go.Proofs.YtdebbmembkbniaaGreat
open Go.RowKit Go.Agg Go.ChangeMaps Go.ChangeShapes Go.WideShapes
theorem own : ownKnob Tryz.prog.godebug = none := by kernel_rfl
theorem cells_byte : Tryz.prog.cellsOf 5 = 1 := by kernel_rfl
theorem laidOut : laidOutB Tryz.prog = true := by kernel_rfl
theorem bulkAll_map {H : Type} {α : Type} (f : α → DataW H) (sz : α → Nat) (h : ∀ a, sz a + 1 ≤ Rows.uptoBulk (f a)) (l : List α) : (l.map sz).sum + l.length ≤ Rows.uptoBulkAll (l.map f) := by
 induction l with
 | nil => simp [Rows.uptoBulkAll]
 | cons a l ih =>
  have := h a
  simp only [List.map_cons, List.sum_cons, List.length_cons, Rows.uptoBulkAll]; omega
theorem bulk_slice {H : Type} {α : Type} {x : DataW H} {l : List α} {f : α → DataW H} (hx : (l = [] ∧ x = .nil) ∨ ∃ rest, x = .slice (l.map f) rest) (sz : α → Nat) (h : ∀ a, sz a + 1 ≤ Rows.uptoBulk (f a)) : (l.map sz).sum + l.length + 1 ≤ Rows.uptoBulk x := by
 rcases hx with ⟨rfl, rfl⟩ | ⟨rest, rfl⟩
 ·simp [Rows.uptoBulk]
 ·have := bulkAll_map f sz h l
  simp only [Rows.uptoBulk]; omega
def DB : ElemD Tryz.prog UInt8 where
 toElem := EB
 cellsOf := cells_byte
 data := fun _ c => .lit (.int .u8 (c.toNat : Int))
 open_ := fun H enc w base sp held fuel cs x h => by
  obtain ⟨k, rfl, e2, hw⟩ := DataW.trod_int Tryz.underlying5 h
  have hb := bounds_u8 hw
  refine ⟨UInt8.ofNat k.toNat, ?_, ?_⟩
  ·have : ((UInt8.ofNat k.toNat).toNat : Int) = k := by simp; omega
   show [Value.int .u8 k] = [Value.int .u8 ((UInt8.ofNat k.toNat).toNat : Int)]
   rw [this]
  ·have : ((UInt8.ofNat k.toNat).toNat : Int) = k := by simp; omega
   rw [e2, this]
theorem bulk_byte {H : Type} (x : UInt8) : 0 + 1 ≤ Rows.uptoBulk (DB.data H x) := by
 show 0 + 1 ≤ Rows.uptoBulk (DataW.lit _)
 simp [Rows.uptoBulk]
theorem sum_zero (l : List UInt8) : (l.map fun _ => 0).sum = 0 := by
 induction l with
 | nil => rfl
 | cons c l ih => simp [ih]
section
variable {H : Type} {enc : TypeId × Value → H} {w : World} {base : Nat} {sp : Nat → Bool} {held : Bool} {r : Reach} {b0 : Nat} {v : Value} {d : DataW H} {ps : List MemPlace}
set_option maxRecDepth 100000 in
theorem open_bytesB (hval : Value.okWide Tryz.prog w r b0 23 v) (hd : DataW.Trod enc Tryz.prog w base sp held 23 v d ps) : ∃ l : List UInt8, BytesAt w v l ∧ l.length + 1 ≤ Rows.uptoBulk d := by
 obtain ⟨fuel, hf⟩ := hd
 obtain ⟨u, l, e, hs, hx⟩ := open_sliceE DB (x := (d, ps)) hf
 obtain ⟨a, n, c, rfl⟩ := okWide_slice (by kernel_rfl : Tryz.prog.underlying 23 = some (.slice 5)) hval
 obtain rfl : Value.slice a n c = u := by simpa [Value.cells] using e
 have := bulk_slice hx (fun _ => 0) bulk_byte
 rw [sum_zero] at this
 exact ⟨l, hs, by simpa using this⟩
end
end Go.Proofs.YtdebbmembkbniaaGreat
/-! A path and a text as arguments: read, and laid again. -/
namespace Go.Proofs.YtdebbmembkbniaaGreat
open Go.RowKit Go.Agg Go.ChangeMaps Go.ChangeShapes Go.WideShapes
section
variable {H : Type} {enc : TypeId × Value → H} {w : World} {base : Nat} {sp : Nat → Bool} {held : Bool}
def hashData {H : Type} (h : List UInt8) : DataW H := .agg (byteData h)
def pathData {H : Type} (h n : List UInt8) : DataW H := .agg [hashData h, .lit (.string n)]
theorem cells_hash : Tryz.prog.cellsOf 43 = 20 := by kernel_rfl
theorem cells_str : Tryz.prog.cellsOf 9 = 1 := by kernel_rfl
theorem cells_path : Tryz.prog.cellsOf 48 = 21 := by kernel_rfl
theorem open_path_cells {fuel : Nat} {cs : List Value} {x : DataW H × List MemPlace} (h : DataW.trod enc Tryz.prog w base sp held fuel 48 cs = some x) :
  ∃ h n : List UInt8, h.length = 20 ∧ n.length ≤ maxLen ∧ cs = (pC h n).toList ∧ x = (pathData h n, []) := by
 obtain ⟨xs, m, rfl, rfl, hl, hx, ha⟩ := DataW.trod_struct pC_under h
 have hf := path_fields
 generalize Tryz.prog.fieldsOf 48 = fs at *
 obtain ⟨fs⟩ := fs
 cases fs with
 | nil => exact absurd hf (by simp)
 | cons f1 fs =>
 cases fs with
 | nil => exact absurd hf (by simp)
 | cons f2 fs =>
 cases fs with
 | cons f3 fs => exact absurd hf (by simp)
 | nil =>
  simp only [List.map_cons, List.map_nil, List.cons.injEq, Prod.mk.injEq, and_true] at hf
  obtain ⟨⟨a1, a2, a3⟩, b1, b2, b3⟩ := hf
  match xs, hx with
  | [x1, x2], _ =>
   have h1 := ha 0 f1 rfl
   have h2 := ha 1 f2 rfl
   rw [a2, a3, cells_hash] at h1
   rw [b2, b3, cells_str] at h2
   obtain ⟨l, e1, e2, e3⟩ := open_bytes Tryz.underlying43 Tryz.underlying5 cells_byte cells_hash h1
   obtain ⟨s, e4, e5, e6⟩ := DataW.trod_string Tryz.underlying9 h2
   rw [cells_path] at hl
   refine ⟨l, s.data.toList, e1, e6, ?_, ?_⟩
   ·have : cs = (cs.drop 0).take 20 ++ (cs.drop 20).take 1 := by
     rw [List.drop_zero, List.take_of_length_le (l := cs.drop 20) (by simp; omega), List.take_append_drop]
    rw [this, e2, e4]
    simp [pC, hC]
   ·rw [e3, e5]; rfl
end
end Go.Proofs.YtdebbmembkbniaaGreat
/-! Resolved derivations as arguments. -/
namespace Go.Proofs.YtdebbmembkbniaaGreat
open Go.RowKit Pl Go.Agg Go.ChangeMaps Go.ChangeShapes Go.WideShapes
section
variable {H : Type} {enc : TypeId × Value → H} {w : World} {base : Nat} {sp : Nat → Bool} {held : Bool}
def rinData (H : Type) (x : Rin) : DataW H := .agg [.lit (.string x.1), pathData x.2.1.1 x.2.1.2]
theorem cells_rin : Tryz.prog.cellsOf 77 = 22 := by kernel_rfl
theorem rin_fields : (Tryz.prog.fieldsOf 77).toList.map (fun f => (f.name, f.type, f.offset)) = [("Name", 9, 0), ("Path", 48, 1)] := by kernel_rfl
theorem split2R {cs a b : List Value} {n m : Nat} (hl : cs.length = n + m) (h1 : (cs.drop 0).take n = a) (h2 : (cs.drop n).take m = b) : cs = a ++ b := by
 rw [← h1, ← h2, List.drop_zero, List.take_of_length_le (l := cs.drop n) (by simp; omega), List.take_append_drop]
theorem split3R {cs a b c : List Value} {n m k : Nat} (hl : cs.length = n + m + k) (h1 : (cs.drop 0).take n = a) (h2 : (cs.drop n).take m = b) (h3 : (cs.drop (n + m)).take k = c) : cs = a ++ (b ++ c) := by
 rw [← h1, ← h2, ← h3, List.drop_zero, List.take_of_length_le (l := cs.drop (n + m)) (by simp; omega), ← List.drop_drop, List.take_append_drop, List.take_append_drop]
theorem open_rin_cells {fuel : Nat} {cs : List Value} {x : DataW H × List MemPlace} (h : DataW.trod enc Tryz.prog w base sp held fuel 77 cs = some x) : ∃ i : Rin, cs = (riC i).toList ∧ x = (rinData H i, []) := by
 obtain ⟨xs, m, rfl, rfl, hl, hx, ha⟩ := DataW.trod_struct riC_under h
 have hf := rin_fields
 generalize Tryz.prog.fieldsOf 77 = fs at *
 obtain ⟨fs⟩ := fs
 cases fs with
 | nil => exact absurd hf (by simp)
 | cons f1 fs =>
 cases fs with
 | nil => exact absurd hf (by simp)
 | cons f2 fs =>
 cases fs with
 | cons f3 fs => exact absurd hf (by simp)
 | nil =>
  simp only [List.map_cons, List.map_nil, List.cons.injEq, Prod.mk.injEq, and_true] at hf
  obtain ⟨⟨a1, a2, a3⟩, b1, b2, b3⟩ := hf
  match xs, hx with
  | [x1, x2], _ =>
   have h1 := ha 0 f1 rfl
   have h2 := ha 1 f2 rfl
   rw [a2, a3, cells_str] at h1
   rw [b2, b3, cells_path] at h2
   obtain ⟨s, e1, e2, _⟩ := DataW.trod_string Tryz.underlying9 h1
   obtain ⟨g, n, hg, _, e3, e4⟩ := open_path_cells h2
   rw [cells_rin] at hl
   refine ⟨(s.data.toList, ⟨(g, n), hg⟩), ?_, ?_⟩
   ·rw [split2R (n := 1) (m := 21) hl e1 e3]
    simp [riC]
   ·rw [e2, e4]; rfl
end
def DRi : ElemD Tryz.prog Rin where
 toElem := ERi
 cellsOf := cells_rin
 data := rinData
 open_ := fun _ _ _ _ _ _ _ _ _ h => open_rin_cells h
instance : Inhabited Rin := ⟨zR⟩
def riSz (x : Rin) : Nat := x.1.length + x.2.1.2.length
theorem bulk_rin {H : Type} (x : Rin) : riSz x + 1 ≤ Rows.uptoBulk (DRi.data H x) := by
 show riSz x + 1 ≤ Rows.uptoBulk (rinData H x)
 simp only [rinData, pathData, Rows.uptoBulk, Rows.uptoBulkAll, riSz]; omega
section
variable {H : Type} {enc : TypeId × Value → H} {w : World} {base : Nat} {sp : Nat → Bool} {held : Bool} {r : Reach} {b0 : Nat} {v : Value} {d : DataW H} {ps : List MemPlace}
theorem rv_fields : (Tryz.prog.fieldsOf 25).toList.map (fun f => (f.name, f.type, f.offset)) = [("Name", 9, 0), ("Inputs", 22, 1), ("Recipe", 23, 2)] := by kernel_rfl
theorem cells_rv : Tryz.prog.cellsOf 25 = 3 := by kernel_rfl
theorem cells_rins : Tryz.prog.cellsOf 22 = 1 := by kernel_rfl
theorem cells_bytesR : Tryz.prog.cellsOf 23 = 1 := by kernel_rfl
set_option maxRecDepth 100000 in
theorem open_rv (hval : Value.okWide Tryz.prog w r b0 25 v) (hd : DataW.Trod enc Tryz.prog w base sp held 25 v d ps) :
  ∃ x : Rv, RvAt w v x ∧ x.1.length + (x.2.1.map riSz).sum + x.2.1.length + x.2.2.length + 1 ≤ Rows.uptoBulk d := by
 obtain ⟨cs, rfl, _⟩ := okWide_struct rv_under hval
 obtain ⟨fuel, hfu⟩ := hd
 obtain ⟨xs, m, rfl, hdd, hl, hx, ha⟩ := DataW.trod_struct rv_under hfu
 have hf := rv_fields
 generalize Tryz.prog.fieldsOf 25 = fs at *
 obtain ⟨fs⟩ := fs
 cases fs with
 | nil => exact absurd hf (by simp)
 | cons f1 fs =>
 cases fs with
 | nil => exact absurd hf (by simp)
 | cons f2 fs =>
 cases fs with
 | nil => exact absurd hf (by simp)
 | cons f3 fs =>
 cases fs with
 | cons f4 fs => exact absurd hf (by simp)
 | nil =>
  simp only [List.map_cons, List.map_nil, List.cons.injEq, Prod.mk.injEq, and_true] at hf
  obtain ⟨⟨a1, a2, a3⟩, ⟨b1, b2, b3⟩, c1, c2, c3⟩ := hf
  match xs, hx with
  | [x1, x2, x3], _ =>
   have h1 := ha 0 f1 rfl
   have h2 := ha 1 f2 rfl
   have h3 := ha 2 f3 rfl
   rw [a2, a3, cells_str] at h1
   rw [b2, b3, cells_rins] at h2
   rw [c2, c3, cells_bytesR] at h3
   obtain ⟨s, e1, e2, _⟩ := DataW.trod_string Tryz.underlying9 h1
   obtain ⟨vi, li, e3, hs3, hx3⟩ := open_sliceE DRi h2
   obtain ⟨vr, lr, e4, hs4, hx4⟩ := open_sliceE DB h3
   rw [cells_rv] at hl
   have hcs : (Value.agg cs).cells.toList = [.string s] ++ ([vi] ++ [vr]) := split3R (n := 1) (m := 1) (k := 1) hl e1 e3 e4
   have hcs2 : cs = #[.string s, vi, vr] := Array.ext' (by simpa [Value.cells] using hcs)
   refine ⟨(s.data.toList, li, lr), ⟨vi, vr, by rw [hcs2], hs3, hs4⟩, ?_⟩
   have k1 := bulk_slice hx3 riSz bulk_rin
   have k2 := bulk_slice hx4 (fun _ => 0) bulk_byte
   rw [sum_zero] at k2
   have hd2 : d = .agg [x1.1, x2.1, x3.1] := by simpa using congrArg Prod.fst hdd
   rw [hd2]
   simp only [Rows.uptoBulk, Rows.uptoBulkAll, e2]
   omega
end
theorem le_sumR {l : List Rin} {x : Rin} (h : x ∈ l) : riSz x ≤ (l.map riSz).sum := by
 induction l with
 | nil => cases h
 | cons y l ih =>
  simp only [List.map_cons, List.sum_cons]
  rcases List.mem_cons.1 h with rfl | h
  ·omega
  ·have := ih h
   omega
end Go.Proofs.YtdebbmembkbniaaGreat
