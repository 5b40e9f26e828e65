/- Derivations and bytes as arguments. (Several texts in one.) -/
import Derived.Test.YtnlilmiakddlaaaShelf
import Derived.JoinedCond
import Derived.OpenShut
import Derived.Shelf.Vars
import Derived.Lib.UnsafeStr
import Derived.Test.YtnlilmiakddlaaaBAF
import Derived.Test.YtnlilmiakddlaaaRows
import Derived.Carry
import Derived.Deep.Slices
import Derived.Test.YtnlilmiakddlaaaBAE
import Derived.Test.YtnlilmiakddlaaaBAX
/-! A row's argument of bytes, read and laid again; the wrap for a row of the second form with the world's shape. -/
namespace Go.Agg
open Go.RowKit Go.ChangeShapes Go.WideShapes Go.ChangeAt
section
variable {H : Type} {enc : TypeId × Value → H} {P : Program} {w : World} {base : Nat} {sp : Nat → Bool} {held : Bool}
/-- bytes, as data -/
def byteData {H : Type} (l : List UInt8) : List (DataW H) := l.map fun c => .lit (.int .u8 (c.toNat : Int))
theorem open_bytes {t e : TypeId} {n fuel : Nat} {cs : List Value} {x : DataW H × List MemPlace} (ht : P.underlying t = some (.array n e)) (he : P.underlying e = some (.int .u8)) (hc : P.cellsOf e = 1) (hn : P.cellsOf t = n)
    (h : DataW.trod enc P w base sp held fuel t cs = some x) : ∃ l : List UInt8, l.length = n ∧ cs = Lib.byteCells l ∧ x = (.agg (byteData l), []) := by
  obtain ⟨xs, m, rfl, rfl, hl, hx, ha⟩ := DataW.trod_array ht h
  have key : ∀ i, i < n → ∃ c : UInt8, cs[i]? = some (.int .u8 (c.toNat : Int)) ∧ xs[i]? = some (.lit (.int .u8 (c.toNat : Int)), []) := fun i hi => by
    have hxi : xs[i]? = some xs[i] := List.getElem?_eq_getElem (by omega)
    have h1 := (ha i hi).trans hxi
    rw [hc] at h1
    obtain ⟨k, hk, hd, hw⟩ := DataW.trod_int he h1
    have hb := bounds_u8 hw
    refine ⟨UInt8.ofNat k.toNat, ?_, ?_⟩
    · have : (cs.drop (i * 1)).take 1 = [.int .u8 k] := hk
      have h2 := congrArg (·[0]?) this
      simp at h2
      rw [h2]
      simp; omega
    · rw [hxi, hd]
      simp; omega
  have hlen : cs.length = n := hl.trans hn
  refine ⟨cs.map fun | .int _ k => UInt8.ofNat k.toNat | _ => 0, by simp [hlen], ?_, ?_⟩
  · refine List.ext_getElem? fun i => ?_
    by_cases hi : i < n
    · obtain ⟨c, h1, _⟩ := key i hi
      simp [Lib.byteCells, h1]
    · rw [List.getElem?_eq_none (by omega), List.getElem?_eq_none (by simp [Lib.byteCells]; omega)]
  · have hfst : xs.map (·.1) = byteData (cs.map fun | .int _ k => UInt8.ofNat k.toNat | _ => 0) := by
      refine List.ext_getElem? fun i => ?_
      by_cases hi : i < n
      · obtain ⟨c, h1, h2⟩ := key i hi
        simp [byteData, h1, h2]
      · rw [List.getElem?_eq_none (by simp; omega), List.getElem?_eq_none (by simp [byteData]; omega)]
    have hsnd : xs.flatMap (·.2) = [] := by
      rw [List.flatMap_eq_nil_iff]
      intro y hy
      obtain ⟨i, hi, rfl⟩ := List.getElem_of_mem hy
      obtain ⟨c, _, h2⟩ := key i (by omega)
      rw [List.getElem?_eq_getElem hi] at h2
      rw [Option.some.inj h2]
    rw [hfst, hsnd]
theorem mapM_each {β : Type} {f : Nat → Option β} : ∀ (is : List Nat) (ys : List β), is.length = ys.length → (∀ (k i : Nat) (y : β), is[k]? = some i → ys[k]? = some y → f i = some y) → is.mapM f = some ys
  | [], [], _, _ => by simp
  | i :: is, y :: ys, hl, h => by
    have h0 := h 0 i y rfl rfl
    have ih := mapM_each (f := f) is ys (by simpa using hl) (fun k i y hi hy => h (k + 1) i y (by simpa using hi) (by simpa using hy))
    simp [List.mapM_cons, h0, ih]
  | [], _ :: _, hl, _ => by simp at hl
  | _ :: _, [], hl, _ => by simp at hl
theorem shut_bytes {t e : TypeId} {n : Nat} (ht : P.underlying t = some (.array n e)) (he : P.underlying e = some (.int .u8)) (hc : P.cellsOf e = 1) (hn : P.cellsOf t = n) (l : List UInt8) (hl : l.length = n) :
    DataW.trod enc P w base sp held 2 t (Lib.byteCells l) = some (.agg (byteData l), []) := by
  have hm : (List.range n).mapM (fun i => DataW.trod enc P w base sp held 1 e (((Lib.byteCells l).drop (i * P.cellsOf e)).take (P.cellsOf e))) = some (l.map fun c => ((.lit (.int .u8 (c.toNat : Int)) : DataW H), ([] : List MemPlace))) := by
    refine mapM_each _ _ (by simp [hl]) fun k i y hi hy => ?_
    obtain ⟨hk, rfl⟩ := List.getElem?_eq_some_iff.1 hi
    have hk' : k < l.length := by simpa [hl] using hk
    obtain rfl : y = (.lit (.int .u8 (l[k].toNat : Int)), []) := by simpa [hk', eq_comm] using hy
    have : ((Lib.byteCells l).drop (k * 1)).take 1 = [.int .u8 (l[k].toNat : Int)] := by
      apply List.ext_getElem?
      intro j
      cases j with
      | zero => simp [Lib.byteCells, hk']
      | succ j => simp; omega
    rw [List.getElem_range, hc, this]
    have hlt := l[k].toNat_lt
    simp only [DataW.trod, he]
    rw [if_pos ⟨trivial, by simp [Lit.wf, IntKind.min, IntKind.max, IntKind.signed, IntKind.bits]; omega⟩]
  have hcl : (Lib.byteCells l).length = P.cellsOf t := by simp [Lib.byteCells, hl, hn]
  unfold DataW.trod
  rw [ht]
  split <;> simp_all
  · simp [byteData]
end
/-- 'post_of_same' behind a call that keeps what was there -/
theorem post_below {H : Type} {enc : TypeId × Value → H} {P : Program} {f : Func} {s : ChangeSpec} {apart fresh handsOn again : Bool} {W W' : World} {args : Array Value} {v : Value} {ds gs : List (DataW H)} {before pa pv : List MemPlace}
    (hW : DataW.Whole enc P f.params.toList s.vars apart W args.toList ds gs before)
    (hres : ∀ (b : Nat) (sp : Nat → Bool) (hd : Bool), DataW.TrodAll enc P W' b sp hd f.resultTypes.toList (v.resultList f.resultTypes.size) (s.fn H (ds ++ gs)).results [])
    (hargs : ∀ sp : Nat → Bool, (∀ p ∈ before, sp p.block = true) → DataW.TrodAll enc P W' 0 sp true f.params.toList args.toList (s.fn H (ds ++ gs)).args pa)
    (hvars : ∀ sp : Nat → Bool, (∀ p ∈ before, sp p.block = true) → DataW.TrodVars enc P W' sp s.vars (s.fn H (ds ++ gs)).vars pv)
    (hps : before = pa ++ pv) (hg : Below W.heap.size W W')
    (hok : ∀ (j : Nat) (t : TypeId) (r : Value), f.resultTypes[j]? = some t → (v.resultList f.resultTypes.size)[j]? = some r → Value.okWide P W' .any 0 t r) :
    s.post enc P f apart fresh handsOn again W args v W' := by
  have hold : ∀ p ∈ before, (fun b => decide (b < W.heap.size)) p.block = true := fun p hp => by simpa using hW.lt p hp
  refine ⟨ds, gs, before, [], pa, pv, hW, hres _ _ _, hargs _ hold, hvars _ hold, World.keptBut_mono (fun p hp => ⟨hp, ?_⟩) (hg.frame (· ∈ before)), fun _ => ?_⟩
  · rw [hps, List.mem_append] at hp
    exact Or.inr hp
  · have hlt := hW.lt
    obtain ⟨_, _, _, _, _, hz, hn⟩ := hW
    refine ⟨hok, _, _, ([] ++ pa) ++ pv, ⟨[] ++ pa, pv, trodAll_append (hargs _ (fun _ _ => rfl)) (hres _ _ _), hvars _ (fun _ _ => rfl), rfl, ?_, ?_⟩, ?_⟩
    · intro b off hp
      have hp' : MemPlace.cell b off ∈ before := by rw [hps]; simpa using hp
      rw [hg.frozen (hlt _ hp')]
      exact hz b off hp'
    · intro ha
      have := hn ha
      rw [hps] at this
      simpa using this
    · intro p hp _
      rw [hps]
      simpa using hp
/-- 'returnsInHanded_of_cond', the world's shape kept -/
theorem handed_cond_shaped {H : Type} {enc : TypeId × Value → H} {a : Assume} {C : Checked} {os : Os} {f : FuncId} {fn : Func} {s : OpenSpec} {k : (H : Type) → List (DataW H) → Bool} (hk : s.cond = some k) {F : Stop.Interp} {conds : List PathCond} {apart fresh handsOn again : Bool}
    (own : ownKnob C.prog.godebug = none) (started : os.Started) (noInit : C.prog.inits.idxOf? f = none) (hfn : C.prog.funcs[f]? = some fn)
    (witness : ∃ (w : World) (tape : Tape) (i : Input), w.os = os ∧ (w.forCall tape i).Shaped C.prog ∧ i.vars = [] ∧ Input.okWide C.prog (w.forCall tape i) .any w.heap.size f i ∧
      s.pre6 enc C.prog fn conds apart (w.forCall tape i).memory i.args ∧ a.holds C.prog (lone (Frame.enter C.prog f i.args .normal) [] (w.forCall tape i)))
    (contract : ∀ (W : World) (base : Nat) (args : Array Value) (ds gs : List (DataW H)) (before : List MemPlace),
      (∀ (j : Nat) t v, fn.params[j]? = some t → args[j]? = some v → Value.okWide C.prog W .any base t v) →
      DataW.Whole enc C.prog fn.params.toList s.vars apart W args.toList ds gs before → k H (ds ++ gs) = true → W.ShapedOpen C.prog →
      Calls C.prog f args W fun e W' => ∃ v, e = .returned v ∧ (s.at F).post enc C.prog fn apart fresh handsOn again W args v W') :
    ReturnsInHanded a C os f .any (s.pre6 enc C.prog fn conds apart) ((s.at F).post enc C.prog fn apart fresh handsOn again) := by
  refine returnsInHanded_of_calls own started noInit witness ?_
  intro w tape i _ hsh _ hok hpre _
  obtain ⟨_, _, _, fn', hfn', _, _, _, _, hval⟩ := hok
  obtain rfl : fn' = fn := Option.some.inj (hfn'.symm.trans hfn)
  obtain ⟨ds, gs, before, hw, _, hkk⟩ := (OpenSpec.pre_some hk conds apart _ _).1 hpre.1
  refine (contract (w.forCall tape i) w.heap.size i.args ds gs before hval (DataW.Whole.of_heap (w' := w.forCall tape i) (by rfl) hw) hkk hsh).mono fun e W' ⟨v, he, hp⟩ => ?_
  subst he
  exact ChangeSpec.post_blind hp
end Go.Agg
/-! A law that returns true and keeps all that was there: its row's proof; slices, bytes as arguments. -/
namespace Go.Agg
open Go.RowKit Go.ChangeShapes Go.WideShapes Go.ChangeAt
section
variable {H : Type} {enc : TypeId × Value → H} {P : Program}
theorem trodAll_stays (hl : laidOutB P = true) : ∀ {ts : List TypeId}, (∀ t ∈ ts, P.readableRec t = true ∧ t < P.types.size) → ∀ {W W' : World} {base : Nat} {sp' : Nat → Bool} {vs : List Value} {ds : List (DataW H)} {ps : List MemPlace},
    DataW.TrodAll enc P W base (fun _ => true) true ts vs ds ps → (∀ p ∈ ps, W.sameAt W' p) → (∀ p ∈ ps, sp' p.block = true) → DataW.TrodAll enc P W' base sp' true ts vs ds ps
  | [], _, _, _, _, _, _, _, _, h, _, _ => by
    obtain ⟨rfl, rfl, rfl⟩ := trodAll_nil h
    exact trodAll_mk0
  | t :: ts, hr, _, _, _, _, _, _, _, h, hs, hp => by
    obtain ⟨v, vs', d, ds', p, q, rfl, rfl, rfl, h1, h2⟩ := trodAll_cons h
    exact trodAll_cons_mk (WideElems.Trod_stays hl (hr t (by simp)).1 (hr t (by simp)).2 h1 (fun x hx => hs x (by simp [hx])) (fun x hx => hp x (by simp [hx])))
      (trodAll_stays hl (fun t ht => hr t (by simp [ht])) h2 (fun x hx => hs x (by simp [hx])) (fun x hx => hp x (by simp [hx])))
/-- what a law's row says behind a call that returned true and kept what was there -/
theorem post_law {f : Func} {s : ChangeSpec} {apart fresh handsOn again : Bool} {W W' : World} {args : Array Value} {ds gs : List (DataW H)} {before : List MemPlace} {bt : TypeId}
    (hW : DataW.Whole enc P f.params.toList s.vars apart W args.toList ds gs before) (hv : s.vars = []) (hl : laidOutB P = true) (hr : ∀ t ∈ f.params.toList, P.readableRec t = true ∧ t < P.types.size)
    (hfr : (s.fn H (ds ++ gs)).results = [.lit (.bool true)]) (hfa : (s.fn H (ds ++ gs)).args = ds) (hfv : (s.fn H (ds ++ gs)).vars = []) (hrt : f.resultTypes = #[bt]) (hbt : P.underlying bt = some .bool) (hg : Below W.heap.size W W') :
    s.post enc P f apart fresh handsOn again W args (.bool true) W' := by
  obtain ⟨p, q, hA, hV, rfl, hfz, hnd⟩ := id hW
  rw [hv] at hV
  obtain ⟨rfl, rfl⟩ := trodVars_none hV
  have hlt := hW.lt
  have hst : ∀ sp : Nat → Bool, (∀ x ∈ p ++ [], sp x.block = true) → DataW.TrodAll enc P W' 0 sp true f.params.toList args.toList ds p := fun sp hsp =>
    trodAll_stays hl hr hA (fun x hx => hg.same (hlt x (by simp [hx]))) (fun x hx => hsp x (by simp [hx]))
  refine post_below (pa := p) (pv := []) hW ?_ (fun sp hsp => by rw [hfa]; exact hst sp hsp) (fun sp hsp => by rw [hfv, hv]; rfl) rfl hg ?_
  · intro b sp hd
    rw [hfr, hrt]
    exact trodAll_mk1 (shut_bool hbt _)
  · exact ok_one hrt rfl (okWide_bool_mk hbt _)
end
/-- elements, and how they read -/
structure ElemD (P : Program) (α : Type) extends Elem P α where
  cellsOf : P.cellsOf ty = n
  data : (H : Type) → α → DataW H
  open_ : ∀ (H : Type) (enc : TypeId × Value → H) (w : World) (base : Nat) (sp : Nat → Bool) (held : Bool) (fuel : Nat) (cs : List Value) (x : DataW H × List MemPlace),
    DataW.trod enc P w base sp held fuel ty cs = some x → ∃ a, cs = (val a).cells.toList ∧ x = (data H a, [])
theorem open_sliceE {P : Program} {α : Type} [Inhabited α] (E : ElemD P α) {H : Type} {enc : TypeId × Value → H} {w : World} {base : Nat} {sp : Nat → Bool} {held : Bool} {fuel : Nat} {cs : List Value} {x : DataW H × List MemPlace}
    (h : DataW.trod enc P w base sp held fuel E.st cs = some x) : ∃ (v : Value) (l : List α), cs = [v] ∧ SliceOf E.toElem w v l ∧ ((l = [] ∧ x.1 = .nil) ∨ ∃ rest, x.1 = .slice (l.map (E.data H)) rest) := by
  rcases Go.Deep.open_slice E.slice h with ⟨rfl, rfl⟩ | ⟨a, len, cap, m, n, D, Pl, rfl, _, hlc, _, hm, rfl, hel⟩
  · exact ⟨_, [], rfl, SliceOf.nil _ _ _, .inl ⟨rfl, rfl⟩⟩
  · have hlm : len ≤ m := by rw [hm]; split <;> omega
    have each : ∀ i, i < len → ∃ b : α, (∀ j u, (E.val b).cells[j]? = some u → w.cell? ((a.add (i * E.n)).add j) = some u) ∧ D i = E.data H b := fun i hi => by
      obtain ⟨cs', hc, ht⟩ := hel i (by omega)
      rw [E.cellsOf] at hc
      obtain ⟨b, rfl, hx⟩ := E.open_ H enc w base sp held n cs' _ ht
      obtain ⟨_, hcl, hat⟩ := World.cells?_some hc
      refine ⟨b, fun j u hj => ?_, congrArg Prod.fst hx⟩
      have hjn : j < E.n := by have := (Array.getElem?_eq_some_iff.1 hj).1; rw [E.size] at this; exact this
      rw [hat j hjn]
      simpa using hj
    obtain ⟨f, hf⟩ := Go.Deep.choose_lt each
    refine ⟨_, (List.range len).map f, rfl, ?_, .inr ⟨(List.range (m - len)).map fun j => D (len + j), ?_⟩⟩
    · by_cases h0 : len = 0
      · subst h0; exact SliceOf.nil _ _ _
      · have hb : a.block < w.heap.size := by
          have hpos := E.pos
          have hc0 := (hf 0 (by omega)).1 0 _ (Array.getElem?_eq_getElem (by rw [E.size]; exact hpos))
          have := block_lt_of_cell hc0
          rwa [add_block, add_block] at this
        refine .inr ⟨a, cap, by simp, hb, fun j u hj => ?_⟩
        obtain ⟨k, b, i, h1, h2, rfl⟩ := Elem.flat_all E.toElem _ j u hj
        obtain ⟨hk, hkb⟩ := List.getElem?_eq_some_iff.1 h1
        have hkl : k < len := by simpa using hk
        have hfb : f k = b := by simpa using hkb
        subst hfb
        rw [← add_add]
        exact (hf k hkl).1 i u h2
    · simp only [List.map_map]
      congr 1
      refine List.map_congr_left fun i hi => ?_
      exact (hf i (List.mem_range.1 hi)).2
end Go.Agg
namespace Go.Proofs.Ytnlilmiakddlaaa
open Go.RowKit Go.Agg Go.ChangeMaps Go.ChangeShapes Go.WideShapes
theorem own : ownKnob Try.prog.godebug = none := by kernel_rfl
theorem cells_byte : Try.prog.cellsOf 5 = 1 := by kernel_rfl
theorem laidOut : laidOutB Try.prog = true := by kernel_rfl
theorem bulkAll_append {H : Type} (a b : List (DataW H)) : Rows.uptoBulkAll (a ++ b) = Rows.uptoBulkAll a + Rows.uptoBulkAll b := by
  induction a with
  | nil => simp [Rows.uptoBulkAll]
  | cons d a ih => simp only [List.cons_append, Rows.uptoBulkAll, ih]; omega
theorem bulkAll_map {H : Type} {α : Type} (f : α → DataW H) (sz : α → Nat) (h : ∀ a, sz a + 1 ≤ Rows.uptoBulk (f a)) (l : List α) : (l.map sz).sum + l.length ≤ Rows.uptoBulkAll (l.map f) := by
  induction l with
  | nil => simp [Rows.uptoBulkAll]
  | cons a l ih =>
    have := h a
    simp only [List.map_cons, List.sum_cons, List.length_cons, Rows.uptoBulkAll]; omega
theorem bulk_slice {H : Type} {α : Type} {x : DataW H} {l : List α} {f : α → DataW H} (hx : (l = [] ∧ x = .nil) ∨ ∃ rest, x = .slice (l.map f) rest) (sz : α → Nat) (h : ∀ a, sz a + 1 ≤ Rows.uptoBulk (f a)) : (l.map sz).sum + l.length + 1 ≤ Rows.uptoBulk x := by
  rcases hx with ⟨rfl, rfl⟩ | ⟨rest, rfl⟩
  · simp [Rows.uptoBulk]
  · have := bulkAll_map f sz h l
    simp only [Rows.uptoBulk]; omega
/-- bytes, read -/
def DB : ElemD Try.prog UInt8 where
  toElem := EB
  cellsOf := cells_byte
  data := fun _ c => .lit (.int .u8 (c.toNat : Int))
  open_ := fun H enc w base sp held fuel cs x h => by
    obtain ⟨k, rfl, e2, hw⟩ := DataW.trod_int Try.underlying5 h
    have hb := bounds_u8 hw
    refine ⟨UInt8.ofNat k.toNat, ?_, ?_⟩
    · have : ((UInt8.ofNat k.toNat).toNat : Int) = k := by simp; omega
      show [Value.int .u8 k] = [Value.int .u8 ((UInt8.ofNat k.toNat).toNat : Int)]
      rw [this]
    · have : ((UInt8.ofNat k.toNat).toNat : Int) = k := by simp; omega
      rw [e2, this]
theorem bulk_byte {H : Type} (x : UInt8) : 0 + 1 ≤ Rows.uptoBulk (DB.data H x) := by
  show 0 + 1 ≤ Rows.uptoBulk (DataW.lit _)
  simp [Rows.uptoBulk]
theorem sum_zero (l : List UInt8) : (l.map fun _ => 0).sum = 0 := by
  induction l with
  | nil => rfl
  | cons c l ih => simp [ih]
section
variable {H : Type} {enc : TypeId × Value → H} {w : World} {base : Nat} {sp : Nat → Bool} {held : Bool} {r : Reach} {b0 : Nat} {v : Value} {d : DataW H} {ps : List MemPlace}
set_option maxRecDepth 100000 in
theorem open_bytesB (hval : Value.okWide Try.prog w r b0 23 v) (hd : DataW.Trod enc Try.prog w base sp held 23 v d ps) : ∃ l : List UInt8, BytesAt w v l ∧ l.length + 1 ≤ Rows.uptoBulk d := by
  obtain ⟨fuel, hf⟩ := hd
  obtain ⟨u, l, e, hs, hx⟩ := open_sliceE DB (x := (d, ps)) hf
  obtain ⟨a, n, c, rfl⟩ := okWide_slice (by kernel_rfl : Try.prog.underlying 23 = some (.slice 5)) hval
  obtain rfl : Value.slice a n c = u := by simpa [Value.cells] using e
  have := bulk_slice hx (fun _ => 0) bulk_byte
  rw [sum_zero] at this
  exact ⟨l, hs, by simpa using this⟩
end
end Go.Proofs.Ytnlilmiakddlaaa
/-! A path and a text as arguments: read, and laid again. -/
namespace Go.Proofs.Ytnlilmiakddlaaa
open Go.RowKit Go.Agg Go.ChangeMaps Go.ChangeShapes Go.WideShapes
section
variable {H : Type} {enc : TypeId × Value → H} {w : World} {base : Nat} {sp : Nat → Bool} {held : Bool}
def hashData {H : Type} (h : List UInt8) : DataW H := .agg (byteData h)
def pathData {H : Type} (h n : List UInt8) : DataW H := .agg [hashData h, .lit (.string n)]
theorem pC_take (h n : List UInt8) (hl : h.length = 20) : ((pC h n).toList.drop 0).take 20 = Lib.byteCells h := by
  rw [List.drop_zero, pC, hC]
  simp only [Array.toList_append]
  exact List.take_left' (by rw [Lib.byteCells_length, hl])
theorem pC_drop (h n : List UInt8) (hl : h.length = 20) : ((pC h n).toList.drop 20).take 1 = [.string ⟨n.toArray⟩] := by
  rw [pC, hC]
  simp only [Array.toList_append]
  rw [List.drop_left' (by rw [Lib.byteCells_length, hl])]
  rfl
theorem cells_hash : Try.prog.cellsOf 38 = 20 := by kernel_rfl
theorem cells_str : Try.prog.cellsOf 9 = 1 := by kernel_rfl
theorem cells_path : Try.prog.cellsOf 40 = 21 := by kernel_rfl
theorem open_path_cells {fuel : Nat} {cs : List Value} {x : DataW H × List MemPlace} (h : DataW.trod enc Try.prog w base sp held fuel 40 cs = some x) :
    ∃ h n : List UInt8, h.length = 20 ∧ n.length ≤ maxLen ∧ cs = (pC h n).toList ∧ x = (pathData h n, []) := by
  obtain ⟨xs, m, rfl, rfl, hl, hx, ha⟩ := DataW.trod_struct pC_under h
  have hf := path_fields
  generalize Try.prog.fieldsOf 40 = fs at *
  obtain ⟨fs⟩ := fs
  cases fs with
  | nil => exact absurd hf (by simp)
  | cons f1 fs =>
  cases fs with
  | nil => exact absurd hf (by simp)
  | cons f2 fs =>
  cases fs with
  | cons f3 fs => exact absurd hf (by simp)
  | nil =>
    simp only [List.map_cons, List.map_nil, List.cons.injEq, Prod.mk.injEq, and_true] at hf
    obtain ⟨⟨a1, a2, a3⟩, b1, b2, b3⟩ := hf
    match xs, hx with
    | [x1, x2], _ =>
      have h1 := ha 0 f1 rfl
      have h2 := ha 1 f2 rfl
      rw [a2, a3, cells_hash] at h1
      rw [b2, b3, cells_str] at h2
      obtain ⟨l, e1, e2, e3⟩ := open_bytes Try.underlying38 Try.underlying5 cells_byte cells_hash h1
      obtain ⟨s, e4, e5, e6⟩ := DataW.trod_string Try.underlying9 h2
      rw [cells_path] at hl
      refine ⟨l, s.data.toList, e1, e6, ?_, ?_⟩
      · have : cs = (cs.drop 0).take 20 ++ (cs.drop 20).take 1 := by
          rw [List.drop_zero, List.take_of_length_le (l := cs.drop 20) (by simp; omega), List.take_append_drop]
        rw [this, e2, e4]
        simp [pC, hC]
      · rw [e3, e5]; rfl
theorem shut_path_cells (h n : List UInt8) (hl : h.length = 20) (hn : n.length ≤ maxLen) : DataW.trod enc Try.prog w base sp held 3 40 (pC h n).toList = some (pathData h n, []) := by
  have hm : (Try.prog.fieldsOf 40).toList.mapM (fun f => DataW.trod enc Try.prog w base sp held 2 f.type (((pC h n).toList.drop f.offset).take (Try.prog.cellsOf f.type))) = some [(hashData h, []), (.lit (.string n), [])] := by
    have hf := path_fields
    generalize Try.prog.fieldsOf 40 = fs at *
    obtain ⟨fs⟩ := fs
    cases fs with
    | nil => exact absurd hf (by simp)
    | cons f1 fs =>
    cases fs with
    | nil => exact absurd hf (by simp)
    | cons f2 fs =>
    cases fs with
    | cons f3 fs => exact absurd hf (by simp)
    | nil =>
      simp only [List.map_cons, List.map_nil, List.cons.injEq, Prod.mk.injEq, and_true] at hf
      obtain ⟨⟨a1, a2, a3⟩, b1, b2, b3⟩ := hf
      have h1 := shut_bytes (enc := enc) (w := w) (base := base) (sp := sp) (held := held) Try.underlying38 Try.underlying5 cells_byte cells_hash h hl
      have h2 : DataW.trod enc Try.prog w base sp held 2 9 [.string ⟨n.toArray⟩] = some (.lit (.string n), []) := by
        simp only [DataW.trod, Try.underlying9]
        rw [if_pos (by simpa [ByteArray.size] using hn)]
      simp only [List.mapM_cons, List.mapM_nil, a2, a3, b2, b3, cells_hash, cells_str, pC_drop h n hl, pC_take h n hl, h1, h2]
      rfl
  exact trod_struct_mk pC_under (by rw [cells_path]; simp [pC_size, hl]) hm
set_option maxRecDepth 100000 in
theorem open_path {r : Reach} {b0 : Nat} {v : Value} {d : DataW H} {ps : List MemPlace} (hval : Value.okWide Try.prog w r b0 40 v) (hd : DataW.Trod enc Try.prog w base sp held 40 v d ps) :
    ∃ h n : List UInt8, v = .agg (pC h n) ∧ d = pathData h n ∧ ps = [] ∧ h.length = 20 ∧ n.length ≤ maxLen := by
  obtain ⟨cs, rfl, _⟩ := okWide_struct pC_under hval
  obtain ⟨fuel, hf⟩ := hd
  obtain ⟨h, n, hl, hn, e, e2⟩ := open_path_cells hf
  exact ⟨h, n, congrArg Value.agg (Array.ext' e), congrArg Prod.fst e2, congrArg Prod.snd e2, hl, hn⟩
theorem shut_path (h n : List UInt8) (hl : h.length = 20) (hn : n.length ≤ maxLen) : DataW.Trod enc Try.prog w base sp held 40 (.agg (pC h n)) (pathData h n) [] := ⟨3, shut_path_cells h n hl hn⟩
set_option maxRecDepth 100000 in
theorem open_text {r : Reach} {b0 : Nat} {v : Value} {d : DataW H} {ps : List MemPlace} (hval : Value.okWide Try.prog w r b0 9 v) (hd : DataW.Trod enc Try.prog w base sp held 9 v d ps) :
    ∃ s : List UInt8, v = .string ⟨s.toArray⟩ ∧ d = .lit (.string s) ∧ ps = [] ∧ s.length ≤ maxLen := by
  obtain ⟨s, rfl, rfl, rfl, hs⟩ := open_string Try.underlying9 hval hd
  exact ⟨s.data.toList, rfl, rfl, rfl, hs⟩
theorem shut_text (s : List UInt8) (hs : s.length ≤ maxLen) : DataW.Trod enc Try.prog w base sp held 9 (.string ⟨s.toArray⟩) (.lit (.string s)) [] := by
  have := shut_string (enc := enc) (w := w) (base := base) (sp := sp) (held := held) (s := ⟨s.toArray⟩) Try.underlying9 (by simpa [ByteArray.size] using hs)
  simpa using this
end
theorem maxLenCell {W : World} (h : W.ShapedOpen Try.prog) : ∃ m, W.cell? ⟨0, 0, none⟩ = some (.int .i64 m) :=
  cell_of_shapedOpen_int (g := 0) (t := 3) (zero := #[.int .i64 0]) h (of_decide_eq_true (by kernel_rfl)) (by kernel_rfl) rfl (by kernel_rfl) (by kernel_rfl) Try.underlying3
end Go.Proofs.Ytnlilmiakddlaaa
/-! A law that returns true and keeps all that was there: its row's proof; slices as arguments. -/
namespace Go.Proofs.Ytnlilmiakddlaaa
open Go.RowKit Go.Agg Go.ChangeMaps Go.ChangeShapes Go.WideShapes
set_option maxRecDepth 100000 in
theorem open_path20 {H : Type} {enc : TypeId × Value → H} {w : World} {base : Nat} {sp : Nat → Bool} {held : Bool} {r : Reach} {b0 : Nat} {v : Value} {d : DataW H} {ps : List MemPlace} (hval : Value.okWide Try.prog w r b0 40 v) (hd : DataW.Trod enc Try.prog w base sp held 40 v d ps) :
    ∃ p : P20, v = .agg (pC p.1.1 p.1.2) ∧ p.1.2.length + 1 ≤ Rows.uptoBulk d := by
  obtain ⟨h, n, rfl, rfl, _, hl, _⟩ := open_path hval hd
  exact ⟨⟨(h, n), hl⟩, rfl, by simp only [pathData, Rows.uptoBulk, Rows.uptoBulkAll]; omega⟩
end Go.Proofs.Ytnlilmiakddlaaa
/-! Derivations and bytes as arguments. -/
namespace Go.Proofs.Ytnlilmiakddlaaa
open Go.RowKit Pl Go.Agg Go.ChangeMaps Go.ChangeShapes Go.WideShapes
section
variable {H : Type} {enc : TypeId × Value → H} {w : World} {base : Nat} {sp : Nat → Bool} {held : Bool}
def inpData (H : Type) (x : Inp) : DataW H := .agg [pathData x.1.1.1 x.1.1.2, hashData x.2.1.1, .lit (.bool x.2.2)]
def namData (H : Type) (x : Nam) : DataW H := .agg [.lit (.string x.1), inpData H x.2]
theorem cells_inp : Try.prog.cellsOf 42 = 42 := by kernel_rfl
theorem cells_nam : Try.prog.cellsOf 44 = 43 := by kernel_rfl
theorem cells_bool : Try.prog.cellsOf 4 = 1 := by kernel_rfl
theorem split3 {cs a b c : List Value} {n m k : Nat} (hl : cs.length = n + m + k) (h1 : (cs.drop 0).take n = a) (h2 : (cs.drop n).take m = b) (h3 : (cs.drop (n + m)).take k = c) : cs = a ++ (b ++ c) := by
  rw [← h1, ← h2, ← h3, List.drop_zero, List.take_of_length_le (l := cs.drop (n + m)) (by simp; omega), ← List.drop_drop, List.take_append_drop, List.take_append_drop]
theorem split2 {cs a b : List Value} {n m : Nat} (hl : cs.length = n + m) (h1 : (cs.drop 0).take n = a) (h2 : (cs.drop n).take m = b) : cs = a ++ b := by
  rw [← h1, ← h2, List.drop_zero, List.take_of_length_le (l := cs.drop n) (by simp; omega), List.take_append_drop]
theorem open_inp_cells {fuel : Nat} {cs : List Value} {x : DataW H × List MemPlace} (h : DataW.trod enc Try.prog w base sp held fuel 42 cs = some x) : ∃ i : Inp, cs = (iC i).toList ∧ x = (inpData H i, []) := by
  obtain ⟨xs, m, rfl, rfl, hl, hx, ha⟩ := DataW.trod_struct iC_under h
  have hf := inp_fields
  generalize Try.prog.fieldsOf 42 = fs at *
  obtain ⟨fs⟩ := fs
  cases fs with
  | nil => exact absurd hf (by simp)
  | cons f1 fs =>
  cases fs with
  | nil => exact absurd hf (by simp)
  | cons f2 fs =>
  cases fs with
  | nil => exact absurd hf (by simp)
  | cons f3 fs =>
  cases fs with
  | cons f4 fs => exact absurd hf (by simp)
  | nil =>
    simp only [List.map_cons, List.map_nil, List.cons.injEq, Prod.mk.injEq, and_true] at hf
    obtain ⟨⟨a1, a2, a3⟩, ⟨b1, b2, b3⟩, c1, c2, c3⟩ := hf
    match xs, hx with
    | [x1, x2, x3], _ =>
      have h1 := ha 0 f1 rfl
      have h2 := ha 1 f2 rfl
      have h3 := ha 2 f3 rfl
      rw [a2, a3, cells_path] at h1
      rw [b2, b3, cells_hash] at h2
      rw [c2, c3, cells_bool] at h3
      obtain ⟨g, n, hg, _, e1, e2⟩ := open_path_cells h1
      obtain ⟨l, e3, e4, e5⟩ := open_bytes Try.underlying38 Try.underlying5 cells_byte cells_hash h2
      obtain ⟨b, e6, e7⟩ := DataW.trod_bool Try.underlying4 h3
      rw [cells_inp] at hl
      refine ⟨(⟨(g, n), hg⟩, ⟨l, e3⟩, b), ?_, ?_⟩
      · rw [split3 (n := 21) (m := 20) (k := 1) hl e1 e4 e6]
        simp [iC, hC]
      · rw [e2, e5, e7]; rfl
theorem open_nam_cells {fuel : Nat} {cs : List Value} {x : DataW H × List MemPlace} (h : DataW.trod enc Try.prog w base sp held fuel 44 cs = some x) : ∃ i : Nam, cs = (nmC i).toList ∧ x = (namData H i, []) := by
  obtain ⟨xs, m, rfl, rfl, hl, hx, ha⟩ := DataW.trod_struct nmC_under h
  have hf := nam_fields
  generalize Try.prog.fieldsOf 44 = fs at *
  obtain ⟨fs⟩ := fs
  cases fs with
  | nil => exact absurd hf (by simp)
  | cons f1 fs =>
  cases fs with
  | nil => exact absurd hf (by simp)
  | cons f2 fs =>
  cases fs with
  | cons f3 fs => exact absurd hf (by simp)
  | nil =>
    simp only [List.map_cons, List.map_nil, List.cons.injEq, Prod.mk.injEq, and_true] at hf
    obtain ⟨⟨a1, a2, a3⟩, b1, b2, b3⟩ := hf
    match xs, hx with
    | [x1, x2], _ =>
      have h1 := ha 0 f1 rfl
      have h2 := ha 1 f2 rfl
      rw [a2, a3, cells_str] at h1
      rw [b2, b3, cells_inp] at h2
      obtain ⟨s, e1, e2, _⟩ := DataW.trod_string Try.underlying9 h1
      obtain ⟨i, e3, e4⟩ := open_inp_cells h2
      rw [cells_nam] at hl
      refine ⟨(s.data.toList, i), ?_, ?_⟩
      · rw [split2 (n := 1) (m := 42) hl e1 e3]
        simp [nmC]
      · rw [e2, e4]; rfl
end
/-- inputs by names, read -/
def DNm : ElemD Try.prog Nam where
  toElem := ENm
  cellsOf := cells_nam
  data := namData
  open_ := fun _ _ _ _ _ _ _ _ _ h => open_nam_cells h
instance : Inhabited Nam := ⟨zN⟩
theorem bulk_nam {H : Type} (x : Nam) : nmSz x + 1 ≤ Rows.uptoBulk (DNm.data H x) := by
  show nmSz x + 1 ≤ Rows.uptoBulk (namData H x)
  simp only [namData, inpData, pathData, Rows.uptoBulk, Rows.uptoBulkAll, nmSz]; omega
section
variable {H : Type} {enc : TypeId × Value → H} {w : World} {base : Nat} {sp : Nat → Bool} {held : Bool} {r : Reach} {b0 : Nat} {v : Value} {d : DataW H} {ps : List MemPlace}
set_option maxRecDepth 100000 in
theorem open_textB (hval : Value.okWide Try.prog w r b0 9 v) (hd : DataW.Trod enc Try.prog w base sp held 9 v d ps) : ∃ s : List UInt8, v = .string ⟨s.toArray⟩ ∧ s.length + 1 ≤ Rows.uptoBulk d := by
  obtain ⟨s, rfl, rfl, rfl, _⟩ := open_text hval hd
  exact ⟨s, rfl, by simp [Rows.uptoBulk]⟩
theorem drv_under : Try.prog.underlying 25 = some (.struct (Try.prog.fieldsOf 25)) := by kernel_rfl
theorem drv_fields : (Try.prog.fieldsOf 25).toList.map (fun f => (f.name, f.type, f.offset)) = [("Name", 9, 0), ("Inputs", 22, 1), ("Recipe", 23, 2)] := by kernel_rfl
theorem cells_drv : Try.prog.cellsOf 25 = 3 := by kernel_rfl
theorem cells_nams : Try.prog.cellsOf 22 = 1 := by kernel_rfl
theorem cells_bytes : Try.prog.cellsOf 23 = 1 := by kernel_rfl
set_option maxRecDepth 100000 in
theorem open_drv (hval : Value.okWide Try.prog w r b0 25 v) (hd : DataW.Trod enc Try.prog w base sp held 25 v d ps) :
    ∃ x : Drv, DrvAt w v x ∧ x.1.length + namsSz x.2.1 + x.2.1.length + x.2.2.length + 1 ≤ Rows.uptoBulk d := by
  obtain ⟨cs, rfl, _⟩ := okWide_struct drv_under hval
  obtain ⟨fuel, hfu⟩ := hd
  obtain ⟨xs, m, rfl, hdd, hl, hx, ha⟩ := DataW.trod_struct drv_under hfu
  have hf := drv_fields
  generalize Try.prog.fieldsOf 25 = fs at *
  obtain ⟨fs⟩ := fs
  cases fs with
  | nil => exact absurd hf (by simp)
  | cons f1 fs =>
  cases fs with
  | nil => exact absurd hf (by simp)
  | cons f2 fs =>
  cases fs with
  | nil => exact absurd hf (by simp)
  | cons f3 fs =>
  cases fs with
  | cons f4 fs => exact absurd hf (by simp)
  | nil =>
    simp only [List.map_cons, List.map_nil, List.cons.injEq, Prod.mk.injEq, and_true] at hf
    obtain ⟨⟨a1, a2, a3⟩, ⟨b1, b2, b3⟩, c1, c2, c3⟩ := hf
    match xs, hx with
    | [x1, x2, x3], _ =>
      have h1 := ha 0 f1 rfl
      have h2 := ha 1 f2 rfl
      have h3 := ha 2 f3 rfl
      rw [a2, a3, cells_str] at h1
      rw [b2, b3, cells_nams] at h2
      rw [c2, c3, cells_bytes] at h3
      obtain ⟨s, e1, e2, _⟩ := DataW.trod_string Try.underlying9 h1
      obtain ⟨vi, li, e3, hs3, hx3⟩ := open_sliceE DNm h2
      obtain ⟨vr, lr, e4, hs4, hx4⟩ := open_sliceE DB h3
      rw [cells_drv] at hl
      have hcs : (Value.agg cs).cells.toList = [.string s] ++ ([vi] ++ [vr]) := split3 (n := 1) (m := 1) (k := 1) hl e1 e3 e4
      have hcs2 : cs = #[.string s, vi, vr] := Array.ext' (by simpa [Value.cells] using hcs)
      refine ⟨(s.data.toList, li, lr), ⟨vi, vr, by rw [hcs2], hs3, hs4⟩, ?_⟩
      have k1 := bulk_slice hx3 nmSz bulk_nam
      have k2 := bulk_slice hx4 (fun _ => 0) bulk_byte
      rw [sum_zero] at k2
      have hd2 : d = .agg [x1.1, x2.1, x3.1] := by simpa using congrArg Prod.fst hdd
      rw [hd2]
      simp only [Rows.uptoBulk, Rows.uptoBulkAll, e2, namsSz]
      omega
end
end Go.Proofs.Ytnlilmiakddlaaa
