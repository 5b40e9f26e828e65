/- A hash as an argument. (Several texts in one.) -/
import Derived.Test.YtniibcgomnjfgaaGreatShelf
import Derived.JoinedCond
import Derived.OpenShut
import Derived.Shelf.Vars
import Derived.Lib.UnsafeStr
import Derived.Test.YtniibcgomnjfgaaGreatVAE
import Derived.Test.YtniibcgomnjfgaaGreatRows
import Derived.Carry
import Derived.Deep.Slices
import Derived.Test.YtniibcgomnjfgaaGreatVAG
import Derived.Test.YtniibcgomnjfgaaGreatVAJ
import Derived.Test.YtniibcgomnjfgaaGreatVAR
/-! A row's argument of bytes, read and laid again; the wrap for a row of the second form with the world's shape. -/
namespace Go.Agg
open Go.RowKit Go.ChangeShapes Go.WideShapes Go.ChangeAt
section
variable {H : Type} {enc : TypeId × Value → H} {P : Program} {w : World} {base : Nat} {sp : Nat → Bool} {held : Bool}
/-- bytes, as data -/
def byteData {H : Type} (l : List UInt8) : List (DataW H) := l.map fun c => .lit (.int .u8 (c.toNat : Int))
theorem open_bytes {t e : TypeId} {n fuel : Nat} {cs : List Value} {x : DataW H × List MemPlace} (ht : P.underlying t = some (.array n e)) (he : P.underlying e = some (.int .u8)) (hc : P.cellsOf e = 1) (hn : P.cellsOf t = n)
    (h : DataW.trod enc P w base sp held fuel t cs = some x) : ∃ l : List UInt8, l.length = n ∧ cs = Lib.byteCells l ∧ x = (.agg (byteData l), []) := by
  obtain ⟨xs, m, rfl, rfl, hl, hx, ha⟩ := DataW.trod_array ht h
  have key : ∀ i, i < n → ∃ c : UInt8, cs[i]? = some (.int .u8 (c.toNat : Int)) ∧ xs[i]? = some (.lit (.int .u8 (c.toNat : Int)), []) := fun i hi => by
    have hxi : xs[i]? = some xs[i] := List.getElem?_eq_getElem (by omega)
    have h1 := (ha i hi).trans hxi
    rw [hc] at h1
    obtain ⟨k, hk, hd, hw⟩ := DataW.trod_int he h1
    have hb := bounds_u8 hw
    refine ⟨UInt8.ofNat k.toNat, ?_, ?_⟩
    · have : (cs.drop (i * 1)).take 1 = [.int .u8 k] := hk
      have h2 := congrArg (·[0]?) this
      simp at h2
      rw [h2]
      simp; omega
    · rw [hxi, hd]
      simp; omega
  have hlen : cs.length = n := hl.trans hn
  refine ⟨cs.map fun | .int _ k => UInt8.ofNat k.toNat | _ => 0, by simp [hlen], ?_, ?_⟩
  · refine List.ext_getElem? fun i => ?_
    by_cases hi : i < n
    · obtain ⟨c, h1, _⟩ := key i hi
      simp [Lib.byteCells, h1]
    · rw [List.getElem?_eq_none (by omega), List.getElem?_eq_none (by simp [Lib.byteCells]; omega)]
  · have hfst : xs.map (·.1) = byteData (cs.map fun | .int _ k => UInt8.ofNat k.toNat | _ => 0) := by
      refine List.ext_getElem? fun i => ?_
      by_cases hi : i < n
      · obtain ⟨c, h1, h2⟩ := key i hi
        simp [byteData, h1, h2]
      · rw [List.getElem?_eq_none (by simp; omega), List.getElem?_eq_none (by simp [byteData]; omega)]
    have hsnd : xs.flatMap (·.2) = [] := by
      rw [List.flatMap_eq_nil_iff]
      intro y hy
      obtain ⟨i, hi, rfl⟩ := List.getElem_of_mem hy
      obtain ⟨c, _, h2⟩ := key i (by omega)
      rw [List.getElem?_eq_getElem hi] at h2
      rw [Option.some.inj h2]
    rw [hfst, hsnd]
theorem mapM_each {β : Type} {f : Nat → Option β} : ∀ (is : List Nat) (ys : List β), is.length = ys.length → (∀ (k i : Nat) (y : β), is[k]? = some i → ys[k]? = some y → f i = some y) → is.mapM f = some ys
  | [], [], _, _ => by simp
  | i :: is, y :: ys, hl, h => by
    have h0 := h 0 i y rfl rfl
    have ih := mapM_each (f := f) is ys (by simpa using hl) (fun k i y hi hy => h (k + 1) i y (by simpa using hi) (by simpa using hy))
    simp [List.mapM_cons, h0, ih]
  | [], _ :: _, hl, _ => by simp at hl
  | _ :: _, [], hl, _ => by simp at hl
theorem shut_bytes {t e : TypeId} {n : Nat} (ht : P.underlying t = some (.array n e)) (he : P.underlying e = some (.int .u8)) (hc : P.cellsOf e = 1) (hn : P.cellsOf t = n) (l : List UInt8) (hl : l.length = n) :
    DataW.trod enc P w base sp held 2 t (Lib.byteCells l) = some (.agg (byteData l), []) := by
  have hm : (List.range n).mapM (fun i => DataW.trod enc P w base sp held 1 e (((Lib.byteCells l).drop (i * P.cellsOf e)).take (P.cellsOf e))) = some (l.map fun c => ((.lit (.int .u8 (c.toNat : Int)) : DataW H), ([] : List MemPlace))) := by
    refine mapM_each _ _ (by simp [hl]) fun k i y hi hy => ?_
    obtain ⟨hk, rfl⟩ := List.getElem?_eq_some_iff.1 hi
    have hk' : k < l.length := by simpa [hl] using hk
    obtain rfl : y = (.lit (.int .u8 (l[k].toNat : Int)), []) := by simpa [hk', eq_comm] using hy
    have : ((Lib.byteCells l).drop (k * 1)).take 1 = [.int .u8 (l[k].toNat : Int)] := by
      apply List.ext_getElem?
      intro j
      cases j with
      | zero => simp [Lib.byteCells, hk']
      | succ j => simp; omega
    rw [List.getElem_range, hc, this]
    have hlt := l[k].toNat_lt
    simp only [DataW.trod, he]
    rw [if_pos ⟨trivial, by simp [Lit.wf, IntKind.min, IntKind.max, IntKind.signed, IntKind.bits]; omega⟩]
  have hcl : (Lib.byteCells l).length = P.cellsOf t := by simp [Lib.byteCells, hl, hn]
  unfold DataW.trod
  rw [ht]
  split <;> simp_all
  · simp [byteData]
end
/-- 'post_of_same' behind a call that keeps what was there -/
theorem post_below {H : Type} {enc : TypeId × Value → H} {P : Program} {f : Func} {s : ChangeSpec} {apart fresh handsOn again : Bool} {W W' : World} {args : Array Value} {v : Value} {ds gs : List (DataW H)} {before pa pv : List MemPlace}
    (hW : DataW.Whole enc P f.params.toList s.vars apart W args.toList ds gs before)
    (hres : ∀ (b : Nat) (sp : Nat → Bool) (hd : Bool), DataW.TrodAll enc P W' b sp hd f.resultTypes.toList (v.resultList f.resultTypes.size) (s.fn H (ds ++ gs)).results [])
    (hargs : ∀ sp : Nat → Bool, (∀ p ∈ before, sp p.block = true) → DataW.TrodAll enc P W' 0 sp true f.params.toList args.toList (s.fn H (ds ++ gs)).args pa)
    (hvars : ∀ sp : Nat → Bool, (∀ p ∈ before, sp p.block = true) → DataW.TrodVars enc P W' sp s.vars (s.fn H (ds ++ gs)).vars pv)
    (hps : before = pa ++ pv) (hg : Below W.heap.size W W')
    (hok : ∀ (j : Nat) (t : TypeId) (r : Value), f.resultTypes[j]? = some t → (v.resultList f.resultTypes.size)[j]? = some r → Value.okWide P W' .any 0 t r) :
    s.post enc P f apart fresh handsOn again W args v W' := by
  have hold : ∀ p ∈ before, (fun b => decide (b < W.heap.size)) p.block = true := fun p hp => by simpa using hW.lt p hp
  refine ⟨ds, gs, before, [], pa, pv, hW, hres _ _ _, hargs _ hold, hvars _ hold, World.keptBut_mono (fun p hp => ⟨hp, ?_⟩) (hg.frame (· ∈ before)), fun _ => ?_⟩
  · rw [hps, List.mem_append] at hp
    exact Or.inr hp
  · have hlt := hW.lt
    obtain ⟨_, _, _, _, _, hz, hn⟩ := hW
    refine ⟨hok, _, _, ([] ++ pa) ++ pv, ⟨[] ++ pa, pv, trodAll_append (hargs _ (fun _ _ => rfl)) (hres _ _ _), hvars _ (fun _ _ => rfl), rfl, ?_, ?_⟩, ?_⟩
    · intro b off hp
      have hp' : MemPlace.cell b off ∈ before := by rw [hps]; simpa using hp
      rw [hg.frozen (hlt _ hp')]
      exact hz b off hp'
    · intro ha
      have := hn ha
      rw [hps] at this
      simpa using this
    · intro p hp _
      rw [hps]
      simpa using hp
/-- 'returnsInHanded_of_cond', the world's shape kept -/
theorem handed_cond_shaped {H : Type} {enc : TypeId × Value → H} {a : Assume} {C : Checked} {os : Os} {f : FuncId} {fn : Func} {s : OpenSpec} {k : (H : Type) → List (DataW H) → Bool} (hk : s.cond = some k) {F : Stop.Interp} {conds : List PathCond} {apart fresh handsOn again : Bool}
    (own : ownKnob C.prog.godebug = none) (started : os.Started) (noInit : C.prog.inits.idxOf? f = none) (hfn : C.prog.funcs[f]? = some fn)
    (witness : ∃ (w : World) (tape : Tape) (i : Input), w.os = os ∧ (w.forCall tape i).Shaped C.prog ∧ i.vars = [] ∧ Input.okWide C.prog (w.forCall tape i) .any w.heap.size f i ∧
      s.pre6 enc C.prog fn conds apart (w.forCall tape i).memory i.args ∧ a.holds C.prog (lone (Frame.enter C.prog f i.args .normal) [] (w.forCall tape i)))
    (contract : ∀ (W : World) (base : Nat) (args : Array Value) (ds gs : List (DataW H)) (before : List MemPlace),
      (∀ (j : Nat) t v, fn.params[j]? = some t → args[j]? = some v → Value.okWide C.prog W .any base t v) →
      DataW.Whole enc C.prog fn.params.toList s.vars apart W args.toList ds gs before → k H (ds ++ gs) = true → W.ShapedOpen C.prog →
      Calls C.prog f args W fun e W' => ∃ v, e = .returned v ∧ (s.at F).post enc C.prog fn apart fresh handsOn again W args v W') :
    ReturnsInHanded a C os f .any (s.pre6 enc C.prog fn conds apart) ((s.at F).post enc C.prog fn apart fresh handsOn again) := by
  refine returnsInHanded_of_calls own started noInit witness ?_
  intro w tape i _ hsh _ hok hpre _
  obtain ⟨_, _, _, fn', hfn', _, _, _, _, hval⟩ := hok
  obtain rfl : fn' = fn := Option.some.inj (hfn'.symm.trans hfn)
  obtain ⟨ds, gs, before, hw, _, hkk⟩ := (OpenSpec.pre_some hk conds apart _ _).1 hpre.1
  refine (contract (w.forCall tape i) w.heap.size i.args ds gs before hval (DataW.Whole.of_heap (w' := w.forCall tape i) (by rfl) hw) hkk hsh).mono fun e W' ⟨v, he, hp⟩ => ?_
  subst he
  exact ChangeSpec.post_blind hp
end Go.Agg
/-! A law that returns true and keeps all that was there: its row's proof; slices, bytes as arguments. -/
namespace Go.Agg
open Go.RowKit Go.ChangeShapes Go.WideShapes Go.ChangeAt
section
variable {H : Type} {enc : TypeId × Value → H} {P : Program}
theorem trodAll_stays (hl : laidOutB P = true) : ∀ {ts : List TypeId}, (∀ t ∈ ts, P.readableRec t = true ∧ t < P.types.size) → ∀ {W W' : World} {base : Nat} {sp' : Nat → Bool} {vs : List Value} {ds : List (DataW H)} {ps : List MemPlace},
    DataW.TrodAll enc P W base (fun _ => true) true ts vs ds ps → (∀ p ∈ ps, W.sameAt W' p) → (∀ p ∈ ps, sp' p.block = true) → DataW.TrodAll enc P W' base sp' true ts vs ds ps
  | [], _, _, _, _, _, _, _, _, h, _, _ => by
    obtain ⟨rfl, rfl, rfl⟩ := trodAll_nil h
    exact trodAll_mk0
  | t :: ts, hr, _, _, _, _, _, _, _, h, hs, hp => by
    obtain ⟨v, vs', d, ds', p, q, rfl, rfl, rfl, h1, h2⟩ := trodAll_cons h
    exact trodAll_cons_mk (WideElems.Trod_stays hl (hr t (by simp)).1 (hr t (by simp)).2 h1 (fun x hx => hs x (by simp [hx])) (fun x hx => hp x (by simp [hx])))
      (trodAll_stays hl (fun t ht => hr t (by simp [ht])) h2 (fun x hx => hs x (by simp [hx])) (fun x hx => hp x (by simp [hx])))
/-- what a law's row says behind a call that returned true and kept what was there -/
theorem post_law {f : Func} {s : ChangeSpec} {apart fresh handsOn again : Bool} {W W' : World} {args : Array Value} {ds gs : List (DataW H)} {before : List MemPlace} {bt : TypeId}
    (hW : DataW.Whole enc P f.params.toList s.vars apart W args.toList ds gs before) (hv : s.vars = []) (hl : laidOutB P = true) (hr : ∀ t ∈ f.params.toList, P.readableRec t = true ∧ t < P.types.size)
    (hfr : (s.fn H (ds ++ gs)).results = [.lit (.bool true)]) (hfa : (s.fn H (ds ++ gs)).args = ds) (hfv : (s.fn H (ds ++ gs)).vars = []) (hrt : f.resultTypes = #[bt]) (hbt : P.underlying bt = some .bool) (hg : Below W.heap.size W W') :
    s.post enc P f apart fresh handsOn again W args (.bool true) W' := by
  obtain ⟨p, q, hA, hV, rfl, hfz, hnd⟩ := id hW
  rw [hv] at hV
  obtain ⟨rfl, rfl⟩ := trodVars_none hV
  have hlt := hW.lt
  have hst : ∀ sp : Nat → Bool, (∀ x ∈ p ++ [], sp x.block = true) → DataW.TrodAll enc P W' 0 sp true f.params.toList args.toList ds p := fun sp hsp =>
    trodAll_stays hl hr hA (fun x hx => hg.same (hlt x (by simp [hx]))) (fun x hx => hsp x (by simp [hx]))
  refine post_below (pa := p) (pv := []) hW ?_ (fun sp hsp => by rw [hfa]; exact hst sp hsp) (fun sp hsp => by rw [hfv, hv]; rfl) rfl hg ?_
  · intro b sp hd
    rw [hfr, hrt]
    exact trodAll_mk1 (shut_bool hbt _)
  · exact ok_one hrt rfl (okWide_bool_mk hbt _)
end
/-- elements, and how they read -/
structure ElemD (P : Program) (α : Type) extends Elem P α where
  cellsOf : P.cellsOf ty = n
  data : (H : Type) → α → DataW H
  open_ : ∀ (H : Type) (enc : TypeId × Value → H) (w : World) (base : Nat) (sp : Nat → Bool) (held : Bool) (fuel : Nat) (cs : List Value) (x : DataW H × List MemPlace),
    DataW.trod enc P w base sp held fuel ty cs = some x → ∃ a, cs = (val a).cells.toList ∧ x = (data H a, [])
theorem open_sliceE {P : Program} {α : Type} [Inhabited α] (E : ElemD P α) {H : Type} {enc : TypeId × Value → H} {w : World} {base : Nat} {sp : Nat → Bool} {held : Bool} {fuel : Nat} {cs : List Value} {x : DataW H × List MemPlace}
    (h : DataW.trod enc P w base sp held fuel E.st cs = some x) : ∃ (v : Value) (l : List α), cs = [v] ∧ SliceOf E.toElem w v l ∧ ((l = [] ∧ x.1 = .nil) ∨ ∃ rest, x.1 = .slice (l.map (E.data H)) rest) := by
  rcases Go.Deep.open_slice E.slice h with ⟨rfl, rfl⟩ | ⟨a, len, cap, m, n, D, Pl, rfl, _, hlc, _, hm, rfl, hel⟩
  · exact ⟨_, [], rfl, SliceOf.nil _ _ _, .inl ⟨rfl, rfl⟩⟩
  · have hlm : len ≤ m := by rw [hm]; split <;> omega
    have each : ∀ i, i < len → ∃ b : α, (∀ j u, (E.val b).cells[j]? = some u → w.cell? ((a.add (i * E.n)).add j) = some u) ∧ D i = E.data H b := fun i hi => by
      obtain ⟨cs', hc, ht⟩ := hel i (by omega)
      rw [E.cellsOf] at hc
      obtain ⟨b, rfl, hx⟩ := E.open_ H enc w base sp held n cs' _ ht
      obtain ⟨_, hcl, hat⟩ := World.cells?_some hc
      refine ⟨b, fun j u hj => ?_, congrArg Prod.fst hx⟩
      have hjn : j < E.n := by have := (Array.getElem?_eq_some_iff.1 hj).1; rw [E.size] at this; exact this
      rw [hat j hjn]
      simpa using hj
    obtain ⟨f, hf⟩ := Go.Deep.choose_lt each
    refine ⟨_, (List.range len).map f, rfl, ?_, .inr ⟨(List.range (m - len)).map fun j => D (len + j), ?_⟩⟩
    · by_cases h0 : len = 0
      · subst h0; exact SliceOf.nil _ _ _
      · have hb : a.block < w.heap.size := by
          have hpos := E.pos
          have hc0 := (hf 0 (by omega)).1 0 _ (Array.getElem?_eq_getElem (by rw [E.size]; exact hpos))
          have := block_lt_of_cell hc0
          rwa [add_block, add_block] at this
        refine .inr ⟨a, cap, by simp, hb, fun j u hj => ?_⟩
        obtain ⟨k, b, i, h1, h2, rfl⟩ := Elem.flat_all E.toElem _ j u hj
        obtain ⟨hk, hkb⟩ := List.getElem?_eq_some_iff.1 h1
        have hkl : k < len := by simpa using hk
        have hfb : f k = b := by simpa using hkb
        subst hfb
        rw [← add_add]
        exact (hf k hkl).1 i u h2
    · simp only [List.map_map]
      congr 1
      refine List.map_congr_left fun i hi => ?_
      exact (hf i (List.mem_range.1 hi)).2
end Go.Agg
namespace Go.Proofs.YtniibcgomnjfgaaGreat
open Go.RowKit Go.Agg Go.ChangeMaps Go.ChangeShapes Go.WideShapes
theorem own : ownKnob Tryz.prog.godebug = none := by kernel_rfl
theorem cells_byte : Tryz.prog.cellsOf 5 = 1 := by kernel_rfl
theorem laidOut : laidOutB Tryz.prog = true := by kernel_rfl
theorem bulkAll_append {H : Type} (a b : List (DataW H)) : Rows.uptoBulkAll (a ++ b) = Rows.uptoBulkAll a + Rows.uptoBulkAll b := by
  induction a with
  | nil => simp [Rows.uptoBulkAll]
  | cons d a ih => simp only [List.cons_append, Rows.uptoBulkAll, ih]; omega
theorem bulkAll_map {H : Type} {α : Type} (f : α → DataW H) (sz : α → Nat) (h : ∀ a, sz a + 1 ≤ Rows.uptoBulk (f a)) (l : List α) : (l.map sz).sum + l.length ≤ Rows.uptoBulkAll (l.map f) := by
  induction l with
  | nil => simp [Rows.uptoBulkAll]
  | cons a l ih =>
    have := h a
    simp only [List.map_cons, List.sum_cons, List.length_cons, Rows.uptoBulkAll]; omega
theorem bulk_slice {H : Type} {α : Type} {x : DataW H} {l : List α} {f : α → DataW H} (hx : (l = [] ∧ x = .nil) ∨ ∃ rest, x = .slice (l.map f) rest) (sz : α → Nat) (h : ∀ a, sz a + 1 ≤ Rows.uptoBulk (f a)) : (l.map sz).sum + l.length + 1 ≤ Rows.uptoBulk x := by
  rcases hx with ⟨rfl, rfl⟩ | ⟨rest, rfl⟩
  · simp [Rows.uptoBulk]
  · have := bulkAll_map f sz h l
    simp only [Rows.uptoBulk]; omega
/-- bytes, read -/
def DB : ElemD Tryz.prog UInt8 where
  toElem := EB
  cellsOf := cells_byte
  data := fun _ c => .lit (.int .u8 (c.toNat : Int))
  open_ := fun H enc w base sp held fuel cs x h => by
    obtain ⟨k, rfl, e2, hw⟩ := DataW.trod_int Tryz.underlying5 h
    have hb := bounds_u8 hw
    refine ⟨UInt8.ofNat k.toNat, ?_, ?_⟩
    · have : ((UInt8.ofNat k.toNat).toNat : Int) = k := by simp; omega
      show [Value.int .u8 k] = [Value.int .u8 ((UInt8.ofNat k.toNat).toNat : Int)]
      rw [this]
    · have : ((UInt8.ofNat k.toNat).toNat : Int) = k := by simp; omega
      rw [e2, this]
theorem bulk_byte {H : Type} (x : UInt8) : 0 + 1 ≤ Rows.uptoBulk (DB.data H x) := by
  show 0 + 1 ≤ Rows.uptoBulk (DataW.lit _)
  simp [Rows.uptoBulk]
theorem sum_zero (l : List UInt8) : (l.map fun _ => 0).sum = 0 := by
  induction l with
  | nil => rfl
  | cons c l ih => simp [ih]
section
variable {H : Type} {enc : TypeId × Value → H} {w : World} {base : Nat} {sp : Nat → Bool} {held : Bool} {r : Reach} {b0 : Nat} {v : Value} {d : DataW H} {ps : List MemPlace}
set_option maxRecDepth 100000 in
theorem open_bytesB (hval : Value.okWide Tryz.prog w r b0 55 v) (hd : DataW.Trod enc Tryz.prog w base sp held 55 v d ps) : ∃ l : List UInt8, BytesAt w v l ∧ l.length + 1 ≤ Rows.uptoBulk d := by
  obtain ⟨fuel, hf⟩ := hd
  obtain ⟨u, l, e, hs, hx⟩ := open_sliceE DB (x := (d, ps)) hf
  obtain ⟨a, n, c, rfl⟩ := okWide_slice (by kernel_rfl : Tryz.prog.underlying 55 = some (.slice 5)) hval
  obtain rfl : Value.slice a n c = u := by simpa [Value.cells] using e
  have := bulk_slice hx (fun _ => 0) bulk_byte
  rw [sum_zero] at this
  exact ⟨l, hs, by simpa using this⟩
end
end Go.Proofs.YtniibcgomnjfgaaGreat
/-! A path and a text as arguments: read, and laid again. -/
namespace Go.Proofs.YtniibcgomnjfgaaGreat
open Go.RowKit Go.Agg Go.ChangeMaps Go.ChangeShapes Go.WideShapes
section
variable {H : Type} {enc : TypeId × Value → H} {w : World} {base : Nat} {sp : Nat → Bool} {held : Bool}
def hashData {H : Type} (h : List UInt8) : DataW H := .agg (byteData h)
def pathData {H : Type} (h n : List UInt8) : DataW H := .agg [hashData h, .lit (.string n)]
theorem pC_take (h n : List UInt8) (hl : h.length = 20) : ((pC h n).toList.drop 0).take 20 = Lib.byteCells h := by
  rw [List.drop_zero, pC, hC]
  simp only [Array.toList_append]
  exact List.take_left' (by rw [Lib.byteCells_length, hl])
theorem pC_drop (h n : List UInt8) (hl : h.length = 20) : ((pC h n).toList.drop 20).take 1 = [.string ⟨n.toArray⟩] := by
  rw [pC, hC]
  simp only [Array.toList_append]
  rw [List.drop_left' (by rw [Lib.byteCells_length, hl])]
  rfl
theorem cells_hash : Tryz.prog.cellsOf 24 = 20 := by kernel_rfl
theorem cells_str : Tryz.prog.cellsOf 9 = 1 := by kernel_rfl
theorem cells_path : Tryz.prog.cellsOf 26 = 21 := by kernel_rfl
theorem open_path_cells {fuel : Nat} {cs : List Value} {x : DataW H × List MemPlace} (h : DataW.trod enc Tryz.prog w base sp held fuel 26 cs = some x) :
    ∃ h n : List UInt8, h.length = 20 ∧ n.length ≤ maxLen ∧ cs = (pC h n).toList ∧ x = (pathData h n, []) := by
  obtain ⟨xs, m, rfl, rfl, hl, hx, ha⟩ := DataW.trod_struct pC_under h
  have hf := path_fields
  generalize Tryz.prog.fieldsOf 26 = fs at *
  obtain ⟨fs⟩ := fs
  cases fs with
  | nil => exact absurd hf (by simp)
  | cons f1 fs =>
  cases fs with
  | nil => exact absurd hf (by simp)
  | cons f2 fs =>
  cases fs with
  | cons f3 fs => exact absurd hf (by simp)
  | nil =>
    simp only [List.map_cons, List.map_nil, List.cons.injEq, Prod.mk.injEq, and_true] at hf
    obtain ⟨⟨a1, a2, a3⟩, b1, b2, b3⟩ := hf
    match xs, hx with
    | [x1, x2], _ =>
      have h1 := ha 0 f1 rfl
      have h2 := ha 1 f2 rfl
      rw [a2, a3, cells_hash] at h1
      rw [b2, b3, cells_str] at h2
      obtain ⟨l, e1, e2, e3⟩ := open_bytes Tryz.underlying24 Tryz.underlying5 cells_byte cells_hash h1
      obtain ⟨s, e4, e5, e6⟩ := DataW.trod_string Tryz.underlying9 h2
      rw [cells_path] at hl
      refine ⟨l, s.data.toList, e1, e6, ?_, ?_⟩
      · have : cs = (cs.drop 0).take 20 ++ (cs.drop 20).take 1 := by
          rw [List.drop_zero, List.take_of_length_le (l := cs.drop 20) (by simp; omega), List.take_append_drop]
        rw [this, e2, e4]
        simp [pC, hC]
      · rw [e3, e5]; rfl
theorem shut_path_cells (h n : List UInt8) (hl : h.length = 20) (hn : n.length ≤ maxLen) : DataW.trod enc Tryz.prog w base sp held 3 26 (pC h n).toList = some (pathData h n, []) := by
  have hm : (Tryz.prog.fieldsOf 26).toList.mapM (fun f => DataW.trod enc Tryz.prog w base sp held 2 f.type (((pC h n).toList.drop f.offset).take (Tryz.prog.cellsOf f.type))) = some [(hashData h, []), (.lit (.string n), [])] := by
    have hf := path_fields
    generalize Tryz.prog.fieldsOf 26 = fs at *
    obtain ⟨fs⟩ := fs
    cases fs with
    | nil => exact absurd hf (by simp)
    | cons f1 fs =>
    cases fs with
    | nil => exact absurd hf (by simp)
    | cons f2 fs =>
    cases fs with
    | cons f3 fs => exact absurd hf (by simp)
    | nil =>
      simp only [List.map_cons, List.map_nil, List.cons.injEq, Prod.mk.injEq, and_true] at hf
      obtain ⟨⟨a1, a2, a3⟩, b1, b2, b3⟩ := hf
      have h1 := shut_bytes (enc := enc) (w := w) (base := base) (sp := sp) (held := held) Tryz.underlying24 Tryz.underlying5 cells_byte cells_hash h hl
      have h2 : DataW.trod enc Tryz.prog w base sp held 2 9 [.string ⟨n.toArray⟩] = some (.lit (.string n), []) := by
        simp only [DataW.trod, Tryz.underlying9]
        rw [if_pos (by simpa [ByteArray.size] using hn)]
      simp only [List.mapM_cons, List.mapM_nil, a2, a3, b2, b3, cells_hash, cells_str, pC_drop h n hl, pC_take h n hl, h1, h2]
      rfl
  exact trod_struct_mk pC_under (by rw [cells_path]; simp [pC_size, hl]) hm
set_option maxRecDepth 100000 in
theorem open_path {r : Reach} {b0 : Nat} {v : Value} {d : DataW H} {ps : List MemPlace} (hval : Value.okWide Tryz.prog w r b0 26 v) (hd : DataW.Trod enc Tryz.prog w base sp held 26 v d ps) :
    ∃ h n : List UInt8, v = .agg (pC h n) ∧ d = pathData h n ∧ ps = [] ∧ h.length = 20 ∧ n.length ≤ maxLen := by
  obtain ⟨cs, rfl, _⟩ := okWide_struct pC_under hval
  obtain ⟨fuel, hf⟩ := hd
  obtain ⟨h, n, hl, hn, e, e2⟩ := open_path_cells hf
  exact ⟨h, n, congrArg Value.agg (Array.ext' e), congrArg Prod.fst e2, congrArg Prod.snd e2, hl, hn⟩
theorem shut_path (h n : List UInt8) (hl : h.length = 20) (hn : n.length ≤ maxLen) : DataW.Trod enc Tryz.prog w base sp held 26 (.agg (pC h n)) (pathData h n) [] := ⟨3, shut_path_cells h n hl hn⟩
set_option maxRecDepth 100000 in
theorem open_text {r : Reach} {b0 : Nat} {v : Value} {d : DataW H} {ps : List MemPlace} (hval : Value.okWide Tryz.prog w r b0 9 v) (hd : DataW.Trod enc Tryz.prog w base sp held 9 v d ps) :
    ∃ s : List UInt8, v = .string ⟨s.toArray⟩ ∧ d = .lit (.string s) ∧ ps = [] ∧ s.length ≤ maxLen := by
  obtain ⟨s, rfl, rfl, rfl, hs⟩ := open_string Tryz.underlying9 hval hd
  exact ⟨s.data.toList, rfl, rfl, rfl, hs⟩
theorem shut_text (s : List UInt8) (hs : s.length ≤ maxLen) : DataW.Trod enc Tryz.prog w base sp held 9 (.string ⟨s.toArray⟩) (.lit (.string s)) [] := by
  have := shut_string (enc := enc) (w := w) (base := base) (sp := sp) (held := held) (s := ⟨s.toArray⟩) Tryz.underlying9 (by simpa [ByteArray.size] using hs)
  simpa using this
end
theorem maxLenCell {W : World} (h : W.ShapedOpen Tryz.prog) : ∃ m, W.cell? ⟨0, 0, none⟩ = some (.int .i64 m) :=
  cell_of_shapedOpen_int (g := 0) (t := 3) (zero := #[.int .i64 0]) h (of_decide_eq_true (by kernel_rfl)) (by kernel_rfl) rfl (by kernel_rfl) (by kernel_rfl) Tryz.underlying3
end Go.Proofs.YtniibcgomnjfgaaGreat
/-! A law that returns true and keeps all that was there: its row's proof; slices as arguments. -/
namespace Go.Proofs.YtniibcgomnjfgaaGreat
open Go.RowKit Go.Agg Go.ChangeMaps Go.ChangeShapes Go.WideShapes
/-- paths as elements -/
def D20 : ElemD Tryz.prog P20 where
  toElem := E20
  cellsOf := cells_path
  data := fun _ p => pathData p.1.1 p.1.2
  open_ := fun H enc w base sp held fuel cs x h => by
    obtain ⟨g, n, hl, _, e1, e2⟩ := open_path_cells h
    exact ⟨⟨(g, n), hl⟩, e1, e2⟩
theorem bulk_path {H : Type} (p : P20) : p.1.2.length + 1 ≤ Rows.uptoBulk (D20.data H p) := by
  show p.1.2.length + 1 ≤ Rows.uptoBulk (pathData p.1.1 p.1.2)
  simp only [pathData, Rows.uptoBulk, Rows.uptoBulkAll]; omega
set_option maxRecDepth 100000 in
theorem open_paths {H : Type} {enc : TypeId × Value → H} {w : World} {base : Nat} {sp : Nat → Bool} {held : Bool} {r : Reach} {b0 : Nat} {v : Value} {d : DataW H} {ps : List MemPlace} (hval : Value.okWide Tryz.prog w r b0 30 v) (hd : DataW.Trod enc Tryz.prog w base sp held 30 v d ps) :
    ∃ l : List P20, ElemsAt w v l ∧ (l.map fun p => p.1.2.length).sum + l.length + 1 ≤ Rows.uptoBulk d := by
  obtain ⟨fuel, hf⟩ := hd
  obtain ⟨u, l, e, hs, hx⟩ := open_sliceE D20 (x := (d, ps)) hf
  obtain ⟨a, n, c, rfl⟩ := okWide_slice Tryz.underlying30 hval
  obtain rfl : Value.slice a n c = u := by simpa [Value.cells] using e
  exact ⟨l, hs, bulk_slice hx _ bulk_path⟩
set_option maxRecDepth 100000 in
theorem open_path20 {H : Type} {enc : TypeId × Value → H} {w : World} {base : Nat} {sp : Nat → Bool} {held : Bool} {r : Reach} {b0 : Nat} {v : Value} {d : DataW H} {ps : List MemPlace} (hval : Value.okWide Tryz.prog w r b0 26 v) (hd : DataW.Trod enc Tryz.prog w base sp held 26 v d ps) :
    ∃ p : P20, v = .agg (pC p.1.1 p.1.2) ∧ p.1.2.length + 1 ≤ Rows.uptoBulk d := by
  obtain ⟨h, n, rfl, rfl, _, hl, _⟩ := open_path hval hd
  exact ⟨⟨(h, n), hl⟩, rfl, by simp only [pathData, Rows.uptoBulk, Rows.uptoBulkAll]; omega⟩
end Go.Proofs.YtniibcgomnjfgaaGreat
/-! Builts as arguments. -/
namespace Go.Proofs.YtniibcgomnjfgaaGreat
open Go.RowKit Pl Go.Agg Go.ChangeMaps Go.ChangeShapes Go.WideShapes
theorem bulkAll_le {H : Type} : ∀ (ds : List (DataW H)) (ss : List Nat), ss.length = ds.length → (∀ (i : Nat) (s : Nat) (d : DataW H), ss[i]? = some s → ds[i]? = some d → s + 1 ≤ Rows.uptoBulk d) → ss.sum + ss.length ≤ Rows.uptoBulkAll ds
  | [], [], _, _ => by simp [Rows.uptoBulkAll]
  | [], s :: ss, h, _ => by simp at h
  | d :: ds, [], h, _ => by simp at h
  | d :: ds, s :: ss, h, hb => by
    have h1 := bulkAll_le ds ss (by simpa using h) (fun i s d hs hd => hb (i + 1) s d (by simpa using hs) (by simpa using hd))
    have h2 := hb 0 s d rfl rfl
    simp only [List.sum_cons, List.length_cons, Rows.uptoBulkAll]; omega
/-- a slice whose elements are such as a relation says -/
theorem open_sliceR {P : Program} {α : Type} [Inhabited α] (E : Elem P α) (hcell : P.cellsOf E.ty = E.n) {H : Type} {enc : TypeId × Value → H} {w : World} {base : Nat} {sp : Nat → Bool} {held : Bool} (R : α → DataW H → Prop)
    (hop : ∀ (fuel : Nat) (cs : List Value) (x : DataW H × List MemPlace), DataW.trod enc P w base sp held fuel E.ty cs = some x → ∃ a, cs = (E.val a).cells.toList ∧ R a x.1)
    {fuel : Nat} {cs : List Value} {x : DataW H × List MemPlace} (h : DataW.trod enc P w base sp held fuel E.st cs = some x) :
    ∃ (v : Value) (l : List α), cs = [v] ∧ SliceOf E w v l ∧ (∀ p n c, v = .slice p n c → n ≤ c) ∧ (∀ a ∈ l, ∃ d, R a d) ∧ ∀ sz : α → Nat, (∀ a d, R a d → sz a + 1 ≤ Rows.uptoBulk d) → (l.map sz).sum + l.length + 1 ≤ Rows.uptoBulk x.1 := by
  rcases Go.Deep.open_slice E.slice h with ⟨rfl, rfl⟩ | ⟨a, len, cap, m, n, D, Pl, rfl, _, hlc, _, hm, rfl, hel⟩
  · exact ⟨_, [], rfl, SliceOf.nil _ _ _, fun p n c e => by injection e; omega, by simp, fun sz _ => by simp [Rows.uptoBulk]⟩
  · have hlm : len ≤ m := by rw [hm]; split <;> omega
    have each : ∀ i, i < len → ∃ b : α, (∀ j u, (E.val b).cells[j]? = some u → w.cell? ((a.add (i * E.n)).add j) = some u) ∧ R b (D i) := fun i hi => by
      obtain ⟨cs', hc, ht⟩ := hel i (by omega)
      rw [hcell] at hc
      obtain ⟨b, rfl, hx⟩ := hop n cs' _ ht
      obtain ⟨_, hcl, hat⟩ := World.cells?_some hc
      refine ⟨b, fun j u hj => ?_, hx⟩
      have hjn : j < E.n := by have := (Array.getElem?_eq_some_iff.1 hj).1; rw [E.size] at this; exact this
      rw [hat j hjn]
      simpa using hj
    obtain ⟨f, hf⟩ := Go.Deep.choose_lt each
    refine ⟨_, (List.range len).map f, rfl, ?_, fun p n c e => by injection e; omega, ?_, fun sz hsz => ?_⟩
    · by_cases h0 : len = 0
      · subst h0; exact SliceOf.nil _ _ _
      · have hb : a.block < w.heap.size := by
          have hpos := E.pos
          have hc0 := (hf 0 (by omega)).1 0 _ (Array.getElem?_eq_getElem (by rw [E.size]; exact hpos))
          have := block_lt_of_cell hc0
          rwa [add_block, add_block] at this
        refine .inr ⟨a, cap, by simp, hb, fun j u hj => ?_⟩
        obtain ⟨k, b, i, h1, h2, rfl⟩ := Elem.flat_all E _ j u hj
        obtain ⟨hk, hkb⟩ := List.getElem?_eq_some_iff.1 h1
        have hkl : k < len := by simpa using hk
        have hfb : f k = b := by simpa using hkb
        subst hfb
        rw [← add_add]
        exact (hf k hkl).1 i u h2
    · intro b hb
      obtain ⟨i, hi, rfl⟩ := List.mem_map.1 hb
      exact ⟨_, (hf i (List.mem_range.1 hi)).2⟩
    · have := bulkAll_le ((List.range len).map D) (((List.range len).map f).map sz) (by simp) (fun i s d hs hd => by
        obtain ⟨hi, rfl⟩ := List.getElem?_eq_some_iff.1 hs
        obtain ⟨hi', rfl⟩ := List.getElem?_eq_some_iff.1 hd
        simp only [List.getElem_map, List.getElem_range]
        exact hsz _ _ (hf i (by simpa using hi)).2)
      simp only [Rows.uptoBulk, List.length_map] at this ⊢; omega
section
variable {H : Type} {enc : TypeId × Value → H} {w : World} {base : Nat} {sp : Nat → Bool} {held : Bool}
theorem cells_made : Tryz.prog.cellsOf 54 = 41 := by kernel_rfl
theorem cells_built : Tryz.prog.cellsOf 29 = 63 := by kernel_rfl
theorem cells_mades : Tryz.prog.cellsOf 27 = 1 := by kernel_rfl
theorem cells_int' : Tryz.prog.cellsOf 3 = 1 := by kernel_rfl
theorem mC_fields : (Tryz.prog.fieldsOf 54).toList.map (fun f => (f.name, f.type, f.offset)) = [("Class", 24, 0), ("Path", 26, 20)] := by kernel_rfl
theorem bC_fields : (Tryz.prog.fieldsOf 29).toList.map (fun f => (f.name, f.type, f.offset)) = [("Class", 24, 0), ("Key", 24, 20), ("Path", 26, 40), ("By", 3, 61), ("Inputs", 27, 62)] := by kernel_rfl
def mdData (H : Type) (x : Md) : DataW H := .agg [hashData x.1.1, pathData x.2.1.1 x.2.1.2]
def szMd (x : Md) : Nat := x.2.1.2.length
def szBu (x : BuV) : Nat := (x.1.ins.map szMd).sum + x.1.ins.length + x.1.pa.1.2.length
theorem chunkB (cs : List Value) (n m : Nat) : cs.drop n = (cs.drop n).take m ++ cs.drop (n + m) := by rw [← List.drop_drop, List.take_append_drop]
theorem open_md_cells {fuel : Nat} {cs : List Value} {x : DataW H × List MemPlace} (h : DataW.trod enc Tryz.prog w base sp held fuel 54 cs = some x) : ∃ i : Md, cs = (mC i).toList ∧ x = (mdData H i, []) := by
  obtain ⟨xs, m, rfl, rfl, hl, hx, ha⟩ := DataW.trod_struct mC_under h
  have hf := mC_fields
  generalize Tryz.prog.fieldsOf 54 = fs at *
  obtain ⟨fs⟩ := fs
  cases fs with
  | nil => exact absurd hf (by simp)
  | cons f1 fs =>
  cases fs with
  | nil => exact absurd hf (by simp)
  | cons f2 fs =>
  cases fs with
  | cons f3 fs => exact absurd hf (by simp)
  | nil =>
    simp only [List.map_cons, List.map_nil, List.cons.injEq, Prod.mk.injEq, and_true] at hf
    obtain ⟨⟨a1, a2, a3⟩, b1, b2, b3⟩ := hf
    match xs, hx with
    | [x1, x2], _ =>
      have h1 := ha 0 f1 rfl
      have h2 := ha 1 f2 rfl
      rw [a2, a3, cells_hash] at h1
      rw [b2, b3, cells_path] at h2
      obtain ⟨l, e3, e4, e5⟩ := open_bytes Tryz.underlying24 Tryz.underlying5 cells_byte cells_hash h1
      obtain ⟨g, n, hg, _, e1, e2⟩ := open_path_cells h2
      rw [cells_made] at hl
      refine ⟨(⟨l, e3⟩, ⟨(g, n), hg⟩), ?_, ?_⟩
      · generalize cs = L at *
        have h0 : L = L.drop 0 := rfl
        rw [h0, chunkB L 0 20, e4, chunkB L (0 + 20) 21, e1, show L.drop (0 + 20 + 21) = [] from List.drop_eq_nil_of_le (by omega)]
        simp [mC, hC]
      · rw [e2, e5]; rfl
end
instance : Inhabited Md := ⟨zM⟩
instance : Inhabited BuV := ⟨(zB, none, 0, 0)⟩
/-- what was made, read -/
def DMd : ElemD Tryz.prog Md where
  toElem := EMd
  cellsOf := cells_made
  data := mdData
  open_ := fun _ _ _ _ _ _ _ _ _ h => open_md_cells h
theorem bulk_md {H : Type} (x : Md) : szMd x + 1 ≤ Rows.uptoBulk (DMd.data H x) := by
  show szMd x + 1 ≤ Rows.uptoBulk (mdData H x)
  simp only [mdData, pathData, Rows.uptoBulk, Rows.uptoBulkAll, szMd]; omega
section
variable {H : Type} {enc : TypeId × Value → H} {w : World} {base : Nat} {sp : Nat → Bool} {held : Bool} {r : Reach} {b0 : Nat} {v : Value} {d : DataW H} {ps : List MemPlace}
theorem open_bu_cells {fuel : Nat} {cs : List Value} {x : DataW H × List MemPlace} (h : DataW.trod enc Tryz.prog w base sp held fuel 29 cs = some x) : ∃ i : BuV, cs = (bC i).toList ∧ InsAt w i ∧ szBu i + 1 ≤ Rows.uptoBulk x.1 := by
  obtain ⟨xs, m, rfl, rfl, hl, hx, ha⟩ := DataW.trod_struct bC_under h
  have hf := bC_fields
  generalize Tryz.prog.fieldsOf 29 = fs at *
  obtain ⟨fs⟩ := fs
  cases fs with
  | nil => exact absurd hf (by simp)
  | cons f1 fs =>
  cases fs with
  | nil => exact absurd hf (by simp)
  | cons f2 fs =>
  cases fs with
  | nil => exact absurd hf (by simp)
  | cons f3 fs =>
  cases fs with
  | nil => exact absurd hf (by simp)
  | cons f4 fs =>
  cases fs with
  | nil => exact absurd hf (by simp)
  | cons f5 fs =>
  cases fs with
  | cons f6 fs => exact absurd hf (by simp)
  | nil =>
    simp only [List.map_cons, List.map_nil, List.cons.injEq, Prod.mk.injEq, and_true] at hf
    obtain ⟨⟨a1, a2, a3⟩, ⟨b1, b2, b3⟩, ⟨c1, c2, c3⟩, ⟨d1, d2, d3⟩, e1, e2, e3⟩ := hf
    match xs, hx with
    | [x1, x2, x3, x4, x5], _ =>
      have h1 := ha 0 f1 rfl
      have h2 := ha 1 f2 rfl
      have h3 := ha 2 f3 rfl
      have h4 := ha 3 f4 rfl
      have h5 := ha 4 f5 rfl
      rw [a2, a3, cells_hash] at h1
      rw [b2, b3, cells_hash] at h2
      rw [c2, c3, cells_path] at h3
      rw [d2, d3, cells_int'] at h4
      rw [e2, e3, cells_mades] at h5
      obtain ⟨cl, p1, p2, p3⟩ := open_bytes Tryz.underlying24 Tryz.underlying5 cells_byte cells_hash h1
      obtain ⟨ky, q1, q2, q3⟩ := open_bytes Tryz.underlying24 Tryz.underlying5 cells_byte cells_hash h2
      obtain ⟨g, n, hg, _, u1, u2⟩ := open_path_cells h3
      obtain ⟨by_, k1, k2, _⟩ := DataW.trod_int Tryz.underlying3 h4
      obtain ⟨iv, ins, l1, hs5, hx5⟩ := open_sliceE DMd h5
      obtain ⟨ip, ic, rfl⟩ := hs5.form
      rw [cells_built] at hl
      refine ⟨(⟨⟨cl, p1⟩, ⟨ky, q1⟩, ⟨(g, n), hg⟩, by_, ins⟩, ip, ins.length, ic), ?_, hs5, ?_⟩
      · generalize cs = L at *
        have h0 : L = L.drop 0 := rfl
        rw [h0, chunkB L 0 20, p2, chunkB L (0 + 20) 20, q2, chunkB L (0 + 20 + 20) 21, u1, chunkB L (0 + 20 + 20 + 21) 1, k1, chunkB L (0 + 20 + 20 + 21 + 1) 1, l1, show L.drop (0 + 20 + 20 + 21 + 1 + 1) = [] from List.drop_eq_nil_of_le (by omega)]
        simp [bC, hC, ivV]
      · have hb := bulk_slice hx5 _ bulk_md
        rw [p3, q3, u2, k2]
        simp only [List.map_cons, List.map_nil, Rows.uptoBulk, Rows.uptoBulkAll, pathData, szBu]
        omega
set_option maxRecDepth 100000 in
theorem open_builts (hval : Value.okWide Tryz.prog w r b0 22 v) (hd : DataW.Trod enc Tryz.prog w base sp held 22 v d ps) :
    ∃ l : List BuV, BusAt w v l ∧ (∀ p n c, v = .slice p n c → n ≤ c) ∧ (l.map szBu).sum + l.length + 1 ≤ Rows.uptoBulk d := by
  obtain ⟨fuel, hf⟩ := hd
  obtain ⟨u, l, e, hs, hcap, hin, hx⟩ := open_sliceR EBu cells_built (fun a d => InsAt w a ∧ szBu a + 1 ≤ Rows.uptoBulk d) (fun fuel cs x h => open_bu_cells h) (x := (d, ps)) hf
  obtain ⟨a, n, c, rfl⟩ := okWide_slice Tryz.underlying22 hval
  obtain rfl : Value.slice a n c = u := by simpa [Value.cells] using e
  exact ⟨l, ⟨hs, fun x hx => (hin x hx).elim fun _ h => h.1⟩, hcap, hx szBu fun a d h => h.2⟩
set_option maxRecDepth 100000 in
theorem open_intBu (hval : Value.okWide Tryz.prog w r b0 3 v) (hd : DataW.Trod enc Tryz.prog w base sp held 3 v d ps) : ∃ x : Int, v = .int .i64 x ∧ 0 ≤ Rows.uptoBulk d := by
  obtain ⟨fuel, hf⟩ := hd
  obtain ⟨k, h, _, _⟩ := DataW.trod_int Tryz.underlying3 hf
  refine ⟨k, ?_, Nat.zero_le _⟩
  obtain ⟨y, rfl⟩ := okWide_int Tryz.underlying3 hval
  simpa [Value.cells] using h
end
theorem mem_sum : ∀ (l : List Nat) (n : Nat), n ∈ l → n ≤ l.sum
  | a :: l, n, h => by
    rcases List.mem_cons.1 h with rfl | h
    · simp
    · have := mem_sum l n h
      simp only [List.sum_cons]; omega
theorem bu_small {l : List BuV} {d : Nat} (h : (l.map szBu).sum + l.length + 1 ≤ d) (hd : d ≤ 1048576) : ∀ x ∈ l, x.1.ins.length ≤ 1048576 ∧ x.1.pa.1.2.length ≤ 1048576 ∧ ∀ m ∈ x.1.ins, m.2.1.2.length ≤ 1048576 := by
  intro x hx
  have h1 : (x.1.ins.map szMd).sum + x.1.ins.length + x.1.pa.1.2.length ≤ (l.map szBu).sum := mem_sum _ _ (List.mem_map.2 ⟨x, hx, rfl⟩)
  refine ⟨by omega, by omega, fun m hm => ?_⟩
  have h2 : m.2.1.2.length ≤ (x.1.ins.map szMd).sum := mem_sum _ _ (List.mem_map.2 ⟨m, hm, rfl⟩)
  omega
end Go.Proofs.YtniibcgomnjfgaaGreat
/-! A hash as an argument. -/
namespace Go.Proofs.YtniibcgomnjfgaaGreat
open Go.RowKit Pl Go.Agg Go.ChangeMaps Go.ChangeShapes Go.WideShapes
theorem okWide_arrayH {P : Program} {w : World} {r : Reach} {base : Nat} {t e : TypeId} {n : Nat} {v : Value} (ht : P.underlying t = some (.array n e)) (h : Value.okWide P w r base t v) : ∃ cs, v = .agg cs := by
  unfold Value.okWide at h
  rw [ht] at h
  obtain ⟨cs, rfl, _⟩ := h
  exact ⟨cs, rfl⟩
set_option maxRecDepth 100000 in
theorem open_hash20 {H : Type} {enc : TypeId × Value → H} {w : World} {base : Nat} {sp : Nat → Bool} {held : Bool} {r : Reach} {b0 : Nat} {v : Value} {d : DataW H} {ps : List MemPlace} (hval : Value.okWide Tryz.prog w r b0 24 v) (hd : DataW.Trod enc Tryz.prog w base sp held 24 v d ps) :
    ∃ h : H20, v = .agg (hC h.1) ∧ 0 ≤ Rows.uptoBulk d := by
  obtain ⟨cs, rfl⟩ := okWide_arrayH Tryz.underlying24 hval
  obtain ⟨fuel, hf⟩ := hd
  obtain ⟨l, h1, h2, _⟩ := open_bytes Tryz.underlying24 Tryz.underlying5 cells_byte cells_hash hf
  exact ⟨⟨l, h1⟩, congrArg Value.agg (Array.ext' (by simpa [hC, Value.cells] using h2)), Nat.zero_le _⟩
end Go.Proofs.YtniibcgomnjfgaaGreat
