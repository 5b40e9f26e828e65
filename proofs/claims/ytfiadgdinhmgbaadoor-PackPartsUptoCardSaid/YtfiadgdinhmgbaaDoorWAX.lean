/- A file tree as an argument. (Several texts in one.) -/
import Derived.Test.YtfiadgdinhmgbaaDoorShelf
import Derived.JoinedCond
import Derived.OpenShut
import Derived.Shelf.Vars
import Derived.Lib.UnsafeStr
import Derived.Test.YtfiadgdinhmgbaaDoorWAF
import Derived.Test.YtfiadgdinhmgbaaDoorRows
import Derived.Carry
import Derived.Deep.Slices
import Derived.Test.YtfiadgdinhmgbaaDoorWAL
/-! A row's argument of bytes, read and laid again; the wrap for a row of the second form with the world's shape. -/
namespace Go.Agg
open Go.RowKit Go.ChangeShapes Go.WideShapes Go.ChangeAt
section
variable {H : Type} {enc : TypeId × Value → H} {P : Program} {w : World} {base : Nat} {sp : Nat → Bool} {held : Bool}
/-- bytes, as data -/
def byteData {H : Type} (l : List UInt8) : List (DataW H) := l.map fun c => .lit (.int .u8 (c.toNat : Int))
theorem open_bytes {t e : TypeId} {n fuel : Nat} {cs : List Value} {x : DataW H × List MemPlace} (ht : P.underlying t = some (.array n e)) (he : P.underlying e = some (.int .u8)) (hc : P.cellsOf e = 1) (hn : P.cellsOf t = n)
    (h : DataW.trod enc P w base sp held fuel t cs = some x) : ∃ l : List UInt8, l.length = n ∧ cs = Lib.byteCells l ∧ x = (.agg (byteData l), []) := by
  obtain ⟨xs, m, rfl, rfl, hl, hx, ha⟩ := DataW.trod_array ht h
  have key : ∀ i, i < n → ∃ c : UInt8, cs[i]? = some (.int .u8 (c.toNat : Int)) ∧ xs[i]? = some (.lit (.int .u8 (c.toNat : Int)), []) := fun i hi => by
    have hxi : xs[i]? = some xs[i] := List.getElem?_eq_getElem (by omega)
    have h1 := (ha i hi).trans hxi
    rw [hc] at h1
    obtain ⟨k, hk, hd, hw⟩ := DataW.trod_int he h1
    have hb := bounds_u8 hw
    refine ⟨UInt8.ofNat k.toNat, ?_, ?_⟩
    · have : (cs.drop (i * 1)).take 1 = [.int .u8 k] := hk
      have h2 := congrArg (·[0]?) this
      simp at h2
      rw [h2]
      simp; omega
    · rw [hxi, hd]
      simp; omega
  have hlen : cs.length = n := hl.trans hn
  refine ⟨cs.map fun | .int _ k => UInt8.ofNat k.toNat | _ => 0, by simp [hlen], ?_, ?_⟩
  · refine List.ext_getElem? fun i => ?_
    by_cases hi : i < n
    · obtain ⟨c, h1, _⟩ := key i hi
      simp [Lib.byteCells, h1]
    · rw [List.getElem?_eq_none (by omega), List.getElem?_eq_none (by simp [Lib.byteCells]; omega)]
  · have hfst : xs.map (·.1) = byteData (cs.map fun | .int _ k => UInt8.ofNat k.toNat | _ => 0) := by
      refine List.ext_getElem? fun i => ?_
      by_cases hi : i < n
      · obtain ⟨c, h1, h2⟩ := key i hi
        simp [byteData, h1, h2]
      · rw [List.getElem?_eq_none (by simp; omega), List.getElem?_eq_none (by simp [byteData]; omega)]
    have hsnd : xs.flatMap (·.2) = [] := by
      rw [List.flatMap_eq_nil_iff]
      intro y hy
      obtain ⟨i, hi, rfl⟩ := List.getElem_of_mem hy
      obtain ⟨c, _, h2⟩ := key i (by omega)
      rw [List.getElem?_eq_getElem hi] at h2
      rw [Option.some.inj h2]
    rw [hfst, hsnd]
theorem mapM_each {β : Type} {f : Nat → Option β} : ∀ (is : List Nat) (ys : List β), is.length = ys.length → (∀ (k i : Nat) (y : β), is[k]? = some i → ys[k]? = some y → f i = some y) → is.mapM f = some ys
  | [], [], _, _ => by simp
  | i :: is, y :: ys, hl, h => by
    have h0 := h 0 i y rfl rfl
    have ih := mapM_each (f := f) is ys (by simpa using hl) (fun k i y hi hy => h (k + 1) i y (by simpa using hi) (by simpa using hy))
    simp [List.mapM_cons, h0, ih]
  | [], _ :: _, hl, _ => by simp at hl
  | _ :: _, [], hl, _ => by simp at hl
theorem shut_bytes {t e : TypeId} {n : Nat} (ht : P.underlying t = some (.array n e)) (he : P.underlying e = some (.int .u8)) (hc : P.cellsOf e = 1) (hn : P.cellsOf t = n) (l : List UInt8) (hl : l.length = n) :
    DataW.trod enc P w base sp held 2 t (Lib.byteCells l) = some (.agg (byteData l), []) := by
  have hm : (List.range n).mapM (fun i => DataW.trod enc P w base sp held 1 e (((Lib.byteCells l).drop (i * P.cellsOf e)).take (P.cellsOf e))) = some (l.map fun c => ((.lit (.int .u8 (c.toNat : Int)) : DataW H), ([] : List MemPlace))) := by
    refine mapM_each _ _ (by simp [hl]) fun k i y hi hy => ?_
    obtain ⟨hk, rfl⟩ := List.getElem?_eq_some_iff.1 hi
    have hk' : k < l.length := by simpa [hl] using hk
    obtain rfl : y = (.lit (.int .u8 (l[k].toNat : Int)), []) := by simpa [hk', eq_comm] using hy
    have : ((Lib.byteCells l).drop (k * 1)).take 1 = [.int .u8 (l[k].toNat : Int)] := by
      apply List.ext_getElem?
      intro j
      cases j with
      | zero => simp [Lib.byteCells, hk']
      | succ j => simp; omega
    rw [List.getElem_range, hc, this]
    have hlt := l[k].toNat_lt
    simp only [DataW.trod, he]
    rw [if_pos ⟨trivial, by simp [Lit.wf, IntKind.min, IntKind.max, IntKind.signed, IntKind.bits]; omega⟩]
  have hcl : (Lib.byteCells l).length = P.cellsOf t := by simp [Lib.byteCells, hl, hn]
  unfold DataW.trod
  rw [ht]
  split <;> simp_all
  · simp [byteData]
end
/-- 'post_of_same' behind a call that keeps what was there -/
theorem post_below {H : Type} {enc : TypeId × Value → H} {P : Program} {f : Func} {s : ChangeSpec} {apart fresh handsOn again : Bool} {W W' : World} {args : Array Value} {v : Value} {ds gs : List (DataW H)} {before pa pv : List MemPlace}
    (hW : DataW.Whole enc P f.params.toList s.vars apart W args.toList ds gs before)
    (hres : ∀ (b : Nat) (sp : Nat → Bool) (hd : Bool), DataW.TrodAll enc P W' b sp hd f.resultTypes.toList (v.resultList f.resultTypes.size) (s.fn H (ds ++ gs)).results [])
    (hargs : ∀ sp : Nat → Bool, (∀ p ∈ before, sp p.block = true) → DataW.TrodAll enc P W' 0 sp true f.params.toList args.toList (s.fn H (ds ++ gs)).args pa)
    (hvars : ∀ sp : Nat → Bool, (∀ p ∈ before, sp p.block = true) → DataW.TrodVars enc P W' sp s.vars (s.fn H (ds ++ gs)).vars pv)
    (hps : before = pa ++ pv) (hg : Below W.heap.size W W')
    (hok : ∀ (j : Nat) (t : TypeId) (r : Value), f.resultTypes[j]? = some t → (v.resultList f.resultTypes.size)[j]? = some r → Value.okWide P W' .any 0 t r) :
    s.post enc P f apart fresh handsOn again W args v W' := by
  have hold : ∀ p ∈ before, (fun b => decide (b < W.heap.size)) p.block = true := fun p hp => by simpa using hW.lt p hp
  refine ⟨ds, gs, before, [], pa, pv, hW, hres _ _ _, hargs _ hold, hvars _ hold, World.keptBut_mono (fun p hp => ⟨hp, ?_⟩) (hg.frame (· ∈ before)), fun _ => ?_⟩
  · rw [hps, List.mem_append] at hp
    exact Or.inr hp
  · have hlt := hW.lt
    obtain ⟨_, _, _, _, _, hz, hn⟩ := hW
    refine ⟨hok, _, _, ([] ++ pa) ++ pv, ⟨[] ++ pa, pv, trodAll_append (hargs _ (fun _ _ => rfl)) (hres _ _ _), hvars _ (fun _ _ => rfl), rfl, ?_, ?_⟩, ?_⟩
    · intro b off hp
      have hp' : MemPlace.cell b off ∈ before := by rw [hps]; simpa using hp
      rw [hg.frozen (hlt _ hp')]
      exact hz b off hp'
    · intro ha
      have := hn ha
      rw [hps] at this
      simpa using this
    · intro p hp _
      rw [hps]
      simpa using hp
/-- 'returnsInHanded_of_cond', the world's shape kept -/
theorem handed_cond_shaped {H : Type} {enc : TypeId × Value → H} {a : Assume} {C : Checked} {os : Os} {f : FuncId} {fn : Func} {s : OpenSpec} {k : (H : Type) → List (DataW H) → Bool} (hk : s.cond = some k) {F : Stop.Interp} {conds : List PathCond} {apart fresh handsOn again : Bool}
    (own : ownKnob C.prog.godebug = none) (started : os.Started) (noInit : C.prog.inits.idxOf? f = none) (hfn : C.prog.funcs[f]? = some fn)
    (witness : ∃ (w : World) (tape : Tape) (i : Input), w.os = os ∧ (w.forCall tape i).Shaped C.prog ∧ i.vars = [] ∧ Input.okWide C.prog (w.forCall tape i) .any w.heap.size f i ∧
      s.pre6 enc C.prog fn conds apart (w.forCall tape i).memory i.args ∧ a.holds C.prog (lone (Frame.enter C.prog f i.args .normal) [] (w.forCall tape i)))
    (contract : ∀ (W : World) (base : Nat) (args : Array Value) (ds gs : List (DataW H)) (before : List MemPlace),
      (∀ (j : Nat) t v, fn.params[j]? = some t → args[j]? = some v → Value.okWide C.prog W .any base t v) →
      DataW.Whole enc C.prog fn.params.toList s.vars apart W args.toList ds gs before → k H (ds ++ gs) = true → W.ShapedOpen C.prog →
      Calls C.prog f args W fun e W' => ∃ v, e = .returned v ∧ (s.at F).post enc C.prog fn apart fresh handsOn again W args v W') :
    ReturnsInHanded a C os f .any (s.pre6 enc C.prog fn conds apart) ((s.at F).post enc C.prog fn apart fresh handsOn again) := by
  refine returnsInHanded_of_calls own started noInit witness ?_
  intro w tape i _ hsh _ hok hpre _
  obtain ⟨_, _, _, fn', hfn', _, _, _, _, hval⟩ := hok
  obtain rfl : fn' = fn := Option.some.inj (hfn'.symm.trans hfn)
  obtain ⟨ds, gs, before, hw, _, hkk⟩ := (OpenSpec.pre_some hk conds apart _ _).1 hpre.1
  refine (contract (w.forCall tape i) w.heap.size i.args ds gs before hval (DataW.Whole.of_heap (w' := w.forCall tape i) (by rfl) hw) hkk hsh).mono fun e W' ⟨v, he, hp⟩ => ?_
  subst he
  exact ChangeSpec.post_blind hp
end Go.Agg
/-! A law that returns true and keeps all that was there: its row's proof; slices, bytes as arguments. -/
namespace Go.Agg
open Go.RowKit Go.ChangeShapes Go.WideShapes Go.ChangeAt
section
variable {H : Type} {enc : TypeId × Value → H} {P : Program}
theorem trodAll_stays (hl : laidOutB P = true) : ∀ {ts : List TypeId}, (∀ t ∈ ts, P.readableRec t = true ∧ t < P.types.size) → ∀ {W W' : World} {base : Nat} {sp' : Nat → Bool} {vs : List Value} {ds : List (DataW H)} {ps : List MemPlace},
    DataW.TrodAll enc P W base (fun _ => true) true ts vs ds ps → (∀ p ∈ ps, W.sameAt W' p) → (∀ p ∈ ps, sp' p.block = true) → DataW.TrodAll enc P W' base sp' true ts vs ds ps
  | [], _, _, _, _, _, _, _, _, h, _, _ => by
    obtain ⟨rfl, rfl, rfl⟩ := trodAll_nil h
    exact trodAll_mk0
  | t :: ts, hr, _, _, _, _, _, _, _, h, hs, hp => by
    obtain ⟨v, vs', d, ds', p, q, rfl, rfl, rfl, h1, h2⟩ := trodAll_cons h
    exact trodAll_cons_mk (WideElems.Trod_stays hl (hr t (by simp)).1 (hr t (by simp)).2 h1 (fun x hx => hs x (by simp [hx])) (fun x hx => hp x (by simp [hx])))
      (trodAll_stays hl (fun t ht => hr t (by simp [ht])) h2 (fun x hx => hs x (by simp [hx])) (fun x hx => hp x (by simp [hx])))
/-- what a law's row says behind a call that returned true and kept what was there -/
theorem post_law {f : Func} {s : ChangeSpec} {apart fresh handsOn again : Bool} {W W' : World} {args : Array Value} {ds gs : List (DataW H)} {before : List MemPlace} {bt : TypeId}
    (hW : DataW.Whole enc P f.params.toList s.vars apart W args.toList ds gs before) (hv : s.vars = []) (hl : laidOutB P = true) (hr : ∀ t ∈ f.params.toList, P.readableRec t = true ∧ t < P.types.size)
    (hfr : (s.fn H (ds ++ gs)).results = [.lit (.bool true)]) (hfa : (s.fn H (ds ++ gs)).args = ds) (hfv : (s.fn H (ds ++ gs)).vars = []) (hrt : f.resultTypes = #[bt]) (hbt : P.underlying bt = some .bool) (hg : Below W.heap.size W W') :
    s.post enc P f apart fresh handsOn again W args (.bool true) W' := by
  obtain ⟨p, q, hA, hV, rfl, hfz, hnd⟩ := id hW
  rw [hv] at hV
  obtain ⟨rfl, rfl⟩ := trodVars_none hV
  have hlt := hW.lt
  have hst : ∀ sp : Nat → Bool, (∀ x ∈ p ++ [], sp x.block = true) → DataW.TrodAll enc P W' 0 sp true f.params.toList args.toList ds p := fun sp hsp =>
    trodAll_stays hl hr hA (fun x hx => hg.same (hlt x (by simp [hx]))) (fun x hx => hsp x (by simp [hx]))
  refine post_below (pa := p) (pv := []) hW ?_ (fun sp hsp => by rw [hfa]; exact hst sp hsp) (fun sp hsp => by rw [hfv, hv]; rfl) rfl hg ?_
  · intro b sp hd
    rw [hfr, hrt]
    exact trodAll_mk1 (shut_bool hbt _)
  · exact ok_one hrt rfl (okWide_bool_mk hbt _)
end
/-- elements, and how they read -/
structure ElemD (P : Program) (α : Type) extends Elem P α where
  cellsOf : P.cellsOf ty = n
  data : (H : Type) → α → DataW H
  open_ : ∀ (H : Type) (enc : TypeId × Value → H) (w : World) (base : Nat) (sp : Nat → Bool) (held : Bool) (fuel : Nat) (cs : List Value) (x : DataW H × List MemPlace),
    DataW.trod enc P w base sp held fuel ty cs = some x → ∃ a, cs = (val a).cells.toList ∧ x = (data H a, [])
theorem open_sliceE {P : Program} {α : Type} [Inhabited α] (E : ElemD P α) {H : Type} {enc : TypeId × Value → H} {w : World} {base : Nat} {sp : Nat → Bool} {held : Bool} {fuel : Nat} {cs : List Value} {x : DataW H × List MemPlace}
    (h : DataW.trod enc P w base sp held fuel E.st cs = some x) : ∃ (v : Value) (l : List α), cs = [v] ∧ SliceOf E.toElem w v l ∧ ((l = [] ∧ x.1 = .nil) ∨ ∃ rest, x.1 = .slice (l.map (E.data H)) rest) := by
  rcases Go.Deep.open_slice E.slice h with ⟨rfl, rfl⟩ | ⟨a, len, cap, m, n, D, Pl, rfl, _, hlc, _, hm, rfl, hel⟩
  · exact ⟨_, [], rfl, SliceOf.nil _ _ _, .inl ⟨rfl, rfl⟩⟩
  · have hlm : len ≤ m := by rw [hm]; split <;> omega
    have each : ∀ i, i < len → ∃ b : α, (∀ j u, (E.val b).cells[j]? = some u → w.cell? ((a.add (i * E.n)).add j) = some u) ∧ D i = E.data H b := fun i hi => by
      obtain ⟨cs', hc, ht⟩ := hel i (by omega)
      rw [E.cellsOf] at hc
      obtain ⟨b, rfl, hx⟩ := E.open_ H enc w base sp held n cs' _ ht
      obtain ⟨_, hcl, hat⟩ := World.cells?_some hc
      refine ⟨b, fun j u hj => ?_, congrArg Prod.fst hx⟩
      have hjn : j < E.n := by have := (Array.getElem?_eq_some_iff.1 hj).1; rw [E.size] at this; exact this
      rw [hat j hjn]
      simpa using hj
    obtain ⟨f, hf⟩ := Go.Deep.choose_lt each
    refine ⟨_, (List.range len).map f, rfl, ?_, .inr ⟨(List.range (m - len)).map fun j => D (len + j), ?_⟩⟩
    · by_cases h0 : len = 0
      · subst h0; exact SliceOf.nil _ _ _
      · have hb : a.block < w.heap.size := by
          have hpos := E.pos
          have hc0 := (hf 0 (by omega)).1 0 _ (Array.getElem?_eq_getElem (by rw [E.size]; exact hpos))
          have := block_lt_of_cell hc0
          rwa [add_block, add_block] at this
        refine .inr ⟨a, cap, by simp, hb, fun j u hj => ?_⟩
        obtain ⟨k, b, i, h1, h2, rfl⟩ := Elem.flat_all E.toElem _ j u hj
        obtain ⟨hk, hkb⟩ := List.getElem?_eq_some_iff.1 h1
        have hkl : k < len := by simpa using hk
        have hfb : f k = b := by simpa using hkb
        subst hfb
        rw [← add_add]
        exact (hf k hkl).1 i u h2
    · simp only [List.map_map]
      congr 1
      refine List.map_congr_left fun i hi => ?_
      exact (hf i (List.mem_range.1 hi)).2
end Go.Agg
namespace Go.Proofs.YtfiadgdinhmgbaaDoor
open Go.RowKit Go.Agg Go.ChangeMaps Go.ChangeShapes Go.WideShapes
theorem own : ownKnob Tryd.prog.godebug = none := by kernel_rfl
theorem cells_byte : Tryd.prog.cellsOf 5 = 1 := by kernel_rfl
theorem laidOut : laidOutB Tryd.prog = true := by kernel_rfl
theorem bulkAll_append {H : Type} (a b : List (DataW H)) : Rows.uptoBulkAll (a ++ b) = Rows.uptoBulkAll a + Rows.uptoBulkAll b := by
  induction a with
  | nil => simp [Rows.uptoBulkAll]
  | cons d a ih => simp only [List.cons_append, Rows.uptoBulkAll, ih]; omega
theorem bulkAll_map {H : Type} {α : Type} (f : α → DataW H) (sz : α → Nat) (h : ∀ a, sz a + 1 ≤ Rows.uptoBulk (f a)) (l : List α) : (l.map sz).sum + l.length ≤ Rows.uptoBulkAll (l.map f) := by
  induction l with
  | nil => simp [Rows.uptoBulkAll]
  | cons a l ih =>
    have := h a
    simp only [List.map_cons, List.sum_cons, List.length_cons, Rows.uptoBulkAll]; omega
theorem bulk_slice {H : Type} {α : Type} {x : DataW H} {l : List α} {f : α → DataW H} (hx : (l = [] ∧ x = .nil) ∨ ∃ rest, x = .slice (l.map f) rest) (sz : α → Nat) (h : ∀ a, sz a + 1 ≤ Rows.uptoBulk (f a)) : (l.map sz).sum + l.length + 1 ≤ Rows.uptoBulk x := by
  rcases hx with ⟨rfl, rfl⟩ | ⟨rest, rfl⟩
  · simp [Rows.uptoBulk]
  · have := bulkAll_map f sz h l
    simp only [Rows.uptoBulk]; omega
/-- bytes, read -/
def DB : ElemD Tryd.prog UInt8 where
  toElem := EB
  cellsOf := cells_byte
  data := fun _ c => .lit (.int .u8 (c.toNat : Int))
  open_ := fun H enc w base sp held fuel cs x h => by
    obtain ⟨k, rfl, e2, hw⟩ := DataW.trod_int Tryd.underlying5 h
    have hb := bounds_u8 hw
    refine ⟨UInt8.ofNat k.toNat, ?_, ?_⟩
    · have : ((UInt8.ofNat k.toNat).toNat : Int) = k := by simp; omega
      show [Value.int .u8 k] = [Value.int .u8 ((UInt8.ofNat k.toNat).toNat : Int)]
      rw [this]
    · have : ((UInt8.ofNat k.toNat).toNat : Int) = k := by simp; omega
      rw [e2, this]
theorem bulk_byte {H : Type} (x : UInt8) : 0 + 1 ≤ Rows.uptoBulk (DB.data H x) := by
  show 0 + 1 ≤ Rows.uptoBulk (DataW.lit _)
  simp [Rows.uptoBulk]
theorem sum_zero (l : List UInt8) : (l.map fun _ => 0).sum = 0 := by
  induction l with
  | nil => rfl
  | cons c l ih => simp [ih]
section
variable {H : Type} {enc : TypeId × Value → H} {w : World} {base : Nat} {sp : Nat → Bool} {held : Bool} {r : Reach} {b0 : Nat} {v : Value} {d : DataW H} {ps : List MemPlace}
set_option maxRecDepth 100000 in
theorem open_bytesB (hval : Value.okWide Tryd.prog w r b0 23 v) (hd : DataW.Trod enc Tryd.prog w base sp held 23 v d ps) : ∃ l : List UInt8, BytesAt w v l ∧ l.length + 1 ≤ Rows.uptoBulk d := by
  obtain ⟨fuel, hf⟩ := hd
  obtain ⟨u, l, e, hs, hx⟩ := open_sliceE DB (x := (d, ps)) hf
  obtain ⟨a, n, c, rfl⟩ := okWide_slice (by kernel_rfl : Tryd.prog.underlying 23 = some (.slice 5)) hval
  obtain rfl : Value.slice a n c = u := by simpa [Value.cells] using e
  have := bulk_slice hx (fun _ => 0) bulk_byte
  rw [sum_zero] at this
  exact ⟨l, hs, by simpa using this⟩
end
end Go.Proofs.YtfiadgdinhmgbaaDoor
/-! A file tree as an argument. -/
namespace Go.Tr
mutual
/-- how large a tree is, as the row's bound asks it -/
def msz : T → Nat
  | .mk _ b l => 1 + b.length + mszL l
def mszL : List K → Nat
  | [] => 0
  | (n, t) :: l => 1 + n.length + msz t + mszL l
end
instance : Inhabited T := ⟨.mk 0 [] []⟩
end Go.Tr
namespace Go.Proofs.YtfiadgdinhmgbaaDoor
open Go.RowKit Pl Go.Agg Go.ChangeMaps Go.ChangeShapes Go.WideShapes Go.Tr
theorem bulkAll_leT {H : Type} : ∀ (ds : List (DataW H)) (ss : List Nat), ss.length = ds.length → (∀ (i : Nat) (s : Nat) (d : DataW H), ss[i]? = some s → ds[i]? = some d → s ≤ Rows.uptoBulk d) → ss.sum ≤ Rows.uptoBulkAll ds
  | [], [], _, _ => by simp [Rows.uptoBulkAll]
  | [], s :: ss, h, _ => by simp at h
  | d :: ds, [], h, _ => by simp at h
  | d :: ds, s :: ss, h, hb => by
    have h1 := bulkAll_leT ds ss (by simpa using h) (fun i s d hs hd => hb (i + 1) s d (by simpa using hs) (by simpa using hd))
    have h2 := hb 0 s d rfl rfl
    simp only [List.sum_cons, Rows.uptoBulkAll]; omega
section
variable {H : Type} {enc : TypeId × Value → H} {w : World} {base : Nat} {sp : Nat → Bool} {held : Bool} {r : Reach} {b0 : Nat} {v : Value} {d : DataW H} {ps : List MemPlace}
theorem nd_fields : (Tryd.prog.fieldsOf 26).toList.map (fun f => (f.name, f.type, f.offset)) = [("Kind", 22, 0), ("Bytes", 23, 1), ("Kids", 24, 2)] := by kernel_rfl
theorem kd_fields : (Tryd.prog.fieldsOf 51).toList.map (fun f => (f.name, f.type, f.offset)) = [("Name", 9, 0), ("Node", 26, 1)] := by kernel_rfl
theorem cells_nd : Tryd.prog.cellsOf 26 = 3 := by kernel_rfl
theorem cells_kd : Tryd.prog.cellsOf 51 = 4 := by kernel_rfl
theorem cells_kinds : Tryd.prog.cellsOf 22 = 1 := by kernel_rfl
theorem cells_bsT : Tryd.prog.cellsOf 23 = 1 := by kernel_rfl
theorem cells_kds : Tryd.prog.cellsOf 24 = 1 := by kernel_rfl
theorem cells_strT : Tryd.prog.cellsOf 9 = 1 := by kernel_rfl
theorem split2T {cs a b : List Value} {n m : Nat} (hl : cs.length = n + m) (h1 : (cs.drop 0).take n = a) (h2 : (cs.drop n).take m = b) : cs = a ++ b := by
  rw [← h1, ← h2, List.drop_zero, List.take_of_length_le (l := cs.drop n) (by rw [List.length_drop]; omega), List.take_append_drop]
theorem split3T {cs a b c : List Value} {n m k : Nat} (hl : cs.length = n + m + k) (h1 : (cs.drop 0).take n = a) (h2 : (cs.drop n).take m = b) (h3 : (cs.drop (n + m)).take k = c) : cs = a ++ (b ++ c) := by
  refine split2T (n := n) (m := m + k) (by omega) h1 ?_
  rw [← h2, ← h3, ← List.drop_drop]
  rw [List.take_of_length_le (l := (cs.drop n).drop m) (by simp only [List.length_drop]; omega), List.take_of_length_le (l := cs.drop n) (by simp only [List.length_drop]; omega), List.take_append_drop]
theorem kidsV_map {w : World} (f : Nat → KdV) (g : Nat → List UInt8 × T) : ∀ (L : List Nat), (∀ i ∈ L, (f i).1 = (g i).1 ∧ NodeV w (f i).2 (g i).2) → KidsV w (L.map f) (L.map g)
  | [], _ => trivial
  | i :: L, h => by
    have h1 := h i (by simp)
    exact ⟨h1.1, h1.2, kidsV_map f g L (fun j hj => h j (by simp [hj]))⟩
theorem mszL_sum (g : Nat → List UInt8 × T) : ∀ (L : List Nat), mszL (L.map g) = (L.map fun i => 1 + (g i).1.length + msz (g i).2).sum
  | [] => rfl
  | i :: L => by simp only [List.map_cons, mszL, List.sum_cons, mszL_sum g L]
set_option maxRecDepth 100000 in
theorem open_node_cells : ∀ (fuel : Nat) (cs : List Value) (x : DataW H × List MemPlace), DataW.trod enc Tryd.prog w base sp held fuel 26 cs = some x →
    ∃ (nd : NdV) (t : T), cs = (ndC nd).toList ∧ NodeV w nd t ∧ msz t ≤ Rows.uptoBulk x.1 := by
  intro fuel
  induction fuel using Nat.strongRecOn with
  | ind fuel ih =>
  intro cs x h
  obtain ⟨xs, m, rfl, hdd, hl, hx, ha⟩ := DataW.trod_struct nd_under h
  have hf := nd_fields
  generalize Tryd.prog.fieldsOf 26 = fs at *
  obtain ⟨fs⟩ := fs
  cases fs with
  | nil => exact absurd hf (by simp)
  | cons f1 fs =>
  cases fs with
  | nil => exact absurd hf (by simp)
  | cons f2 fs =>
  cases fs with
  | nil => exact absurd hf (by simp)
  | cons f3 fs =>
  cases fs with
  | cons f4 fs => exact absurd hf (by simp)
  | nil =>
  simp only [List.map_cons, List.map_nil, List.cons.injEq, Prod.mk.injEq, and_true] at hf
  obtain ⟨⟨a1, a2, a3⟩, ⟨b1, b2, b3⟩, c1, c2, c3⟩ := hf
  match xs, hx with
  | [x1, x2, x3], _ =>
  have h1 := ha 0 f1 rfl
  have h2 := ha 1 f2 rfl
  have h3 := ha 2 f3 rfl
  rw [a2, a3, cells_kinds] at h1
  rw [b2, b3, cells_bsT] at h2
  rw [c2, c3, cells_kds] at h3
  obtain ⟨kd, e1, e2, _⟩ := DataW.trod_int Tryd.underlying22 h1
  obtain ⟨vb, lb, e3, hs3, hx3⟩ := open_sliceE DB h2
  have k2 := bulk_slice hx3 (fun _ => 0) bulk_byte
  rw [sum_zero] at k2
  rw [cells_nd] at hl
  have hbulk : Rows.uptoBulk x.1 = 1 + (Rows.uptoBulk x1.1 + (Rows.uptoBulk x2.1 + (Rows.uptoBulk x3.1 + 0))) := by
    rw [hdd]; simp [Rows.uptoBulk, Rows.uptoBulkAll]; omega
  obtain ⟨pb, cb, hvb⟩ := hs3.form
  rcases DataW.trod_slice kds_under h3 with ⟨e5, e6⟩ | ⟨a, len, cap, elems, rest, n, e4, e5, e6, hb, hlc, hcm, hlen, hel, _, _⟩
  · have hcs := split3T (n := 1) (m := 1) (k := 1) hl e1 e3 e5
    refine ⟨(kd, ⟨vb, pb, _, cb, hvb⟩, svN), .mk kd lb [], hcs, ⟨rfl, hs3, [], SliceOf.nil _ _ _, trivial⟩, ?_⟩
    simp only [msz, mszL]
    omega
  · have hcs := split3T (n := 1) (m := 1) (k := 1) hl e1 e3 e5
    have each : ∀ i, i < len → ∃ b : KdV × (List UInt8 × T), (∀ j u, (kdC b.1)[j]? = some u → w.cell? ((a.add (i * 4)).add j) = some u) ∧ b.1.1 = b.2.1 ∧ NodeV w b.1.2 b.2.2 ∧ ∀ e, elems[i]? = some e → 1 + b.2.1.length + msz b.2.2 ≤ Rows.uptoBulk e.1 := fun i hi => by
      have hq := hel i hi
      rw [cells_kd] at hq
      obtain ⟨ei, hei⟩ : ∃ e, elems[i]? = some e := ⟨_, List.getElem?_eq_getElem (by omega)⟩
      rw [hei, Option.bind_eq_some_iff] at hq
      obtain ⟨cs', hc, ht⟩ := hq
      obtain ⟨ys, m2, rfl, hdd2, hl2, hy, ha2⟩ := DataW.trod_struct kd_under ht
      have hf2 := kd_fields
      generalize Tryd.prog.fieldsOf 51 = gs at *
      obtain ⟨gs⟩ := gs
      cases gs with
      | nil => exact absurd hf2 (by simp)
      | cons g1 gs =>
      cases gs with
      | nil => exact absurd hf2 (by simp)
      | cons g2 gs =>
      cases gs with
      | cons g3 gs => exact absurd hf2 (by simp)
      | nil =>
      simp only [List.map_cons, List.map_nil, List.cons.injEq, Prod.mk.injEq, and_true] at hf2
      obtain ⟨⟨p1, p2, p3⟩, q1, q2, q3⟩ := hf2
      match ys, hy with
      | [y1, y2], _ =>
      have j1 := ha2 0 g1 rfl
      have j2 := ha2 1 g2 rfl
      rw [p2, p3, cells_strT] at j1
      rw [q2, q3, cells_nd] at j2
      obtain ⟨s, r1, r2, _⟩ := DataW.trod_string Tryd.underlying9 j1
      obtain ⟨nd, t, r3, r4, r5⟩ := ih m2 (by omega) _ _ j2
      rw [cells_kd] at hl2
      have hcs' := split2T (n := 1) (m := 3) hl2 r1 r3
      obtain ⟨_, hcl, hat⟩ := World.cells?_some hc
      refine ⟨((s.data.toList, nd), (s.data.toList, t)), fun j u hj => ?_, rfl, r4, fun e he => ?_⟩
      · have hj4 : j < 4 := (Array.getElem?_eq_some_iff.1 hj).1
        rw [hat j hj4, hcs']
        rw [← Array.getElem?_toList] at hj
        exact hj
      · rw [hei] at he
        obtain rfl := Option.some.inj he
        rw [hdd2]
        simp only [List.map_cons, List.map_nil, Rows.uptoBulk, Rows.uptoBulkAll, r2]
        simp
        omega
    obtain ⟨f, hff⟩ := Go.Deep.choose_lt each
    refine ⟨(kd, ⟨vb, pb, _, cb, hvb⟩, ⟨.slice (some a) len cap, some a, len, cap, rfl⟩), .mk kd lb ((List.range len).map fun i => (f i).2), hcs, ⟨rfl, hs3, (List.range len).map fun i => (f i).1, ?_, kidsV_map _ _ _ (fun i hi => ⟨(hff i (List.mem_range.1 hi)).2.1, (hff i (List.mem_range.1 hi)).2.2.1⟩)⟩, ?_⟩
    · by_cases h0 : len = 0
      · subst h0; exact SliceOf.nil _ _ _
      · have hbl : a.block < w.heap.size := by
          have hc0 := (hff 0 (by omega)).1 0 _ rfl
          have := block_lt_of_cell hc0
          rwa [add_block, add_block] at this
        refine .inr ⟨a, cap, by simp, hbl, fun j u hj => ?_⟩
        obtain ⟨k, b, i, h1, h2, rfl⟩ := Elem.flat_all EK _ j u hj
        obtain ⟨hk, hkb⟩ := List.getElem?_eq_some_iff.1 h1
        have hkl : k < len := by simpa using hk
        have hfb : (f k).1 = b := by simpa using hkb
        subst hfb
        rw [← add_add]
        exact (hff k hkl).1 i u h2
    · simp only [msz]
      have hs := bulkAll_leT (elems.map (·.1)) ((List.range len).map fun i => 1 + (f i).2.1.length + msz (f i).2.2) (by simp [hlen]) (fun i s d hs hd => by
        obtain ⟨hi, rfl⟩ := List.getElem?_eq_some_iff.1 hs
        have hi' : i < len := by simpa using hi
        rw [List.getElem?_map, Option.map_eq_some_iff] at hd
        obtain ⟨e, he, rfl⟩ := hd
        simp only [List.getElem_map, List.getElem_range]
        exact (hff i hi').2.2.2 e he)
      rw [mszL_sum]
      have h3b : Rows.uptoBulk x3.1 = Rows.uptoBulk (DataW.slice (elems.map (·.1)) (rest.map (·.1)) : DataW H) := by rw [e6]
      simp only [Rows.uptoBulk] at h3b
      omega
set_option maxRecDepth 100000 in
theorem open_node (hval : Value.okWide Tryd.prog w r b0 26 v) (hd : DataW.Trod enc Tryd.prog w base sp held 26 v d ps) : ∃ t : T, NodeAt w v t ∧ msz t ≤ Rows.uptoBulk d := by
  obtain ⟨cs, rfl, _⟩ := okWide_struct nd_under hval
  obtain ⟨fuel, hfu⟩ := hd
  obtain ⟨nd, t, h1, h2, h3⟩ := open_node_cells fuel _ _ hfu
  refine ⟨t, ⟨nd, ?_, h2⟩, h3⟩
  have : cs = ndC nd := Array.ext' (by simpa [Value.cells] using h1)
  rw [this]
end
end Go.Proofs.YtfiadgdinhmgbaaDoor
