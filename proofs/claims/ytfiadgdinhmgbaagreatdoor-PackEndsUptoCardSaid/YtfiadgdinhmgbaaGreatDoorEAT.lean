/- Whether trees are one: spencekit.SameNode; tree.same, Equal. (Several texts in one.) -/
import Derived.Test.YtfiadgdinhmgbaaGreatDoorEAJ
import Derived.Test.YtfiadgdinhmgbaaGreatDoorEAH
import Derived.Test.YtfiadgdinhmgbaaGreatDoorShelf
import Derived.JoinedCond
import Derived.OpenShut
import Derived.Shelf.Vars
import Derived.Lib.UnsafeStr
import Derived.Test.YtfiadgdinhmgbaaGreatDoorRows
import Derived.Carry
import Derived.Deep.Slices
import Derived.Test.YtfiadgdinhmgbaaGreatDoorEAN
import Derived.Test.YtfiadgdinhmgbaaGreatDoorEAO
/-! spencekit.SameBytes. -/
namespace Go.Proofs.YtfiadgdinhmgbaaGreatDoor
open Go.RowKit Pl Go.Agg
theorem take_eq_succ {α : Type} {a b : List α} {k : Nat} {x y : α} (hx : a[k]? = some x) (hy : b[k]? = some y) (h : a.take k = b.take k) (hxy : x = y) : a.take (k + 1) = b.take (k + 1) := by
 rw [List.take_add_one, List.take_add_one, hx, hy, h, hxy]
theorem ne_at {α : Type} {a b : List α} {k : Nat} {x y : α} (hx : a[k]? = some x) (hy : b[k]? = some y) (hxy : x ≠ y) : a ≠ b := by
 rintro rfl
 exact hxy (Option.some.inj (hx.symm.trans hy))
theorem i64_nat {a b : Nat} (h : a = b) : Value.int .i64 (a : Int) = .int .i64 (b : Int) := by rw [h]
set_option maxRecDepth 100000 in
set_option maxHeartbeats 1000000 in
theorem sameBytes_any (v u : Value) (a b : List UInt8) (_ha : a.length ≤ 1048576) (hb : b.length ≤ 1048576) (w : World) (he : BytesAt w v a) (hf : BytesAt w u b) :
  Calls Tryz.prog 16 #[v, u] w fun e w' => e = .returned (.bool (decide (a = b))) ∧ Below w.heap.size w w' := by
 have hlv := fun W => bytes_len he W
 have hlu := fun W => bytes_len hf W
 have HE := Lib.hid he
 have HF := Lib.hid hf
 clear he hf
 by_cases hlen : a.length = b.length
 ·have hne : ((a.length : Int) != (b.length : Int)) = false := by simp [hlen]
  have HLEN := Lib.hid hlen
  rw [hlen] at hlv hne
  clear hlen
  go_enter Tryz.func16, Tryz.ntmps16
  go_wp2_with fail
  go_loopw [5] (fun i wr => ∃ k : Nat, k ≤ b.length ∧ i = .int .i64 k ∧ a.take k = b.take k ∧ Below w.heap.size w wr) (fun i _ => b.length - (intOf i).toNat)
  case atStart => exact ⟨0, by omega, rfl, rfl, Below.refl _ _⟩
  case round =>
   obtain ⟨w1, rfl⟩ : ∃ w1 : World, w1 = wr := ⟨_, rfl⟩
   obtain ⟨k, hk, rfl, htk, hw⟩ := hrel
   have HTK := Lib.hid htk
   clear htk
   by_cases hlt : k < b.length
   ·obtain ⟨y, hyk⟩ : ∃ y, b[k]? = some y := ⟨_, List.getElem?_eq_getElem hlt⟩
    obtain ⟨x, hxk⟩ : ∃ x, a[k]? = some x := ⟨_, List.getElem?_eq_getElem (by rw [HLEN.out]; exact hlt)⟩
    obtain ⟨p, hadr, hld⟩ := byte_at (HE.out.below hw) k x hxk
    obtain ⟨q, hadq, hlq⟩ := byte_at (HF.out.below hw) k y hyk
    have HLX := Lib.hid hld
    have HLY := Lib.hid hlq
    clear hld hlq
    have HX := Lib.hid hxk
    have HY := Lib.hid hyk
    clear hxk hyk
    by_cases hxy : x = y
    ·have HXY := Lib.hid hxy
     have hq : ((x.toNat : Int) != (y.toNat : Int)) = false := by simp [hxy]
     clear hxy
     go_wp2_with fail
     try simp only [Act.put, List.setIfInBounds_toArray, List.set_cons_succ, List.set_cons_zero]
     refine wp_region_later_lit (by kernel_rfl) (by kernel_rfl) ?_
     repeat (first | go_big_quiet_skip | ((first | (with_reducible refine wpQuiet_loadL HLX.out rfl _ rfl rfl ?_) | (with_reducible refine wpQuiet_loadL HLY.out rfl _ rfl rfl ?_)); simp only [Act.put, List.setIfInBounds_toArray, List.set_cons_succ, List.set_cons_zero]) | go_big_quiet_step (fail))
     refine wpQuiet_nil ?_
     intro _ hw'
     obtain ⟨x1, rfl⟩ := hw'
     go_wp2_with fail
     go_roundw
     case rel => exact ⟨k + 1, by omega, by go_num, take_eq_succ HX.out HY.out HTK.out HXY.out, belowThen hw (Nat.le_refl _) x1.h⟩
     case measure => simp [intOf]; omega
    ·have HXY := Lib.hid hxy
     have hq : ((x.toNat : Int) != (y.toNat : Int)) = true := by rw [bne_iff_ne]; intro e; exact hxy (UInt8.toNat_inj.1 (by omega))
     clear hxy
     go_wp2_with fail
     try simp only [Act.put, List.setIfInBounds_toArray, List.set_cons_succ, List.set_cons_zero]
     refine wp_region_later_lit (by kernel_rfl) (by kernel_rfl) ?_
     repeat (first | go_big_quiet_skip | ((first | (with_reducible refine wpQuiet_loadL HLX.out rfl _ rfl rfl ?_) | (with_reducible refine wpQuiet_loadL HLY.out rfl _ rfl rfl ?_)); simp only [Act.put, List.setIfInBounds_toArray, List.set_cons_succ, List.set_cons_zero]) | go_big_quiet_step (fail))
     refine wpQuiet_nil ?_
     intro _ hw'
     obtain ⟨x1, rfl⟩ := hw'
     have hres : decide (a = b) = false := by simpa using ne_at HX.out HY.out HXY.out
     have HR := Lib.hid hres
     clear hres
     go_wp2_with fail
     go_ret
     exact ⟨ret_bool HR.out.symm, belowThen hw (Nat.le_refl _) x1.h⟩
   ·obtain rfl : k = b.length := by omega
    have hres : decide (a = b) = true := by
     have := HTK.out
     rw [List.take_length, List.take_of_length_le (by rw [HLEN.out]; omega)] at this
     simpa using this
    have HR := Lib.hid hres
    clear hres
    go_wp2_with fail
    go_ret
    exact ⟨ret_bool HR.out.symm, hw⟩
 ·have hne : ((a.length : Int) != (b.length : Int)) = true := by rw [bne_iff_ne]; omega
  have hres : decide (a = b) = false := by simp; exact fun e => hlen (by rw [e])
  have HR := Lib.hid hres
  clear hres
  go_enter Tryz.func16, Tryz.ntmps16
  go_wp2_with fail
  go_ret
  exact ⟨ret_bool HR.out.symm, Below.refl _ _⟩
end Go.Proofs.YtfiadgdinhmgbaaGreatDoor
/-! A row's argument of bytes, read and laid again; the wrap for a row of the second form with the world's shape. -/
namespace Go.Agg
open Go.RowKit Go.ChangeShapes Go.WideShapes Go.ChangeAt
section
variable {H : Type} {enc : TypeId × Value → H} {P : Program} {w : World} {base : Nat} {sp : Nat → Bool} {held : Bool}
def byteData {H : Type} (l : List UInt8) : List (DataW H) := l.map fun c => .lit (.int .u8 (c.toNat : Int))
theorem open_bytes {t e : TypeId} {n fuel : Nat} {cs : List Value} {x : DataW H × List MemPlace} (ht : P.underlying t = some (.array n e)) (he : P.underlying e = some (.int .u8)) (hc : P.cellsOf e = 1) (hn : P.cellsOf t = n)
  (h : DataW.trod enc P w base sp held fuel t cs = some x) : ∃ l : List UInt8, l.length = n ∧ cs = Lib.byteCells l ∧ x = (.agg (byteData l), []) := by
 obtain ⟨xs, m, rfl, rfl, hl, hx, ha⟩ := DataW.trod_array ht h
 have key : ∀ i, i < n → ∃ c : UInt8, cs[i]? = some (.int .u8 (c.toNat : Int)) ∧ xs[i]? = some (.lit (.int .u8 (c.toNat : Int)), []) := fun i hi => by
  have hxi : xs[i]? = some xs[i] := List.getElem?_eq_getElem (by omega)
  have h1 := (ha i hi).trans hxi
  rw [hc] at h1
  obtain ⟨k, hk, hd, hw⟩ := DataW.trod_int he h1
  have hb := bounds_u8 hw
  refine ⟨UInt8.ofNat k.toNat, ?_, ?_⟩
  ·have : (cs.drop (i * 1)).take 1 = [.int .u8 k] := hk
   have h2 := congrArg (·[0]?) this
   simp at h2
   rw [h2]
   simp; omega
  ·rw [hxi, hd]
   simp; omega
 have hlen : cs.length = n := hl.trans hn
 refine ⟨cs.map fun | .int _ k => UInt8.ofNat k.toNat | _ => 0, by simp [hlen], ?_, ?_⟩
 ·refine List.ext_getElem? fun i => ?_
  by_cases hi : i < n
  ·obtain ⟨c, h1, _⟩ := key i hi
   simp [Lib.byteCells, h1]
  ·rw [List.getElem?_eq_none (by omega), List.getElem?_eq_none (by simp [Lib.byteCells]; omega)]
 ·have hfst : xs.map (·.1) = byteData (cs.map fun | .int _ k => UInt8.ofNat k.toNat | _ => 0) := by
   refine List.ext_getElem? fun i => ?_
   by_cases hi : i < n
   ·obtain ⟨c, h1, h2⟩ := key i hi
    simp [byteData, h1, h2]
   ·rw [List.getElem?_eq_none (by simp; omega), List.getElem?_eq_none (by simp [byteData]; omega)]
  have hsnd : xs.flatMap (·.2) = [] := by
   rw [List.flatMap_eq_nil_iff]
   intro y hy
   obtain ⟨i, hi, rfl⟩ := List.getElem_of_mem hy
   obtain ⟨c, _, h2⟩ := key i (by omega)
   rw [List.getElem?_eq_getElem hi] at h2
   rw [Option.some.inj h2]
  rw [hfst, hsnd]
theorem mapM_each {β : Type} {f : Nat → Option β} : ∀ (is : List Nat) (ys : List β), is.length = ys.length → (∀ (k i : Nat) (y : β), is[k]? = some i → ys[k]? = some y → f i = some y) → is.mapM f = some ys
 | [], [], _, _ => by simp
 | i :: is, y :: ys, hl, h => by
  have h0 := h 0 i y rfl rfl
  have ih := mapM_each (f := f) is ys (by simpa using hl) (fun k i y hi hy => h (k + 1) i y (by simpa using hi) (by simpa using hy))
  simp [List.mapM_cons, h0, ih]
 | [], _ :: _, hl, _ => by simp at hl
 | _ :: _, [], hl, _ => by simp at hl
theorem shut_bytes {t e : TypeId} {n : Nat} (ht : P.underlying t = some (.array n e)) (he : P.underlying e = some (.int .u8)) (hc : P.cellsOf e = 1) (hn : P.cellsOf t = n) (l : List UInt8) (hl : l.length = n) :
  DataW.trod enc P w base sp held 2 t (Lib.byteCells l) = some (.agg (byteData l), []) := by
 have hm : (List.range n).mapM (fun i => DataW.trod enc P w base sp held 1 e (((Lib.byteCells l).drop (i * P.cellsOf e)).take (P.cellsOf e))) = some (l.map fun c => ((.lit (.int .u8 (c.toNat : Int)) : DataW H), ([] : List MemPlace))) := by
  refine mapM_each _ _ (by simp [hl]) fun k i y hi hy => ?_
  obtain ⟨hk, rfl⟩ := List.getElem?_eq_some_iff.1 hi
  have hk' : k < l.length := by simpa [hl] using hk
  obtain rfl : y = (.lit (.int .u8 (l[k].toNat : Int)), []) := by simpa [hk', eq_comm] using hy
  have : ((Lib.byteCells l).drop (k * 1)).take 1 = [.int .u8 (l[k].toNat : Int)] := by
   apply List.ext_getElem?
   intro j
   cases j with
   | zero => simp [Lib.byteCells, hk']
   | succ j => simp; omega
  rw [List.getElem_range, hc, this]
  have hlt := l[k].toNat_lt
  simp only [DataW.trod, he]
  rw [if_pos ⟨trivial, by simp [Lit.wf, IntKind.min, IntKind.max, IntKind.signed, IntKind.bits]; omega⟩]
 have hcl : (Lib.byteCells l).length = P.cellsOf t := by simp [Lib.byteCells, hl, hn]
 unfold DataW.trod
 rw [ht]
 split <;> simp_all
 ·simp [byteData]
end
theorem post_below {H : Type} {enc : TypeId × Value → H} {P : Program} {f : Func} {s : ChangeSpec} {apart fresh handsOn again : Bool} {W W' : World} {args : Array Value} {v : Value} {ds gs : List (DataW H)} {before pa pv : List MemPlace}
  (hW : DataW.Whole enc P f.params.toList s.vars apart W args.toList ds gs before)
  (hres : ∀ (b : Nat) (sp : Nat → Bool) (hd : Bool), DataW.TrodAll enc P W' b sp hd f.resultTypes.toList (v.resultList f.resultTypes.size) (s.fn H (ds ++ gs)).results [])
  (hargs : ∀ sp : Nat → Bool, (∀ p ∈ before, sp p.block = true) → DataW.TrodAll enc P W' 0 sp true f.params.toList args.toList (s.fn H (ds ++ gs)).args pa)
  (hvars : ∀ sp : Nat → Bool, (∀ p ∈ before, sp p.block = true) → DataW.TrodVars enc P W' sp s.vars (s.fn H (ds ++ gs)).vars pv)
  (hps : before = pa ++ pv) (hg : Below W.heap.size W W')
  (hok : ∀ (j : Nat) (t : TypeId) (r : Value), f.resultTypes[j]? = some t → (v.resultList f.resultTypes.size)[j]? = some r → Value.okWide P W' .any 0 t r) :
  s.post enc P f apart fresh handsOn again W args v W' := by
 have hold : ∀ p ∈ before, (fun b => decide (b < W.heap.size)) p.block = true := fun p hp => by simpa using hW.lt p hp
 refine ⟨ds, gs, before, [], pa, pv, hW, hres _ _ _, hargs _ hold, hvars _ hold, World.keptBut_mono (fun p hp => ⟨hp, ?_⟩) (hg.frame (· ∈ before)), fun _ => ?_⟩
 ·rw [hps, List.mem_append] at hp
  exact Or.inr hp
 ·have hlt := hW.lt
  obtain ⟨_, _, _, _, _, hz, hn⟩ := hW
  refine ⟨hok, _, _, ([] ++ pa) ++ pv, ⟨[] ++ pa, pv, trodAll_append (hargs _ (fun _ _ => rfl)) (hres _ _ _), hvars _ (fun _ _ => rfl), rfl, ?_, ?_⟩, ?_⟩
  ·intro b off hp
   have hp' : MemPlace.cell b off ∈ before := by rw [hps]; simpa using hp
   rw [hg.frozen (hlt _ hp')]
   exact hz b off hp'
  ·intro ha
   have := hn ha
   rw [hps] at this
   simpa using this
  ·intro p hp _
   rw [hps]
   simpa using hp
theorem handed_cond_shaped {H : Type} {enc : TypeId × Value → H} {a : Assume} {C : Checked} {os : Os} {f : FuncId} {fn : Func} {s : OpenSpec} {k : (H : Type) → List (DataW H) → Bool} (hk : s.cond = some k) {F : Stop.Interp} {conds : List PathCond} {apart fresh handsOn again : Bool}
  (own : ownKnob C.prog.godebug = none) (started : os.Started) (noInit : C.prog.inits.idxOf? f = none) (hfn : C.prog.funcs[f]? = some fn)
  (witness : ∃ (w : World) (tape : Tape) (i : Input), w.os = os ∧ (w.forCall tape i).Shaped C.prog ∧ i.vars = [] ∧ Input.okWide C.prog (w.forCall tape i) .any w.heap.size f i ∧
   s.pre6 enc C.prog fn conds apart (w.forCall tape i).memory i.args ∧ a.holds C.prog (lone (Frame.enter C.prog f i.args .normal) [] (w.forCall tape i)))
  (contract : ∀ (W : World) (base : Nat) (args : Array Value) (ds gs : List (DataW H)) (before : List MemPlace),
   (∀ (j : Nat) t v, fn.params[j]? = some t → args[j]? = some v → Value.okWide C.prog W .any base t v) →
   DataW.Whole enc C.prog fn.params.toList s.vars apart W args.toList ds gs before → k H (ds ++ gs) = true → W.ShapedOpen C.prog →
   Calls C.prog f args W fun e W' => ∃ v, e = .returned v ∧ (s.at F).post enc C.prog fn apart fresh handsOn again W args v W') :
  ReturnsInHanded a C os f .any (s.pre6 enc C.prog fn conds apart) ((s.at F).post enc C.prog fn apart fresh handsOn again) := by
 refine returnsInHanded_of_calls own started noInit witness ?_
 intro w tape i _ hsh _ hok hpre _
 obtain ⟨_, _, _, fn', hfn', _, _, _, _, hval⟩ := hok
 obtain rfl : fn' = fn := Option.some.inj (hfn'.symm.trans hfn)
 obtain ⟨ds, gs, before, hw, _, hkk⟩ := (OpenSpec.pre_some hk conds apart _ _).1 hpre.1
 refine (contract (w.forCall tape i) w.heap.size i.args ds gs before hval (DataW.Whole.of_heap (w' := w.forCall tape i) (by rfl) hw) hkk hsh).mono fun e W' ⟨v, he, hp⟩ => ?_
 subst he
 exact ChangeSpec.post_blind hp
end Go.Agg
/-! A law that returns true and keeps all that was there: its row's proof; slices, bytes as arguments. -/
namespace Go.Agg
open Go.RowKit Go.ChangeShapes Go.WideShapes Go.ChangeAt
section
variable {H : Type} {enc : TypeId × Value → H} {P : Program}
theorem trodAll_stays (hl : laidOutB P = true) : ∀ {ts : List TypeId}, (∀ t ∈ ts, P.readableRec t = true ∧ t < P.types.size) → ∀ {W W' : World} {base : Nat} {sp' : Nat → Bool} {vs : List Value} {ds : List (DataW H)} {ps : List MemPlace},
  DataW.TrodAll enc P W base (fun _ => true) true ts vs ds ps → (∀ p ∈ ps, W.sameAt W' p) → (∀ p ∈ ps, sp' p.block = true) → DataW.TrodAll enc P W' base sp' true ts vs ds ps
 | [], _, _, _, _, _, _, _, _, h, _, _ => by
  obtain ⟨rfl, rfl, rfl⟩ := trodAll_nil h
  exact trodAll_mk0
 | t :: ts, hr, _, _, _, _, _, _, _, h, hs, hp => by
  obtain ⟨v, vs', d, ds', p, q, rfl, rfl, rfl, h1, h2⟩ := trodAll_cons h
  exact trodAll_cons_mk (WideElems.Trod_stays hl (hr t (by simp)).1 (hr t (by simp)).2 h1 (fun x hx => hs x (by simp [hx])) (fun x hx => hp x (by simp [hx])))
   (trodAll_stays hl (fun t ht => hr t (by simp [ht])) h2 (fun x hx => hs x (by simp [hx])) (fun x hx => hp x (by simp [hx])))
theorem post_law {f : Func} {s : ChangeSpec} {apart fresh handsOn again : Bool} {W W' : World} {args : Array Value} {ds gs : List (DataW H)} {before : List MemPlace} {bt : TypeId}
  (hW : DataW.Whole enc P f.params.toList s.vars apart W args.toList ds gs before) (hv : s.vars = []) (hl : laidOutB P = true) (hr : ∀ t ∈ f.params.toList, P.readableRec t = true ∧ t < P.types.size)
  (hfr : (s.fn H (ds ++ gs)).results = [.lit (.bool true)]) (hfa : (s.fn H (ds ++ gs)).args = ds) (hfv : (s.fn H (ds ++ gs)).vars = []) (hrt : f.resultTypes = #[bt]) (hbt : P.underlying bt = some .bool) (hg : Below W.heap.size W W') :
  s.post enc P f apart fresh handsOn again W args (.bool true) W' := by
 obtain ⟨p, q, hA, hV, rfl, hfz, hnd⟩ := id hW
 rw [hv] at hV
 obtain ⟨rfl, rfl⟩ := trodVars_none hV
 have hlt := hW.lt
 have hst : ∀ sp : Nat → Bool, (∀ x ∈ p ++ [], sp x.block = true) → DataW.TrodAll enc P W' 0 sp true f.params.toList args.toList ds p := fun sp hsp =>
  trodAll_stays hl hr hA (fun x hx => hg.same (hlt x (by simp [hx]))) (fun x hx => hsp x (by simp [hx]))
 refine post_below (pa := p) (pv := []) hW ?_ (fun sp hsp => by rw [hfa]; exact hst sp hsp) (fun sp hsp => by rw [hfv, hv]; rfl) rfl hg ?_
 ·intro b sp hd
  rw [hfr, hrt]
  exact trodAll_mk1 (shut_bool hbt _)
 ·exact ok_one hrt rfl (okWide_bool_mk hbt _)
end
structure ElemD (P : Program) (α : Type) extends Elem P α where
 cellsOf : P.cellsOf ty = n
 data : (H : Type) → α → DataW H
 open_ : ∀ (H : Type) (enc : TypeId × Value → H) (w : World) (base : Nat) (sp : Nat → Bool) (held : Bool) (fuel : Nat) (cs : List Value) (x : DataW H × List MemPlace),
  DataW.trod enc P w base sp held fuel ty cs = some x → ∃ a, cs = (val a).cells.toList ∧ x = (data H a, [])
theorem open_sliceE {P : Program} {α : Type} [Inhabited α] (E : ElemD P α) {H : Type} {enc : TypeId × Value → H} {w : World} {base : Nat} {sp : Nat → Bool} {held : Bool} {fuel : Nat} {cs : List Value} {x : DataW H × List MemPlace}
  (h : DataW.trod enc P w base sp held fuel E.st cs = some x) : ∃ (v : Value) (l : List α), cs = [v] ∧ SliceOf E.toElem w v l ∧ ((l = [] ∧ x.1 = .nil) ∨ ∃ rest, x.1 = .slice (l.map (E.data H)) rest) := by
 rcases Go.Deep.open_slice E.slice h with ⟨rfl, rfl⟩ | ⟨a, len, cap, m, n, D, Pl, rfl, _, hlc, _, hm, rfl, hel⟩
 ·exact ⟨_, [], rfl, SliceOf.nil _ _ _, .inl ⟨rfl, rfl⟩⟩
 ·have hlm : len ≤ m := by rw [hm]; split <;> omega
  have each : ∀ i, i < len → ∃ b : α, (∀ j u, (E.val b).cells[j]? = some u → w.cell? ((a.add (i * E.n)).add j) = some u) ∧ D i = E.data H b := fun i hi => by
   obtain ⟨cs', hc, ht⟩ := hel i (by omega)
   rw [E.cellsOf] at hc
   obtain ⟨b, rfl, hx⟩ := E.open_ H enc w base sp held n cs' _ ht
   obtain ⟨_, hcl, hat⟩ := World.cells?_some hc
   refine ⟨b, fun j u hj => ?_, congrArg Prod.fst hx⟩
   have hjn : j < E.n := by have := (Array.getElem?_eq_some_iff.1 hj).1; rw [E.size] at this; exact this
   rw [hat j hjn]
   simpa using hj
  obtain ⟨f, hf⟩ := Go.Deep.choose_lt each
  refine ⟨_, (List.range len).map f, rfl, ?_, .inr ⟨(List.range (m - len)).map fun j => D (len + j), ?_⟩⟩
  ·by_cases h0 : len = 0
   ·subst h0; exact SliceOf.nil _ _ _
   ·have hb : a.block < w.heap.size := by
     have hpos := E.pos
     have hc0 := (hf 0 (by omega)).1 0 _ (Array.getElem?_eq_getElem (by rw [E.size]; exact hpos))
     have := block_lt_of_cell hc0
     rwa [add_block, add_block] at this
    refine .inr ⟨a, cap, by simp, hb, fun j u hj => ?_⟩
    obtain ⟨k, b, i, h1, h2, rfl⟩ := Elem.flat_all E.toElem _ j u hj
    obtain ⟨hk, hkb⟩ := List.getElem?_eq_some_iff.1 h1
    have hkl : k < len := by simpa using hk
    have hfb : f k = b := by simpa using hkb
    subst hfb
    rw [← add_add]
    exact (hf k hkl).1 i u h2
  ·simp only [List.map_map]
   congr 1
   refine List.map_congr_left fun i hi => ?_
   exact (hf i (List.mem_range.1 hi)).2
end Go.Agg
namespace Go.Proofs.YtfiadgdinhmgbaaGreatDoor
open Go.RowKit Go.Agg Go.ChangeMaps Go.ChangeShapes Go.WideShapes
theorem own : ownKnob Tryz.prog.godebug = none := by kernel_rfl
theorem cells_byte : Tryz.prog.cellsOf 5 = 1 := by kernel_rfl
theorem laidOut : laidOutB Tryz.prog = true := by kernel_rfl
theorem bulkAll_append {H : Type} (a b : List (DataW H)) : Rows.uptoBulkAll (a ++ b) = Rows.uptoBulkAll a + Rows.uptoBulkAll b := by
 induction a with
 | nil => simp [Rows.uptoBulkAll]
 | cons d a ih => simp only [List.cons_append, Rows.uptoBulkAll, ih]; omega
theorem bulkAll_map {H : Type} {α : Type} (f : α → DataW H) (sz : α → Nat) (h : ∀ a, sz a + 1 ≤ Rows.uptoBulk (f a)) (l : List α) : (l.map sz).sum + l.length ≤ Rows.uptoBulkAll (l.map f) := by
 induction l with
 | nil => simp [Rows.uptoBulkAll]
 | cons a l ih =>
  have := h a
  simp only [List.map_cons, List.sum_cons, List.length_cons, Rows.uptoBulkAll]; omega
theorem bulk_slice {H : Type} {α : Type} {x : DataW H} {l : List α} {f : α → DataW H} (hx : (l = [] ∧ x = .nil) ∨ ∃ rest, x = .slice (l.map f) rest) (sz : α → Nat) (h : ∀ a, sz a + 1 ≤ Rows.uptoBulk (f a)) : (l.map sz).sum + l.length + 1 ≤ Rows.uptoBulk x := by
 rcases hx with ⟨rfl, rfl⟩ | ⟨rest, rfl⟩
 ·simp [Rows.uptoBulk]
 ·have := bulkAll_map f sz h l
  simp only [Rows.uptoBulk]; omega
def DB : ElemD Tryz.prog UInt8 where
 toElem := EB
 cellsOf := cells_byte
 data := fun _ c => .lit (.int .u8 (c.toNat : Int))
 open_ := fun H enc w base sp held fuel cs x h => by
  obtain ⟨k, rfl, e2, hw⟩ := DataW.trod_int Tryz.underlying5 h
  have hb := bounds_u8 hw
  refine ⟨UInt8.ofNat k.toNat, ?_, ?_⟩
  ·have : ((UInt8.ofNat k.toNat).toNat : Int) = k := by simp; omega
   show [Value.int .u8 k] = [Value.int .u8 ((UInt8.ofNat k.toNat).toNat : Int)]
   rw [this]
  ·have : ((UInt8.ofNat k.toNat).toNat : Int) = k := by simp; omega
   rw [e2, this]
theorem bulk_byte {H : Type} (x : UInt8) : 0 + 1 ≤ Rows.uptoBulk (DB.data H x) := by
 show 0 + 1 ≤ Rows.uptoBulk (DataW.lit _)
 simp [Rows.uptoBulk]
theorem sum_zero (l : List UInt8) : (l.map fun _ => 0).sum = 0 := by
 induction l with
 | nil => rfl
 | cons c l ih => simp [ih]
section
variable {H : Type} {enc : TypeId × Value → H} {w : World} {base : Nat} {sp : Nat → Bool} {held : Bool} {r : Reach} {b0 : Nat} {v : Value} {d : DataW H} {ps : List MemPlace}
set_option maxRecDepth 100000 in
theorem open_bytesB (hval : Value.okWide Tryz.prog w r b0 23 v) (hd : DataW.Trod enc Tryz.prog w base sp held 23 v d ps) : ∃ l : List UInt8, BytesAt w v l ∧ l.length + 1 ≤ Rows.uptoBulk d := by
 obtain ⟨fuel, hf⟩ := hd
 obtain ⟨u, l, e, hs, hx⟩ := open_sliceE DB (x := (d, ps)) hf
 obtain ⟨a, n, c, rfl⟩ := okWide_slice (by kernel_rfl : Tryz.prog.underlying 23 = some (.slice 5)) hval
 obtain rfl : Value.slice a n c = u := by simpa [Value.cells] using e
 have := bulk_slice hx (fun _ => 0) bulk_byte
 rw [sum_zero] at this
 exact ⟨l, hs, by simpa using this⟩
end
end Go.Proofs.YtfiadgdinhmgbaaGreatDoor
/-! A file tree as an argument. -/
namespace Go.Tr
mutual
def msz : T → Nat
 | .mk _ b l => 1 + b.length + mszL l
def mszL : List K → Nat
 | [] => 0
 | (n, t) :: l => 1 + n.length + msz t + mszL l
end
instance : Inhabited T := ⟨.mk 0 [] []⟩
end Go.Tr
namespace Go.Proofs.YtfiadgdinhmgbaaGreatDoor
open Go.RowKit Pl Go.Agg Go.ChangeMaps Go.ChangeShapes Go.WideShapes Go.Tr
theorem bulkAll_leT {H : Type} : ∀ (ds : List (DataW H)) (ss : List Nat), ss.length = ds.length → (∀ (i : Nat) (s : Nat) (d : DataW H), ss[i]? = some s → ds[i]? = some d → s ≤ Rows.uptoBulk d) → ss.sum ≤ Rows.uptoBulkAll ds
 | [], [], _, _ => by simp [Rows.uptoBulkAll]
 | [], s :: ss, h, _ => by simp at h
 | d :: ds, [], h, _ => by simp at h
 | d :: ds, s :: ss, h, hb => by
  have h1 := bulkAll_leT ds ss (by simpa using h) (fun i s d hs hd => hb (i + 1) s d (by simpa using hs) (by simpa using hd))
  have h2 := hb 0 s d rfl rfl
  simp only [List.sum_cons, Rows.uptoBulkAll]; omega
section
variable {H : Type} {enc : TypeId × Value → H} {w : World} {base : Nat} {sp : Nat → Bool} {held : Bool} {r : Reach} {b0 : Nat} {v : Value} {d : DataW H} {ps : List MemPlace}
theorem nd_fields : (Tryz.prog.fieldsOf 26).toList.map (fun f => (f.name, f.type, f.offset)) = [("Kind", 22, 0), ("Bytes", 23, 1), ("Kids", 24, 2)] := by kernel_rfl
theorem kd_fields : (Tryz.prog.fieldsOf 28).toList.map (fun f => (f.name, f.type, f.offset)) = [("Name", 9, 0), ("Node", 26, 1)] := by kernel_rfl
theorem cells_nd : Tryz.prog.cellsOf 26 = 3 := by kernel_rfl
theorem cells_kd : Tryz.prog.cellsOf 28 = 4 := by kernel_rfl
theorem cells_kinds : Tryz.prog.cellsOf 22 = 1 := by kernel_rfl
theorem cells_bsT : Tryz.prog.cellsOf 23 = 1 := by kernel_rfl
theorem cells_kds : Tryz.prog.cellsOf 24 = 1 := by kernel_rfl
theorem cells_strT : Tryz.prog.cellsOf 9 = 1 := by kernel_rfl
theorem split2T {cs a b : List Value} {n m : Nat} (hl : cs.length = n + m) (h1 : (cs.drop 0).take n = a) (h2 : (cs.drop n).take m = b) : cs = a ++ b := by
 rw [← h1, ← h2, List.drop_zero, List.take_of_length_le (l := cs.drop n) (by rw [List.length_drop]; omega), List.take_append_drop]
theorem split3T {cs a b c : List Value} {n m k : Nat} (hl : cs.length = n + m + k) (h1 : (cs.drop 0).take n = a) (h2 : (cs.drop n).take m = b) (h3 : (cs.drop (n + m)).take k = c) : cs = a ++ (b ++ c) := by
 refine split2T (n := n) (m := m + k) (by omega) h1 ?_
 rw [← h2, ← h3, ← List.drop_drop]
 rw [List.take_of_length_le (l := (cs.drop n).drop m) (by simp only [List.length_drop]; omega), List.take_of_length_le (l := cs.drop n) (by simp only [List.length_drop]; omega), List.take_append_drop]
theorem kidsV_map {w : World} (f : Nat → KdV) (g : Nat → List UInt8 × T) : ∀ (L : List Nat), (∀ i ∈ L, (f i).1 = (g i).1 ∧ NodeV w (f i).2 (g i).2) → KidsV w (L.map f) (L.map g)
 | [], _ => trivial
 | i :: L, h => by
  have h1 := h i (by simp)
  exact ⟨h1.1, h1.2, kidsV_map f g L (fun j hj => h j (by simp [hj]))⟩
theorem mszL_sum (g : Nat → List UInt8 × T) : ∀ (L : List Nat), mszL (L.map g) = (L.map fun i => 1 + (g i).1.length + msz (g i).2).sum
 | [] => rfl
 | i :: L => by simp only [List.map_cons, mszL, List.sum_cons, mszL_sum g L]
set_option maxRecDepth 100000 in
theorem open_node_cells : ∀ (fuel : Nat) (cs : List Value) (x : DataW H × List MemPlace), DataW.trod enc Tryz.prog w base sp held fuel 26 cs = some x →
  ∃ (nd : NdV) (t : T), cs = (ndC nd).toList ∧ NodeV w nd t ∧ msz t ≤ Rows.uptoBulk x.1 := by
 intro fuel
 induction fuel using Nat.strongRecOn with
 | ind fuel ih =>
 intro cs x h
 obtain ⟨xs, m, rfl, hdd, hl, hx, ha⟩ := DataW.trod_struct nd_under h
 have hf := nd_fields
 generalize Tryz.prog.fieldsOf 26 = fs at *
 obtain ⟨fs⟩ := fs
 cases fs with
 | nil => exact absurd hf (by simp)
 | cons f1 fs =>
 cases fs with
 | nil => exact absurd hf (by simp)
 | cons f2 fs =>
 cases fs with
 | nil => exact absurd hf (by simp)
 | cons f3 fs =>
 cases fs with
 | cons f4 fs => exact absurd hf (by simp)
 | nil =>
 simp only [List.map_cons, List.map_nil, List.cons.injEq, Prod.mk.injEq, and_true] at hf
 obtain ⟨⟨a1, a2, a3⟩, ⟨b1, b2, b3⟩, c1, c2, c3⟩ := hf
 match xs, hx with
 | [x1, x2, x3], _ =>
 have h1 := ha 0 f1 rfl
 have h2 := ha 1 f2 rfl
 have h3 := ha 2 f3 rfl
 rw [a2, a3, cells_kinds] at h1
 rw [b2, b3, cells_bsT] at h2
 rw [c2, c3, cells_kds] at h3
 obtain ⟨kd, e1, e2, _⟩ := DataW.trod_int Tryz.underlying22 h1
 obtain ⟨vb, lb, e3, hs3, hx3⟩ := open_sliceE DB h2
 have k2 := bulk_slice hx3 (fun _ => 0) bulk_byte
 rw [sum_zero] at k2
 rw [cells_nd] at hl
 have hbulk : Rows.uptoBulk x.1 = 1 + (Rows.uptoBulk x1.1 + (Rows.uptoBulk x2.1 + (Rows.uptoBulk x3.1 + 0))) := by
  rw [hdd]; simp [Rows.uptoBulk, Rows.uptoBulkAll]; omega
 obtain ⟨pb, cb, hvb⟩ := hs3.form
 rcases DataW.trod_slice kds_under h3 with ⟨e5, e6⟩ | ⟨a, len, cap, elems, rest, n, e4, e5, e6, hb, hlc, hcm, hlen, hel, _, _⟩
 ·have hcs := split3T (n := 1) (m := 1) (k := 1) hl e1 e3 e5
  refine ⟨(kd, ⟨vb, pb, _, cb, hvb⟩, svN), .mk kd lb [], hcs, ⟨rfl, hs3, [], SliceOf.nil _ _ _, trivial⟩, ?_⟩
  simp only [msz, mszL]
  omega
 ·have hcs := split3T (n := 1) (m := 1) (k := 1) hl e1 e3 e5
  have each : ∀ i, i < len → ∃ b : KdV × (List UInt8 × T), (∀ j u, (kdC b.1)[j]? = some u → w.cell? ((a.add (i * 4)).add j) = some u) ∧ b.1.1 = b.2.1 ∧ NodeV w b.1.2 b.2.2 ∧ ∀ e, elems[i]? = some e → 1 + b.2.1.length + msz b.2.2 ≤ Rows.uptoBulk e.1 := fun i hi => by
   have hq := hel i hi
   rw [cells_kd] at hq
   obtain ⟨ei, hei⟩ : ∃ e, elems[i]? = some e := ⟨_, List.getElem?_eq_getElem (by omega)⟩
   rw [hei, Option.bind_eq_some_iff] at hq
   obtain ⟨cs', hc, ht⟩ := hq
   obtain ⟨ys, m2, rfl, hdd2, hl2, hy, ha2⟩ := DataW.trod_struct kd_under ht
   have hf2 := kd_fields
   generalize Tryz.prog.fieldsOf 28 = gs at *
   obtain ⟨gs⟩ := gs
   cases gs with
   | nil => exact absurd hf2 (by simp)
   | cons g1 gs =>
   cases gs with
   | nil => exact absurd hf2 (by simp)
   | cons g2 gs =>
   cases gs with
   | cons g3 gs => exact absurd hf2 (by simp)
   | nil =>
   simp only [List.map_cons, List.map_nil, List.cons.injEq, Prod.mk.injEq, and_true] at hf2
   obtain ⟨⟨p1, p2, p3⟩, q1, q2, q3⟩ := hf2
   match ys, hy with
   | [y1, y2], _ =>
   have j1 := ha2 0 g1 rfl
   have j2 := ha2 1 g2 rfl
   rw [p2, p3, cells_strT] at j1
   rw [q2, q3, cells_nd] at j2
   obtain ⟨s, r1, r2, _⟩ := DataW.trod_string Tryz.underlying9 j1
   obtain ⟨nd, t, r3, r4, r5⟩ := ih m2 (by omega) _ _ j2
   rw [cells_kd] at hl2
   have hcs' := split2T (n := 1) (m := 3) hl2 r1 r3
   obtain ⟨_, hcl, hat⟩ := World.cells?_some hc
   refine ⟨((s.data.toList, nd), (s.data.toList, t)), fun j u hj => ?_, rfl, r4, fun e he => ?_⟩
   ·have hj4 : j < 4 := (Array.getElem?_eq_some_iff.1 hj).1
    rw [hat j hj4, hcs']
    rw [← Array.getElem?_toList] at hj
    exact hj
   ·rw [hei] at he
    obtain rfl := Option.some.inj he
    rw [hdd2]
    simp only [List.map_cons, List.map_nil, Rows.uptoBulk, Rows.uptoBulkAll, r2]
    simp
    omega
  obtain ⟨f, hff⟩ := Go.Deep.choose_lt each
  refine ⟨(kd, ⟨vb, pb, _, cb, hvb⟩, ⟨.slice (some a) len cap, some a, len, cap, rfl⟩), .mk kd lb ((List.range len).map fun i => (f i).2), hcs, ⟨rfl, hs3, (List.range len).map fun i => (f i).1, ?_, kidsV_map _ _ _ (fun i hi => ⟨(hff i (List.mem_range.1 hi)).2.1, (hff i (List.mem_range.1 hi)).2.2.1⟩)⟩, ?_⟩
  ·by_cases h0 : len = 0
   ·subst h0; exact SliceOf.nil _ _ _
   ·have hbl : a.block < w.heap.size := by
     have hc0 := (hff 0 (by omega)).1 0 _ rfl
     have := block_lt_of_cell hc0
     rwa [add_block, add_block] at this
    refine .inr ⟨a, cap, by simp, hbl, fun j u hj => ?_⟩
    obtain ⟨k, b, i, h1, h2, rfl⟩ := Elem.flat_all EK _ j u hj
    obtain ⟨hk, hkb⟩ := List.getElem?_eq_some_iff.1 h1
    have hkl : k < len := by simpa using hk
    have hfb : (f k).1 = b := by simpa using hkb
    subst hfb
    rw [← add_add]
    exact (hff k hkl).1 i u h2
  ·simp only [msz]
   have hs := bulkAll_leT (elems.map (·.1)) ((List.range len).map fun i => 1 + (f i).2.1.length + msz (f i).2.2) (by simp [hlen]) (fun i s d hs hd => by
    obtain ⟨hi, rfl⟩ := List.getElem?_eq_some_iff.1 hs
    have hi' : i < len := by simpa using hi
    rw [List.getElem?_map, Option.map_eq_some_iff] at hd
    obtain ⟨e, he, rfl⟩ := hd
    simp only [List.getElem_map, List.getElem_range]
    exact (hff i hi').2.2.2 e he)
   rw [mszL_sum]
   have h3b : Rows.uptoBulk x3.1 = Rows.uptoBulk (DataW.slice (elems.map (·.1)) (rest.map (·.1)) : DataW H) := by rw [e6]
   simp only [Rows.uptoBulk] at h3b
   omega
set_option maxRecDepth 100000 in
theorem open_node (hval : Value.okWide Tryz.prog w r b0 26 v) (hd : DataW.Trod enc Tryz.prog w base sp held 26 v d ps) : ∃ t : T, NodeAt w v t ∧ msz t ≤ Rows.uptoBulk d := by
 obtain ⟨cs, rfl, _⟩ := okWide_struct nd_under hval
 obtain ⟨fuel, hfu⟩ := hd
 obtain ⟨nd, t, h1, h2, h3⟩ := open_node_cells fuel _ _ hfu
 refine ⟨t, ⟨nd, ?_, h2⟩, h3⟩
 have : cs = ndC nd := Array.ext' (by simpa [Value.cells] using h1)
 rw [this]
end
end Go.Proofs.YtfiadgdinhmgbaaGreatDoor
/-! Whether trees are one: spencekit.SameNode; tree.same, Equal. -/
namespace Go.Tr
theorem bytes_msz (k : Int) (b : List UInt8) (l : List K) : b.length ≤ msz (.mk k b l) := by simp only [msz]; omega
theorem len_mszL : ∀ (l : List K), l.length ≤ mszL l
 | [] => by simp [mszL]
 | (n, t) :: l => by have := len_mszL l; simp only [List.length_cons, mszL]; omega
theorem kids_msz (k : Int) (b : List UInt8) (l : List K) : l.length ≤ msz (.mk k b l) := by have := len_mszL l; simp only [msz]; omega
theorem mem_mszL : ∀ {l : List K} {x : K}, x ∈ l → x.1.length + msz x.2 ≤ mszL l
 | (n, t) :: l, x, h => by
  rcases List.mem_cons.1 h with rfl | h
  ·simp only [mszL]; omega
  ·have := mem_mszL h; simp only [mszL]; omega
theorem kid_msz {k : Int} {b : List UInt8} {l : List K} {x : K} (h : x ∈ l) : msz x.2 ≤ msz (.mk k b l) := by have := mem_mszL h; simp only [msz]; omega
theorem take_snocE {l m : List K} {k : Nat} {x y : K} (hx : l[k]? = some x) (hy : m[k]? = some y) (h : l.take k = m.take k) (hxy : x = y) : l.take (k + 1) = m.take (k + 1) := by
 rw [take_succ' hx, take_succ' hy, h, hxy]
instance : DecidableEq T := fun a b => decidable_of_iff _ (same_iff a b)
theorem same_dec (t u : T) : same t u = decide (t = u) := by
 rw [Bool.eq_iff_iff, same_iff, decide_eq_true_iff]
theorem sameL_dec (l m : List K) : sameL l m = decide (l = m) := by
 rw [Bool.eq_iff_iff, sameL_iff, decide_eq_true_iff]
end Go.Tr
namespace Go.Proofs.YtfiadgdinhmgbaaGreatDoor
open Go.RowKit Pl Go.Agg Go.Tr
theorem KdB.of {w : World} {g : Nat} {y : KdV} (h : Blk w g 28 (kdC y)) : LoadsL Tryz.prog w 9 (some ⟨g, 0, none⟩) (.string ⟨y.1.toArray⟩) ∧ LoadsL Tryz.prog w 26 (some ⟨g, 1, none⟩) (.agg (ndC y.2)) := ⟨(KdL.ofB h).name, kid_node h⟩
def snC (N : Nat) : Prop := ∀ (t u : T) (_ : count t ≤ N) (_ : msz t ≤ 1048576) (_ : msz u ≤ 1048576) (v1 v2 : Value) (w : World) (_ : NodeAt w v1 t) (_ : NodeAt w v2 u),
  Calls Tryz.prog 15 #[v1, v2] w fun e w' => e = .returned (.bool (same t u)) ∧ Below w.heap.size w w'

set_option maxRecDepth 100000 in
set_option maxHeartbeats 4000000 in
theorem snKid_any {N : Nat} (ih : snC N) (a b : K) (hc : count a.2 ≤ N) (h1 : msz a.2 ≤ 1048576) (h2 : msz b.2 ≤ 1048576) (x y : KdV) (w : World) (hx1 : x.1 = a.1) (hx2 : NodeV w x.2 a.2) (hy1 : y.1 = b.1) (hy2 : NodeV w y.2 b.2) :
  Calls Tryz.prog 60 #[.agg (kdC x), .agg (kdC y)] w fun e w' => e = .returned (.bool (decide (a = b))) ∧ Below w.heap.size w w' := by
 have HIH := Lib.hid ih
 have HX := Lib.hid hx2
 have HY := Lib.hid hy2
 have HN := Lib.hid (And.intro hx1 hy1)
 clear ih hx2 hy2 hx1 hy1
 go_enter Tryz.func60, Tryz.ntmps60
 by_cases hn : a.1 = b.1
 ·have HS := Lib.hid (show decide (x.1 = y.1) = true by rw [HN.out.1, HN.out.2]; simpa using hn)
  have HR := Lib.hid (show decide (a = b) = same a.2 b.2 by
   rw [same_dec]
   obtain ⟨n, t⟩ := a; obtain ⟨m, u⟩ := b
   have hn : n = m := hn
   simp [hn])
  clear hn
  go_wp2_with (first | (refine wpList_box rfl 28 _ rfl (kdC x) rfl ?_; intro g2 w1 hb hx hg; have HB1 := Lib.hid hb; have HX1 := Lib.hid hx; clear hb hx hg) | (refine wpList_box rfl 28 _ rfl (kdC y) rfl ?_; intro g3 w2 hb hx hg; have HB2 := Lib.hid (HB1.out.below hx); have HC2 := Lib.hid hb; have HX2 := Lib.hid (belowThen HX1.out (Nat.le_refl _) hx); clear hb hx hg) | (with_reducible refine wpList_loadL (KdB.of HB2.out).1 rfl _ rfl rfl ?_) | (with_reducible refine wpList_loadL (KdB.of HC2.out).1 rfl _ rfl rfl ?_) | (with_reducible refine wpList_loadL (KdB.of HB2.out).2 rfl _ rfl rfl ?_) | (with_reducible refine wpList_loadL (KdB.of HC2.out).2 rfl _ rfl rfl ?_) | (with_reducible refine wpList_eqlS rfl rfl rfl rfl true HS.out ?_))
  refine (HIH.out a.2 b.2 hc h1 h2 (.agg (ndC x.2)) (.agg (ndC y.2)) w2 ⟨_, rfl, HX.out.below HX2.out⟩ ⟨_, rfl, HY.out.below HX2.out⟩).mono ?_
  rintro e w3 ⟨rfl, hx⟩
  have HX3 := Lib.hid (belowThen HX2.out (Nat.le_refl _) hx)
  clear hx
  go_wp2_with fail
  go_ret
  exact ⟨ret_bool HR.out.symm, HX3.out⟩
 ·have HS := Lib.hid (show decide (x.1 = y.1) = false by rw [HN.out.1, HN.out.2]; simpa using hn)
  have HR := Lib.hid (show decide (a = b) = false by simp; intro e; exact hn (by rw [e]))
  clear hn
  go_wp2_with (first | (refine wpList_box rfl 28 _ rfl (kdC x) rfl ?_; intro g2 w1 hb hx hg; have HB1 := Lib.hid hb; have HX1 := Lib.hid hx; clear hb hx hg) | (refine wpList_box rfl 28 _ rfl (kdC y) rfl ?_; intro g3 w2 hb hx hg; have HB2 := Lib.hid (HB1.out.below hx); have HC2 := Lib.hid hb; have HX2 := Lib.hid (belowThen HX1.out (Nat.le_refl _) hx); clear hb hx hg) | (with_reducible refine wpList_loadL (KdB.of HB2.out).1 rfl _ rfl rfl ?_) | (with_reducible refine wpList_loadL (KdB.of HC2.out).1 rfl _ rfl rfl ?_) | (with_reducible refine wpList_eqlS rfl rfl rfl rfl false HS.out ?_))
  go_ret
  exact ⟨ret_bool HR.out.symm, HX2.out⟩

set_option maxRecDepth 100000 in
set_option maxHeartbeats 8000000 in
theorem snKids_any {N : Nat} (ih : snC N) (l m : List K) (hc : ∀ x ∈ l, count x.2 ≤ N) (h1 : mszL l ≤ 1048576) (h2 : mszL m ≤ 1048576) (ks js : List KdV) (v1 v2 : Value) (w : World) (hs1 : SliceOf EK w v1 ks) (hk1 : KidsV w ks l) (hs2 : SliceOf EK w v2 js) (hk2 : KidsV w js m) :
  Calls Tryz.prog 38 #[v1, v2] w fun e w' => e = .returned (.bool (sameL l m)) ∧ Below w.heap.size w w' := by
 have hl1 := hk1.len
 have hl2 := hk2.len
 have hlen1 := kds_len hs1
 have hlen2 := kds_len hs2
 rw [hl1] at hlen1
 rw [hl2] at hlen2
 have hb1 := Nat.le_trans (len_mszL l) h1
 have hb2 := Nat.le_trans (len_mszL m) h2
 have HIH := Lib.hid ih
 have HS1 := Lib.hid hs1
 have HS2 := Lib.hid hs2
 have HK1 := Lib.hid hk1
 have HK2 := Lib.hid hk2
 have HC := Lib.hid hc
 clear ih hs1 hs2 hk1 hk2 hl1 hl2 hc
 by_cases hlen : l.length = m.length
 ·have hne : ((l.length : Int) != (m.length : Int)) = false := by simp [hlen]
  have HLEN := Lib.hid hlen
  clear hlen
  go_enter Tryz.func38, Tryz.ntmps38
  go_wp2_with fail
  go_loopw [5] (fun i wr => ∃ k : Nat, k ≤ l.length ∧ i = .int .i64 (k : Int) ∧ l.take k = m.take k ∧ Below w.heap.size w wr) (fun i _ => l.length - (intOf i).toNat)
  case atStart => exact ⟨0, by omega, rfl, rfl, Below.refl _ _⟩
  case round =>
   obtain ⟨w1, rfl⟩ : ∃ w1 : World, w1 = wr := ⟨_, rfl⟩
   obtain ⟨k, hk, rfl, htk, hw⟩ := hrel
   have HTK := Lib.hid htk
   have HW := Lib.hid hw
   clear htk hw
   by_cases hlt : k < l.length
   ·have hd : decide ((k : Int) < (l.length : Int)) = true := by simp; omega
    obtain ⟨a, hak⟩ : ∃ a, l[k]? = some a := ⟨_, List.getElem?_eq_getElem hlt⟩
    obtain ⟨b, hbk⟩ : ∃ b, m[k]? = some b := ⟨_, List.getElem?_eq_getElem (by rw [← HLEN.out]; exact hlt)⟩
    obtain ⟨x, hxk, hx1, hx2⟩ := HK1.out.at_ k a hak
    obtain ⟨y, hyk, hy1, hy2⟩ := HK2.out.at_ k b hbk
    obtain ⟨p, hadr, hle⟩ := kid_at (HS1.out.below HW.out) k x hxk
    obtain ⟨q, hadq, hlq⟩ := kid_at (HS2.out.below HW.out) k y hyk
    have HE := Lib.hid hle.all
    have HQ := Lib.hid hlq.all
    obtain ⟨r, hr⟩ : ∃ r, decide (a = b) = r := ⟨_, rfl⟩
    have HCALL := Lib.hid (fun z : Later w1 => (show Calls Tryz.prog 60 #[.agg (kdC x), .agg (kdC y)] z.w fun e w' => e = .returned (.bool r) ∧ Below z.w.heap.size z.w w' by
     have hZ := belowThen HW.out (Nat.le_refl _) z.h
     rw [← hr]; exact snKid_any HIH.out a b (HC.out a (List.mem_of_getElem? hak)) (by have := mem_mszL (List.mem_of_getElem? hak); omega) (by have := mem_mszL (List.mem_of_getElem? hbk); omega) x y z.w hx1 (hx2.below hZ) hy1 (hy2.below hZ)))
    have HRR := Lib.hid hr
    have HAK := Lib.hid hak
    have HBK := Lib.hid hbk
    clear hle hlq hxk hyk hx1 hx2 hy1 hy2 hr hak hbk
    go_wp2_with fail
    try simp only [Act.put, List.setIfInBounds_toArray, List.set_cons_succ, List.set_cons_zero]
    refine wp_region_later_lit (by kernel_rfl) (by kernel_rfl) ?_
    repeat (first | go_big_quiet_skip | ((first | (with_reducible refine wpQuiet_loadL HE.out rfl _ rfl rfl ?_) | (with_reducible refine wpQuiet_loadL HQ.out rfl _ rfl rfl ?_)); simp only [Act.put, List.setIfInBounds_toArray, List.set_cons_succ, List.set_cons_zero]) | go_big_quiet_step (first | (go_at_call 60; first | (with_reducible exact Calls.later (HCALL.out _)))))
    refine wpQuiet_nil ?_
    intro _ hw'
    obtain ⟨x4, rfl⟩ := hw'
    have HX4 := Lib.hid (belowThen HW.out (Nat.le_refl _) x4.h)
    cases r with
    | false =>
     have HF := Lib.hid (show sameL l m = false by
      rw [sameL_dec, decide_eq_false_iff_not]
      rintro rfl
      have h := HRR.out
      rw [decide_eq_false_iff_not] at h
      exact h (Option.some.inj (HAK.out.symm.trans HBK.out)))
     go_wp2_with fail
     go_ret
     exact ⟨ret_bool HF.out.symm, HX4.out⟩
    | true =>
     have HT := Lib.hid (take_snocE HAK.out HBK.out HTK.out (of_decide_eq_true HRR.out))
     go_wp2_with fail
     go_roundw
     case rel => exact ⟨k + 1, by omega, by go_num, HT.out, HX4.out⟩
     case measure => simp [intOf]; omega
   ·obtain rfl : k = l.length := by omega
    have hd : decide (((l.length : Nat) : Int) < ((l.length : Nat) : Int)) = false := by simp
    have HT := Lib.hid (show sameL l m = true by
     have h := HTK.out
     rw [List.take_length, HLEN.out, List.take_length] at h
     rw [sameL_dec, h]; simp)
    go_wp2_with fail
    go_ret
    exact ⟨ret_bool HT.out.symm, HW.out⟩
 ·have hne : ((l.length : Int) != (m.length : Int)) = true := by simp; omega
  have HF := Lib.hid (show sameL l m = false by
   rw [sameL_dec, decide_eq_false_iff_not]
   exact fun e => hlen (by rw [e]))
  clear hlen
  go_enter Tryz.func38, Tryz.ntmps38
  go_wp2_with fail
  go_ret
  exact ⟨ret_bool HF.out.symm, Below.refl _ _⟩

set_option maxRecDepth 100000 in
set_option maxHeartbeats 8000000 in
theorem sn_all : ∀ N, snC N := by
 intro N
 induction N with
 | zero => intro t u h; have := count_pos t; omega
 | succ N ih =>
 intro t u hc h1 h2 v1 v2 w hv1 hv2
 obtain ⟨x, rfl, hx⟩ := hv1
 obtain ⟨y, rfl, hy⟩ := hv2
 obtain ⟨k, a, l⟩ := t
 obtain ⟨j, b, m⟩ := u
 obtain ⟨hxk, hxb, ks, hxs, hxl⟩ := hx
 obtain ⟨hyk, hyb, js, hys, hyl⟩ := hy
 have HXB := Lib.hid hxb
 have HYB := Lib.hid hyb
 have HXS := Lib.hid hxs
 have HYS := Lib.hid hys
 have HXL := Lib.hid hxl
 have HYL := Lib.hid hyl
 have HIH := Lib.hid ih
 have HC := Lib.hid (show ∀ z ∈ l, count z.2 ≤ N from fun z hz => by
  have h3 := countL_mem hz
  simp only [count] at hc
  omega)
 have hab := Nat.le_trans (bytes_msz k a l) h1
 have hbb := Nat.le_trans (bytes_msz j b m) h2
 have hlm1 : mszL l ≤ 1048576 := by simp only [msz] at h1; omega
 have hlm2 : mszL m ≤ 1048576 := by simp only [msz] at h2; omega
 have HK := Lib.hid (And.intro hxk hyk)
 clear hxb hyb hxs hys hxl hyl ih hc hxk hyk
 go_enter Tryz.func15, Tryz.ntmps15
 by_cases hk : x.1 = y.1
 ·have hke : (x.1 == y.1) = true := by rw [hk]; simp
  have HKK := Lib.hid (show k = j by rw [← HK.out.1, ← HK.out.2, hk])
  clear hk
  go_wp2_with (first | (refine wpList_box rfl 26 _ rfl (ndC x) rfl ?_; intro g2 w1 hb hx hg; have HB1 := Lib.hid hb; have HX1 := Lib.hid hx; clear hb hx hg) | (refine wpList_box rfl 26 _ rfl (ndC y) rfl ?_; intro g3 w2 hb hx hg; have HB2 := Lib.hid (HB1.out.below hx); have HC2 := Lib.hid hb; have HX2 := Lib.hid (belowThen HX1.out (Nat.le_refl _) hx); clear hb hx hg) | (with_reducible refine wpList_loadL (NdL.of_blk HB2.out).kind rfl _ rfl rfl ?_) | (with_reducible refine wpList_loadL (NdL.of_blk HC2.out).kind rfl _ rfl rfl ?_) | (with_reducible refine wpList_loadL (NdL.of_blk HB2.out).bytes rfl _ rfl rfl ?_) | (with_reducible refine wpList_loadL (NdL.of_blk HC2.out).bytes rfl _ rfl rfl ?_))
  refine (sameBytes_any x.2.1.1 y.2.1.1 a b hab hbb w2 (HXB.out.below HX2.out) (HYB.out.below HX2.out)).mono ?_
  rintro e w3 ⟨rfl, hx⟩
  have HB3 := Lib.hid (HB2.out.below hx)
  have HC3 := Lib.hid (HC2.out.below hx)
  have HX3 := Lib.hid (belowThen HX2.out (Nat.le_refl _) hx)
  clear hx
  by_cases hab2 : a = b
  ·have hd : decide (a = b) = true := by simpa using hab2
   have HAB := Lib.hid hab2
   clear hab2
   rw [hd]
   go_wp2_with (first | (with_reducible refine wpList_loadL (NdL.of_blk HB3.out).kids rfl _ rfl rfl ?_) | (with_reducible refine wpList_loadL (NdL.of_blk HC3.out).kids rfl _ rfl rfl ?_))
   refine (snKids_any HIH.out l m HC.out hlm1 hlm2 ks js x.2.2.1 y.2.2.1 w3 (HXS.out.below HX3.out) (HXL.out.below HX3.out) (HYS.out.below HX3.out) (HYL.out.below HX3.out)).mono ?_
   rintro e w4 ⟨rfl, hx⟩
   have HX4 := Lib.hid (belowThen HX3.out (Nat.le_refl _) hx)
   have HR := Lib.hid (show same (.mk k a l) (.mk j b m) = sameL l m by simp [same, HKK.out, HAB.out])
   clear hx
   go_wp2_with fail
   go_ret
   exact ⟨ret_bool HR.out.symm, HX4.out⟩
  ·have hd : decide (a = b) = false := by simpa using hab2
   have HR := Lib.hid (show same (.mk k a l) (.mk j b m) = false by simp [same, hab2])
   clear hab2
   rw [hd]
   go_wp2_with fail
   go_ret
   exact ⟨ret_bool HR.out.symm, HX3.out⟩
 ·have hke : (x.1 == y.1) = false := by simpa using hk
  have HR := Lib.hid (show same (.mk k a l) (.mk j b m) = false by
   have : ¬ k = j := fun e => hk (by rw [HK.out.1, HK.out.2, e])
   simp [same, this])
  clear hk
  go_wp2_with (first | (refine wpList_box rfl 26 _ rfl (ndC x) rfl ?_; intro g2 w1 hb hx hg; have HB1 := Lib.hid hb; have HX1 := Lib.hid hx; clear hb hx hg) | (refine wpList_box rfl 26 _ rfl (ndC y) rfl ?_; intro g3 w2 hb hx hg; have HB2 := Lib.hid (HB1.out.below hx); have HC2 := Lib.hid hb; have HX2 := Lib.hid (belowThen HX1.out (Nat.le_refl _) hx); clear hb hx hg) | (with_reducible refine wpList_loadL (NdL.of_blk HB2.out).kind rfl _ rfl rfl ?_) | (with_reducible refine wpList_loadL (NdL.of_blk HC2.out).kind rfl _ rfl rfl ?_) | (with_reducible refine wpList_loadL (NdL.of_blk HB2.out).bytes rfl _ rfl rfl ?_) | (with_reducible refine wpList_loadL (NdL.of_blk HC2.out).bytes rfl _ rfl rfl ?_))
  go_ret
  exact ⟨ret_bool HR.out.symm, HX2.out⟩

theorem sameNode_any (t u : T) (h1 : msz t ≤ 1048576) (h2 : msz u ≤ 1048576) (v1 v2 : Value) (w : World) (hv1 : NodeAt w v1 t) (hv2 : NodeAt w v2 u) :
  Calls Tryz.prog 15 #[v1, v2] w fun e w' => e = .returned (.bool (same t u)) ∧ Below w.heap.size w w' := sn_all (count t) t u (Nat.le_refl _) h1 h2 v1 v2 w hv1 hv2
theorem right_msz {t : T} (h : right t = true) : msz t ≤ 500000 := by
 have key : ∀ (N : Nat) (t : T), count t ≤ N → ok t = true → msz t + 25 ≤ 2100 * count t := by
  intro N
  induction N with
  | zero => intro t h; have := count_pos t; omega
  | succ N ih =>
   intro t hc hok
   obtain ⟨k, b, l⟩ := t
   have ha : alone (.mk k b l) = true := by simp only [ok, Bool.and_eq_true] at hok; exact hok.1
   have hk := kids_ok hok
   rw [show (T.mk k b l).kids = l from rfl] at hk
   rcases alone_cases ha with ⟨rfl, rfl, _, hnm⟩ | ⟨_, _, _, hb, rfl⟩
   ·have hL : ∀ (m : List K), (∀ x ∈ m, count x.2 ≤ N ∧ ok x.2 = true ∧ x.1.length ≤ 24) → mszL m ≤ 2100 * countL m := by
     intro m
     induction m with
     | nil => intro _; simp [mszL]
     | cons x m ihm =>
      intro hm
      obtain ⟨n, t⟩ := x
      have h1 := hm (n, t) (by simp)
      have h2 := ih t h1.1 h1.2.1
      have h3 := ihm (fun x hx => hm x (by simp [hx]))
      have h4 : n.length ≤ 24 := h1.2.2
      simp only [mszL, countL]; omega
    have := hL l (fun x hx => ⟨by have := countL_mem hx; simp only [count] at hc; omega, okL_mem hk hx, name_le (named_all l none hnm x hx)⟩)
    simp only [msz, count, List.length_nil]; omega
   ·simp only [msz, mszL, count, countL]; omega
 obtain ⟨h1, h2, _⟩ := look_parts h
 have := key (count t) t (Nat.le_refl _) h1
 omega
end Go.Proofs.YtfiadgdinhmgbaaGreatDoor
