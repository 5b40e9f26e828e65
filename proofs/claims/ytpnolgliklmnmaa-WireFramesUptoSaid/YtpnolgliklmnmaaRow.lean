/- A row's argument of bytes, read and laid again; the wrap for a row of the second form with the world's shape. -/
import Derived.Test.YtpnolgliklmnmaaShelf
import Derived.JoinedCond
import Derived.OpenShut
import Derived.Shelf.Vars
namespace Go.Agg
open Go.RowKit Go.ChangeShapes Go.WideShapes Go.ChangeAt
section
variable {H : Type} {enc : TypeId × Value → H} {P : Program} {w : World} {base : Nat} {sp : Nat → Bool} {held : Bool}
/-- bytes, as data -/
def byteData {H : Type} (l : List UInt8) : List (DataW H) := l.map fun c => .lit (.int .u8 (c.toNat : Int))
theorem open_bytes {t e : TypeId} {n fuel : Nat} {cs : List Value} {x : DataW H × List MemPlace} (ht : P.underlying t = some (.array n e)) (he : P.underlying e = some (.int .u8)) (hc : P.cellsOf e = 1) (hn : P.cellsOf t = n)
    (h : DataW.trod enc P w base sp held fuel t cs = some x) : ∃ l : List UInt8, l.length = n ∧ cs = Lib.byteCells l ∧ x = (.agg (byteData l), []) := by
  obtain ⟨xs, m, rfl, rfl, hl, hx, ha⟩ := DataW.trod_array ht h
  have key : ∀ i, i < n → ∃ c : UInt8, cs[i]? = some (.int .u8 (c.toNat : Int)) ∧ xs[i]? = some (.lit (.int .u8 (c.toNat : Int)), []) := fun i hi => by
    have hxi : xs[i]? = some xs[i] := List.getElem?_eq_getElem (by omega)
    have h1 := (ha i hi).trans hxi
    rw [hc] at h1
    obtain ⟨k, hk, hd, hw⟩ := DataW.trod_int he h1
    have hb := bounds_u8 hw
    refine ⟨UInt8.ofNat k.toNat, ?_, ?_⟩
    · have : (cs.drop (i * 1)).take 1 = [.int .u8 k] := hk
      have h2 := congrArg (·[0]?) this
      simp at h2
      rw [h2]
      simp; omega
    · rw [hxi, hd]
      simp; omega
  have hlen : cs.length = n := hl.trans hn
  refine ⟨cs.map fun | .int _ k => UInt8.ofNat k.toNat | _ => 0, by simp [hlen], ?_, ?_⟩
  · refine List.ext_getElem? fun i => ?_
    by_cases hi : i < n
    · obtain ⟨c, h1, _⟩ := key i hi
      simp [Lib.byteCells, h1]
    · rw [List.getElem?_eq_none (by omega), List.getElem?_eq_none (by simp [Lib.byteCells]; omega)]
  · have hfst : xs.map (·.1) = byteData (cs.map fun | .int _ k => UInt8.ofNat k.toNat | _ => 0) := by
      refine List.ext_getElem? fun i => ?_
      by_cases hi : i < n
      · obtain ⟨c, h1, h2⟩ := key i hi
        simp [byteData, h1, h2]
      · rw [List.getElem?_eq_none (by simp; omega), List.getElem?_eq_none (by simp [byteData]; omega)]
    have hsnd : xs.flatMap (·.2) = [] := by
      rw [List.flatMap_eq_nil_iff]
      intro y hy
      obtain ⟨i, hi, rfl⟩ := List.getElem_of_mem hy
      obtain ⟨c, _, h2⟩ := key i (by omega)
      rw [List.getElem?_eq_getElem hi] at h2
      rw [Option.some.inj h2]
    rw [hfst, hsnd]
theorem mapM_each {β : Type} {f : Nat → Option β} : ∀ (is : List Nat) (ys : List β), is.length = ys.length → (∀ (k i : Nat) (y : β), is[k]? = some i → ys[k]? = some y → f i = some y) → is.mapM f = some ys
  | [], [], _, _ => by simp
  | i :: is, y :: ys, hl, h => by
    have h0 := h 0 i y rfl rfl
    have ih := mapM_each (f := f) is ys (by simpa using hl) (fun k i y hi hy => h (k + 1) i y (by simpa using hi) (by simpa using hy))
    simp [List.mapM_cons, h0, ih]
  | [], _ :: _, hl, _ => by simp at hl
  | _ :: _, [], hl, _ => by simp at hl
theorem shut_bytes {t e : TypeId} {n : Nat} (ht : P.underlying t = some (.array n e)) (he : P.underlying e = some (.int .u8)) (hc : P.cellsOf e = 1) (hn : P.cellsOf t = n) (l : List UInt8) (hl : l.length = n) :
    DataW.trod enc P w base sp held 2 t (Lib.byteCells l) = some (.agg (byteData l), []) := by
  have hm : (List.range n).mapM (fun i => DataW.trod enc P w base sp held 1 e (((Lib.byteCells l).drop (i * P.cellsOf e)).take (P.cellsOf e))) = some (l.map fun c => ((.lit (.int .u8 (c.toNat : Int)) : DataW H), ([] : List MemPlace))) := by
    refine mapM_each _ _ (by simp [hl]) fun k i y hi hy => ?_
    obtain ⟨hk, rfl⟩ := List.getElem?_eq_some_iff.1 hi
    have hk' : k < l.length := by simpa [hl] using hk
    obtain rfl : y = (.lit (.int .u8 (l[k].toNat : Int)), []) := by simpa [hk', eq_comm] using hy
    have : ((Lib.byteCells l).drop (k * 1)).take 1 = [.int .u8 (l[k].toNat : Int)] := by
      apply List.ext_getElem?
      intro j
      cases j with
      | zero => simp [Lib.byteCells, hk']
      | succ j => simp; omega
    rw [List.getElem_range, hc, this]
    have hlt := l[k].toNat_lt
    simp only [DataW.trod, he]
    rw [if_pos ⟨trivial, by simp [Lit.wf, IntKind.min, IntKind.max, IntKind.signed, IntKind.bits]; omega⟩]
  have hcl : (Lib.byteCells l).length = P.cellsOf t := by simp [Lib.byteCells, hl, hn]
  unfold DataW.trod
  rw [ht]
  split <;> simp_all
  · simp [byteData]
end
/-- 'post_of_same' behind a call that keeps what was there -/
theorem post_below {H : Type} {enc : TypeId × Value → H} {P : Program} {f : Func} {s : ChangeSpec} {apart fresh handsOn again : Bool} {W W' : World} {args : Array Value} {v : Value} {ds gs : List (DataW H)} {before pa pv : List MemPlace}
    (hW : DataW.Whole enc P f.params.toList s.vars apart W args.toList ds gs before)
    (hres : ∀ (b : Nat) (sp : Nat → Bool) (hd : Bool), DataW.TrodAll enc P W' b sp hd f.resultTypes.toList (v.resultList f.resultTypes.size) (s.fn H (ds ++ gs)).results [])
    (hargs : ∀ sp : Nat → Bool, (∀ p ∈ before, sp p.block = true) → DataW.TrodAll enc P W' 0 sp true f.params.toList args.toList (s.fn H (ds ++ gs)).args pa)
    (hvars : ∀ sp : Nat → Bool, (∀ p ∈ before, sp p.block = true) → DataW.TrodVars enc P W' sp s.vars (s.fn H (ds ++ gs)).vars pv)
    (hps : before = pa ++ pv) (hg : Below W.heap.size W W')
    (hok : ∀ (j : Nat) (t : TypeId) (r : Value), f.resultTypes[j]? = some t → (v.resultList f.resultTypes.size)[j]? = some r → Value.okWide P W' .any 0 t r) :
    s.post enc P f apart fresh handsOn again W args v W' := by
  have hold : ∀ p ∈ before, (fun b => decide (b < W.heap.size)) p.block = true := fun p hp => by simpa using hW.lt p hp
  refine ⟨ds, gs, before, [], pa, pv, hW, hres _ _ _, hargs _ hold, hvars _ hold, World.keptBut_mono (fun p hp => ⟨hp, ?_⟩) (hg.frame (· ∈ before)), fun _ => ?_⟩
  · rw [hps, List.mem_append] at hp
    exact Or.inr hp
  · have hlt := hW.lt
    obtain ⟨_, _, _, _, _, hz, hn⟩ := hW
    refine ⟨hok, _, _, ([] ++ pa) ++ pv, ⟨[] ++ pa, pv, trodAll_append (hargs _ (fun _ _ => rfl)) (hres _ _ _), hvars _ (fun _ _ => rfl), rfl, ?_, ?_⟩, ?_⟩
    · intro b off hp
      have hp' : MemPlace.cell b off ∈ before := by rw [hps]; simpa using hp
      rw [hg.frozen (hlt _ hp')]
      exact hz b off hp'
    · intro ha
      have := hn ha
      rw [hps] at this
      simpa using this
    · intro p hp _
      rw [hps]
      simpa using hp
/-- 'returnsInHanded_of_cond', the world's shape kept -/
theorem handed_cond_shaped {H : Type} {enc : TypeId × Value → H} {a : Assume} {C : Checked} {os : Os} {f : FuncId} {fn : Func} {s : OpenSpec} {k : (H : Type) → List (DataW H) → Bool} (hk : s.cond = some k) {F : Stop.Interp} {conds : List PathCond} {apart fresh handsOn again : Bool}
    (own : ownKnob C.prog.godebug = none) (started : os.Started) (noInit : C.prog.inits.idxOf? f = none) (hfn : C.prog.funcs[f]? = some fn)
    (witness : ∃ (w : World) (tape : Tape) (i : Input), w.os = os ∧ (w.forCall tape i).Shaped C.prog ∧ i.vars = [] ∧ Input.okWide C.prog (w.forCall tape i) .any w.heap.size f i ∧
      s.pre6 enc C.prog fn conds apart (w.forCall tape i).memory i.args ∧ a.holds C.prog (lone (Frame.enter C.prog f i.args .normal) [] (w.forCall tape i)))
    (contract : ∀ (W : World) (base : Nat) (args : Array Value) (ds gs : List (DataW H)) (before : List MemPlace),
      (∀ (j : Nat) t v, fn.params[j]? = some t → args[j]? = some v → Value.okWide C.prog W .any base t v) →
      DataW.Whole enc C.prog fn.params.toList s.vars apart W args.toList ds gs before → k H (ds ++ gs) = true → W.ShapedOpen C.prog →
      Calls C.prog f args W fun e W' => ∃ v, e = .returned v ∧ (s.at F).post enc C.prog fn apart fresh handsOn again W args v W') :
    ReturnsInHanded a C os f .any (s.pre6 enc C.prog fn conds apart) ((s.at F).post enc C.prog fn apart fresh handsOn again) := by
  refine returnsInHanded_of_calls own started noInit witness ?_
  intro w tape i _ hsh _ hok hpre _
  obtain ⟨_, _, _, fn', hfn', _, _, _, _, hval⟩ := hok
  obtain rfl : fn' = fn := Option.some.inj (hfn'.symm.trans hfn)
  obtain ⟨ds, gs, before, hw, _, hkk⟩ := (OpenSpec.pre_some hk conds apart _ _).1 hpre.1
  refine (contract (w.forCall tape i) w.heap.size i.args ds gs before hval (DataW.Whole.of_heap (w' := w.forCall tape i) (by rfl) hw) hkk hsh).mono fun e W' ⟨v, he, hp⟩ => ?_
  subst he
  exact ChangeSpec.post_blind hp
end Go.Agg
