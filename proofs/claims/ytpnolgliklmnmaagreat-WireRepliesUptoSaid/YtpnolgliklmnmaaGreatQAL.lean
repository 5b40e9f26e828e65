/- spenceref01.Cursor: fail, End, Raw, Num, Text. (Several texts in one.) -/
import Derived.Test.YtpnolgliklmnmaaGreatQAK
import Derived.Deep.RegionHeld3
/-! A region that draws its order, step by step: each operation that may come up, by its own law. -/
namespace Go.Agg
open Go.RowKit
variable {P : Program}
section
variable {l : List Oper} {md : Region.Mode} {Q : Exit → Act → World → Prop} {S : World → Prop} {fuel : Nat} {listed : Array Bool} {a : Act} {w : World}
def takeB (md : Region.Mode) (l : List Oper) (listed : Array Bool) (i : Nat) : Bool :=
  Region.noSelect l.toArray && Region.free md l.toArray listed i && (Region.ready md l.toArray listed).contains i
theorem any_take {o : Oper} (i : Nat) (v : Value) (ho : l[i]? = some o) (hB : takeB md l listed i = true) (hQ : ∀ c a w, Q (.panic c) (a.put o.dst v) w → Q (.panic c) a w) (hw : Region.wanted o (yielded l.toArray a.tmps) = true)
    (hy : ∀ w, (execOp a.eval o).run P w = .ok (.value v) w) (h : wpAny P md l.toArray Q fuel (listed.setIfInBounds i true) (a.put o.dst v) w) : wpAny P md l.toArray Q (fuel + 1) listed a w := by
  simp only [takeB, Bool.and_eq_true] at hB
  exact wpAny_take (by simpa using ho) hB.1.1 hB.1.2 hB.2 hQ (.inl ⟨hw, hy⟩) h
theorem any_ready (rs : List Nat) (hr : Region.ready md l.toArray listed = rs) (hne : rs ≠ []) (h : AllReady P md l.toArray Q fuel listed a w rs) : wpAny P md l.toArray Q (fuel + 1) listed a w := wpAny_ready hr hne h
theorem any_cons {o : Oper} {i : Nat} {rs : List Nat} (ho : l[i]? = some o)
    (h : if Region.wanted o (yielded l.toArray a.tmps) = true then Oper.wp P o a w (wpAny P md l.toArray Q fuel (listed.setIfInBounds i true)) Q else wpAny P md l.toArray Q fuel (listed.setIfInBounds i true) (a.put o.dst undef) w)
    (hs : AllReady P md l.toArray Q fuel listed a w rs) : AllReady P md l.toArray Q fuel listed a w (i :: rs) :=
  AllReady.cons (by simpa using ho) (fun K' hK => by
    split at h
    · rename_i hw; rw [if_pos hw]; exact Oper.wp_mono hK h
    · rename_i hw; rw [if_neg hw]; exact hK _ _ h) hs
theorem any_end (hr : Region.ready md l.toArray listed = []) (h : Q .normal a w) : wpAny P md l.toArray Q fuel listed a w := by
  cases fuel with
  | zero => exact ⟨hr, h⟩
  | succ n => exact ⟨fun _ => h, by rw [hr]; intro i hi; cases hi⟩
/-! .. while S holds -/
theorem held_take {o : Oper} (i : Nat) (v : Value) (ho : l[i]? = some o) (hB : takeB md l listed i = true) (hQ : ∀ c a w, Q (.panic c) (a.put o.dst v) w → Q (.panic c) a w) (hw : Region.wanted o (yielded l.toArray a.tmps) = true)
    (hy : ∀ w, S w → (execOp a.eval o).run P w = .ok (.value v) w) (hS : S w) (h : wpAnyH P md l.toArray Q S fuel (listed.setIfInBounds i true) (a.put o.dst v) w) : wpAnyH P md l.toArray Q S (fuel + 1) listed a w := by
  simp only [takeB, Bool.and_eq_true] at hB
  exact wpAnyH_take (by simpa using ho) hB.1.1 hB.1.2 hB.2 hQ (.inl ⟨hw, hy⟩) hS h
theorem held_ready (rs : List Nat) (hr : Region.ready md l.toArray listed = rs) (hne : rs ≠ []) (h : AllReadyH P md l.toArray Q S fuel listed a w rs) : wpAnyH P md l.toArray Q S (fuel + 1) listed a w := wpAnyH_ready hr hne h
theorem held_cons {o : Oper} {i : Nat} {rs : List Nat} (ho : l[i]? = some o)
    (h : if Region.wanted o (yielded l.toArray a.tmps) = true then Oper.wp P o a w (fun a' w' => S w' ∧ wpAnyH P md l.toArray Q S fuel (listed.setIfInBounds i true) a' w') Q else S w ∧ wpAnyH P md l.toArray Q S fuel (listed.setIfInBounds i true) (a.put o.dst undef) w)
    (hs : AllReadyH P md l.toArray Q S fuel listed a w rs) : AllReadyH P md l.toArray Q S fuel listed a w (i :: rs) :=
  AllReadyH.cons (by simpa using ho) (fun K' hK => by
    split at h
    · rename_i hw; rw [if_pos hw]; exact Oper.wp_mono (fun a w h => hK.out a w h.1 fun _ => h.2) h
    · rename_i hw; rw [if_neg hw]; exact hK.out _ _ h.1 fun _ => h.2) hs
theorem held_end (hr : Region.ready md l.toArray listed = []) (h : Q .normal a w) : wpAnyH P md l.toArray Q S fuel listed a w := by
  cases fuel with
  | zero => exact ⟨hr, h⟩
  | succ n => exact ⟨fun _ => h, by rw [hr]; intro i hi; cases hi⟩
end
section
variable {ops : Array Oper} {o : Oper} {a : Act} {w : World} {Q : Exit → Act → World → Prop} {K : Act → World → Prop} {F : Prop}
/-- a call of a Go function, by its contract -/
theorem step_call (hg : o.guard = none) (f : FuncId) (xs : Array Operand) (ts : Array TypeId) (ho : o.op = .call { callee := .value (.func f), args := xs, argTypes := ts }) (vs : Array Value) (hv : xs.map a.eval = vs)
    (he : ∀ w, (callFunc f vs).run P w = .ok (.enter f vs) w) (h : Calls P f vs w fun e w' => ∃ v, e = .returned v ∧ K (a.put o.dst v) w') : if Region.wanted o (yielded ops a.tmps) = true then o.wp P a w K Q else F := by
  rw [if_pos (by simp [Region.wanted, hg])]
  unfold Oper.wp
  have : (execOp a.eval o).run P w = .ok (.enter f vs) w := by
    subst hv
    have hf : a.eval (Operand.func f) = .func (.func f) #[] #[] := rfl
    simp [execOp, ho, resolve, invoke, hf, Deferred.ofValue, he]
  rw [this, Oper.upon_enter]
  refine h.mono ?_
  rintro e w' ⟨v, rfl, hk⟩
  exact hk
/-- a load whose answer is known -/
theorem step_load (hg : o.guard = none) (ty : TypeId) (x : Operand) (ho : o.op = .load ty x) (p v : Value) (hx : a.eval x = p) (hrun : (Instr.loadAt ty p).run P w = .ok v w) (h : K (a.put o.dst v) w) : if Region.wanted o (yielded ops a.tmps) = true then o.wp P a w K Q else F :=
  step_val hg (by simp [execOp, ho, hx, hrun]) h
end
end Go.Agg
/-! spenceref01.Cursor: fail, End, Raw, Num, Text. -/
namespace Go.Proofs.YtpnolgliklmnmaaGreat
open Go.RowKit Pl Go.Agg
/-- a cursor at g: what is left, and what is wrong -/
structure CrV (base g : Nat) (w : World) (v : Value) (r : List UInt8) (e : Nat) : Prop where
  blk : Blk w g 97 (cuC v e)
  rest : Rest base w v r
section
variable {base g : Nat} {w w' : World} {v : Value} {r : List UInt8} {e : Nat}
theorem CrV.load (h : CrV base g w v r e) : LoadsL Tryz.prog w 23 (some ⟨g, 0, none⟩) v :=
  h.blk.one (P := Tryz.prog) 0 rfl (by kernel_rfl : Tryz.prog.underlying 23 = some (.slice 5)) rfl
theorem CrV.err (h : CrV base g w v r e) : LoadsL Tryz.prog w 33 (some ⟨g, 1, none⟩) (.int .i64 (e : Int)) :=
  h.blk.one (P := Tryz.prog) 1 rfl Tryz.underlying33 rfl
theorem CrV.below (h : CrV base g w v r e) (hb : Below w.heap.size w w') : CrV base g w' v r e := ⟨h.blk.below hb, h.rest.below hb⟩
/-- one cell of it written -/
theorem CrV.put (h : CrV base g w v r e) (i : Nat) (hi : i < 2) (u : Value) (hu : u.cells = #[u]) (h1 : u.oneCell' = true) {ty : TypeId} (hs : (Tryz.prog.info? ty).map (·.size) = some 1) :
    ∃ w', (Instr.storeAt ty (.pointer (some ⟨g, i, none⟩)) u).run Tryz.prog w = .ok () w' ∧ Blk w' g 97 ((cuC v e).setIfInBounds i u) ∧ Only (· = g) w w' ∧ (∀ {B : Nat} {x : Value} {l : List UInt8}, Rest B w x l → Rest B w' x l) := by
  refine ⟨_, h.blk.run_put i (by simpa [cuC] using hi) u hu h1 hs, h.blk.set i u, ⟨rfl, rfl, rfl, by simp [World.setCell], fun k _ hk => Below.heap_setCell _ _ _ _ hk⟩, fun {B x l} hr => restKeepT hr fun k cur fr hk => ?_⟩
  rw [Below.heap_setCell _ _ _ _ (by
    show k ≠ g
    rintro rfl
    have hb := h.blk
    unfold Blk at hb
    rw [hk] at hb
    injection hb with hb
    injection hb with _ hb
    exact absurd hb (by decide))]
  exact hk
end
set_option maxRecDepth 100000 in
set_option maxHeartbeats 1000000 in
theorem rfail_any (base g : Nat) (v : Value) (r : List UInt8) (e c : Nat) (w : World) (hm : CrV base g w v r e) :
    Calls Tryz.prog 91 #[.pointer (some ⟨g, 0, none⟩), .int .i64 (c : Int)] w fun x w' => (∃ r, x = .returned r) ∧ CrV base g w' (.slice none 0 0) [] (if e = 0 then c else e) ∧ Only (· = g) w w' := by
  have HE := Lib.hid hm.err
  have HM := Lib.hid hm
  clear hm
  by_cases h0 : e = 0
  · subst h0
    obtain ⟨w1, hrun1, hb1, ho1, hr1⟩ := HM.out.put (ty := 33) 1 (by omega) (.int .i64 (c : Int)) rfl rfl (by kernel_rfl)
    have hm1 : CrV base g w1 v r c := ⟨hb1, hr1 HM.out.rest⟩
    obtain ⟨w2, hrun2, hb2, ho2, _⟩ := hm1.put (ty := 23) 0 (by omega) (.slice none 0 0) rfl rfl (by kernel_rfl)
    have HO := Lib.hid (ho1.trans ho2 fun _ _ h => h)
    have HB := Lib.hid hb2
    clear hb1 ho1 hr1 hm1 hb2 ho2
    go_enter Tryz.func91, Tryz.ntmps91
    go_wp2_with (first | (with_reducible refine Agg.wpList_loadL HE.out rfl _ rfl rfl ?_) | (refine Agg.wpList_store rfl rfl 33 _ _ rfl (.pointer (some ⟨g, 1, none⟩)) _ rfl rfl hrun1 ?_) | (refine Agg.wpList_store rfl rfl 23 _ _ rfl (.pointer (some ⟨g, 0, none⟩)) _ rfl rfl hrun2 ?_))
    refine bodyPost_end (results_none rfl _ _ _) rfl ?_
    exact ⟨⟨_, rfl⟩, ⟨HB.out, .inl ⟨rfl, rfl⟩⟩, HO.out⟩
  · obtain ⟨w2, hrun2, hb2, ho2, _⟩ := HM.out.put (ty := 23) 0 (by omega) (.slice none 0 0) rfl rfl (by kernel_rfl)
    have hq : ((e : Int) == 0) = false := by simp [h0]
    have HH := Lib.hid h0
    have HO := Lib.hid ho2
    have HB := Lib.hid hb2
    clear hb2 ho2 h0
    go_enter Tryz.func91, Tryz.ntmps91
    go_wp2_with (first | (with_reducible refine Agg.wpList_loadL HE.out rfl _ rfl rfl ?_) | (refine Agg.wpList_store rfl rfl 23 _ _ rfl (.pointer (some ⟨g, 0, none⟩)) _ rfl rfl hrun2 ?_))
    refine bodyPost_end (results_none rfl _ _ _) rfl ?_
    exact ⟨⟨_, rfl⟩, ⟨HB.out, .inl ⟨rfl, rfl⟩⟩, HO.out⟩
def CrBad (base g : Nat) (w : World) : Prop := ∃ e, e ≠ 0 ∧ CrV base g w (.slice none 0 0) [] e
set_option maxRecDepth 100000 in
set_option maxHeartbeats 1000000 in
theorem rcend_any (base g : Nat) (v : Value) (r : List UInt8) (e : Nat) (w : World) (hm : CrV base g w v r e) :
    Calls Tryz.prog 63 #[.pointer (some ⟨g, 0, none⟩)] w fun x w' => (∃ c : Nat, x = .returned (.int .i64 (c : Int)) ∧ (c = 0 ↔ e = 0 ∧ r = [])) ∧ w' = w := by
  have hlr := fun W => bytes_len hm.rest.slice W
  have HM := Lib.hid hm
  clear hm
  by_cases h0 : e = 0
  · subst h0
    cases r with
    | nil =>
      go_enter Tryz.func63, Tryz.ntmps63
      go_wp2_with (first | (with_reducible refine Agg.wpList_loadL HM.out.load rfl _ rfl rfl ?_) | (with_reducible refine Agg.wpList_loadL HM.out.err rfl _ rfl rfl ?_))
      go_ret
      exact ⟨⟨0, rfl, by simp⟩, rfl⟩
    | cons b t =>
      have hI : (0 : Int) < ((b :: t).length : Int) := by simp
      obtain ⟨n, hn⟩ : ∃ n, (b :: t).length = n := ⟨_, rfl⟩
      rw [hn] at hI hlr
      clear hn
      go_enter Tryz.func63, Tryz.ntmps63
      go_wp2_with (first | (with_reducible refine Agg.wpList_loadL HM.out.load rfl _ rfl rfl ?_) | (with_reducible refine Agg.wpList_loadL HM.out.err rfl _ rfl rfl ?_))
      go_ret
      exact ⟨⟨4, rfl, by simp⟩, rfl⟩
  · have hq : ((e : Int) == 0) = false := by simp [h0]
    have H0 := Lib.hid h0
    clear h0
    go_enter Tryz.func63, Tryz.ntmps63
    go_wp2_with (first | (with_reducible refine Agg.wpList_loadL HM.out.load rfl _ rfl rfl ?_) | (with_reducible refine Agg.wpList_loadL HM.out.err rfl _ rfl rfl ?_))
    go_ret
    exact ⟨⟨e, rfl, fun h => absurd h H0.out, fun h => absurd h.1 H0.out⟩, rfl⟩
/-- a cursor at g, of a state -/
def CrS (base g : Nat) (w : World) (s : Option (List UInt8)) : Prop := ∃ v r e, CrV base g w v r e ∧ (e ≠ 0 → v = .slice none 0 0 ∧ r = []) ∧ s = (if e = 0 then some r else none)
theorem CrS.good {base g : Nat} {w : World} {v : Value} {r : List UInt8} (h : CrV base g w v r 0) : CrS base g w (some r) := ⟨v, r, 0, h, fun h => absurd rfl h, rfl⟩
theorem CrS.bad {base g : Nat} {w : World} (h : CrBad base g w) : CrS base g w none := by
  obtain ⟨e, he, h⟩ := h
  exact ⟨_, _, e, h, fun _ => ⟨rfl, rfl⟩, by rw [if_neg he]⟩
theorem CrS.below {base g : Nat} {w w' : World} {s : Option (List UInt8)} (h : CrS base g w s) (hb : Below w.heap.size w w') : CrS base g w' s := by
  obtain ⟨v, r, e, h, h1, h2⟩ := h
  exact ⟨v, r, e, h.below hb, h1, h2⟩
theorem CrS.lt {base g : Nat} {w : World} {s : Option (List UInt8)} (h : CrS base g w s) : g < w.heap.size := by
  obtain ⟨v, r, e, h, _⟩ := h
  exact h.blk.lt
theorem rsend_any (base g : Nat) (s : Option (List UInt8)) (w : World) (h : CrS base g w s) :
    Calls Tryz.prog 63 #[.pointer (some ⟨g, 0, none⟩)] w fun x w' => (∃ c : Nat, x = .returned (.int .i64 (c : Int)) ∧ (c = 0 ↔ s = some [])) ∧ w' = w := by
  obtain ⟨v, r, e, hv, hbad, rfl⟩ := h
  refine (rcend_any base g v r e w hv).mono ?_
  rintro x w' ⟨⟨c, rfl, hc⟩, rfl⟩
  refine ⟨⟨c, rfl, ?_⟩, rfl⟩
  rw [hc]
  by_cases h0 : e = 0
  · simp [h0]
  · simp [h0]
set_option maxRecDepth 100000 in
set_option maxHeartbeats 2000000 in
/-- Raw, where so many are left -/
theorem rcraw_good (base g many : Nat) (v : Value) (r : List UInt8) (w : World) (hr : r.length ≤ 16777216) (hle : many ≤ r.length) (hm : CrV base g w v r 0) :
    Calls Tryz.prog 62 #[.pointer (some ⟨g, 0, none⟩), .int .i64 (many : Int)] w fun x w' => ∃ u v', x = .returned u ∧ Own EB w.heap.size w' u (r.take many) ∧ CrV base g w' v' (r.drop many) 0 ∧ Only (· = g) w w' := by
  have hlr := fun W => bytes_len hm.rest.slice W
  have HM := Lib.hid hm
  have hI : ¬ (r.length : Int) < (many : Int) := by omega
  have hI0 : ¬ (many : Int) < 0 := by omega
  obtain ⟨vx, hsv, hbx⟩ := rest_high hm.rest many hle
  have HBX := Lib.hid hbx
  have HLE := Lib.hid hle
  have h63 : ([] : List UInt8).length + (r.take many).length ≤ 1099511627776 / 8 := by simp; omega
  clear hm hbx hle
  go_enter Tryz.func62, Tryz.ntmps62
  go_wp2_with (first | (with_reducible refine Agg.wpList_loadL HM.out.load rfl _ rfl rfl ?_) | (with_reducible refine Agg.wpList_loadL HM.out.err rfl _ rfl rfl ?_) | (refine Agg.wpList_slice0 (base := w.heap.size) EB rfl rfl (Nat.le_refl _) ?_; intro v0 w1 ho1 hx1 hne1; have HO1 := Lib.hid ho1; have HX1 := Lib.hid hx1; have HM1 := Lib.hid (HM.out.below hx1); have HBX1 := Lib.hid (HBX.out.below hx1); have hsz1 := hx1.size; clear ho1 hx1 hne1) | (with_reducible refine Agg.wpList_loadL HM1.out.load rfl _ rfl rfl ?_) | (refine Agg.wpList_appendS (E := EB) (base := w.heap.size) rfl _ _ rfl vx rfl rfl (r.take many) HO1.out HBX1.out h63 (by decide) hsz1 ?_; intro v2 w2 ho2 hp2 hne2; have HO2 := Lib.hid ho2; have HX2 := Lib.hid (HX1.out.trans (hp2.below w.heap.size (Nat.le_refl _) hsz1)); have HM2 := Lib.hid (HM.out.below HX2.out); obtain ⟨vy, hsy, hry, hyc, hy1⟩ := rest_low HM2.out.rest many HLE.out; obtain ⟨w3, hrun, hb3, ho3, hr3⟩ := HM2.out.put (ty := 23) 0 (by omega) vy hyc hy1 (by kernel_rfl); have HCU := Lib.hid (show CrV base g w3 vy (r.drop many) 0 from ⟨hb3, hr3 hry⟩); have HON := Lib.hid ho3; clear ho2 hp2 hne2 hry hyc hy1 hb3 ho3 hr3) | (with_reducible refine Agg.wpList_loadL HM2.out.load rfl _ rfl rfl ?_) | (refine Agg.wpList_store rfl rfl 23 _ _ rfl (.pointer (some ⟨g, 0, none⟩)) _ rfl rfl hrun ?_))
  go_ret
  refine ⟨v2, rfl, ?_, ⟨vy, HCU.out⟩, (Only.of_below (S := (· = g)) HX2.out).trans HON.out fun _ _ h => h⟩
  have hown : Own EB w.heap.size w2 v2 (r.take many) := by simpa using HO2.out
  exact hown.keepT fun k cur fr hk => (HON.out.block k (Agg.heap_lt hk) (fun h => by
    obtain rfl : k = g := h
    have hb := HM2.out.blk
    unfold Blk at hb
    rw [hk] at hb
    injection hb with hb
    injection hb with _ hb
    exact absurd hb (by decide))).trans hk
end Go.Proofs.YtpnolgliklmnmaaGreat
