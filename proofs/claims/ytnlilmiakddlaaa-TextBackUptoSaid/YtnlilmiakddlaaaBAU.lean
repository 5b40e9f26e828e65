/- text.read: a text's derivation, or a panic. -/
import Derived.Test.YtnlilmiakddlaaaBAS
import Derived.Test.YtnlilmiakddlaaaBAT
namespace Go.Proofs.Ytnlilmiakddlaaa
open Go.RowKit Pl Go.Agg Go.Mp
attribute [local go_sem] Oper.semAt_some
def drvZ : Array Value := #[.string ⟨#[]⟩, .slice none 0 0, .slice none 0 0]
theorem drv_zeroT : (Try.prog.info? 25).map (·.zero) = some (some (.agg drvZ)) := by kernel_rfl
theorem rd_zeroT : (Try.prog.info? 71).map (·.zero) = some (some (.agg (rdC [] (.slice none 0 0) (.slice none 0 0) false))) := by kernel_rfl
/-- what reading answers -/
def ReadOut (B : Nat) (w : World) (r : Option Drv) (e : Ending) (w' : World) : Prop :=
  Below B w w' ∧ match r with
    | some d => ∃ vi vr, e = .returned (.agg #[.string ⟨d.1.toArray⟩, vi, vr]) ∧ Agg.Own ENm B w' vi d.2.1 ∧ Agg.Own EB B w' vr d.2.2
    | none => e = .panicked noneCh
theorem exec_allocB {o : Oper} {a : Act} {w : World} (ho : o.op = .alloc 4) : (execOp a.eval o).run Try.prog w = .ok (.value (.pointer (some ⟨w.heap.size, 0, none⟩))) (w.alloc (.cells #[.bool false] 4)) := by
  have hz : (zeroValue 4).run Try.prog w = .ok (.bool false) w := by kernel_rfl
  simp [execOp, ho, Instr.alloc, hz, newVar, newRow, Value.cells]
theorem exec_lookT {o : Oper} {a : Act} {W : World} {mo xo : Operand} {b : Nat} {k : List UInt8} (ho : o.op = .lookup 78 mo xo true) (hm : a.eval mo = .map (some b)) (hx : a.eval xo = .string ⟨k.toArray⟩) (h : MapIs W b kS fV tkM) (r : Value) (hr : (match mget tkM k with | some v => fV v | none => .nilFunc) = r) (c : Bool) (hc : (mget tkM k).isSome = c) :
    (execOp a.eval o).run Try.prog W = .ok (.value (.tuple #[r, .bool c])) W := by
  subst hr hc
  have hz : ∀ w, (zeroValue 76).run Try.prog w = .ok .nilFunc w := fun w => by kernel_rfl
  have := run_lookup_ok (P := Try.prog) tkinds_under kS_key hz h k
  simp only [kS] at this
  simp [execOp, ho, hm, hx, this, Result.andThen]
  cases mget tkM k <;> rfl
theorem drv_sub {w : World} {g : Nat} {n : List UInt8} {vi vr : Value} {e : Bool} (h : Blk w g 71 (rdC n vi vr e)) : LoadsL Try.prog w 25 (some ⟨g, 0, none⟩) (.agg #[.string ⟨n.toArray⟩, vi, vr]) :=
  h.sub (P := Try.prog) 0 #[.string ⟨n.toArray⟩, vi, vr] (fun j v hj => by
    match j, hj with
    | 0, hj => exact hj
    | 1, hj => exact hj
    | 2, hj => exact hj
    | k + 3, hj => simp at hj) (by kernel_rfl : Try.prog.underlying 25 = some (.struct (Try.prog.fieldsOf 25))) rfl (by kernel_rfl)
theorem drv_info3T {n : ByteArray} {a b : Value} : (Try.prog.info? 25).map (·.size) = some (#[.string n, a, b] : Array Value).size := by kernel_rfl
theorem zero_bool (W : World) : (zeroValue 4).run Try.prog W = .ok (.bool false) W := by kernel_rfl
set_option maxRecDepth 100000 in
set_option maxHeartbeats 16000000 in
theorem read_any (s : List UInt8) (hs : s.length ≤ 1048576) (m : Int) (w : World) (hm : w.cell? ⟨0, 0, none⟩ = some (.int .i64 m)) :
    Calls Try.prog 17 #[.string ⟨s.toArray⟩] w fun e w' => ReadOut w.heap.size w (getD s) e w' := by
  have HM := Lib.hid hm
  clear hm
  refine calls_of_wpF_marks (n := 3) Try.func17 rfl ?_
  simp only [Try.ntmps17, List.size_toArray, List.length_cons, List.length_nil, Nat.reduceAdd, Nat.reduceSub, Array.replicate_succ, Array.replicate_zero, List.push_toArray, List.append_toArray, List.nil_append, List.cons_append]
  refine wpF_seq (wpF_of_wp ?_)
  go_wp2_with (first | (refine Agg.wpList_zero rfl 25 rfl drvZ drv_zeroT ?_; intro g2 w1 hb hx hg; have G2_1 := Lib.hid hb; have X1 := Lib.hid hx; have HG2 := Lib.hid hg; clear hb hx hg))
  simp only [Act.put, List.setIfInBounds_toArray, List.set_cons_succ, List.set_cons_zero]
  refine wpF_scope (wpF_seq (wpF_of_wp ?_))
  go_wp2_with (first | (refine Agg.wpList_zero rfl 71 rfl (rdC [] (.slice none 0 0) (.slice none 0 0) false) rd_zeroT ?_; intro g3 w2 hb hx hg; have G3_2 := Lib.hid hb; have X2 := Lib.hid (Agg.belowThen X1.out (Nat.le_refl _) hx); have HG3 := Lib.hid hg; have G2_2 := Lib.hid (G2_1.out.below hx); clear hb hx hg))
  simp only [Act.put, List.setIfInBounds_toArray, List.set_cons_succ, List.set_cons_zero]
  refine wpF_seq (wpF_of_wp ?_)
  go_wp2_with (first | (refine Agg.wpList_valw rfl (exec_allocB rfl) ?_) | (refine Agg.wpList_store rfl rfl 4 _ _ rfl _ _ rfl rfl (Agg.Blk.run_put (P := Try.prog) (ty := 4) (Blk.new w2 4 #[.bool false]) 0 (by simp) (.bool true) rfl rfl (by kernel_rfl)) ?_))
  have hb4 := Agg.Blk.set (Blk.new w2 4 #[.bool false]) 0 (.bool true)
  have hx4 : Below w2.heap.size w2 ((w2.alloc (.cells #[.bool false] 4)).setCell ⟨w2.heap.size, 0, none⟩ (.bool true)) := ((Below.refl _ _).alloc (Nat.le_refl _) _).setCell (Nat.le_refl _) _
  obtain ⟨w3, hw3⟩ : ∃ X, X = (w2.alloc (.cells #[.bool false] 4)).setCell ⟨w2.heap.size, 0, none⟩ (.bool true) := ⟨_, rfl⟩
  rw [← hw3] at hb4 hx4
  obtain ⟨g4, hg4⟩ : ∃ g, g = w2.heap.size := ⟨_, rfl⟩
  rw [← hg4] at hb4
  rw [← hw3, ← hg4]
  simp only [Act.put, List.setIfInBounds_toArray, List.set_cons_succ, List.set_cons_zero]
  have G4_3 := Lib.hid (show Blk w3 g4 4 #[.bool true] from hb4)
  have G3_3 := Lib.hid (G3_2.out.below hx4)
  have G2_3 := Lib.hid (G2_2.out.below hx4)
  have X3 := Lib.hid (Agg.belowThen X2.out (Nat.le_refl _) hx4)
  have HG4 := Lib.hid (Nat.le_of_eq hg4.symm)
  have HM3 := Lib.hid ((X3.out.cell (block_lt_of_cell HM.out)).trans HM.out)
  have HN := Lib.hid (show g2 < g3 ∧ g3 < g4 from ⟨Nat.lt_of_lt_of_le G2_1.out.lt HG3.out, by rw [hg4]; exact G3_2.out.lt⟩)
  clear hw3 hg4 hb4 hx4 G3_2 G2_2 G2_1
  refine wpF_seq (wpF_label ?_)
  refine wpF_seq (wpF_seq (wpF_of_wp ?_))
  go_wp2_with fail
  refine (lines_any s m w3 HM3.out).mono ?_
  rintro e w4 ⟨gs, rfl, hln, hgs, hx⟩
  have G4_4 := Lib.hid (G4_3.out.below hx)
  have G3_4 := Lib.hid (G3_3.out.below hx)
  have G2_4 := Lib.hid (G2_3.out.below hx)
  have X4 := Lib.hid (Agg.belowThen X3.out (Nat.le_refl _) hx)
  have HLN := Lib.hid hln
  have HGS := Lib.hid (show g4 < gs from Nat.lt_of_lt_of_le G4_3.out.lt hgs)
  clear hx hln hgs G4_3 G3_3 G2_3
  go_wp2_with fail
  refine wpF_block ?_
  have HB := Lib.hid (show w.heap.size ≤ g3 ∧ w.heap.size ≤ g4 ∧ w.heap.size ≤ gs from by have := HN.out; have := HG2.out; have := HGS.out; omega)
  have HR0 := Lib.hid (show RdI w.heap.size g2 g3 g4 gs [] w4 tg0 from ⟨rfl, ⟨fun _ => ⟨rfl, rfl⟩, fun _ => rfl⟩, Nat.le_refl _, ⟨HB.out.1, _, _, G3_4.out, Agg.Own.nil _ _ _, Agg.Own.nil _ _ _⟩, G4_4.out, ⟨_, HLN.out.rest⟩, G2_4.out, by have := HN.out; have := HG2.out; have := HGS.out; have := HB.out; omega, X4.out.size⟩)
  refine range_ownP (w := w4) (gf := 32) (lb := #[.pointer (some ⟨gs, 0, none⟩)]) Try.func17 rfl (enters_of Try.func32 (by kernel_rfl) rfl) (lines_seq gs m s hs w4 HLN.out)
    (fun A C h k h1 h2 => ?hT) (fun A C D h k => ⟨k.1.trans h.1, k.2.trans h.2⟩) (fun W l o hl => ⟨World.putObj_heap_other (by have := HLN.out.rest.lt; omega), World.putObj_heap_other (by have := block_lt_of_cell HLN.out.most; omega)⟩) (fun _ => rfl)
    (fun pre W => (∃ st, RdI w.heap.size g2 g3 g4 gs pre W st) ∧ Below w.heap.size w W) (fun ch W => ch = noneCh ∧ tgRead s tg0 = none ∧ Below w.heap.size w W)
    (OwnFrom.and (fun pre A C row hs hg hr => ?ownI) (ownFrom_below (Nat.le_refl _) X4.out.size)) (fun pre A C hi ht => ?tI) ⟨⟨tg0, HR0.out⟩, X4.out⟩
    (fun x => { tmps := #[.string ⟨s.toArray⟩, undef, .pointer (some ⟨g2, 0, none⟩), .pointer (some ⟨g3, 0, none⟩), .pointer (some ⟨g4, 0, none⟩), .string ⟨x.1.toArray⟩, .string ⟨x.2.toArray⟩, undef, undef, .string ⟨s.toArray⟩, .func (.func 32) #[] #[.pointer (some ⟨gs, 0, none⟩)], .string ⟨x.1.toArray⟩, .string ⟨x.2.toArray⟩, undef, undef, undef, undef, undef, undef, undef, undef, undef, undef, undef, undef, undef, undef, undef, undef, undef, undef, undef, undef, undef, undef, undef, undef, undef, undef, undef, undef, undef, undef, undef, undef], defers := [] }) (fun lp x W K hK => ?assign) (fun lp pre x W hi hG => ?body) (fun D xs W hD hS hi hKD => ?done) (fun D ch W hD hi hKD => ?pan)
  case hT =>
    rcases h with hb | ⟨v, rfl⟩
    · exact hb.block k h2
    · exact Below.heap_setCell _ _ _ _ (by have := HLN.out.rest.lt; show k ≠ gs; omega)
  case ownI =>
    obtain ⟨st, h⟩ := hs
    exact ⟨st, h.cells hg.size fun k o hk hc => grownBy_keeps_cells hg (fun r e => (hr r e).2) hk hc⟩
  case tI =>
    obtain ⟨⟨st, h⟩, hx⟩ := hi
    rcases ht with hb | ⟨v, rfl⟩
    · exact ⟨⟨st, h.below hb⟩, hx.trans (hb.mono hx.size)⟩
    · exact ⟨⟨st, h.set v⟩, hx.setCell (show w.heap.size ≤ gs from HB.out.2.2) v⟩
  case assign =>
    dsimp only [encL]
    gi_wp2_with fail
    exact hK
  case pan =>
    have hxw : ch = noneCh ∧ tgRead s tg0 = none ∧ Below w.heap.size w W := by
      rcases hi with h | ⟨rfl, pre, hsu, _, hx⟩
      · exact h
      · exact ⟨rfl, by rw [tgRead_lns _ (Nat.le_refl _), hsu]; simp, hx⟩
    obtain ⟨rfl, hrd, hx⟩ := hxw
    refine ⟨by simp, .inl ⟨_, _, rfl, run_takeDeferred hKD, ?_⟩⟩
    refine ⟨hx.trans (below_putObjT (Nat.le_trans X4.out.size hD) _), ?_⟩
    rw [show getD s = none by rw [getD, hrd]]
  case done =>
    obtain ⟨⟨st, hi⟩, hx⟩ := hi
    have hrd : tgRead s tg0 = some st := by rw [tgRead_lns _ (Nat.le_refl _), hS]; simpa using hi.fold
    have hgd : getD s = if st.ended && canDrv st.d then some st.d else none := by rw [getD, hrd]
    have hDB : w.heap.size ≤ D := Nat.le_trans X4.out.size hD
    have hlen := hi.len
    have hxl : xs.length ≤ s.length := by have := (lns_len _ (Nat.le_refl s.length)).1; rw [hS] at this; exact this
    obtain ⟨hg0, vi, vr, h1, h2, h3⟩ := hi.rd
    have HE := Lib.hid (show LoadsL Try.prog W 4 (some ⟨g3, 3, none⟩) (.bool st.ended) from h1.one (P := Try.prog) 3 rfl Try.underlying4 rfl)
    have HDv := Lib.hid (drv_sub h1)
    have HGD := Lib.hid hgd
    have HX := Lib.hid hx
    have HKD := Lib.hid hKD
    have H2 := Lib.hid h2
    have H3 := Lib.hid h3
    have HRes := Lib.hid hi.res
    have HG2X := Lib.hid hi.ne.2.2.2.2.2.2.1
    have hDR : DrvAt W (.agg #[.string ⟨st.d.1.toArray⟩, vi, vr]) st.d := ⟨vi, vr, rfl, h2.slice, h3.slice⟩
    have HDR := Lib.hid hDR
    clear hi hx hKD h1 h2 h3 hrd hgd hDR hS
    show Code.wpF _ _ _ _ _ _
    refine wpF_of_wp ?_
    cases he : st.ended with
    | false =>
      rw [he] at HE
      have HZ := Lib.hid (show getD s = none by rw [HGD.out, he]; rfl)
      clear he
      go_wp2_with (first | (with_reducible refine Agg.wpList_loadL HE.out rfl _ rfl rfl ?_))
      refine (must_no W).mono ?_
      rintro e W1 ⟨rfl, rfl⟩
      go_wp2_with fail
      refine ⟨by simp, .inl ⟨_, _, rfl, run_takeDeferred HKD.out, ?_⟩⟩
      refine ⟨HX.out.trans (below_putObjT hDB _), ?_⟩
      rw [HZ.out]
    | true =>
      rw [he] at HE
      have HZ := Lib.hid (show getD s = if canDrv st.d then some st.d else none by rw [HGD.out, he]; simp)
      clear he
      go_wp2_with (first | (with_reducible refine Agg.wpList_loadL HE.out rfl _ rfl rfl ?_) | (with_reducible refine Agg.wpList_loadL HDv.out rfl _ rfl rfl ?_))
      refine (textCan_any _ st.d (by omega) W HDR.out).mono ?_
      rintro e W1 ⟨rfl, hb⟩
      have HD1 := Lib.hid (HDv.out.below hb)
      have H21 := Lib.hid (H2.out.below hb)
      have H31 := Lib.hid (H3.out.below hb)
      have HX1 := Lib.hid (Agg.belowThen HX.out (Nat.le_refl _) hb)
      have HK1 := Lib.hid ((hb.block D (heap_lt HKD.out)).trans HKD.out)
      have HR1 := Lib.hid (HRes.out.below hb)
      clear hb HDv H2 H3 HX HKD HRes HDR HE HGD
      cases hc : canDrv st.d with
      | false =>
        have HZ2 := Lib.hid (show getD s = none by rw [HZ.out, hc]; simp)
        clear hc
        go_wp2_with fail
        refine (must_no W1).mono ?_
        rintro e W2 ⟨rfl, rfl⟩
        go_wp2_with fail
        refine ⟨by simp, .inl ⟨_, _, rfl, run_takeDeferred HK1.out, ?_⟩⟩
        refine ⟨HX1.out.trans (below_putObjT hDB _), ?_⟩
        rw [HZ2.out]
      | true =>
        have HZ2 := Lib.hid (show getD s = some st.d by rw [HZ.out, hc]; simp)
        clear hc
        go_wp2_with fail
        refine (must_yes W1).mono ?_
        rintro e W2 ⟨rfl, rfl⟩
        have hall : (#[.string ⟨st.d.1.toArray⟩, vi, vr] : Array Value).all (·.oneCell') = true := by
          obtain ⟨p1, c1, e1⟩ := H21.out.slice.form
          obtain ⟨p2, c2, e2⟩ := H31.out.slice.form
          rw [e1, e2]; simp [Value.oneCell']
        go_wp2_with (first | (with_reducible refine Agg.wpList_loadL HD1.out rfl _ rfl rfl ?_) | (refine Agg.wpList_put rfl rfl 25 _ _ rfl g2 #[.string ⟨st.d.1.toArray⟩, vi, vr] drvZ rfl rfl HR1.out drv_info3T rfl hall ?_; intro W3 hb3 hx3 hs3 hk3; have HB3 := Lib.hid hb3; have HO3 := Lib.hid (show Only (· = g2) W2 W3 from ⟨hx3.os, hx3.tape, hx3.output, Nat.le_of_eq hs3.symm, fun k _ hn => hk3 k hn⟩); clear hb3 hx3 hs3 hk3))
        have hDne : D ≠ g2 := fun e => by
          have h := HK1.out
          rw [e, show W2.heap[g2]? = _ from HR1.out] at h
          cases h
        have hKD3 : W3.heap[D]? = some (.deferred (some [])) := (HO3.out.block D (heap_lt HK1.out) hDne).trans HK1.out
        refine ⟨by simp, .inl ⟨_, _, rfl, run_takeDeferred hKD3, ?_⟩⟩
        have hbP : Blk (W3.putObj D (.deferred none)) g2 25 #[.string ⟨st.d.1.toArray⟩, vi, vr] := (World.putObj_heap_other (fun e => hDne e.symm)).trans HB3.out
        refine ⟨_, results_cell_row rfl _ _ g2 _ _ _ _ rfl hbP (by kernel_rfl : Try.prog.underlying 25 = some (.struct (Try.prog.fieldsOf 25))) rfl drv_info3T, ?_⟩
        have hty : ∀ (k : Nat) (cur : Array Value) (t : TypeId) (fr : Nat × Nat), t ≠ 25 → W2.heap[k]? = some (.cells cur t fr) → (W3.putObj D (.deferred none)).heap[k]? = some (.cells cur t fr) := fun k cur t fr hne hq =>
          (World.putObj_heap_other (fun e => by have h := HK1.out; rw [← e, hq] at h; cases h)).trans ((HO3.out.block k (heap_lt hq) (fun e => by
            subst e
            rw [show W2.heap[k]? = _ from HR1.out] at hq
            injection hq with hq
            injection hq with _ h2
            exact hne h2.symm)).trans hq)
        refine ⟨(HX1.out.trans (HO3.out.below HX1.out.size (fun i hi => by subst hi; exact HG2X.out))).trans (below_putObjT hDB _), ?_⟩
        rw [HZ2.out]
        exact ⟨vi, vr, rfl, H21.out.typed fun k cur fr => hty k cur _ fr (show 44 ≠ 25 by decide), H31.out.typed fun k cur fr => hty k cur _ fr (show 5 ≠ 25 by decide)⟩
  case body =>
    obtain ⟨⟨st, hi⟩, hx⟩ := hi
    obtain ⟨ys, b, hG⟩ := hG
    have hll := lns_len _ (Nat.le_refl s.length)
    rw [hG] at hll
    have hpre : pre.length + 1 ≤ s.length := by have := hll.1; simp at this; omega
    have hx2 : x.2.length ≤ s.length := (hll.2 x (by simp)).2
    have hBw : w.heap.size ≤ W.heap.size := hi.size
    obtain ⟨hg0, vi, vr, h1, h2, h3⟩ := hi.rd
    have HE := Lib.hid (show LoadsL Try.prog W 4 (some ⟨g3, 3, none⟩) (.bool st.ended) from h1.one (P := Try.prog) 3 rfl Try.underlying4 rfl)
    have HF := Lib.hid (show LoadsL Try.prog W 4 (some ⟨g4, 0, none⟩) (.bool st.first) from hi.first.one (P := Try.prog) 0 rfl Try.underlying4 rfl)
    have HI := Lib.hid hi
    have HX := Lib.hid hx
    have HG := Lib.hid (fun (h : tgStep st x.1 x.2 = none) => tgRead_none hG hi.fold h)
    have HMW := Lib.hid ((hx.cell (block_lt_of_cell HM.out)).trans HM.out)
    clear hi hx hG hll h1 h2 h3 vi vr hg0
    have HMY := Lib.hid (fun V => CallsIn.inRound lp (callsIn_wide (n := 0).2 (must_yes V)))
    have HMN := Lib.hid (fun V => CallsIn.inRound lp (callsIn_wide (n := 0).2 (must_no V)))
    cases he : st.ended with
    | true =>
      rw [he] at HE
      have HZ := Lib.hid (HG.out (by simp [tgStep, he]))
      clear he
      gi_wp2_with (first | (with_reducible refine wpListIn_loadL HE.out (wide_allR lp) rfl _ rfl rfl ?_))
      refine ⟨trivial, CallsIn.mono (HMN.out W) ?_⟩
      rintro e W1 ⟨rfl, rfl⟩
      gi_wp2_with fail
      exact ⟨rfl, KeepsFrom.refl _ _, rfl, HZ.out, HX.out⟩
    | false =>
      rw [he] at HE
      gi_wp2_with (first | (with_reducible refine wpListIn_loadL HE.out (wide_allR lp) rfl _ rfl rfl ?_))
      refine ⟨trivial, CallsIn.mono (HMY.out W) ?_⟩
      rintro e W1 ⟨rfl, rfl⟩
      cases hf : st.first with
      | true =>
        rw [hf] at HF
        by_cases hd : x.1 = [100, 114, 118]
        · have HQ := Lib.hid (show decide (x.1 = [100, 114, 118]) = true by simp [hd])
          have HT := Lib.hid (show tgStep st x.1 x.2 = some ⟨(x.2, st.d.2.1, st.d.2.2), st.ended, false⟩ by simp [tgStep, he, hf, hd])
          clear he hf hd
          gi_wp2_with (first | (with_reducible refine wpListIn_loadL HF.out (wide_allR lp) rfl _ rfl rfl ?_) | (refine wpListIn_eqlS (s := x.1) (r := [100, 114, 118]) (wide_allR lp) rfl rfl rfl rfl true HQ.out ?_))
          refine ⟨trivial, CallsIn.mono (HMY.out W1) ?_⟩
          rintro e W2 ⟨rfl, rfl⟩
          obtain ⟨hg0, vi, vr, h1, h2, h3⟩ := HI.out.rd
          have n1 := HI.out.ne.1
          have HS1 := Lib.hid (Agg.Blk.run_put (P := Try.prog) (ty := 9) h1 0 (by simp [rdC]) (.string ⟨x.2.toArray⟩) rfl rfl (by kernel_rfl))
          have hf1 : Blk (W2.setCell ⟨g3, 0, none⟩ (.string ⟨x.2.toArray⟩)) g4 4 #[.bool st.first] := (Below.heap_setCell _ _ _ _ (fun e => n1 e.symm)).trans HI.out.first
          have HS2 := Lib.hid (Agg.Blk.run_put (P := Try.prog) (ty := 4) hf1 0 (by simp) (.bool false) rfl rfl (by kernel_rfl))
          have HI2 := Lib.hid (HI.out.name HT.out rfl)
          have hsz1 : w.heap.size ≤ (W2.setCell ⟨g3, 0, none⟩ (.string ⟨x.2.toArray⟩)).heap.size := by rw [show (W2.setCell ⟨g3, 0, none⟩ (.string ⟨x.2.toArray⟩)).heap.size = W2.heap.size from by simp [World.setCell]]; exact hBw
          have HX2 := Lib.hid (Below.setCell (p := ⟨g4, 0, none⟩) (Below.setCell (p := ⟨g3, 0, none⟩) HX.out HB.out.1 (.string ⟨x.2.toArray⟩)) HB.out.2.1 (.bool false))
          have HK2 := Lib.hid (((KeepsOthers.setCell W2 ⟨g3, 0, none⟩ (.string ⟨x.2.toArray⟩)).from w4.heap.size).trans ((KeepsOthers.setCell (W2.setCell ⟨g3, 0, none⟩ (.string ⟨x.2.toArray⟩)) ⟨g4, 0, none⟩ (.bool false)).from w4.heap.size))
          have hm0 : 0 < w.heap.size := block_lt_of_cell HM.out
          have HKp := Lib.hid (show KpL gs W2 ((W2.setCell ⟨g3, 0, none⟩ (.string ⟨x.2.toArray⟩)).setCell ⟨g4, 0, none⟩ (.bool false)) from by
            have hb := HB.out
            have hn := HI.out.ne
            exact ⟨(Below.heap_setCell _ _ _ _ (fun e => hn.2.2.1 e.symm)).trans (Below.heap_setCell _ _ _ _ (fun e => hn.2.1 e.symm)), (Below.heap_setCell _ _ _ _ (show _ ≠ g4 by omega)).trans (Below.heap_setCell _ _ _ _ (show _ ≠ g3 by omega))⟩)
          clear h1 h2 h3 hf1
          gi_wp2_with (first | (refine wpListIn_store (wide_allR lp) rfl rfl 9 _ _ rfl _ _ rfl rfl HS1.out ?_) | (refine wpListIn_store (wide_allR lp) rfl rfl 4 _ _ rfl _ _ rfl rfl HS2.out ?_))
          exact ⟨HK2.out, HKp.out, ⟨_, HI2.out⟩, HX2.out⟩
        · have HQ := Lib.hid (show decide (x.1 = [100, 114, 118]) = false by simp [hd])
          have HZ := Lib.hid (HG.out (by simp [tgStep, he, hf, hd]))
          clear he hf hd
          gi_wp2_with (first | (with_reducible refine wpListIn_loadL HF.out (wide_allR lp) rfl _ rfl rfl ?_) | (refine wpListIn_eqlS (s := x.1) (r := [100, 114, 118]) (wide_allR lp) rfl rfl rfl rfl false HQ.out ?_))
          refine ⟨trivial, CallsIn.mono (HMN.out W1) ?_⟩
          rintro e W2 ⟨rfl, rfl⟩
          gi_wp2_with fail
          exact ⟨rfl, KeepsFrom.refl _ _, rfl, HZ.out, HX.out⟩
      | false =>
        rw [hf] at HF
        have hst : st = ⟨st.d, false, false⟩ := by cases st; simp_all
        have HSH := Lib.hid (fun st' (h : tgStep st x.1 x.2 = some st') => (show st'.first = st.first ∧ st'.d.2.1.length ≤ st.d.2.1.length + 1 by rw [hf]; rw [hst] at h; exact tgStep_shape h))
        have hrec : st.d.2.2 = [] := HI.out.ok.r he
        have hlen := HI.out.len
        have hrd : RdV w.heap.size g3 W1 st.d false := by have := HI.out.rd; rwa [he] at this
        have HRD := Lib.hid hrd
        have HNO := Lib.hid (fun (h1 : ¬ x.1 = [115, 114, 99]) (h2 : ¬ x.1 = [99, 108, 97, 115, 115]) (h3 : ¬ x.1 = [114, 117, 110]) => HG.out (by rw [hst]; simp [tgStep, h1, h2, h3]))
        clear hrd he hf
        gi_wp2_with (first | (with_reducible refine wpListIn_loadL HF.out (wide_allR lp) rfl _ rfl rfl ?_))
        refine ⟨trivial, CallsIn.mono (CallsIn.inRound lp (callsIn_wide.2 (tkinds_any W1))) ?_⟩
        rintro e W3 ⟨gm, rfl, hmp, hb⟩
        have HMP := Lib.hid hmp
        have HB3 := Lib.hid (hb.mono hBw)
        have HR3 := Lib.hid (RStep.below hb : RSt g3 W1 W3)
        have HX3 := Lib.hid (HX.out.trans (hb.mono hBw))
        have HRD3 := Lib.hid (HRD.out.below hb)
        have HM3' := Lib.hid ((hb.cell (block_lt_of_cell HMW.out)).trans HMW.out)
        have hB3 : w.heap.size ≤ W3.heap.size := Nat.le_trans hBw hb.size
        clear hmp hb HRD
        by_cases hw : x.1 = [115, 114, 99]
        · have HQ := Lib.hid (show mget tkM x.1 = some 34 by rw [tkM_get, hw]; rfl)
          have HC := Lib.hid (show Calls Try.prog 34 #[.pointer (some ⟨g3, 0, none⟩), .string ⟨x.2.toArray⟩] W3 fun e w' => RdOut w.heap.size g3 W3 (tgStep st x.1 x.2) e w' by
            rw [hst, hw]
            exact rsrc_any w.heap.size g3 x.2 st.d (by omega) (by omega) m W3 HM3'.out hB3 HRD3.out)
          clear hw hst
          gi_wp2_with (first | (refine wpListIn_valR (wide_allR lp) rfl rfl (exec_lookT rfl rfl rfl HMP.out (.func (.func 34) #[] #[]) (by rw [HQ.out]; rfl) true (by rw [HQ.out]; rfl)) ?_))
          refine ⟨trivial, CallsIn.mono (HMY.out W3) ?_⟩
          rintro e W4 ⟨rfl, rfl⟩
          gi_wp2_with fail
          refine ⟨trivial, CallsIn.mono (CallsIn.inRound lp (callsIn_wide.2 HC.out)) ?_⟩
          rintro e W5 ⟨hxo, hro, hmo⟩
          have HX5 := Lib.hid (HX3.out.trans hxo)
          have HR5 := Lib.hid ((HR3.out : RSt g3 W1 W4).trans hro)
          have HW5 := Lib.hid (HB3.out.trans hxo)
          clear hxo hro HC
          cases ht : tgStep st x.1 x.2 with
          | none =>
            rw [ht] at hmo
            obtain rfl : e = .panicked noneCh := hmo
            have HZ := Lib.hid (HG.out ht)
            clear ht
            gi_wp2_with fail
            exact ⟨rfl, keeps_of HR5.out, rfl, HZ.out, HX5.out⟩
          | some st' =>
            rw [ht] at hmo
            obtain ⟨rfl, hv⟩ := hmo
            have HV := Lib.hid (show RdI w.heap.size g2 g3 g4 gs (pre ++ [x]) W5 st' from HI.out.step HR5.out ht (HSH.out _ ht).2 (HSH.out _ ht).1 hv)
            clear ht hv
            gi_wp2_with fail
            exact ⟨keeps_of HR5.out, kpL_of HI.out HR5.out HW5.out (block_lt_of_cell HM.out), ⟨_, HV.out⟩, HX5.out⟩
        by_cases hw2 : x.1 = [99, 108, 97, 115, 115]
        · have hwq := hw2
          have HQ := Lib.hid (show mget tkM x.1 = some 35 by rw [tkM_get, hwq]; rfl)
          have HC := Lib.hid (show Calls Try.prog 35 #[.pointer (some ⟨g3, 0, none⟩), .string ⟨x.2.toArray⟩] W3 fun e w' => RdOut w.heap.size g3 W3 (tgStep st x.1 x.2) e w' by
            rw [hst, hwq]
            exact rcls_any w.heap.size g3 x.2 st.d (by omega) (by omega) m W3 HM3'.out hB3 HRD3.out)
          clear hwq hw2 hst
          gi_wp2_with (first | (refine wpListIn_valR (wide_allR lp) rfl rfl (exec_lookT rfl rfl rfl HMP.out (.func (.func 35) #[] #[]) (by rw [HQ.out]; rfl) true (by rw [HQ.out]; rfl)) ?_))
          refine ⟨trivial, CallsIn.mono (HMY.out W3) ?_⟩
          rintro e W4 ⟨rfl, rfl⟩
          gi_wp2_with fail
          refine ⟨trivial, CallsIn.mono (CallsIn.inRound lp (callsIn_wide.2 HC.out)) ?_⟩
          rintro e W5 ⟨hxo, hro, hmo⟩
          have HX5 := Lib.hid (HX3.out.trans hxo)
          have HR5 := Lib.hid ((HR3.out : RSt g3 W1 W4).trans hro)
          have HW5 := Lib.hid (HB3.out.trans hxo)
          clear hxo hro HC
          cases ht : tgStep st x.1 x.2 with
          | none =>
            rw [ht] at hmo
            obtain rfl : e = .panicked noneCh := hmo
            have HZ := Lib.hid (HG.out ht)
            clear ht
            gi_wp2_with fail
            exact ⟨rfl, keeps_of HR5.out, rfl, HZ.out, HX5.out⟩
          | some st' =>
            rw [ht] at hmo
            obtain ⟨rfl, hv⟩ := hmo
            have HV := Lib.hid (show RdI w.heap.size g2 g3 g4 gs (pre ++ [x]) W5 st' from HI.out.step HR5.out ht (HSH.out _ ht).2 (HSH.out _ ht).1 hv)
            clear ht hv
            gi_wp2_with fail
            exact ⟨keeps_of HR5.out, kpL_of HI.out HR5.out HW5.out (block_lt_of_cell HM.out), ⟨_, HV.out⟩, HX5.out⟩
        by_cases hw3 : x.1 = [114, 117, 110]
        · have hwq := hw3
          have HQ := Lib.hid (show mget tkM x.1 = some 36 by rw [tkM_get, hwq]; rfl)
          have HC := Lib.hid (show Calls Try.prog 36 #[.pointer (some ⟨g3, 0, none⟩), .string ⟨x.2.toArray⟩] W3 fun e w' => RdOut w.heap.size g3 W3 (tgStep st x.1 x.2) e w' by
            rw [hst, hwq]
            exact rrun_any w.heap.size g3 x.2 st.d (by omega) (by rw [hrec]; simp) W3 hB3 HRD3.out)
          clear hwq hw3 hst
          gi_wp2_with (first | (refine wpListIn_valR (wide_allR lp) rfl rfl (exec_lookT rfl rfl rfl HMP.out (.func (.func 36) #[] #[]) (by rw [HQ.out]; rfl) true (by rw [HQ.out]; rfl)) ?_))
          refine ⟨trivial, CallsIn.mono (HMY.out W3) ?_⟩
          rintro e W4 ⟨rfl, rfl⟩
          gi_wp2_with fail
          refine ⟨trivial, CallsIn.mono (CallsIn.inRound lp (callsIn_wide.2 HC.out)) ?_⟩
          rintro e W5 ⟨hxo, hro, hmo⟩
          have HX5 := Lib.hid (HX3.out.trans hxo)
          have HR5 := Lib.hid ((HR3.out : RSt g3 W1 W4).trans hro)
          have HW5 := Lib.hid (HB3.out.trans hxo)
          clear hxo hro HC
          cases ht : tgStep st x.1 x.2 with
          | none =>
            rw [ht] at hmo
            obtain rfl : e = .panicked noneCh := hmo
            have HZ := Lib.hid (HG.out ht)
            clear ht
            gi_wp2_with fail
            exact ⟨rfl, keeps_of HR5.out, rfl, HZ.out, HX5.out⟩
          | some st' =>
            rw [ht] at hmo
            obtain ⟨rfl, hv⟩ := hmo
            have HV := Lib.hid (show RdI w.heap.size g2 g3 g4 gs (pre ++ [x]) W5 st' from HI.out.step HR5.out ht (HSH.out _ ht).2 (HSH.out _ ht).1 hv)
            clear ht hv
            gi_wp2_with fail
            exact ⟨keeps_of HR5.out, kpL_of HI.out HR5.out HW5.out (block_lt_of_cell HM.out), ⟨_, HV.out⟩, HX5.out⟩
        have HQ := Lib.hid (show mget tkM x.1 = none by rw [tkM_get, if_neg hw3, if_neg hw2, if_neg hw])
        have HZ := Lib.hid (HNO.out hw hw2 hw3)
        clear hw hw2 hw3 hst
        gi_wp2_with (first | (refine wpListIn_valR (wide_allR lp) rfl rfl (exec_lookT rfl rfl rfl HMP.out .nilFunc (by rw [HQ.out]) false (by rw [HQ.out]; rfl)) ?_))
        refine ⟨trivial, CallsIn.mono (HMN.out W3) ?_⟩
        rintro e W4 ⟨rfl, rfl⟩
        gi_wp2_with fail
        exact ⟨rfl, keeps_of HR3.out, rfl, HZ.out, HX3.out⟩
end Go.Proofs.Ytnlilmiakddlaaa
