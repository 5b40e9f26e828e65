/- tree.Ways. -/
import Derived.Test.YtfiadgdinhmgbaaDoorHBA
import Derived.Test.YtfiadgdinhmgbaaDoorHAO
namespace Go.Agg
open Go.RowKit
variable {P : Program}
theorem results_cell1 {fn : Func} {p : Tmp} {t1 : TypeId} (h : fn.results = #[.cell p t1]) {tmps : Array Value} {w : World} {a : Addr} {u : Value} (hp : tmps.getD p undef = .pointer (some a))
  (h1 : (loadVar t1 a).run P w = .ok u w) : (results fn tmps).run P w = .ok u w := by
 have hp' : tmps[p]?.getD undef = .pointer (some a) := by rw [← Array.getD_eq_getD_getElem?]; exact hp
 simp only [results, h]
 simp [hp', asAddr, h1]
theorem wpListIn_alloc1 {F : Fence} {n : Nat} {ops : Array Oper} {rest : List Oper} {o : Oper} {a : Act} {w : World} {Q : Exit → Act → World → Prop} (hF : ∀ f, F.fn f) (hg : o.guard = none) (ty : TypeId) (ho : o.op = .alloc ty) (z : Value) (hz : ∀ W, (zeroValue ty).run P W = .ok z W) (hc : z.cells = #[z])
  (h : ∀ g w', Blk w' g ty #[z] → Below w.heap.size w w' → w.heap.size ≤ g → wpListIn F n P ops Q rest (a.put o.dst (.pointer (some ⟨g, 0, none⟩))) w') : wpListIn F n P ops Q (o :: rest) a w :=
 wpListIn_valR hF (by simp [Region.wanted, hg]) (by unfold Oper.plainB; rw [ho]) (by simp [execOp, ho, Instr.alloc, hz, newVar, newRow, hc]) (h _ _ (Blk.new w ty #[z]) ((Below.refl _ _).alloc (Nat.le_refl _) _) (Nat.le_refl _))
theorem wpListIn_put1 {F : Fence} {n : Nat} {ops : Array Oper} {rest : List Oper} {o : Oper} {a : Act} {w : World} {Q : Exit → Act → World → Prop} (hF : ∀ f, F.fn f) (hg : o.guard = none) (hd : o.dst = none) (ty : TypeId) (x y : Operand) (ho : o.op = .store ty x y) (g i : Nat) (v : Value) (hx : a.eval x = .pointer (some ⟨g, i, none⟩)) (hy : a.eval y = v)
  {t : TypeId} {cs : Array Value} (hb : Blk w g t cs) (hi : i < cs.size) (hv : v.cells = #[v]) (h1 : v.oneCell' = true) (hs : (P.info? ty).map (·.size) = some 1) (ds : Array Value) (he : cs.setIfInBounds i v = ds)
  (h : ∀ w', Blk w' g t ds → Only (· = g) w w' → w'.heap.size = w.heap.size → (w' = w.setCell ⟨g, i, none⟩ v) → wpListIn F n P ops Q rest a w') : wpListIn F n P ops Q (o :: rest) a w := by
 subst he
 exact wpListIn_store hF (by simp [Region.wanted, hg]) hd ty x y ho _ v hx hy (hb.run_put i hi v hv h1 hs) (h _ (hb.set i v) ⟨rfl, rfl, rfl, by simp [World.setCell], fun k _ hk => Below.heap_setCell _ _ _ _ hk⟩ (by simp [World.setCell]) rfl)
end Go.Agg
namespace Go.Proofs.YtfiadgdinhmgbaaDoor
open Go.RowKit Go.Shelf Pl Go.Agg Go.Tr
attribute [local go_sem] Oper.semAt_some
set_option maxRecDepth 100000 in
theorem walk_any (x : NdV) (w : World) : Calls Tryd.prog 50 #[.agg (ndC x)] w fun e w' => ∃ g1, e = .returned (.func (.func 74) #[] #[.pointer (some ⟨g1, 0, none⟩)]) ∧ Blk w' g1 26 (ndC x) ∧ w.heap.size ≤ g1 ∧ Below w.heap.size w w' := by
 go_enter Tryd.func50, Tryd.ntmps50
 go_wp2_with (first | (refine wpList_box rfl 26 _ rfl (ndC x) rfl ?_; intro g1 w1 hb hx hg; have HB := Lib.hid hb; have HX := Lib.hid hx; have HG := Lib.hid (show w.heap.size ≤ g1 from hg); clear hb hx hg))
 go_ret
 exact ⟨g1, rfl, HB.out, HG.out, HX.out⟩
theorem right_countW {t : T} (h : right t = true) : count t ≤ 200 := by have := (look_parts h).2.1; omega
def wysR (t : T) : List (List UInt8) := if right t then wysT t else []
set_option maxRecDepth 100000 in
set_option maxHeartbeats 8000000 in
theorem ways_any (v : Value) (t : T) (w : World) (hv : NodeAt w v t) :
  Calls Tryd.prog 19 #[v] w fun e w' => ∃ v', e = .returned v' ∧ Agg.Own ES w.heap.size w' v' (wysR t) ∧ Below w.heap.size w w' := by
 obtain ⟨x, rfl, hx⟩ := hv
 have HV := Lib.hid hx
 clear hx
 refine (callsIn_wide (n := 3)).1 ?_
 refine callsIn_of_wp_marks Tryd.func19 rfl trivial ?_ rfl
 simp only [Tryd.ntmps19, List.size_toArray, List.length_cons, List.length_nil, Nat.reduceAdd, Nat.reduceSub, Array.replicate_succ, Array.replicate_zero, List.push_toArray, List.append_toArray, List.nil_append, List.cons_append]
 gi_wp2_with (first | (refine Agg.wpListIn_box wide_all rfl 26 _ rfl (ndC x) rfl ?_; intro g1 w1 hb hx hg; have HB1 := Lib.hid hb; have HX1 := Lib.hid hx; clear hb hx hg) | (refine Agg.wpListIn_alloc1 wide_all rfl 37 rfl (.slice none 0 0) (fun W => by kernel_rfl) rfl ?_; intro g2 w2 hb hx hg; have HO2 := Lib.hid hb; have HB2 := Lib.hid (HB1.out.below hx); have HX2 := Lib.hid (belowThen HX1.out (Nat.le_refl _) hx); have HG2 := Lib.hid (show w.heap.size ≤ g2 from Nat.le_trans HX1.out.size hg); clear hb hx hg) | (with_reducible refine wpListIn_loadL (NdL.of_blk HB2.out).all wide_all rfl _ rfl rfl ?_))
 refine ⟨trivial, CallsIn.mono (callsIn_wide.2 (tright_any (.agg (ndC x)) t w2 ⟨x, rfl, HV.out.below HX2.out⟩)) ?_⟩
 rintro e w3 ⟨rfl, hx⟩
 have HO3 := Lib.hid (HO2.out.below hx)
 have HB3 := Lib.hid (HB2.out.below hx)
 have HX3 := Lib.hid (belowThen HX2.out (Nat.le_refl _) hx)
 clear hx
 cases hr : right t with
 | false =>
  have HE := Lib.hid (show wysR t = [] by simp [wysR, hr])
  clear hr
  gi_wp2_with (first | (refine Agg.wpListIn_put1 wide_all rfl rfl 37 _ _ rfl g2 0 (.slice none 0 0) rfl rfl HO3.out (by simp) rfl rfl (by kernel_rfl) #[.slice none 0 0] rfl ?_; intro w4 hb ho hs he; have HO4 := Lib.hid hb; have HX4 := Lib.hid (HX3.out.trans (ho.below (B := w.heap.size) HX3.out.size (fun i hi => by subst hi; exact HG2.out))); clear hb ho hs he))
  exact ⟨_, results_cell1 rfl rfl (run_loadVar1 (by rw [HO4.out.cell]; rfl) ES.slice rfl), _, rfl, by rw [HE.out]; exact Agg.Own.nil _ _ _, HX4.out⟩
 | true =>
  have HRT := Lib.hid hr
  clear hr
  gi_wp2_with (first | (with_reducible refine wpListIn_loadL (NdL.of_blk HB3.out).all wide_all rfl _ rfl rfl ?_))
  refine ⟨trivial, CallsIn.mono (callsIn_wide.2 (walk_any x w3)) ?_⟩
  rintro e w4 ⟨g3, rfl, hb3, hg3, hx⟩
  have HO4 := Lib.hid (HO3.out.below hx)
  have HN4 := Lib.hid hb3
  have HX4 := Lib.hid (belowThen HX3.out (Nat.le_refl _) hx)
  have HZ4 := Lib.hid (show g2 < w4.heap.size from HO4.out.lt)
  clear hx hb3 hg3
  gi_wp2_with fail
  refine range_ownW (w := w4) (gf := 74) (lb := #[.pointer (some ⟨g3, 0, none⟩)]) rfl (enters_of Tryd.func74 (by kernel_rfl) rfl)
   (walk_seq (w0 := w) HX4.out g3 t (right_ok HRT.out) (right_deep HRT.out) x HV.out HN4.out (KpN w.heap.size) (fun _ _ h => h) HX4.out.size)
   (fun A B C h k => h.trans k) (fun A B hz h => KpN.below (Nat.le_trans HX4.out.size hz) h) (fun W l o o' hl h1 h2 => KpN.put (Nat.le_trans HX4.out.size hl) o' h1 h2) (fun _ => rfl)
   (fun pre W => ((∃ v, Agg.Own ES w4.heap.size W v (pre.map (·.1)) ∧ Blk W g2 37 #[v]) ∧ pre.map (·.1) = ((walkB [] t).take pre.length).map (·.1) ∧ w4.heap.size ≤ W.heap.size) ∧ Below w.heap.size w W)
   (OwnFrom.and (fun pre A B row hs hg hr => ?ownI) (ownFrom_below (Nat.le_refl _) HX4.out.size)) (fun pre A B hi hb => ?tI) ⟨⟨⟨_, Agg.Own.nil _ _ _, HO4.out⟩, rfl, Nat.le_refl _⟩, HX4.out⟩
   (fun e a' _ => a' = { tmps := #[.agg (ndC x), .pointer (some ⟨g1, 0, none⟩), .pointer (some ⟨g2, 0, none⟩), .string ⟨e.1.toArray⟩, .agg (ndC x), .bool true, .bool false, .agg (ndC x), .func (.func 74) #[] #[.pointer (some ⟨g3, 0, none⟩)], .string ⟨e.1.toArray⟩, .agg (ndC e.2), undef, undef, undef, undef, undef], defers := [] })
   (fun e a' _ A B row hs _ _ => hs) ?assign ?body ?done
  case ownI =>
   obtain ⟨⟨v, ho, hb⟩, hm, hz⟩ := hs
   have hc : ∀ (k : Nat) (o : Obj), A.heap[k]? = some o → o.isCells = true → B.heap[k]? = A.heap[k]? := fun k o hk hc => grownBy_keeps_cells hg (fun r e => (hr r e).2) hk hc
   exact ⟨⟨v, ho.keep fun k cur t fr _ hk => (hc k _ hk rfl).trans hk, (hc g2 _ hb rfl).trans hb⟩, hm, Nat.le_trans hz hg.size⟩
  case tI =>
   obtain ⟨⟨⟨v, ho, hbl⟩, hm, hz⟩, hx⟩ := hi
   exact ⟨⟨⟨v, ho.below hb, hbl.below hb⟩, hm, Nat.le_trans hz hb.size⟩, hx.trans (hb.mono hx.size)⟩
  case assign =>
   intro lp e W K hK
   dsimp only [encW]
   gi_wp2_with fail
   exact hK _ _ (Below.refl _ _) rfl
  case body =>
   rintro lp pre e a' W hzW ⟨⟨⟨v, ho, hb⟩, hm, hz⟩, hx⟩ rfl ⟨z, hz1, hz2, hz3⟩
   have hlt : pre.length < (walkB [] t).length := (List.getElem?_eq_some_iff.1 hz1).1
   rw [walkB_length] at hlt
   have h200 := right_countW HRT.out
   have hpl : (pre.map (·.1)).length + 1 ≤ 1099511627776 / 8 := by rw [List.length_map]; omega
   have HM := Lib.hid (show (pre ++ [e]).map (·.1) = ((walkB [] t).take (pre ++ [e]).length).map (·.1) by
    rw [List.length_append, List.length_singleton, List.take_add_one, hz1, List.map_append, List.map_append, hm]
    simp [hz2])
   have HO := Lib.hid ho
   have HB := Lib.hid hb
   have HX := Lib.hid hx
   have HLv := Lib.hid (show LoadsL Tryd.prog W 37 (some ⟨g2, 0, none⟩) v from hb.one (P := Tryd.prog) 0 rfl ES.slice rfl)
   have HZ := Lib.hid hz
   clear ho hb hx hm hz1 hz2 hz3
   gi_wp2_with (first | (with_reducible refine wpListIn_loadL HLv.out (wide_allR _) rfl _ rfl rfl ?_) | (refine Agg.wpListIn_pushT (E := ES) (base := w4.heap.size) (wide_allR _) rfl rfl 13 rfl _ rfl _ rfl e.1 rfl (fun _ => rfl) (by first | (simp; done) | simp [Act.put]) HO.out hpl (by decide) HZ.out ?_; intro u15 v16 W3 hok hp; have hvf : ∃ p n c, v16 = .slice p n c := (by obtain ⟨p, c, hf⟩ := hok.slice.form; exact ⟨p, _, c, hf⟩); obtain ⟨q, n9, c9, hv9⟩ := hvf; rw [hv9] at hok ⊢; have HO3 := Lib.hid hok; have HP3 := Lib.hid hp; have HB3 := Lib.hid (show Blk W3 g2 37 #[v] from hp.blk g2 _ _ _ (show 37 ≠ 9 by decide) HB.out); have HK3 := Lib.hid (keepsFrom_pushed (B := w4.heap.size) HO.out hp); clear hok hp) | (refine Agg.wpListIn_put1 (wide_allR _) rfl rfl 37 _ _ rfl g2 0 (.slice q n9 c9) rfl rfl HB3.out (by simp) rfl rfl (by kernel_rfl) #[.slice q n9 c9] rfl ?_; intro W4 hb ho hs he; have HB4 := Lib.hid hb; have HOn := Lib.hid ho; have HE4 := Lib.hid he; have HS4 := Lib.hid hs; clear hb ho hs he))
   have hb3 := HP3.out.below w4.heap.size (Nat.le_refl _) HZ.out
   have hlow : Below w.heap.size W W4 := (hb3.mono HX4.out.size).trans (HOn.out.below (B := w.heap.size) (Nat.le_trans HX4.out.size (Nat.le_trans HZ.out HP3.out.size)) (fun i hi => by subst hi; exact HG2.out))
   refine ⟨HK3.out.trans (by rw [HE4.out]; exact (KeepsOthers.setCell _ _ _).from _), ⟨hlow, fun g ty cs fr ht hg => ?_⟩, ⟨⟨.slice q n9 c9, ?_, HB4.out⟩, HM.out, by rw [HS4.out]; exact Nat.le_trans HZ.out HP3.out.size⟩, HX.out.trans hlow⟩
   ·have h3 := HP3.out.blk g ty cs fr (by show ty ≠ 9; rcases ht with rfl | rfl <;> decide) hg
    refine (HOn.out.block g (heap_lt h3) ?_).trans h3
    rintro rfl
    have h4 : W3.heap[g]? = some (.cells #[v] 37 (0, 0)) := HB3.out
    rw [h3] at h4
    injection h4 with h4
    injection h4 with _ h5
    rcases ht with rfl | rfl <;> exact absurd h5 (by decide)
   ·rw [List.map_append]
    exact HO3.out.keep fun k cur t fr hk hh => (HOn.out.block k (heap_lt hh) (by show ¬ k = g2; have := HZ4.out; omega)).trans hh
  case done =>
   rintro D xs W hD hS ⟨⟨⟨v, ho, hb⟩, hm, hz⟩, hx⟩ hKD
   have HE := Lib.hid (show xs.map (·.1) = wysR t by rw [hm, hS, List.take_length, walkB_ways, wysT_ways HRT.out, wysR, if_pos HRT.out])
   have HO := Lib.hid ho
   have HX := Lib.hid hx
   have HB := Lib.hid hb
   have HLv := Lib.hid (show LoadsL Tryd.prog W 37 (some ⟨g2, 0, none⟩) v from hb.one (P := Tryd.prog) 0 rfl ES.slice rfl)
   obtain ⟨q, c9, hv9⟩ := ho.slice.form
   have HV1 := Lib.hid (show v.cells = #[v] ∧ v.oneCell' = true by rw [hv9]; exact ⟨rfl, rfl⟩)
   have HND := Lib.hid (show g2 ≠ D ∧ w.heap.size ≤ D from ⟨by have := HZ4.out; omega, Nat.le_trans HX4.out.size hD⟩)
   have HKD := Lib.hid hKD
   clear ho hb hx hm hKD hv9
   gi_wp2_with (first | (with_reducible refine wpListIn_loadL HLv.out wide_all rfl _ rfl rfl ?_) | (refine Agg.wpListIn_put1 wide_all rfl rfl 37 _ _ rfl g2 0 v rfl rfl HB.out (by simp) HV1.out.1 HV1.out.2 (by kernel_rfl) #[v] rfl ?_; intro W4 hb ho hs he; have HB4 := Lib.hid hb; have HOn := Lib.hid ho; clear hb ho hs he))
   have hKD4 : W4.heap[D]? = some (.deferred (some [])) := (HOn.out.block D (heap_lt HKD.out) (fun e => HND.out.1 e.symm)).trans HKD.out
   refine ⟨by simp, .inl ⟨_, _, rfl, run_takeDeferred hKD4, ?_⟩⟩
   have hbP : Blk (W4.putObj D (.deferred none)) g2 37 #[v] := (World.putObj_heap_other HND.out.1).trans HB4.out
   refine ⟨_, results_cell1 rfl rfl (run_loadVar1 (by rw [hbP.cell]; rfl) ES.slice rfl), v, rfl, ?_, ?_⟩
   ·rw [← HE.out]
    exact (HO.out.keep fun k cur t fr hk hh => (World.putObj_heap_other (by rintro rfl; have h1 := HKD.out; rw [hh] at h1; cases h1)).trans ((HOn.out.block k (heap_lt hh) (by show ¬ k = g2; have := HZ4.out; omega)).trans hh)).lower HX4.out.size
   ·exact (HX.out.trans (HOn.out.below (B := w.heap.size) HX.out.size (fun i hi => by subst hi; exact HG2.out))).trans (below_putObj HND.out.2 _)
end Go.Proofs.YtfiadgdinhmgbaaDoor
