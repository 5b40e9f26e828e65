/- spencekit.SameBytes. (Several texts in one.) -/
import Derived.Test.YtniibcgomnjfgaaGreatVAP
import Derived.Test.YtniibcgomnjfgaaGreatVAZ
import Derived.Test.YtniibcgomnjfgaaGreatVBD
import Derived.Test.YtniibcgomnjfgaaGreatVBE
import Derived.Test.YtniibcgomnjfgaaGreatVAO
import Derived.Test.YtniibcgomnjfgaaGreatVAU
import Derived.Test.YtniibcgomnjfgaaGreatVBA
import Derived.Test.YtniibcgomnjfgaaGreatVBB
import Derived.Test.YtniibcgomnjfgaaGreatVAJ
import Derived.Test.YtniibcgomnjfgaaGreatVAE
import Derived.Test.YtniibcgomnjfgaaGreatVAF
/-! Helpers for RealMaps: rows of five and of two, a built stored, what Add answers, what is lent. -/
namespace Go.Agg
open Go.RowKit
variable {P : Program}
theorem step_slice0 {α : Type} (E : Elem P α) {base : Nat} {ops : Array Oper} {o : Oper} {a : Act} {w : World} {Q : Exit → Act → World → Prop} {K : Act → World → Prop} {F : Prop} (hg : o.guard = none) (ho : o.op = .buildSlice E.st 0 #[]) (hbase : base ≤ w.heap.size)
    (h : ∀ v' w', Own E base w' v' [] → Below w.heap.size w w' → (∀ k, v'.ownBlock = some k → w.heap.size ≤ k ∧ k < w'.heap.size) → K (a.put o.dst v') w') : if Region.wanted o (yielded ops a.tmps) = true then o.wp P a w K Q else F := by
  refine step_val hg (v := .slice (some ⟨w.heap.size, 0, none⟩) 0 0) (w' := w.alloc (.cells #[] E.ty)) ?_ (h _ _ ?_ ((Below.refl _ _).alloc (Nat.le_refl _) _) fun k hk => ?_)
  · simp [execOp, ho, Instr.buildSlice, run_underlying E.slice, run_sizeOf_elem, newRow, Instr.fill]
    rw [show Array.range 0 = #[] by simp, Array.map_empty]
  · exact ⟨by simp [Elem.flat], .inr ⟨_, 0, #[], rfl, hbase, heap_alloc_new w _, Nat.le_refl _, Nat.zero_le _, by simp, by simp [Elem.flat]⟩⟩
  · simp only [Value.ownBlock, Option.some.injEq] at hk
    simp only [World.alloc, Array.size_push]
    omega
theorem own_inG {α : Type} {E : Elem P α} {base : Nat} {w : World} {v : Value} {l : List α} (h : Own E base w v l) : ∀ k, v.ownBlock = some k → base ≤ k ∧ k < w.heap.size := fun k hk => by
  obtain ⟨h1, cur, hc⟩ := h.block k hk
  exact ⟨h1, heap_lt hc⟩
theorem own_svG {α : Type} {E : Elem P α} {base : Nat} {w : World} {v : Value} {l : List α} (h : Own E base w v l) : ∃ s : SV, v = s.1 := by
  obtain ⟨p, c, hf⟩ := h.slice.form
  exact ⟨⟨v, p, _, c, hf⟩, rfl⟩
theorem wpList_slice2g {α : Type} {E : Elem P α} {ops : Array Oper} {rest : List Oper} {o : Oper} {a : Act} {w : World} {Q : Exit → Act → World → Prop} (hg : Region.wanted o (yielded ops a.tmps) = true) (x y : Operand) (ho : o.op = .buildSlice E.st 2 #[(0, x), (1, y)]) (vx vy : α) (hx : a.eval x = E.val vx) (hy : a.eval y = E.val vy)
    (h : ∀ v' w', SliceOf E w' v' [vx, vy] → Below w.heap.size w w' → wpList P ops Q rest (a.put o.dst v') w') : wpList P ops Q (o :: rest) a w :=
  wpList_valw hg (v := .slice (some ⟨w.heap.size, 0, none⟩) 2 2) (w' := w.alloc (.cells ((E.val vx).cells ++ (E.val vy).cells) E.ty)) (by simp [execOp, ho, hx, hy, run_slice_two])
    (h _ _ (slice_of_block2 (Blk.new w E.ty _)) ((Below.refl _ _).alloc (Nat.le_refl _) _))
end Go.Agg
namespace Go.Proofs.YtniibcgomnjfgaaGreat
open Go.RowKit Pl Go.Agg
section
variable {ops : Array Oper} {rest : List Oper} {o : Oper} {a : Act} {w : World} {Q : Exit → Act → World → Prop}
theorem wpList_rows5 (hg : Region.wanted o (yielded ops a.tmps) = true) (x1 x2 x3 x4 x5 : Operand) (ho : o.op = .buildSlice 48 5 #[(0, x1), (1, x2), (2, x3), (3, x4), (4, x5)]) (s1 s2 s3 s4 s5 : SV) (h1 : a.eval x1 = s1.1) (h2 : a.eval x2 = s2.1) (h3 : a.eval x3 = s3.1) (h4 : a.eval x4 = s4.1) (h5 : a.eval x5 = s5.1)
    (h : ∀ v' w', SliceOf EUU w' v' [s1, s2, s3, s4, s5] → Below w.heap.size w w' → wpList Tryz.prog ops Q rest (a.put o.dst v') w') : wpList Tryz.prog ops Q (o :: rest) a w := by
  obtain ⟨v1, p1, n1, c1, rfl⟩ := s1
  obtain ⟨v2, p2, n2, c2, rfl⟩ := s2
  obtain ⟨v3, p3, n3, c3, rfl⟩ := s3
  obtain ⟨v4, p4, n4, c4, rfl⟩ := s4
  obtain ⟨v5, p5, n5, c5, rfl⟩ := s5
  have hb : (Instr.buildSlice 48 5 #[(0, .slice p1 n1 c1), (1, .slice p2 n2 c2), (2, .slice p3 n3 c3), (3, .slice p4 n4 c4), (4, .slice p5 n5 c5)]).run Tryz.prog w = .ok (.slice (some ⟨w.heap.size, 0, none⟩) 5 5) (w.alloc (.cells #[.slice p1 n1 c1, .slice p2 n2 c2, .slice p3 n3 c3, .slice p4 n4 c4, .slice p5 n5 c5] 22)) := by kernel_rfl
  refine wpList_valw hg (v := .slice (some ⟨w.heap.size, 0, none⟩) 5 5) (w' := w.alloc (.cells #[.slice p1 n1 c1, .slice p2 n2 c2, .slice p3 n3 c3, .slice p4 n4 c4, .slice p5 n5 c5] 22)) (by simp [execOp, ho, h1, h2, h3, h4, h5, hb]) (h _ _ ?_ ((Below.refl _ _).alloc (Nat.le_refl _) _))
  exact Own.slice (base := w.heap.size) ⟨rfl, .inr ⟨w.heap.size, 5, #[.slice p1 n1 c1, .slice p2 n2 c2, .slice p3 n3 c3, .slice p4 n4 c4, .slice p5 n5 c5], rfl, Nat.le_refl _, heap_alloc_new w _, Nat.le_refl _, by decide, rfl, rfl⟩⟩
end
theorem buB_all {w : World} {g : Nat} {x : BuV} (h : Blk w g 29 (bC x)) (y : BuV) : ∃ w', (Instr.storeAt 29 (.pointer (some ⟨g, 0, none⟩)) (.agg (bC y))).run Tryz.prog w = .ok () w' ∧ Blk w' g 29 (bC y) ∧ Only (· = g) w w' := by
  obtain ⟨w', h1, h2, h3⟩ := Blk.run_row (P := Tryz.prog) (ty := 29) #[] (bC x) #[] (bC y) (by simpa using h) (by rw [bC_size, bC_size]) (bC_info y) (bC_one y) (i := 0) rfl
  exact ⟨w', h1, by simpa using h2, h3⟩
theorem LentI.store {base g : Nat} {w w' : World} {x : BuV} {cs : Array Value} (h : LentI base w x) (hb : Blk w g 29 cs) (ho : Only (· = g) w w') : LentI base w' x :=
  LentO.keepT h fun k cur fr hk => by
    rw [ho.block k (heap_lt hk) ?_]
    · exact hk
    · rintro rfl
      unfold Blk at hb
      rw [hb] at hk
      injection hk with hk
      injection hk with _ h2
      exact absurd h2 (by decide)
theorem Lent.lt {α : Type} {E : Elem Tryz.prog α} {M l : List α} {base : Nat} {w : World} {u : Value} (h : Lent E M base w u l) (hM : 0 < M.length) : ∀ k, u.ownBlock = some k → base ≤ k ∧ k < w.heap.size := by
  obtain ⟨g, cap, rfl, h1, h2, hs⟩ := h
  intro k hk
  simp only [Value.ownBlock, Option.some.injEq] at hk
  subst hk
  refine ⟨h1, ?_⟩
  rcases hs with ⟨p, c, hv, hl⟩ | ⟨p, c, hv, hp, hc⟩
  · have := congrArg List.length hl
    simp only [List.length_append, List.length_nil] at this
    omega
  · simp only [Value.slice.injEq, Option.some.injEq] at hv
    obtain ⟨rfl, _, rfl⟩ := hv
    exact hp
theorem addP_small {l l' : List Bu} {b : Bu} {c : Nat} (h : AddP l b l' c) (h0 : c ≠ 0 → l' = []) : l'.length ≤ l.length + 1 ∧ ∀ x ∈ l', x = b ∨ x ∈ l := by
  rcases h with ⟨rfl, _⟩ | ⟨rfl, _, _, k, _, _, rfl⟩ | ⟨rfl, _, _, hb, rfl⟩ | ⟨rfl, _⟩
  · rw [h0 (by omega)]; simp
  · refine ⟨by simp; omega, fun x hx => ?_⟩
    rwa [Gr.mem_insert] at hx
  · exact ⟨by omega, fun x hx => .inr hx⟩
  · rw [h0 (by omega)]; simp
/-- what stands behind the lending -/
structure RMid (wP w : World) (l : List BuV) (b : BuV) (held : List P20) (v9 : Value) (lv : List BuV) (iv : IV) (up : Value) (gx : Nat) : Prop where
  lent : Lent EBu (marksG mkU 1 12) wP.heap.size w v9 lv
  map : lv.map (·.1) = l.map (·.1)
  ins : ∀ x ∈ lv, LentI wP.heap.size w x
  one : LentI wP.heap.size w (b.1, iv)
  paths : Lent E20 (marksG mkP 1 12) wP.heap.size w up held
  blk : Blk w gx 29 (bC (b.1, iv))
  below : Below wP.heap.size wP w
theorem RMid.later {wP w w' : World} {l : List BuV} {b : BuV} {held : List P20} {v9 : Value} {lv : List BuV} {iv : IV} {up : Value} {gx : Nat} (h : RMid wP w l b held v9 lv iv up gx) (hb : Below w.heap.size w w') : RMid wP w' l b held v9 lv iv up gx :=
  ⟨h.lent.below hb, h.map, fun x hx => (h.ins x hx).below hb, h.one.below hb, h.paths.below hb, h.blk.below hb, Agg.belowThen h.below (Nat.le_refl _) hb⟩
theorem RMid.bus {wP w : World} {l : List BuV} {b : BuV} {held : List P20} {v9 : Value} {lv : List BuV} {iv : IV} {up : Value} {gx : Nat} (h : RMid wP w l b held v9 lv iv up gx) : BusAt w v9 lv := ⟨h.lent.slice, fun x hx => (h.ins x hx).ins⟩
theorem map_small {lv l : List BuV} (h : lv.map (·.1) = l.map (·.1)) {p : Bu → Prop} (hp : ∀ x ∈ l, p x.1) : ∀ x ∈ lv, p x.1 := fun x hx => by
  have h1 : x.1 ∈ lv.map (·.1) := List.mem_map.2 ⟨x, hx, rfl⟩
  rw [h] at h1
  obtain ⟨y, hy, e⟩ := List.mem_map.1 h1
  rw [← e]
  exact hp y hy
theorem map_len {lv l : List BuV} (h : lv.map (·.1) = l.map (·.1)) : lv.length = l.length := by
  have := congrArg List.length h
  simpa using this
theorem filter_small {lv l : List BuV} {q : Bu → Bool} (h : lv.map (·.1) = (l.map (·.1)).filter q) : lv.length ≤ l.length ∧ ∀ {p : Bu → Prop}, (∀ x ∈ l, p x.1) → ∀ x ∈ lv, p x.1 := by
  refine ⟨?_, fun {p} hp x hx => ?_⟩
  · have h1 := congrArg List.length h
    have h2 := List.length_filter_le q (l.map (·.1))
    simp only [List.length_map] at h1 h2
    omega
  · have h1 : x.1 ∈ lv.map (·.1) := List.mem_map.2 ⟨x, hx, rfl⟩
    rw [h] at h1
    obtain ⟨y, hy, e⟩ := List.mem_map.1 (List.mem_filter.1 h1).1
    rw [← e]
    exact hp y hy
theorem paths_same {lv l : List BuV} {R R' : List P20} (h : lv.map (·.1) = l.map (·.1)) (h1 : Rising R) (h2 : Rising R') (h3 : ∀ q, q ∈ R ↔ ∃ x ∈ lv, x.1.pa = q) (h4 : ∀ q, q ∈ R' ↔ ∃ x ∈ l, x.1.pa = q) : R = R' := by
  refine rising_unique R R' h1 h2 fun q => ?_
  have e : ∀ (m : List BuV), (∃ x ∈ m, x.1.pa = q) ↔ q ∈ (m.map (·.1)).map (·.pa) := fun m => by simp
  rw [h3, h4, e, e, h]
end Go.Proofs.YtniibcgomnjfgaaGreat
/-! A cut behind a region: what it leaves, said once for all orders. -/
namespace Go.Agg
open Go.RowKit
variable {P : Program}
/-- some slots hold whatever -/
def ExPut : List Nat → Act → Act → Prop
  | [], a, a' => a' = a
  | k :: ks, a, a' => ∃ x, ExPut ks (a.put (some k) x) a'
theorem wp_cutR {c : Code} {Q : Exit → Act → World → Prop} {a : Act} {w : World} (R : Act → Act → World → Prop) (h1 : c.wp P (fun e a' w' => match e with | .normal => R a a' w' | _ => False) a w)
    (h2 : ∀ a' w', R a a' w' → Q .normal a' w') : c.wp P Q a w :=
  Code.wp_mono (fun e a' w' h => by
    cases e
    case normal => exact h2 a' w' h
    all_goals exact False.elim h) h1
section
variable {l : List Oper} {md : Region.Mode} {Q : Exit → Act → World → Prop} {S : World → Prop} {fuel : Nat} {listed : Array Bool} {a : Act} {w : World}
/-- an operation whose guard does not want it -/
theorem held_skip {o : Oper} (i : Nat) (ho : l[i]? = some o) (hB : takeB md l listed i = true) (hQ : ∀ c a w, Q (.panic c) (a.put o.dst undef) w → Q (.panic c) a w) (hw : Region.wanted o (yielded l.toArray a.tmps) = false)
    (hS : S w) (h : wpAnyH P md l.toArray Q S fuel (listed.setIfInBounds i true) (a.put o.dst undef) w) : wpAnyH P md l.toArray Q S (fuel + 1) listed a w := by
  simp only [takeB, Bool.and_eq_true] at hB
  exact wpAnyH_take (by simpa using ho) hB.1.1 hB.1.2 hB.2 hQ (.inr ⟨hw, rfl⟩) hS h
end
end Go.Agg
/-! real.Kept, OfClass, OfKey, Paths; spencekit.PathsOf. -/
namespace Go.Proofs.YtniibcgomnjfgaaGreat
open Go.RowKit Pl Go.Agg Go.Mp
set_option maxRecDepth 100000 in
set_option maxHeartbeats 4000000 in
theorem ofClassO_any (v : Value) (l : List BuV) (hn : l.length ≤ 1048576) (hni : ∀ x ∈ l, x.1.ins.length ≤ 1048576) (h : H20) (w : World) (hs : BusAt w v l) :
    Calls Tryz.prog 12 #[v, .agg (hC h.1)] w fun e w' => ∃ v' lv, e = .returned v' ∧ OwnBus w.heap.size w' v' lv ∧ lv.map (·.1) = (l.map (·.1)).filter (fun y => decide (y.cl = h)) ∧ Below w.heap.size w w' := by
  have HS := Lib.hid hs
  clear hs
  go_enter Tryz.func12, Tryz.ntmps12
  go_wp2_with (first | (with_reducible refine wpList_box rfl 24 _ rfl (hC h.1) rfl ?_; intro b3 w1 hb1 hx1 hg1; have HB1 := Lib.hid hb1; have HX1 := Lib.hid hx1; clear hb1 hx1 hg1))
  refine (someClass_any v l hn hni b3 h w1 (HS.out.below HX1.out) (HB1.out.loads Tryz.underlying24 rfl (hC_info _ h.2))).mono ?_
  rintro e w2 ⟨v2, lv, rfl, ho, hm, hx2⟩
  have HO := Lib.hid (ho.lower HX1.out.size)
  have HM := Lib.hid hm
  have HX2 := Lib.hid (Agg.belowThen HX1.out (Nat.le_refl _) hx2)
  clear ho hm hx2
  go_wp2_with fail
  go_ret
  exact ⟨_, lv, rfl, HO.out, HM.out, HX2.out⟩
theorem ofClass_any (v : Value) (l : List BuV) (hn : l.length ≤ 1048576) (hni : ∀ x ∈ l, x.1.ins.length ≤ 1048576) (h : H20) (w : World) (hs : BusAt w v l) :
    Calls Tryz.prog 12 #[v, .agg (hC h.1)] w fun e w' => ∃ v' lv, e = .returned v' ∧ BusAt w' v' lv ∧ lv.map (·.1) = (l.map (·.1)).filter (fun y => decide (y.cl = h)) ∧ Below w.heap.size w w' := by
  refine (ofClassO_any v l hn hni h w hs).mono ?_
  rintro e w' ⟨v', lv, rfl, h1, h2, h3⟩
  exact ⟨v', lv, rfl, h1.at_, h2, h3⟩
set_option maxRecDepth 100000 in
set_option maxHeartbeats 4000000 in
theorem ofKeyO_any (v : Value) (l : List BuV) (hn : l.length ≤ 1048576) (hni : ∀ x ∈ l, x.1.ins.length ≤ 1048576) (h : H20) (w : World) (hs : BusAt w v l) :
    Calls Tryz.prog 13 #[v, .agg (hC h.1)] w fun e w' => ∃ v' lv, e = .returned v' ∧ OwnBus w.heap.size w' v' lv ∧ lv.map (·.1) = (l.map (·.1)).filter (fun y => decide (y.ky = h)) ∧ Below w.heap.size w w' := by
  have HS := Lib.hid hs
  clear hs
  go_enter Tryz.func13, Tryz.ntmps13
  go_wp2_with (first | (with_reducible refine wpList_box rfl 24 _ rfl (hC h.1) rfl ?_; intro b3 w1 hb1 hx1 hg1; have HB1 := Lib.hid hb1; have HX1 := Lib.hid hx1; clear hb1 hx1 hg1))
  refine (someKey_any v l hn hni b3 h w1 (HS.out.below HX1.out) (HB1.out.loads Tryz.underlying24 rfl (hC_info _ h.2))).mono ?_
  rintro e w2 ⟨v2, lv, rfl, ho, hm, hx2⟩
  have HO := Lib.hid (ho.lower HX1.out.size)
  have HM := Lib.hid hm
  have HX2 := Lib.hid (Agg.belowThen HX1.out (Nat.le_refl _) hx2)
  clear ho hm hx2
  go_wp2_with fail
  go_ret
  exact ⟨_, lv, rfl, HO.out, HM.out, HX2.out⟩
theorem ofKey_any (v : Value) (l : List BuV) (hn : l.length ≤ 1048576) (hni : ∀ x ∈ l, x.1.ins.length ≤ 1048576) (h : H20) (w : World) (hs : BusAt w v l) :
    Calls Tryz.prog 13 #[v, .agg (hC h.1)] w fun e w' => ∃ v' lv, e = .returned v' ∧ BusAt w' v' lv ∧ lv.map (·.1) = (l.map (·.1)).filter (fun y => decide (y.ky = h)) ∧ Below w.heap.size w w' := by
  refine (ofKeyO_any v l hn hni h w hs).mono ?_
  rintro e w' ⟨v', lv, rfl, h1, h2, h3⟩
  exact ⟨v', lv, rfl, h1.at_, h2, h3⟩
set_option maxRecDepth 100000 in
set_option maxHeartbeats 4000000 in
theorem pathsBO_any (v : Value) (l : List BuV) (hn : l.length ≤ 1048576) (w : World) (hs : BusAt w v l) :
    Calls Tryz.prog 15 #[v] w fun e w' => ∃ v' R, e = .returned v' ∧ Rising R ∧ (∀ q, q ∈ R ↔ ∃ x ∈ l, x.1.pa = q) ∧ Own E20 w.heap.size w' v' R ∧ Below w.heap.size w w' := by
  have HS := Lib.hid hs
  have hlv := fun W => bus_len hs W
  clear hs
  go_enter Tryz.func15, Tryz.ntmps15
  go_wp2_with fail
  go_loopw [3, 8] (fun out i wr => ∃ k : Nat, k ≤ l.length ∧ i = .int .i64 k ∧ Own E20 w.heap.size wr out ((l.take k).map fun x => x.1.pa) ∧ Below w.heap.size w wr) (fun _ i _ => l.length - (intOf i).toNat)
  case atStart => exact ⟨0, by omega, rfl, Own.nil _ _ _, Below.refl _ _⟩
  case round =>
    obtain ⟨wr1, rfl⟩ : ∃ y : World, y = wr := ⟨_, rfl⟩
    obtain ⟨k, hk, rfl, ho, hw⟩ := hrel
    have HO := Lib.hid ho
    have HW := Lib.hid hw
    clear hw ho
    by_cases hlt : k < l.length
    · have hd : decide ((k : Int) < (l.length : Int)) = true := by simp; omega
      obtain ⟨x, hxk⟩ : ∃ x, l[k]? = some x := ⟨_, List.getElem?_eq_getElem hlt⟩
      obtain ⟨q, hadr, hq, hin⟩ := (HS.out.below HW.out).at_ k x hxk
      have HQ := Lib.hid hq
      have HT := Lib.hid (show (l.take (k + 1)).map (fun x => x.1.pa) = (l.take k).map (fun x => x.1.pa) ++ [x.1.pa] by rw [List.take_add_one, hxk]; simp)
      clear hq hxk hin
      go_wp2_with (first | (with_reducible refine wpList_loadL HQ.out.all rfl _ rfl rfl ?_) | (refine wpList_new rfl rfl rfl 29 5 11 rfl rfl rfl (by decide) (bC (zB, none, 0, 0)) (bC x) bC_zero (by rw [bC_size, bC_size]) (bC_info x) (bC_one x) rfl (by simp [Act.put]) ?_; intro g2 w2 hb2 hx2 hg2; have HL2 := Lib.hid (BuG.of_blk hb2); have HO2 := Lib.hid (HO.out.below hx2); have HW2 := Lib.hid (Agg.belowThen HW.out (Nat.le_refl _) hx2); clear hb2 hx2 hg2) | (with_reducible refine wpList_loadL HL2.out.path rfl _ rfl rfl ?_) | (refine wpList_push (E := E20) (base := w.heap.size) rfl rfl 15 rfl _ rfl _ rfl x.1.pa rfl (fun _ => rfl) (by simp [Act.put]) HO2.out (by simp; omega) (by decide) HW2.out.size ?_; intro u5 v5 w5 ho5 hp5; have HO5 := Lib.hid ho5; have HW5 := Lib.hid (HW2.out.trans (hp5.below w.heap.size (Nat.le_refl _) HW2.out.size)); clear ho5 hp5))
      go_roundw
      case rel => exact ⟨k + 1, by omega, by go_num, by rw [HT.out]; exact HO5.out, HW5.out⟩
      case measure => simp [intOf]; omega
    · obtain rfl : k = l.length := by omega
      rw [List.take_length] at HO
      go_wp2_with fail
      refine (sortedO_any _ (l.map fun x => x.1.pa) (by simp; omega) wr1 HO.out.slice).mono ?_
      rintro e w2 ⟨v2, R, rfl, hr, hm, he, hx2⟩
      have HR := Lib.hid hr
      have HM := Lib.hid hm
      have HE := Lib.hid (he.lower HW.out.size)
      have HX := Lib.hid (Agg.belowThen HW.out (Nat.le_refl _) hx2)
      clear hr hm he hx2
      go_wp2_with fail
      go_ret
      exact ⟨_, R, rfl, HR.out, fun q => by rw [HM.out, List.mem_map], HE.out, HX.out⟩
theorem pathsB_any (v : Value) (l : List BuV) (hn : l.length ≤ 1048576) (w : World) (hs : BusAt w v l) :
    Calls Tryz.prog 15 #[v] w fun e w' => ∃ v' R, e = .returned v' ∧ Rising R ∧ (∀ q, q ∈ R ↔ ∃ x ∈ l, x.1.pa = q) ∧ ElemsAt w' v' R ∧ Below w.heap.size w w' := by
  refine (pathsBO_any v l hn w hs).mono ?_
  rintro e w' ⟨v', R, rfl, h1, h2, h3, h4⟩
  exact ⟨v', R, rfl, h1, h2, h3.slice, h4⟩
set_option maxRecDepth 100000 in
set_option maxHeartbeats 4000000 in
theorem keptO_any (v u : Value) (l : List BuV) (held : List P20) (hn : l.length ≤ 1048576) (hh : held.length ≤ 1048576) (hni : ∀ x ∈ l, x.1.ins.length ≤ 1048576) (w : World) (hs : BusAt w v l) (ht : ElemsAt w u held) :
    Calls Tryz.prog 14 #[v, u] w fun e w' => ∃ v' lv, e = .returned v' ∧ OwnBus w.heap.size w' v' lv ∧ lv.map (·.1) = (l.map (·.1)).filter (fun y => decide (y.pa ∈ held)) ∧ Below w.heap.size w w' := by
  have HS := Lib.hid hs
  have HT := Lib.hid ht
  have hlu := fun W => elems_len ht W
  clear hs ht
  go_enter Tryz.func14, Tryz.ntmps14
  go_wp2_with (first | (with_reducible refine wpList_makeMap pV (fun n : Int => .int .i64 n) rfl 77 rfl ?_; intro gm w1 hm1 hx1 hg1; have HM1 := Lib.hid hm1; have HX1 := Lib.hid hx1; have HG1 := Lib.hid hg1; clear hm1 hx1 hg1))
  obtain ⟨b5, hb5⟩ : ∃ b, b = w1.heap.size := ⟨_, rfl⟩
  obtain ⟨w2, hw2⟩ : ∃ W, W = w1.alloc (.cells #[.map (some gm)] 77) := ⟨_, rfl⟩
  have hx2 : Below w1.heap.size w1 w2 := by rw [hw2]; exact (Below.refl _ _).alloc (Nat.le_refl _) _
  have HB2 := Lib.hid (show Blk w2 b5 77 #[.map (some gm)] by rw [hw2, hb5]; exact Blk.new _ _ _)
  have HM2 := Lib.hid (HM1.out.keep (hx2.block _ HM1.out.lt))
  have HX2 := Lib.hid (Agg.belowThen HX1.out (Nat.le_refl _) hx2)
  have HNE := Lib.hid (show b5 ≠ gm from fun e => by have := HM1.out.lt; omega)
  rw [← hw2, ← hb5]
  clear hw2 hb5 hx2
  go_loopw [11] (fun i wr => ∃ (k : Nat) (m : List (P20 × Int)), k ≤ held.length ∧ i = .int .i64 (k : Int) ∧ MapIs wr gm pV (fun n : Int => .int .i64 n) m ∧ KeptM m (held.take k) ∧ Blk wr b5 77 #[.map (some gm)] ∧ Below w.heap.size w wr) (fun i _ => held.length - (intOf i).toNat)
  case atStart => exact ⟨0, [], by omega, rfl, HM2.out, fun p => by simp [mget], HB2.out, HX2.out⟩
  case round =>
    obtain ⟨wr1, rfl⟩ : ∃ y : World, y = wr := ⟨_, rfl⟩
    obtain ⟨k, m, hk, rfl, hm, hkm, hb, hw⟩ := hrel
    have HM := Lib.hid hm
    have HK := Lib.hid hkm
    have HB := Lib.hid hb
    have HW := Lib.hid hw
    clear hm hkm hb hw HM1 HM2 HB2
    by_cases hlt : k < held.length
    · have hd : decide ((k : Int) < (held.length : Int)) = true := by simp; omega
      obtain ⟨x, hxk⟩ : ∃ x, held[k]? = some x := ⟨_, List.getElem?_eq_getElem hlt⟩
      obtain ⟨q, hadr, hq, _⟩ := elem_at (HT.out.below HW.out) k x hxk
      have HQ := Lib.hid hq
      have HTK := Lib.hid (show held.take (k + 1) = held.take k ++ [x] by rw [List.take_add_one, hxk]; rfl)
      clear hq hxk
      go_wp2_with (first | (with_reducible refine wpList_loadL HQ.out rfl _ rfl rfl ?_) | (refine wpList_new rfl rfl rfl 26 7 14 rfl rfl rfl (by decide) (pC z20 []) (pC x.1.1 x.1.2) pC_zero (by rw [pC_size, pC_size, x.2]; rfl) (pC_info _ _ x.2) (pC_one _ _) rfl (by simp [Act.put]) ?_; intro g7 w7 hb7 hx7 hg7; have HL7 := Lib.hid (hb7.loads (P := Tryz.prog) pC_under rfl (pC_info _ _ x.2)); have HB7 := Lib.hid (HB.out.below hx7); have HV7 := Lib.hid (HB7.out.one (P := Tryz.prog) (ty := 77) 0 rfl Tryz.underlying77 rfl); have HM7 := Lib.hid (HM.out.keep (hx7.block _ HM.out.lt)); have HW7 := Lib.hid (Agg.belowThen HW.out (Nat.le_refl _) hx7); clear hb7 hx7 hg7) | (with_reducible refine wpList_loadL HV7.out rfl _ rfl rfl ?_) | (with_reducible refine wpList_loadL HL7.out rfl _ rfl rfl ?_) | (refine Mp.wpList_mapUpdate rfl rfl _ _ _ 77 26 3 rfl Tryz.underlying77 path_key rfl HM7.out x rfl (1 : Int) rfl ?_; intro w8 hm8 hb8; have HM8 := Lib.hid hm8; have HB8 := Lib.hid (show Blk w8 b5 77 #[.map (some gm)] from (hb8.other HNE.out).trans HB7.out); have HW8 := Lib.hid (hb8.below HW7.out HG1.out); clear hm8 hb8))
      go_roundw
      case rel =>
        refine ⟨k + 1, _, by omega, by go_num, HM8.out, fun p => ?_, HB8.out, HW8.out⟩
        rw [mget_mput, HK.out p, HTK.out]
        by_cases e : p = x
        · subst e; simp
        · simp [e]
      case measure => simp [intOf]; omega
    · obtain rfl : k = held.length := by omega
      rw [List.take_length] at HK
      go_wp2_with fail
      refine (someKept_any v l hn hni b5 gm m held wr1 (HS.out.below HW.out) (HB.out.one (ty := 77) 0 rfl Tryz.underlying77 rfl) HM.out HK.out).mono ?_
      rintro e w9 ⟨v9, lv, rfl, ho, hm9, hx9⟩
      have HO := Lib.hid (ho.lower HW.out.size)
      have HM9 := Lib.hid hm9
      have HX9 := Lib.hid (Agg.belowThen HW.out (Nat.le_refl _) hx9)
      clear ho hm9 hx9
      go_wp2_with fail
      go_ret
      exact ⟨_, lv, rfl, HO.out, HM9.out, HX9.out⟩
theorem kept_any (v u : Value) (l : List BuV) (held : List P20) (hn : l.length ≤ 1048576) (hh : held.length ≤ 1048576) (hni : ∀ x ∈ l, x.1.ins.length ≤ 1048576) (w : World) (hs : BusAt w v l) (ht : ElemsAt w u held) :
    Calls Tryz.prog 14 #[v, u] w fun e w' => ∃ v' lv, e = .returned v' ∧ BusAt w' v' lv ∧ lv.map (·.1) = (l.map (·.1)).filter (fun y => decide (y.pa ∈ held)) ∧ Below w.heap.size w w' := by
  refine (keptO_any v u l held hn hh hni w hs ht).mono ?_
  rintro e w' ⟨v', lv, rfl, h1, h2, h3⟩
  exact ⟨v', lv, rfl, h1.at_, h2, h3⟩
end Go.Proofs.YtniibcgomnjfgaaGreat
/-! spencekit.BuiltsOf: it answers some number. -/
namespace Go.Proofs.YtniibcgomnjfgaaGreat
open Go.RowKit Pl Go.Agg
set_option maxRecDepth 100000 in
set_option maxHeartbeats 8000000 in
theorem builtsOfN_any (v : Value) (l : List BuV) (hl : l.length ≤ 1048576) (hni : ∀ x ∈ l, x.1.ins.length ≤ 1048576 ∧ x.1.pa.1.2.length ≤ 1048576 ∧ ∀ m ∈ x.1.ins, m.2.1.2.length ≤ 1048576) (w : World) (hs : BusAt w v l) :
    Calls Tryz.prog 4 #[v, .int .i64 2000] w fun e w' => ∃ n : Nat, e = .returned (.int .i64 (n : Int)) ∧ (n ≤ 2000 → l.length ≤ n) ∧ Below w.heap.size w w' := by
  have HS := Lib.hid hs
  have HNI := Lib.hid hni
  have hlv := fun W => bus_len hs W
  clear hs hni
  go_enter Tryz.func4, Tryz.ntmps4
  go_wp2_with fail
  go_loopw [5, 6] (fun n i wr => ∃ k N : Nat, k ≤ l.length ∧ k ≤ N ∧ N ≤ 2000000 ∧ n = .int .i64 (N : Int) ∧ i = .int .i64 (k : Int) ∧ Below w.heap.size w wr) (fun _ i _ => l.length - (intOf i).toNat)
  case atStart => exact ⟨0, 0, by omega, by omega, by omega, rfl, rfl, Below.refl _ _⟩
  case round =>
    obtain ⟨wr1, rfl⟩ : ∃ y : World, y = wr := ⟨_, rfl⟩
    obtain ⟨k, N, hk, hkN, hN, rfl, rfl, hw⟩ := hrel
    have HW := Lib.hid hw
    clear hw
    by_cases hlt : k < l.length
    · have hd : decide ((k : Int) < (l.length : Int)) = true := by simp; omega
      by_cases hN2 : N ≤ 2000
      · have hd2 : decide ((N : Int) ≤ 2000) = true := by simp; omega
        obtain ⟨x, hxk⟩ : ∃ x, l[k]? = some x := ⟨_, List.getElem?_eq_getElem hlt⟩
        obtain ⟨q, hadr, hq, hin⟩ := (HS.out.below HW.out).at_ k x hxk
        obtain ⟨h1, h2, h3⟩ := HNI.out x (List.mem_of_getElem? hxk)
        have HQ := Lib.hid hq
        have HI := Lib.hid (show MdsAt wr1 (ivV x.2) x.1.ins from hin)
        have H3 := Lib.hid h3
        have hle := fun W => mds_len HI.out W
        have hsz := Agg.bytes_size x.1.pa.1.2
        clear hq hxk hin h3
        go_wp2_with (first | (with_reducible refine wpList_loadL HQ.out.pname rfl _ rfl rfl ?_))
        go_loopw [5, 7] (fun n i ws => ∃ j M : Nat, j ≤ x.1.ins.length ∧ k + 1 ≤ M ∧ M ≤ 2000000 ∧ n = .int .i64 (M : Int) ∧ i = .int .i64 (j : Int) ∧ Below wr1.heap.size wr1 ws) (fun _ i _ => x.1.ins.length - (intOf i).toNat)
        case atStart => exact ⟨0, N + 1 + x.1.pa.1.2.length, by omega, by omega, by omega, by go_num, rfl, Below.refl _ _⟩
        case round =>
          obtain ⟨ws1, rfl⟩ : ∃ y : World, y = wr := ⟨_, rfl⟩
          obtain ⟨j, M, hj, hkM, hM, rfl, rfl, hws⟩ := hrel
          have HQS := Lib.hid (HQ.out.below hws)
          have HWS := Lib.hid (Agg.belowThen HW.out (Nat.le_refl _) hws)
          have HRS := Lib.hid hws
          clear hws
          by_cases hlj : j < x.1.ins.length
          · have hdj : decide ((j : Int) < (x.1.ins.length : Int)) = true := by simp; omega
            by_cases hM2 : M ≤ 2000
            · have hdm : decide ((M : Int) ≤ 2000) = true := by simp; omega
              obtain ⟨m, hmj⟩ : ∃ m, x.1.ins[j]? = some m := ⟨_, List.getElem?_eq_getElem hlj⟩
              obtain ⟨qm, hadm, hqm⟩ := mds_at (HI.out.below HRS.out) j m hmj
              have h4 := H3.out m (List.mem_of_getElem? hmj)
              have HQM := Lib.hid hqm
              have hszm := Agg.bytes_size m.2.1.2
              clear hqm hmj
              go_wp2_with (first | (with_reducible refine wpList_loadL HQS.out.ins rfl _ rfl rfl ?_) | (with_reducible refine wpList_loadL HQM.out.pname rfl _ rfl rfl ?_))
              go_roundw
              case rel => exact ⟨j + 1, M + 1 + m.2.1.2.length, by omega, by omega, by omega, by go_num, by go_num, HRS.out⟩
              case measure => simp [intOf]; omega
            · have hdm : decide ((M : Int) ≤ 2000) = false := by simp; omega
              go_wp2_with (first | (with_reducible refine wpList_loadL HQS.out.ins rfl _ rfl rfl ?_))
              go_roundw
              case rel => exact ⟨k + 1, M, by omega, by omega, by omega, rfl, by go_num, HWS.out⟩
              case measure => simp [intOf]; omega
          · have hdj : decide ((j : Int) < (x.1.ins.length : Int)) = false := by simp; omega
            go_wp2_with (first | (with_reducible refine wpList_loadL HQS.out.ins rfl _ rfl rfl ?_))
            go_roundw
            case rel => exact ⟨k + 1, M, by omega, by omega, by omega, rfl, by go_num, HWS.out⟩
            case measure => simp [intOf]; omega
      · have hd2 : decide ((N : Int) ≤ 2000) = false := by simp; omega
        go_wp2_with fail
        go_ret
        exact ⟨N, rfl, by omega, HW.out⟩
    · obtain rfl : k = l.length := by omega
      go_wp2_with fail
      go_ret
      exact ⟨N, rfl, by omega, HW.out⟩
theorem builtsOf_any (v : Value) (l : List BuV) (hl : l.length ≤ 1048576) (hni : ∀ x ∈ l, x.1.ins.length ≤ 1048576 ∧ x.1.pa.1.2.length ≤ 1048576 ∧ ∀ m ∈ x.1.ins, m.2.1.2.length ≤ 1048576) (w : World) (hs : BusAt w v l) :
    Calls Tryz.prog 4 #[v, .int .i64 2000] w fun e w' => ∃ n : Nat, e = .returned (.int .i64 (n : Int)) ∧ Below w.heap.size w w' := by
  refine (builtsOfN_any v l hl hni w hs).mono ?_
  rintro e w' ⟨n, h1, _, h2⟩
  exact ⟨n, h1, h2⟩
end Go.Proofs.YtniibcgomnjfgaaGreat
/-! spencekit.SameBytes. -/
namespace Go.Proofs.YtniibcgomnjfgaaGreat
open Go.RowKit Pl Go.Agg
theorem take_eq_succ {α : Type} {a b : List α} {k : Nat} {x y : α} (hx : a[k]? = some x) (hy : b[k]? = some y) (h : a.take k = b.take k) (hxy : x = y) : a.take (k + 1) = b.take (k + 1) := by
  rw [List.take_add_one, List.take_add_one, hx, hy, h, hxy]
theorem ne_at {α : Type} {a b : List α} {k : Nat} {x y : α} (hx : a[k]? = some x) (hy : b[k]? = some y) (hxy : x ≠ y) : a ≠ b := by
  rintro rfl
  exact hxy (Option.some.inj (hx.symm.trans hy))
theorem i64_nat {a b : Nat} (h : a = b) : Value.int .i64 (a : Int) = .int .i64 (b : Int) := by rw [h]
set_option maxRecDepth 100000 in
set_option maxHeartbeats 1000000 in
theorem sameBytes_any (v u : Value) (a b : List UInt8) (_ha : a.length ≤ 1048576) (hb : b.length ≤ 1048576) (w : World) (he : BytesAt w v a) (hf : BytesAt w u b) :
    Calls Tryz.prog 31 #[v, u] w fun e w' => e = .returned (.bool (decide (a = b))) ∧ Below w.heap.size w w' := by
  have hlv := fun W => bytes_len he W
  have hlu := fun W => bytes_len hf W
  have HE := Lib.hid he
  have HF := Lib.hid hf
  clear he hf
  by_cases hlen : a.length = b.length
  · have hne : ((a.length : Int) != (b.length : Int)) = false := by simp [hlen]
    have HLEN := Lib.hid hlen
    rw [hlen] at hlv hne
    clear hlen
    go_enter Tryz.func31, Tryz.ntmps31
    go_wp2_with fail
    go_loopw [5] (fun i wr => ∃ k : Nat, k ≤ b.length ∧ i = .int .i64 k ∧ a.take k = b.take k ∧ Below w.heap.size w wr) (fun i _ => b.length - (intOf i).toNat)
    case atStart => exact ⟨0, by omega, rfl, rfl, Below.refl _ _⟩
    case round =>
      obtain ⟨w1, rfl⟩ : ∃ w1 : World, w1 = wr := ⟨_, rfl⟩
      obtain ⟨k, hk, rfl, htk, hw⟩ := hrel
      have HTK := Lib.hid htk
      clear htk
      by_cases hlt : k < b.length
      · obtain ⟨y, hyk⟩ : ∃ y, b[k]? = some y := ⟨_, List.getElem?_eq_getElem hlt⟩
        obtain ⟨x, hxk⟩ : ∃ x, a[k]? = some x := ⟨_, List.getElem?_eq_getElem (by rw [HLEN.out]; exact hlt)⟩
        obtain ⟨p, hadr, hld⟩ := byte_at (HE.out.below hw) k x hxk
        obtain ⟨q, hadq, hlq⟩ := byte_at (HF.out.below hw) k y hyk
        have HLX := Lib.hid hld
        have HLY := Lib.hid hlq
        clear hld hlq
        have HX := Lib.hid hxk
        have HY := Lib.hid hyk
        clear hxk hyk
        by_cases hxy : x = y
        · have HXY := Lib.hid hxy
          have hq : ((x.toNat : Int) != (y.toNat : Int)) = false := by simp [hxy]
          clear hxy
          go_wp2_with fail
          try simp only [Act.put, List.setIfInBounds_toArray, List.set_cons_succ, List.set_cons_zero]
          refine Agg.wp_region_later_lit (by kernel_rfl) (by kernel_rfl) ?_
          repeat (first | go_big_quiet_skip | ((first | (with_reducible refine Agg.wpQuiet_loadL HLX.out rfl _ rfl rfl ?_) | (with_reducible refine Agg.wpQuiet_loadL HLY.out rfl _ rfl rfl ?_)); simp only [Act.put, List.setIfInBounds_toArray, List.set_cons_succ, List.set_cons_zero]) | go_big_quiet_step (fail))
          refine wpQuiet_nil ?_
          intro _ hw'
          obtain ⟨x1, rfl⟩ := hw'
          go_wp2_with fail
          go_roundw
          case rel => exact ⟨k + 1, by omega, by go_num, take_eq_succ HX.out HY.out HTK.out HXY.out, Agg.belowThen hw (Nat.le_refl _) x1.h⟩
          case measure => simp [intOf]; omega
        · have HXY := Lib.hid hxy
          have hq : ((x.toNat : Int) != (y.toNat : Int)) = true := by rw [bne_iff_ne]; intro e; exact hxy (UInt8.toNat_inj.1 (by omega))
          clear hxy
          go_wp2_with fail
          try simp only [Act.put, List.setIfInBounds_toArray, List.set_cons_succ, List.set_cons_zero]
          refine Agg.wp_region_later_lit (by kernel_rfl) (by kernel_rfl) ?_
          repeat (first | go_big_quiet_skip | ((first | (with_reducible refine Agg.wpQuiet_loadL HLX.out rfl _ rfl rfl ?_) | (with_reducible refine Agg.wpQuiet_loadL HLY.out rfl _ rfl rfl ?_)); simp only [Act.put, List.setIfInBounds_toArray, List.set_cons_succ, List.set_cons_zero]) | go_big_quiet_step (fail))
          refine wpQuiet_nil ?_
          intro _ hw'
          obtain ⟨x1, rfl⟩ := hw'
          have hres : decide (a = b) = false := by simpa using ne_at HX.out HY.out HXY.out
          have HR := Lib.hid hres
          clear hres
          go_wp2_with fail
          go_ret
          exact ⟨ret_bool HR.out.symm, Agg.belowThen hw (Nat.le_refl _) x1.h⟩
      · obtain rfl : k = b.length := by omega
        have hres : decide (a = b) = true := by
          have := HTK.out
          rw [List.take_length, List.take_of_length_le (by rw [HLEN.out]; omega)] at this
          simpa using this
        have HR := Lib.hid hres
        clear hres
        go_wp2_with fail
        go_ret
        exact ⟨ret_bool HR.out.symm, hw⟩
  · have hne : ((a.length : Int) != (b.length : Int)) = true := by rw [bne_iff_ne]; omega
    have hres : decide (a = b) = false := by simp; exact fun e => hlen (by rw [e])
    have HR := Lib.hid hres
    clear hres
    go_enter Tryz.func31, Tryz.ntmps31
    go_wp2_with fail
    go_ret
    exact ⟨ret_bool HR.out.symm, Below.refl _ _⟩
end Go.Proofs.YtniibcgomnjfgaaGreat
