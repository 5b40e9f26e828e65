/- resolve.of: of each class the first path. -/
import Derived.Test.YtdebbmembkbniaaGreatTAG
import Derived.Test.YtdebbmembkbniaaGreatTAH
namespace Go.Proofs.YtdebbmembkbniaaGreat
open Go.RowKit Go.Shelf Pl Go.Agg Go.Mp
attribute [local go_sem] Oper.semAt_some
def firstP (l : List Md) (c : H20) : Option P20 := (l.find? fun y => decide (y.1 = c)).map (·.2)
def lastP (q : List Md) (c : H20) : Option P20 := firstP q.reverse c
theorem lastP_snoc (q : List Md) (x : Md) (c : H20) : lastP (q ++ [x]) c = if c = x.1 then some x.2 else lastP q c := by
 unfold lastP firstP
 rw [List.reverse_append]
 by_cases h : x.1 = c
 ·simp [h]
 ·have h2 : ¬ c = x.1 := fun e => h e.symm
  simp [h, h2]
theorem lastP_rev (l : List Md) (c : H20) : lastP l.reverse c = firstP l c := by rw [lastP, List.reverse_reverse]
structure KpM (gm Bs : Nat) (A B : World) : Prop where
 below : Below gm A B
 box : B.heap[Bs]? = A.heap[Bs]?
theorem blk_kept {W W' : World} {g : Nat} {t : TypeId} {cs : Array Value} {row : Option Nat} (h : Blk W g t cs) (hg : W.grownBy W' row) (hr : ∀ r, row = some r → ∃ o : Obj, W.heap[r]? = some o ∧ o.isCells = false) : Blk W' g t cs := by
 refine (hg.block g h.lt fun e => ?_).trans h
 obtain ⟨o, ho, hc⟩ := hr g e.symm
 rw [show W.heap[g]? = _ from h] at ho
 cases ho
 cases hc
theorem map_kept {W W' : World} {g : Nat} {m : List (H20 × P20)} {row : Option Nat} (h : MapIs W g hV pV m) (hg : W.grownBy W' row) (hr : row ≠ some g) : MapIs W' g hV pV m :=
 h.keep (hg.block g h.lt fun e => hr e.symm)
set_option maxRecDepth 100000 in
set_option maxHeartbeats 8000000 in
theorem rof_any (v : Value) (l : List Md) (hn : l.length ≤ 1048576) (w : World) (hl : MdsAt w v l) :
  Calls Tryz.prog 71 #[v] w fun e w' => ∃ g m, e = .returned (.map (some g)) ∧ w.heap.size ≤ g ∧ MapIs w' g hV pV m ∧ (∀ c, mget m c = firstP l c) ∧ Below w.heap.size w w' := by
 obtain ⟨p, c, hv⟩ := hl.form
 have HV := Lib.hid hv
 clear hv
 have hmm := @run_makeMap Tryz.prog
 have HL := Lib.hid hl
 have HLB := Lib.hid (slice_any hl)
 clear hl
 refine (callsIn_wide (n := 3)).1 ?_
 refine callsIn_of_wp_marks Tryz.func71 rfl trivial ?_ rfl
 simp only [Tryz.ntmps71, List.size_toArray, List.length_cons, List.length_nil, Nat.reduceAdd, Nat.reduceSub, Array.replicate_succ, Array.replicate_zero, List.push_toArray, List.append_toArray, List.nil_append, List.cons_append]
 gi_wp2_with fail
 refine ⟨trivial, CallsIn.mono (callsIn_wide.2 (back_any v p l.length c HV.out _)) ?_⟩
 rintro e w1 ⟨Bs, rfl, hg, hb, hx⟩
 obtain ⟨gm, hgm⟩ : ∃ q, q = w.heap.size := ⟨_, rfl⟩
 obtain ⟨b3, hb3⟩ : ∃ q, q = w.heap.size + 1 := ⟨_, rfl⟩
 obtain ⟨w0, hw0⟩ : ∃ W, W = (w.alloc (.map #[] 0)).alloc (.cells #[.map (some w.heap.size)] 147) := ⟨_, rfl⟩
 have hm0 : MapIs w0 gm hV pV ([] : List (H20 × P20)) := by
  rw [hw0, hgm]
  exact (MapIs.empty w hV pV).keep (((Below.refl (w.heap.size + 1) _).alloc (by simp) _).block w.heap.size (by omega))
 have hk0 : Blk w0 b3 147 #[.map (some gm)] := by
  rw [hw0, hb3, hgm, show w.heap.size + 1 = (w.alloc (.map #[] 0)).heap.size by simp]
  exact Blk.new _ _ _
 have hx0 : Below w.heap.size w w0 := by
  rw [hw0]
  exact ((Below.refl _ _).alloc (Nat.le_refl _) _).alloc (by simp) _
 have hs0 : w0.heap.size = w.heap.size + 2 := by rw [hw0]; simp
 rw [← hw0] at hx hg
 rw [← hb3, ← hgm]
 have HM1 := Lib.hid (hm0.keep (hx.block _ hm0.lt))
 have HK1 := Lib.hid (hk0.below hx)
 have HX1 := Lib.hid (belowThen hx0 (Nat.le_refl _) hx)
 have HB1 := Lib.hid hb
 have HBS := Lib.hid (show gm < Bs ∧ b3 < Bs ∧ Bs < w1.heap.size ∧ gm ≠ b3 ∧ w.heap.size ≤ gm from ⟨by omega, by omega, hb.lt, by omega, by omega⟩)
 have HLW := Lib.hid (HL.out.below HX1.out)
 clear hm0 hk0 hx0 hs0 hx hg hb hw0 hb3 hgm
 gi_wp2_with fail
 refine wpIn_rangeFunc_ownH (n := 3) (w0 := w1) rfl (by omega) (gf := 154) (lb := #[.pointer (some ⟨Bs, 0, none⟩)]) rfl trivial (enters_of Tryz.func154 (by kernel_rfl) rfl)
  (encs := encIM) (Kp := KpM gm Bs) (S := fun ys => ys.map (·.2) = l.reverse) (Sp := fun _ => True) (N := l.length)
  (fun lp J Jx W hW _ _ hY h0 => ?seq) (fun h k => ⟨h.below.trans k.below, k.box.trans h.box⟩) (fun W lp o o' h1 h2 h3 h4 => ⟨belowK_b (w := w1) (by have := HBS.out; omega) W lp o o' h1 h2 h3 h4, World.putObj_heap_other (by have := HBS.out; omega)⟩) (Below.refl _ _) (fun _ => rfl)
  (fun pre W => ((∃ m, MapIs W gm hV pV m ∧ ∀ c, mget m c = lastP (pre.map (·.2)) c) ∧ Blk W b3 147 #[.map (some gm)]) ∧ Below w.heap.size w1 W) (fun _ _ _ => False)
  (OwnFrom.and (fun s A B row hs hg hr => ⟨by
   obtain ⟨⟨m, h1, h2⟩, _⟩ := hs
   exact ⟨m, map_kept h1 hg (fun e => by have := (hr _ e).1; have := HBS.out; omega), h2⟩, blk_kept hs.2 hg (fun r e => (hr r e).2)⟩) (ownFrom_below HX1.out.size HX1.out.size))
  (fun _ _ _ _ _ hs _ _ => hs) ⟨⟨⟨[], HM1.out, fun c => by simp [mget, lastP, firstP]⟩, HK1.out⟩, Below.refl _ _⟩
  (fun x a' W => ∃ g, w1.heap.size ≤ g ∧ Blk W g 75 (mC x.2) ∧ a' = { tmps := #[v, undef, .map none, .pointer (some ⟨b3, 0, none⟩), undef, .pointer (some ⟨g, 0, none⟩), .map (some gm), v, .func (.func 154) #[] #[.pointer (some ⟨Bs, 0, none⟩)], .int .i64 (x.1 : Int), .agg (mC x.2), undef, undef, undef, undef, undef, undef], defers := [] })
  (fun x a' s A B row hs hg hr => by
   obtain ⟨g, h1, h2, h3⟩ := hs
   exact ⟨g, h1, blk_kept h2 hg (fun r e => (hr r e).2), h3⟩) ?assign ?body ?done ?stop
 case seq =>
  exact back1_any lp Bs gm v l hn (KpM gm Bs) (fun A B h => ⟨h.below, h.box⟩) J Jx hY W (HB1.out.below hW) (HLW.out.below hW) (HLB.out.imp id fun h b hb => by have := h b hb; have := HBS.out; omega) h0
 case assign =>
  intro lp pre x W K hI hK
  have HI := Lib.hid hI
  have HK := Lib.hid hK
  clear hI hK
  obtain ⟨xi, xm⟩ := x
  have hT : ((#[9, 10].zip (encIM (xi, xm))).foldl (fun t (p, v) => t.setIfInBounds p v) (#[v, undef, .map none, .pointer (some ⟨b3, 0, none⟩), undef, undef, .map (some gm), v, .func (.func 154) #[] #[.pointer (some ⟨Bs, 0, none⟩)], undef, undef, undef, undef, undef, undef, undef, undef] : Array Value)) = #[v, undef, .map none, .pointer (some ⟨b3, 0, none⟩), undef, undef, .map (some gm), v, .func (.func 154) #[] #[.pointer (some ⟨Bs, 0, none⟩)], .int .i64 (xi : Int), .agg (mC xm), undef, undef, undef, undef, undef, undef] := by simp [encIM]
  rw [hT]
  clear hT
  gi_wp2_with (first | (refine wpListIn_new (wide_allR _) rfl rfl rfl 75 5 10 rfl rfl rfl (by decide) (mC zM) (mC xm) mC_zero (by rw [mC_size, mC_size]) (mC_info xm) (mC_one xm) rfl (by simp) ?_; intro w2 hb2 hw2))
  subst hw2
  obtain ⟨⟨⟨m, hm, hmg⟩, hk⟩, hx⟩ := HI.out
  have hsz : w1.heap.size ≤ W.heap.size := hx.size
  have hgm := HBS.out
  have hws := HX1.out.size
  have hge : gm < W.heap.size := hm.lt
  have hbW : Below W.heap.size W ((W.alloc (.cells (mC zM) 75)).setRow W.heap.size (mC xm)) := below_new (Below.refl _ _) (Nat.le_refl _) _ _ _
  exact HK.out _ _ ((keepsOthers_new _ _ _ _).from _) ⟨hbW.mono (by omega), hbW.block _ (by omega)⟩ ⟨⟨⟨m, hm.keep (hbW.block _ hge), hmg⟩, hk.below hbW⟩, belowThen hx (by omega) hbW⟩ ⟨W.heap.size, hsz, hb2, rfl⟩
 case body =>
  rintro lp pre ⟨xi, xm⟩ a' W _ _ hI ⟨g, hg, hbg, rfl⟩ _
  obtain ⟨⟨⟨m, hm, hmg⟩, hk⟩, hx⟩ := hI
  have HM := Lib.hid hm
  have HMG := Lib.hid hmg
  have HK := Lib.hid hk
  have HX := Lib.hid hx
  have HBG := Lib.hid hbg
  clear hm hmg hk hx hbg
  have HLM := Lib.hid (HK.out.one (P := Tryz.prog) (ty := 147) 0 rfl Tryz.underlying147 rfl)
  have HLC := Lib.hid (HBG.out.sub (P := Tryz.prog) 0 _ (mC_cl xm) Tryz.underlying43 rfl (hC_info _ xm.1.2))
  have HLP := Lib.hid (HBG.out.sub (P := Tryz.prog) 20 _ (mC_pa xm) pC_under rfl (pC_info _ _ xm.2.2))
  obtain ⟨W2, hrun, hm2, hbut⟩ := run_mapUpdate (P := Tryz.prog) (t := 147) Tryz.underlying147 hash_key HM.out xm.1 xm.2
  have hrun' : (Instr.mapUpdate 147 (.map (some gm)) (.agg (hC xm.1.1)) (.agg (pC xm.2.1.1 xm.2.1.2))).run Tryz.prog W = .ok () W2 := hrun
  have HM2 := Lib.hid hm2
  have HBT := Lib.hid hbut
  clear hrun hm2 hbut
  gi_wp2_with (first | (with_reducible refine wpListIn_loadL HLM.out (wide_allR _) rfl _ rfl rfl ?_) | (with_reducible refine wpListIn_loadL HLC.out (wide_allR _) rfl _ rfl rfl ?_) | (with_reducible refine wpListIn_loadL HLP.out (wide_allR _) rfl _ rfl rfl ?_))
  have hgm := HBS.out
  have hot := fun k (hk : k ≠ gm) => HBT.out.other hk
  refine ⟨⟨by rw [HBT.out.size]; exact Nat.le_refl _, fun k o hk ho _ => (hot k (by omega)).trans ho⟩, ⟨HBT.out.below (Below.refl _ _) (Nat.le_refl _), hot _ (by omega)⟩, ⟨⟨_, HM2.out, fun c hc => ?_⟩, (hot b3 (by omega)).trans HK.out⟩, HBT.out.below HX.out (by omega)⟩
  show mget (mput m xm.1 xm.2) (⟨c, hc⟩ : H20) = _
  rw [mget_mput, HMG.out, List.map_append, List.map_cons, List.map_nil, lastP_snoc]
 case done =>
  rintro D ys W hD hS ⟨⟨⟨m, hm, hmg⟩, hk⟩, hx⟩ hKD
  have HLM := Lib.hid (hk.one (P := Tryz.prog) (ty := 147) 0 rfl Tryz.underlying147 rfl)
  gi_wp2_with (first | (with_reducible refine wpListIn_loadL HLM.out wide_all rfl _ rfl rfl ?_))
  have hgm := HBS.out
  refine ⟨by simp, .inl ⟨_, _, rfl, run_takeDeferred hKD, ?_⟩⟩
  exact ⟨_, results_tmp rfl _ _ _, gm, m, rfl, hgm.2.2.2.2, hm.keep (World.putObj_heap_other (by omega)), fun c => by rw [hmg, hS, lastP_rev], (HX1.out.trans hx).trans (belowK_b (w := w) (Nat.le_refl _) W D _ _ (by have := HX1.out.size; omega) hKD rfl rfl)⟩
 case stop =>
  rintro D c pre W _ _ h _
  exact h.elim
end Go.Proofs.YtdebbmembkbniaaGreat
