/- spenceref03.Name. (Several texts in one.) -/
import Derived.Test.YtfiadgdinhmgbaaGreatDoorEAO
import Derived.Test.YtfiadgdinhmgbaaGreatDoorEAN
import Derived.Test.YtfiadgdinhmgbaaGreatDoorEAH
/-! spenceref08.own: a right tree in memory of its own. -/
namespace Go.Agg
open Go.RowKit
section
variable {P : Program} {ops : Array Oper} {o : Oper} {a : Act} {w : World} {Q : Exit → Act → World → Prop} {K : Act → World → Prop} {F : Prop} {α : Type} {base : Nat}
theorem step_slice0 (E : Elem P α) (hg : o.guard = none) (ho : o.op = .buildSlice E.st 0 #[]) (hbase : base ≤ w.heap.size)
  (h : ∀ v' w', Own E base w' v' [] → Below w.heap.size w w' → K (a.put o.dst v') w') : if Region.wanted o (yielded ops a.tmps) = true then o.wp P a w K Q else F := by
 refine step_val hg (v := .slice (some ⟨w.heap.size, 0, none⟩) 0 0) (w' := w.alloc (.cells #[] E.ty)) ?_ (h _ _ ?_ ((Below.refl _ _).alloc (Nat.le_refl _) _))
 ·simp [execOp, ho, Instr.buildSlice, run_underlying E.slice, run_sizeOf_elem, newRow, Instr.fill]
  rw [show Array.range 0 = #[] by simp, Array.map_empty]
 ·exact ⟨by simp [Elem.flat], .inr ⟨_, 0, #[], rfl, hbase, heap_alloc_new w _, Nat.le_refl _, Nat.zero_le _, by simp, by simp [Elem.flat]⟩⟩
end
end Go.Agg
namespace Go.Proofs.YtfiadgdinhmgbaaGreatDoor
open Go.RowKit Pl Go.Agg Go.Tr
theorem kid_lies {w w' : World} {v : Value} {ks : List KdV} {q : Nat} {y : KdV} {p : Addr} (hs : SliceOf EK w v ks) (hx : Below w.heap.size w w') (hy : ks[q]? = some y) (ha : ∀ W, (Instr.indexAt 24 v (.int .i64 (q : Int))).run Tryz.prog W = .ok (.pointer (some p)) W) : KdL w' p y := by
 obtain ⟨p', h1, h2⟩ := kid_at (hs.below hx) q y hy
 have e := (h1 w).symm.trans (ha w)
 simp only [Result.ok.injEq, Value.pointer.injEq, Option.some.injEq] at e
 obtain ⟨rfl, _⟩ := e
 exact h2
set_option maxRecDepth 100000 in
set_option maxHeartbeats 16000000 in
theorem rown_any : ∀ (N : Nat) (t : T) (_ : count t ≤ N) (_ : ok t = true) (vn : Value) (w : World) (_ : NodeAt w vn t),
  Calls Tryz.prog 59 #[vn] w fun e w' => ∃ x', e = .returned (.agg (ndC x')) ∧ OwnN w.heap.size w' x' t ∧ Below w.heap.size w w' := by
 intro N
 induction N with
 | zero => intro t h; have := count_pos t; omega
 | succ N ih =>
 intro t hc hok vn w hv
 obtain ⟨x, rfl, hx⟩ := hv
 obtain ⟨k, bs, l⟩ := t
 obtain ⟨hk, hby, ks, hsl, hkv⟩ := hx
 obtain ⟨xk, xb, xs⟩ := x
 obtain rfl : xk = k := hk
 have hkl := hkv.len
 have hlk := fun W => kds_len hsl W
 rw [hkl] at hlk
 have ha : alone (.mk xk bs l) = true := by simp only [ok, Bool.and_eq_true] at hok; exact hok.1
 have hkok := kids_ok hok
 rw [show (T.mk xk bs l).kids = l from rfl] at hkok
 have hll : l.length ≤ 200 ∧ bs.length ≤ 2048 := by
  rcases alone_cases ha with ⟨_, rfl, h200, _⟩ | ⟨_, _, _, h, rfl⟩
  ·exact ⟨h200, by simp⟩
  ·exact ⟨by simp, h⟩
 have hll1 := hll.1
 have HKV := Lib.hid hkv
 have HSL := Lib.hid hsl
 have HBY := Lib.hid hby
 have HIH := Lib.hid ih
 have HC := Lib.hid hc
 have HKO := Lib.hid hkok
 have HEO := Lib.hid (enters_of Tryz.func59 (by kernel_rfl) rfl : ∀ args w, (callFunc 59 args).run Tryz.prog w = .ok (.enter 59 args) w)
 clear hkv hby hsl ih hc hkok hok ha
 go_enter Tryz.func59, Tryz.ntmps59
 go_wp2_with (first | (refine wpList_box rfl 26 _ rfl (ndC (xk, xb, xs)) rfl ?_; intro g1 w1 hb hx hg; have HB1 := Lib.hid hb; have HX1 := Lib.hid hx; clear hb hx hg) | (refine Agg.wpList_zero rfl 26 rfl (ndC ndZ) nd_zero ?_; intro g2 w2 hb hx hg; have HR2 := Lib.hid hb; have HB2 := Lib.hid (HB1.out.below hx); have HX2 := Lib.hid (belowThen HX1.out (Nat.le_refl _) hx); have HG2 := Lib.hid (Nat.le_trans HX1.out.size hg); clear hb hx hg))
 refine Agg.wp_cutR (fun a a' w' => ∃ (g3 : Nat) (vb : SV), Blk w' g3 26 (ndC (xk, vb, svN)) ∧ Agg.Own EB w.heap.size w' vb.1 bs ∧ Below w2.heap.size w2 w' ∧ w2.heap.size ≤ g3 ∧ ExPut [5, 6, 7, 8, 9, 10, 11] (a.put (some 3) (.pointer (some ⟨g3, 0, none⟩))) a') ?_ ?_
 ·try simp only [Act.put, List.setIfInBounds_toArray, List.set_cons_succ, List.set_cons_zero]
  obtain ⟨w3, hw3⟩ : ∃ W, W = w2.drew := ⟨_, rfl⟩
  have hd3 : Below w2.heap.size w2 w3 := by rw [hw3]; exact (Below.refl _ _).drew
  have HS_ := Lib.hid (HB2.out.below hd3)
  have HXX_ := Lib.hid hd3
  refine wp_region_held_drew (S := fun W => Blk W g1 26 (ndC (xk, xb, xs))) (by kernel_rfl) (by rw [← hw3]; exact HS_.out) (fun hHeld => ?_)
  rw [← hw3] at hHeld ⊢
  clear hw3 hd3
  refine held_take 0 (.pointer (some ⟨g1, 0, none⟩)) rfl (by kernel_rfl) (fun _ _ _ h => h) rfl (fun W _ => by kernel_rfl) (by assumption) ?_
  try simp only [Act.put, List.setIfInBounds_toArray, List.set_cons_succ, List.set_cons_zero]
  refine held_take 1 (.int .i64 xk) rfl (by kernel_rfl) (fun _ _ _ h => h) rfl (fun W hS => exec_loadB rfl rfl (NdL.of_blk hS).kind.now) (by assumption) ?_
  try simp only [Act.put, List.setIfInBounds_toArray, List.set_cons_succ, List.set_cons_zero]
  refine held_take 3 (.pointer (some ⟨g1, 1, none⟩)) rfl (by kernel_rfl) (fun _ _ _ h => h) rfl (fun W _ => by kernel_rfl) (by assumption) ?_
  try simp only [Act.put, List.setIfInBounds_toArray, List.set_cons_succ, List.set_cons_zero]
  refine held_take 4 (xb.1) rfl (by kernel_rfl) (fun _ _ _ h => h) rfl (fun W hS => exec_loadB rfl rfl (NdL.of_blk hS).bytes.now) (by assumption) ?_
  try simp only [Act.put, List.setIfInBounds_toArray, List.set_cons_succ, List.set_cons_zero]
  refine held_ready [2, 7] (by kernel_rfl) (by simp) ?_
  refine held_cons rfl ?_ ?_
  ·refine Agg.step_slice0 (base := w2.heap.size) EB rfl rfl HXX_.out.size ?_
   intro v0 w3_2 ho0 hx
   have HZ_2 := Lib.hid ho0
   have HS_2 := Lib.hid (HS_.out.below hx)
   have HXX_2 := Lib.hid (belowThen HXX_.out (Nat.le_refl _) hx)
   clear ho0 hx
   have hS_2 : Blk w3_2 g1 26 (ndC (xk, xb, xs)) := HS_2.out
   refine ⟨hS_2, ?_⟩
   try simp only [Act.put, List.setIfInBounds_toArray, List.set_cons_succ, List.set_cons_zero]
   refine held_ready [5, 7] (by kernel_rfl) (by simp) ?_
   refine held_cons rfl ?_ ?_
   ·refine Agg.step_appendG (E := EB) (base := w2.heap.size) rfl _ _ rfl xb.1 rfl rfl bs HZ_2.out (SliceOf.below HBY.out (HX2.out.trans (HXX_2.out.mono HX2.out.size))) (by simp; omega) (by decide) HXX_2.out.size ?_
    intro vb0 Zbs hob hp _
    obtain ⟨vb, rfl⟩ := own_sv hob
    have Zb8 := Lib.hid (show Agg.Own EB w.heap.size Zbs vb.1 bs from hob.lower HX2.out.size)
    have Zb0 := Lib.hid (show Blk Zbs g1 26 (ndC (xk, xb, xs)) from hp.blk g1 _ _ _ (show 26 ≠ 5 by decide) HS_2.out)
    have Zbz := Lib.hid (HXX_2.out.trans (hp.below w2.heap.size (Nat.le_refl _) HXX_2.out.size))
    clear hob hp
    have Zb7 : Blk Zbs g1 26 (ndC (xk, xb, xs)) := Zb0.out
    refine ⟨Zb7, ?_⟩
    try simp only [Act.put, List.setIfInBounds_toArray, List.set_cons_succ, List.set_cons_zero]
    refine held_take 6 (.agg (ndC (xk, vb, svN))) rfl (by kernel_rfl) (fun _ _ _ h => h) rfl (fun W _ => exec_b2 rfl rfl rfl (nd_build2 xk vb W)) (by assumption) ?_
    try simp only [Act.put, List.setIfInBounds_toArray, List.set_cons_succ, List.set_cons_zero]
    refine held_one 7 rfl (by kernel_rfl) ?_
    refine step_zero rfl 26 rfl (ndC ndZ) nd_zero ?_
    intro g3 Zm hb hx hg
    have Z1 := Lib.hid hb
    have HG3 := Lib.hid (show w2.heap.size ≤ g3 from Nat.le_trans Zbz.out.size hg)
    have Z0 := Lib.hid (Zb0.out.below hx)
    have Zbc := Lib.hid (belowThen Zbz.out (Nat.le_refl _) hx)
    have Zbd := Lib.hid (Zb8.out.below hx)
    clear hb hx hg
    have Zbe : Blk Zm g1 26 (ndC (xk, xb, xs)) := Z0.out
    refine ⟨Zbe, ?_⟩
    try simp only [Act.put, List.setIfInBounds_toArray, List.set_cons_succ, List.set_cons_zero]
    refine held_one 8 rfl (by kernel_rfl) ?_
    refine step_put rfl rfl 26 _ _ rfl g3 (ndC (xk, vb, svN)) (ndC ndZ) rfl rfl Z1.out (nd_info _) rfl (ndC_one _) ?_
    intro Zbk hb hx hs hk
    have ho := Only.of_eq (S := (· = g3)) hx hs hk rfl
    have Z6 := Lib.hid hb
    have Z8 := Lib.hid (Own.onlyB Zbd.out ho Z1.out (by decide))
    have Zbb := Lib.hid (Z0.out.keepO ho (fun e => by have := HB2.out.lt; have := HG3.out; omega))
    have Z3 := Lib.hid (Zbc.out.trans (hx.mono HG3.out))
    clear hb hx hs hk ho
    refine ⟨Zbb.out, ?_⟩
    try simp only [Act.put, List.setIfInBounds_toArray, List.set_cons_succ, List.set_cons_zero]
    refine held_end (by kernel_rfl) ?_
    simp only [ExPut, Act.put, List.setIfInBounds_toArray, List.set_cons_succ, List.set_cons_zero]
    exact ⟨g3, vb, Z6.out, Z8.out, Z3.out, HG3.out, _, _, _, _, _, _, _, rfl⟩
   refine held_cons rfl ?_ ?_
   ·refine step_zero rfl 26 rfl (ndC ndZ) nd_zero ?_
    intro g3 Zbt hb hx hg
    have Zby := Lib.hid hb
    have HG3 := Lib.hid (show w2.heap.size ≤ g3 from Nat.le_trans HXX_2.out.size hg)
    have Zbi := Lib.hid (HS_2.out.below hx)
    have Z2 := Lib.hid (belowThen HXX_2.out (Nat.le_refl _) hx)
    have Zbx := Lib.hid (HZ_2.out.below hx)
    clear hb hx hg
    have Zbu : Blk Zbt g1 26 (ndC (xk, xb, xs)) := Zbi.out
    refine ⟨Zbu, ?_⟩
    try simp only [Act.put, List.setIfInBounds_toArray, List.set_cons_succ, List.set_cons_zero]
    refine held_one 5 rfl (by kernel_rfl) ?_
    refine Agg.step_appendG (E := EB) (base := w2.heap.size) rfl _ _ rfl xb.1 rfl rfl bs Zbx.out (SliceOf.below HBY.out (HX2.out.trans (Z2.out.mono HX2.out.size))) (by simp; omega) (by decide) Z2.out.size ?_
    intro vb0 Zm hob hp _
    obtain ⟨vb, rfl⟩ := own_sv hob
    have Zbd := Lib.hid (show Agg.Own EB w.heap.size Zm vb.1 bs from hob.lower HX2.out.size)
    have Z0 := Lib.hid (show Blk Zm g1 26 (ndC (xk, xb, xs)) from hp.blk g1 _ _ _ (show 26 ≠ 5 by decide) Zbi.out)
    have Zbc := Lib.hid (Z2.out.trans (hp.below w2.heap.size (Nat.le_refl _) Z2.out.size))
    have Z1 := Lib.hid (show Blk Zm g3 26 (ndC ndZ) from hp.blk g3 _ _ _ (show 26 ≠ 5 by decide) Zby.out)
    clear hob hp
    have Zbe : Blk Zm g1 26 (ndC (xk, xb, xs)) := Z0.out
    refine ⟨Zbe, ?_⟩
    try simp only [Act.put, List.setIfInBounds_toArray, List.set_cons_succ, List.set_cons_zero]
    refine held_take 6 (.agg (ndC (xk, vb, svN))) rfl (by kernel_rfl) (fun _ _ _ h => h) rfl (fun W _ => exec_b2 rfl rfl rfl (nd_build2 xk vb W)) (by assumption) ?_
    try simp only [Act.put, List.setIfInBounds_toArray, List.set_cons_succ, List.set_cons_zero]
    refine held_one 8 rfl (by kernel_rfl) ?_
    refine step_put rfl rfl 26 _ _ rfl g3 (ndC (xk, vb, svN)) (ndC ndZ) rfl rfl Z1.out (nd_info _) rfl (ndC_one _) ?_
    intro Zbk hb hx hs hk
    have ho := Only.of_eq (S := (· = g3)) hx hs hk rfl
    have Z6 := Lib.hid hb
    have Z8 := Lib.hid (Own.onlyB Zbd.out ho Z1.out (by decide))
    have Zbb := Lib.hid (Z0.out.keepO ho (fun e => by have := HB2.out.lt; have := HG3.out; omega))
    have Z3 := Lib.hid (Zbc.out.trans (hx.mono HG3.out))
    clear hb hx hs hk ho
    refine ⟨Zbb.out, ?_⟩
    try simp only [Act.put, List.setIfInBounds_toArray, List.set_cons_succ, List.set_cons_zero]
    refine held_end (by kernel_rfl) ?_
    simp only [ExPut, Act.put, List.setIfInBounds_toArray, List.set_cons_succ, List.set_cons_zero]
    exact ⟨g3, vb, Z6.out, Z8.out, Z3.out, HG3.out, _, _, _, _, _, _, _, rfl⟩
   exact AllReadyH.nil
  refine held_cons rfl ?_ ?_
  ·refine step_zero rfl 26 rfl (ndC ndZ) nd_zero ?_
   intro g3 w3_7 hb hx hg
   have HN_7 := Lib.hid hb
   have HG3 := Lib.hid (show w2.heap.size ≤ g3 from Nat.le_trans HXX_.out.size hg)
   have HS_7 := Lib.hid (HS_.out.below hx)
   have HXX_7 := Lib.hid (belowThen HXX_.out (Nat.le_refl _) hx)
   clear hb hx hg
   have hS_7 : Blk w3_7 g1 26 (ndC (xk, xb, xs)) := HS_7.out
   refine ⟨hS_7, ?_⟩
   try simp only [Act.put, List.setIfInBounds_toArray, List.set_cons_succ, List.set_cons_zero]
   refine held_one 2 rfl (by kernel_rfl) ?_
   refine Agg.step_slice0 (base := w2.heap.size) EB rfl rfl HXX_7.out.size ?_
   intro v0 Zbt ho0 hx
   have Zbx := Lib.hid ho0
   have Zbi := Lib.hid (HS_7.out.below hx)
   have Z2 := Lib.hid (belowThen HXX_7.out (Nat.le_refl _) hx)
   have Zby := Lib.hid (HN_7.out.below hx)
   clear ho0 hx
   have Zbu : Blk Zbt g1 26 (ndC (xk, xb, xs)) := Zbi.out
   refine ⟨Zbu, ?_⟩
   try simp only [Act.put, List.setIfInBounds_toArray, List.set_cons_succ, List.set_cons_zero]
   refine held_one 5 rfl (by kernel_rfl) ?_
   refine Agg.step_appendG (E := EB) (base := w2.heap.size) rfl _ _ rfl xb.1 rfl rfl bs Zbx.out (SliceOf.below HBY.out (HX2.out.trans (Z2.out.mono HX2.out.size))) (by simp; omega) (by decide) Z2.out.size ?_
   intro vb0 Zm hob hp _
   obtain ⟨vb, rfl⟩ := own_sv hob
   have Zbd := Lib.hid (show Agg.Own EB w.heap.size Zm vb.1 bs from hob.lower HX2.out.size)
   have Z0 := Lib.hid (show Blk Zm g1 26 (ndC (xk, xb, xs)) from hp.blk g1 _ _ _ (show 26 ≠ 5 by decide) Zbi.out)
   have Zbc := Lib.hid (Z2.out.trans (hp.below w2.heap.size (Nat.le_refl _) Z2.out.size))
   have Z1 := Lib.hid (show Blk Zm g3 26 (ndC ndZ) from hp.blk g3 _ _ _ (show 26 ≠ 5 by decide) Zby.out)
   clear hob hp
   have Zbe : Blk Zm g1 26 (ndC (xk, xb, xs)) := Z0.out
   refine ⟨Zbe, ?_⟩
   try simp only [Act.put, List.setIfInBounds_toArray, List.set_cons_succ, List.set_cons_zero]
   refine held_take 6 (.agg (ndC (xk, vb, svN))) rfl (by kernel_rfl) (fun _ _ _ h => h) rfl (fun W _ => exec_b2 rfl rfl rfl (nd_build2 xk vb W)) (by assumption) ?_
   try simp only [Act.put, List.setIfInBounds_toArray, List.set_cons_succ, List.set_cons_zero]
   refine held_one 8 rfl (by kernel_rfl) ?_
   refine step_put rfl rfl 26 _ _ rfl g3 (ndC (xk, vb, svN)) (ndC ndZ) rfl rfl Z1.out (nd_info _) rfl (ndC_one _) ?_
   intro Zbk hb hx hs hk
   have ho := Only.of_eq (S := (· = g3)) hx hs hk rfl
   have Z6 := Lib.hid hb
   have Z8 := Lib.hid (Own.onlyB Zbd.out ho Z1.out (by decide))
   have Zbb := Lib.hid (Z0.out.keepO ho (fun e => by have := HB2.out.lt; have := HG3.out; omega))
   have Z3 := Lib.hid (Zbc.out.trans (hx.mono HG3.out))
   clear hb hx hs hk ho
   refine ⟨Zbb.out, ?_⟩
   try simp only [Act.put, List.setIfInBounds_toArray, List.set_cons_succ, List.set_cons_zero]
   refine held_end (by kernel_rfl) ?_
   simp only [ExPut, Act.put, List.setIfInBounds_toArray, List.set_cons_succ, List.set_cons_zero]
   exact ⟨g3, vb, Z6.out, Z8.out, Z3.out, HG3.out, _, _, _, _, _, _, _, rfl⟩
  exact AllReadyH.nil
 ·rintro a' w3 ⟨g3, vb, hn, hob, hx, hg, hex⟩
  have HN3 := Lib.hid hn
  have HO3 := Lib.hid hob
  have HX3 := Lib.hid (belowThen HX2.out (Nat.le_refl _) hx)
  have HB3 := Lib.hid (HB2.out.below hx)
  have HR3 := Lib.hid (HR2.out.below hx)
  have HG3 := Lib.hid (show w.heap.size ≤ g3 from Nat.le_trans HX2.out.size hg)
  have HG23 := Lib.hid (show g2 < g3 from Nat.lt_of_lt_of_le HR2.out.lt hg)
  have HG13 := Lib.hid (show g1 < g3 from Nat.lt_of_lt_of_le HB2.out.lt hg)
  clear hn hob hx hg
  simp only [ExPut, Act.put, List.setIfInBounds_toArray, List.set_cons_succ, List.set_cons_zero] at hex
  obtain ⟨y5, y6, y7, y8, y9, y10, y11, rfl⟩ := hex
  go_wp2_with fail
  go_loopw [4] (fun i wr => ∃ (q : Nat) (vk : SV) (kk : List KdV) (cs : List Nat), q ≤ l.length ∧ i = .int .i64 (q : Int) ∧ OwnS w.heap.size wr vb.1 bs vk.1 kk (l.take q) cs ∧ (∀ j ∈ cs, g3 < j) ∧ Blk wr g3 26 (ndC (xk, vb, vk)) ∧ Blk wr g2 26 (ndC ndZ) ∧ Blk wr g1 26 (ndC (xk, xb, xs)) ∧ Below w.heap.size w wr) (fun i _ => l.length - (intOf i).toNat)
  case atStart => exact ⟨0, svN, [], [], by omega, rfl, ⟨HO3.out, Agg.Own.nil _ _ _, rfl, by simpa [svN, ownB, Value.ownBlock] using ownB_nodup vb.1⟩, by simp, HN3.out, HR3.out, HB3.out, HX3.out⟩
  case round =>
   obtain ⟨wa, rfl⟩ : ∃ y : World, y = wr := ⟨_, rfl⟩
   obtain ⟨q, vk, kk, cs, hq, rfl, hos, hcs, hn, hr, hb1, hx⟩ := hrel
   have HSS := Lib.hid hos
   have HCS := Lib.hid hcs
   have HN := Lib.hid hn
   have HR := Lib.hid hr
   have HB := Lib.hid hb1
   have HX := Lib.hid hx
   have HSa := HSS
   have HNa := HN
   have HRa := HR
   have HBa := HB
   have HXa := HX
   clear hos hcs hn hr hx hb1
   by_cases hlt : q < l.length
   ·have hlq : decide ((q : Int) < (l.length : Int)) = true := by simp; omega
    obtain ⟨z, hzk⟩ : ∃ z, l[q]? = some z := ⟨_, List.getElem?_eq_getElem hlt⟩
    obtain ⟨y, hyk, hyz, hyn⟩ := HKV.out.at_ q z hzk
    obtain ⟨p, hadr, hle⟩ := kid_at (HSL.out.below HX.out) q y hyk
    have HYa := Lib.hid hle
    have HAD := Lib.hid hadr
    have HYZ := Lib.hid hyz
    have HYN := Lib.hid hyn
    have HT := Lib.hid (take_succ' hzk)
    have hcz : count z.2 ≤ N := by
     have h1 := countL_mem (List.mem_of_getElem? hzk)
     have h2 := HC.out
     simp only [count] at h2
     omega
    have hoz := okL_mem HKO.out (List.mem_of_getElem? hzk)
    have hkq : kk.length ≤ 200 := by
     have h1 := HSS.out.kids
     have h2 := (OwnL.reads _ _ _ h1).len
     rw [List.length_take] at h2
     omega
    have HYK := Lib.hid hyk
    clear hle hyk hyz hyn hzk hadr
    go_wp2_with (first | (with_reducible refine wpList_loadL (NdL.of_blk HB.out).kids rfl _ rfl rfl ?_))
    refine Agg.wp_cutR (fun a a' w' => ∃ (vk2 : SV) (x2 : NdV) (b2 : List Nat), OwnS w.heap.size w' vb.1 bs vk2.1 (kk ++ [(y.1, x2)]) (l.take (q + 1)) (cs ++ b2) ∧ (∀ j ∈ cs ++ b2, g3 < j) ∧ Blk w' g3 26 (ndC (xk, vb, vk2)) ∧ Blk w' g2 26 (ndC ndZ) ∧ Blk w' g1 26 (ndC (xk, xb, xs)) ∧ Below w.heap.size w w' ∧ ExPut [19, 20, 21, 22, 23, 24, 25, 26, 27, 28, 29, 30, 31, 32, 33, 34, 35, 36, 37] a a') ?_ ?_
    ·try simp only [Act.put, List.setIfInBounds_toArray, List.set_cons_succ, List.set_cons_zero]
     obtain ⟨wb, hwb⟩ : ∃ W, W = wa.drew := ⟨_, rfl⟩
     have hdb : Below wa.heap.size wa wb := by rw [hwb]; exact (Below.refl _ _).drew
     have HS_ := Lib.hid (HSa.out.below hdb)
     have HSb := HS_
     have HN_ := Lib.hid (HNa.out.below hdb)
     have HNb := HN_
     have HR_ := Lib.hid (HRa.out.below hdb)
     have HB_ := Lib.hid (HBa.out.below hdb)
     have HY_ := Lib.hid (HYa.out.below hdb)
     have HX_ := Lib.hid (belowThen HXa.out (Nat.le_refl _) hdb)
     refine wp_region_held_drew (S := fun W => (∃ vq : SV, Blk W g3 26 (ndC (xk, vb, vq))) ∧ Blk W g1 26 (ndC (xk, xb, xs)) ∧ KdL W p y) (by kernel_rfl) (by rw [← hwb]; exact ⟨⟨_, HN_.out⟩, HB_.out, HY_.out⟩) (fun hHeld => ?_)
     rw [← hwb] at hHeld ⊢
     clear hwb hdb
     refine held_take 0 (.pointer (some ⟨g3, 2, none⟩)) rfl (by kernel_rfl) (fun _ _ _ h => h) rfl (fun W _ => by kernel_rfl) (by assumption) ?_
     try simp only [Act.put, List.setIfInBounds_toArray, List.set_cons_succ, List.set_cons_zero]
     refine held_take 2 (.pointer (some ⟨g1, 2, none⟩)) rfl (by kernel_rfl) (fun _ _ _ h => h) rfl (fun W _ => by kernel_rfl) (by assumption) ?_
     try simp only [Act.put, List.setIfInBounds_toArray, List.set_cons_succ, List.set_cons_zero]
     refine held_take 3 (xs.1) rfl (by kernel_rfl) (fun _ _ _ h => h) rfl (fun W hS => exec_loadB rfl rfl (NdL.of_blk hS.2.1).kids.now) (by assumption) ?_
     try simp only [Act.put, List.setIfInBounds_toArray, List.set_cons_succ, List.set_cons_zero]
     refine held_take 4 (.int .i64 (q : Int)) rfl (by kernel_rfl) (fun _ _ _ h => h) rfl (fun W _ => by kernel_rfl) (by assumption) ?_
     try simp only [Act.put, List.setIfInBounds_toArray, List.set_cons_succ, List.set_cons_zero]
     refine held_take 5 (.pointer (some p)) rfl (by kernel_rfl) (fun _ _ _ h => h) rfl (fun W _ => exec_idx rfl rfl rfl (HAD.out W)) (by assumption) ?_
     try simp only [Act.put, List.setIfInBounds_toArray, List.set_cons_succ, List.set_cons_zero]
     refine held_take 6 (.pointer (some p)) rfl (by kernel_rfl) (fun _ _ _ h => h) rfl (fun W _ => by kernel_rfl) (by assumption) ?_
     try simp only [Act.put, List.setIfInBounds_toArray, List.set_cons_succ, List.set_cons_zero]
     refine held_take 7 (.string ⟨y.1.toArray⟩) rfl (by kernel_rfl) (fun _ _ _ h => h) rfl (fun W hS => exec_loadB rfl rfl hS.2.2.name.now) (by assumption) ?_
     try simp only [Act.put, List.setIfInBounds_toArray, List.set_cons_succ, List.set_cons_zero]
     refine held_take 8 (.pointer (some ⟨g1, 2, none⟩)) rfl (by kernel_rfl) (fun _ _ _ h => h) rfl (fun W _ => by kernel_rfl) (by assumption) ?_
     try simp only [Act.put, List.setIfInBounds_toArray, List.set_cons_succ, List.set_cons_zero]
     refine held_take 9 (xs.1) rfl (by kernel_rfl) (fun _ _ _ h => h) rfl (fun W hS => exec_loadB rfl rfl (NdL.of_blk hS.2.1).kids.now) (by assumption) ?_
     try simp only [Act.put, List.setIfInBounds_toArray, List.set_cons_succ, List.set_cons_zero]
     refine held_take 10 (.int .i64 (q : Int)) rfl (by kernel_rfl) (fun _ _ _ h => h) rfl (fun W _ => by kernel_rfl) (by assumption) ?_
     try simp only [Act.put, List.setIfInBounds_toArray, List.set_cons_succ, List.set_cons_zero]
     refine held_take 11 (.pointer (some p)) rfl (by kernel_rfl) (fun _ _ _ h => h) rfl (fun W _ => exec_idx rfl rfl rfl (HAD.out W)) (by assumption) ?_
     try simp only [Act.put, List.setIfInBounds_toArray, List.set_cons_succ, List.set_cons_zero]
     refine held_take 12 (.pointer (some (p.add 1))) rfl (by kernel_rfl) (fun _ _ _ h => h) rfl (fun W _ => by kernel_rfl) (by assumption) ?_
     try simp only [Act.put, List.setIfInBounds_toArray, List.set_cons_succ, List.set_cons_zero]
     refine held_take 13 (.agg (ndC y.2)) rfl (by kernel_rfl) (fun _ _ _ h => h) rfl (fun W hS => exec_loadB rfl rfl hS.2.2.node.all.now) (by assumption) ?_
     try simp only [Act.put, List.setIfInBounds_toArray, List.set_cons_succ, List.set_cons_zero]
     refine held_ready [1, 14] (by kernel_rfl) (by simp) ?_
     refine held_cons rfl ?_ ?_
     ·refine step_load rfl 24 _ rfl _ vk.1 rfl (NdL.of_blk HN_.out).kids.now ?_
      have HS_1 := HS_
      have HN_1 := HN_
      have HR_1 := HR_
      have HB_1 := HB_
      have HY_1 := HY_
      have HX_1 := HX_
      have hS_1 : (∃ vq : SV, Blk wb g3 26 (ndC (xk, vb, vq))) ∧ Blk wb g1 26 (ndC (xk, xb, xs)) ∧ KdL wb p y := ⟨⟨_, HN_1.out⟩, HB_1.out, HY_1.out⟩
      refine ⟨hS_1, ?_⟩
      try simp only [Act.put, List.setIfInBounds_toArray, List.set_cons_succ, List.set_cons_zero]
      refine held_one 14 rfl (by kernel_rfl) ?_
      refine step_call rfl 59 _ _ rfl #[.agg (ndC y.2)] (by simp only [List.map_toArray, List.map_cons, List.map_nil]; rfl) (fun W => HEO.out _ W) ?_
      refine (HIH.out z.2 hcz hoz (.agg (ndC y.2)) _ ⟨y.2, rfl, HYN.out.below HX_1.out⟩).mono ?_
      rintro e wb_14 ⟨x2, rfl, ⟨b2, ho2, hn2⟩, hx⟩
      have Zbq := Lib.hid ho2
      have HN2 := Lib.hid hn2
      have HR2b := Lib.hid (show ∀ k ∈ b2, wb.heap.size ≤ k from fun k hk => (OwnT.range z.2 x2 b2 ho2 k hk).1)
      have HLW := Lib.hid (show w.heap.size ≤ wb.heap.size from HX_1.out.size)
      have Zbo := Lib.hid (HS_1.out.below hx)
      have Zbh := Lib.hid (HN_1.out.below hx)
      have Zbp := Lib.hid (HR_1.out.below hx)
      have Zbg := Lib.hid (HB_1.out.below hx)
      have Zbf := Lib.hid (HY_1.out.below hx)
      have Zbn := Lib.hid (belowThen HX_1.out (Nat.le_refl _) hx)
      clear ho2 hn2 hx
      have Zbm : (∃ vq : SV, Blk wb_14 g3 26 (ndC (xk, vb, vq))) ∧ Blk wb_14 g1 26 (ndC (xk, xb, xs)) ∧ KdL wb_14 p y := ⟨⟨_, Zbh.out⟩, Zbg.out, Zbf.out⟩
      refine ⟨_, rfl, ?_⟩
      refine ⟨Zbm, ?_⟩
      try simp only [Act.put, List.setIfInBounds_toArray, List.set_cons_succ, List.set_cons_zero]
      refine held_take 15 (.agg (kdC (y.1, x2))) rfl (by kernel_rfl) (fun _ _ _ h => h) rfl (fun W _ => exec_b2 rfl rfl rfl (kd_build y.1 x2 W)) (by assumption) ?_
      try simp only [Act.put, List.setIfInBounds_toArray, List.set_cons_succ, List.set_cons_zero]
      refine held_one 16 rfl (by kernel_rfl) ?_
      refine step_slice1 (E := EK) rfl _ rfl (y.1, x2) rfl ?_
      intro ys Ze hys hx
      have Z9 := Lib.hid hys.slice
      have Zs := Lib.hid (Zbo.out.below hx)
      have Zu := Lib.hid (Zbh.out.below hx)
      have Z4 := Lib.hid (Zbp.out.below hx)
      have Zt := Lib.hid (Zbg.out.below hx)
      have Z5 := Lib.hid (Zbf.out.below hx)
      have Zi := Lib.hid (belowThen Zbn.out (Nat.le_refl _) hx)
      have Z7 := Lib.hid (OwnT.below hx Zbq.out)
      clear hys hx
      have Zba : (∃ vq : SV, Blk Ze g3 26 (ndC (xk, vb, vq))) ∧ Blk Ze g1 26 (ndC (xk, xb, xs)) ∧ KdL Ze p y := ⟨⟨_, Zu.out⟩, Zt.out, Z5.out⟩
      refine ⟨Zba, ?_⟩
      try simp only [Act.put, List.setIfInBounds_toArray, List.set_cons_succ, List.set_cons_zero]
      refine held_one 17 rfl (by kernel_rfl) ?_
      refine Agg.step_appendG (E := EK) (base := w.heap.size) rfl _ _ rfl ys rfl rfl [(y.1, x2)] Zs.out.row Z9.out (by simp; omega) (by decide) Zi.out.size ?_
      intro vk0 Za hok hp hgr
      obtain ⟨vk2, rfl⟩ := own_sv hok
      have Zx := Lib.hid (show OwnS w.heap.size Za vb.1 bs vk2.1 (kk ++ [(y.1, x2)]) (l.take (q + 1)) (cs ++ b2) by
       rw [HT.out, show z = ((y.1, x2).1, z.2) from Prod.ext HYZ.out.symm rfl]
       exact Zs.out.push (y := (y.1, x2)) (OwnT.lowerB HLW.out z.2 x2 b2 Z7.out) HN2.out (fun i hi j hj => by have h1 := (HSb.out.range i hi).2; have h2 := HR2b.out j hj; omega) hok hp hgr)
      have Zc := Lib.hid (hp.blk g3 _ _ _ (by decide) Zu.out)
      have Zy := Lib.hid (hp.blk g2 _ _ _ (by decide) Z4.out)
      have Zj := Lib.hid (hp.blk g1 _ _ _ (by decide) Zt.out)
      have hpx : Below w.heap.size Ze Za := hp.below w.heap.size (Nat.le_refl _) Zi.out.size
      have Zd := Lib.hid (Zi.out.trans hpx)
      have Zk := Lib.hid (show ∀ j ∈ cs ++ b2, g3 < j from fun j hj => (List.mem_append.1 hj).elim (fun h => HCS.out j h) (fun h => by have := HR2b.out j h; have := HNb.out.lt; omega))
      have Zz := Lib.hid (show KdL Za p y from kid_lies HSL.out Zd.out HYK.out HAD.out)
      have Zv : (∃ vq : SV, Blk Za g3 26 (ndC (xk, vb, vq))) ∧ Blk Za g1 26 (ndC (xk, xb, xs)) ∧ KdL Za p y := ⟨⟨_, Zc.out⟩, Zj.out, Zz.out⟩
      clear hok hp hgr hpx
      refine ⟨Zv, ?_⟩
      try simp only [Act.put, List.setIfInBounds_toArray, List.set_cons_succ, List.set_cons_zero]
      refine held_take 18 (.pointer (some ⟨g3, 2, none⟩)) rfl (by kernel_rfl) (fun _ _ _ h => h) rfl (fun W _ => by kernel_rfl) (by assumption) ?_
      try simp only [Act.put, List.setIfInBounds_toArray, List.set_cons_succ, List.set_cons_zero]
      refine held_one 19 rfl (by kernel_rfl) ?_
      obtain ⟨Zb, hrun, hbf, hof⟩ := Agg.Blk.run_one (P := Tryz.prog) (ty := 24) Zc.out 2 (by show 2 < 3; omega) vk2.1 (sv_cells vk2) (sv_oneT vk2) (by kernel_rfl) (ndC (xk, vb, vk2)) rfl
      refine step_store rfl rfl 24 _ _ rfl (.pointer (some ⟨g3, 2, none⟩)) vk2.1 rfl rfl hrun ?_
      have Zr := Lib.hid (Zx.out.other hof Zc.out (by decide) (by decide) (fun h => by have := Zk.out g3 h; omega))
      have Zo := Lib.hid (Agg.Blk.keepO Zy.out hof (fun e => by have := HG23.out; omega))
      have Zh := Lib.hid (Agg.Blk.keepO Zj.out hof (fun e => by have := HG13.out; omega))
      have Zf := Lib.hid hbf
      have Zg := Lib.hid (Zd.out.trans (hof.below Zd.out.size (fun i hi => by subst hi; exact HG3.out)))
      have Zn := Lib.hid (show KdL Zb p y from kid_lies HSL.out Zg.out HYK.out HAD.out)
      have Zp := Zk
      clear hrun hbf hof
      have Zq : (∃ vq : SV, Blk Zb g3 26 (ndC (xk, vb, vq))) ∧ Blk Zb g1 26 (ndC (xk, xb, xs)) ∧ KdL Zb p y := ⟨⟨_, Zf.out⟩, Zh.out, Zn.out⟩
      refine ⟨Zq, ?_⟩
      try simp only [Act.put, List.setIfInBounds_toArray, List.set_cons_succ, List.set_cons_zero]
      refine held_end (by kernel_rfl) ?_
      simp only [ExPut, Act.put, List.setIfInBounds_toArray, List.set_cons_succ, List.set_cons_zero]
      exact ⟨vk2, x2, b2, Zr.out, Zp.out, Zf.out, Zo.out, Zh.out, Zg.out, _, _, _, _, _, _, _, _, _, _, _, _, _, _, _, _, _, _, _, rfl⟩
     refine held_cons rfl ?_ ?_
     ·refine step_call rfl 59 _ _ rfl #[.agg (ndC y.2)] (by simp only [List.map_toArray, List.map_cons, List.map_nil]; rfl) (fun W => HEO.out _ W) ?_
      refine (HIH.out z.2 hcz hoz (.agg (ndC y.2)) _ ⟨y.2, rfl, HYN.out.below HX_.out⟩).mono ?_
      rintro e wb_14 ⟨x2, rfl, ⟨b2, ho2, hn2⟩, hx⟩
      have HO_14 := Lib.hid ho2
      have HN2 := Lib.hid hn2
      have HR2b := Lib.hid (show ∀ k ∈ b2, wb.heap.size ≤ k from fun k hk => (OwnT.range z.2 x2 b2 ho2 k hk).1)
      have HLW := Lib.hid (show w.heap.size ≤ wb.heap.size from HX_.out.size)
      have HS_14 := Lib.hid (HS_.out.below hx)
      have HN_14 := Lib.hid (HN_.out.below hx)
      have HR_14 := Lib.hid (HR_.out.below hx)
      have HB_14 := Lib.hid (HB_.out.below hx)
      have HY_14 := Lib.hid (HY_.out.below hx)
      have HX_14 := Lib.hid (belowThen HX_.out (Nat.le_refl _) hx)
      clear ho2 hn2 hx
      have hS_14 : (∃ vq : SV, Blk wb_14 g3 26 (ndC (xk, vb, vq))) ∧ Blk wb_14 g1 26 (ndC (xk, xb, xs)) ∧ KdL wb_14 p y := ⟨⟨_, HN_14.out⟩, HB_14.out, HY_14.out⟩
      refine ⟨_, rfl, ?_⟩
      refine ⟨hS_14, ?_⟩
      try simp only [Act.put, List.setIfInBounds_toArray, List.set_cons_succ, List.set_cons_zero]
      refine held_take 15 (.agg (kdC (y.1, x2))) rfl (by kernel_rfl) (fun _ _ _ h => h) rfl (fun W _ => exec_b2 rfl rfl rfl (kd_build y.1 x2 W)) (by assumption) ?_
      try simp only [Act.put, List.setIfInBounds_toArray, List.set_cons_succ, List.set_cons_zero]
      refine held_ready [1, 16] (by kernel_rfl) (by simp) ?_
      refine held_cons rfl ?_ ?_
      ·refine step_load rfl 24 _ rfl _ vk.1 rfl (NdL.of_blk HN_14.out).kids.now ?_
       have Zbo := HS_14
       have Zbh := HN_14
       have Zbp := HR_14
       have Zbg := HB_14
       have Zbf := HY_14
       have Zbn := HX_14
       have Zbq := HO_14
       have Zbm : (∃ vq : SV, Blk wb_14 g3 26 (ndC (xk, vb, vq))) ∧ Blk wb_14 g1 26 (ndC (xk, xb, xs)) ∧ KdL wb_14 p y := ⟨⟨_, Zbh.out⟩, Zbg.out, Zbf.out⟩
       refine ⟨Zbm, ?_⟩
       try simp only [Act.put, List.setIfInBounds_toArray, List.set_cons_succ, List.set_cons_zero]
       refine held_one 16 rfl (by kernel_rfl) ?_
       refine step_slice1 (E := EK) rfl _ rfl (y.1, x2) rfl ?_
       intro ys Ze hys hx
       have Z9 := Lib.hid hys.slice
       have Zs := Lib.hid (Zbo.out.below hx)
       have Zu := Lib.hid (Zbh.out.below hx)
       have Z4 := Lib.hid (Zbp.out.below hx)
       have Zt := Lib.hid (Zbg.out.below hx)
       have Z5 := Lib.hid (Zbf.out.below hx)
       have Zi := Lib.hid (belowThen Zbn.out (Nat.le_refl _) hx)
       have Z7 := Lib.hid (OwnT.below hx Zbq.out)
       clear hys hx
       have Zba : (∃ vq : SV, Blk Ze g3 26 (ndC (xk, vb, vq))) ∧ Blk Ze g1 26 (ndC (xk, xb, xs)) ∧ KdL Ze p y := ⟨⟨_, Zu.out⟩, Zt.out, Z5.out⟩
       refine ⟨Zba, ?_⟩
       try simp only [Act.put, List.setIfInBounds_toArray, List.set_cons_succ, List.set_cons_zero]
       refine held_one 17 rfl (by kernel_rfl) ?_
       refine Agg.step_appendG (E := EK) (base := w.heap.size) rfl _ _ rfl ys rfl rfl [(y.1, x2)] Zs.out.row Z9.out (by simp; omega) (by decide) Zi.out.size ?_
       intro vk0 Za hok hp hgr
       obtain ⟨vk2, rfl⟩ := own_sv hok
       have Zx := Lib.hid (show OwnS w.heap.size Za vb.1 bs vk2.1 (kk ++ [(y.1, x2)]) (l.take (q + 1)) (cs ++ b2) by
        rw [HT.out, show z = ((y.1, x2).1, z.2) from Prod.ext HYZ.out.symm rfl]
        exact Zs.out.push (y := (y.1, x2)) (OwnT.lowerB HLW.out z.2 x2 b2 Z7.out) HN2.out (fun i hi j hj => by have h1 := (HSb.out.range i hi).2; have h2 := HR2b.out j hj; omega) hok hp hgr)
       have Zc := Lib.hid (hp.blk g3 _ _ _ (by decide) Zu.out)
       have Zy := Lib.hid (hp.blk g2 _ _ _ (by decide) Z4.out)
       have Zj := Lib.hid (hp.blk g1 _ _ _ (by decide) Zt.out)
       have hpx : Below w.heap.size Ze Za := hp.below w.heap.size (Nat.le_refl _) Zi.out.size
       have Zd := Lib.hid (Zi.out.trans hpx)
       have Zk := Lib.hid (show ∀ j ∈ cs ++ b2, g3 < j from fun j hj => (List.mem_append.1 hj).elim (fun h => HCS.out j h) (fun h => by have := HR2b.out j h; have := HNb.out.lt; omega))
       have Zz := Lib.hid (show KdL Za p y from kid_lies HSL.out Zd.out HYK.out HAD.out)
       have Zv : (∃ vq : SV, Blk Za g3 26 (ndC (xk, vb, vq))) ∧ Blk Za g1 26 (ndC (xk, xb, xs)) ∧ KdL Za p y := ⟨⟨_, Zc.out⟩, Zj.out, Zz.out⟩
       clear hok hp hgr hpx
       refine ⟨Zv, ?_⟩
       try simp only [Act.put, List.setIfInBounds_toArray, List.set_cons_succ, List.set_cons_zero]
       refine held_take 18 (.pointer (some ⟨g3, 2, none⟩)) rfl (by kernel_rfl) (fun _ _ _ h => h) rfl (fun W _ => by kernel_rfl) (by assumption) ?_
       try simp only [Act.put, List.setIfInBounds_toArray, List.set_cons_succ, List.set_cons_zero]
       refine held_one 19 rfl (by kernel_rfl) ?_
       obtain ⟨Zb, hrun, hbf, hof⟩ := Agg.Blk.run_one (P := Tryz.prog) (ty := 24) Zc.out 2 (by show 2 < 3; omega) vk2.1 (sv_cells vk2) (sv_oneT vk2) (by kernel_rfl) (ndC (xk, vb, vk2)) rfl
       refine step_store rfl rfl 24 _ _ rfl (.pointer (some ⟨g3, 2, none⟩)) vk2.1 rfl rfl hrun ?_
       have Zr := Lib.hid (Zx.out.other hof Zc.out (by decide) (by decide) (fun h => by have := Zk.out g3 h; omega))
       have Zo := Lib.hid (Agg.Blk.keepO Zy.out hof (fun e => by have := HG23.out; omega))
       have Zh := Lib.hid (Agg.Blk.keepO Zj.out hof (fun e => by have := HG13.out; omega))
       have Zf := Lib.hid hbf
       have Zg := Lib.hid (Zd.out.trans (hof.below Zd.out.size (fun i hi => by subst hi; exact HG3.out)))
       have Zn := Lib.hid (show KdL Zb p y from kid_lies HSL.out Zg.out HYK.out HAD.out)
       have Zp := Zk
       clear hrun hbf hof
       have Zq : (∃ vq : SV, Blk Zb g3 26 (ndC (xk, vb, vq))) ∧ Blk Zb g1 26 (ndC (xk, xb, xs)) ∧ KdL Zb p y := ⟨⟨_, Zf.out⟩, Zh.out, Zn.out⟩
       refine ⟨Zq, ?_⟩
       try simp only [Act.put, List.setIfInBounds_toArray, List.set_cons_succ, List.set_cons_zero]
       refine held_end (by kernel_rfl) ?_
       simp only [ExPut, Act.put, List.setIfInBounds_toArray, List.set_cons_succ, List.set_cons_zero]
       exact ⟨vk2, x2, b2, Zr.out, Zp.out, Zf.out, Zo.out, Zh.out, Zg.out, _, _, _, _, _, _, _, _, _, _, _, _, _, _, _, _, _, _, _, rfl⟩
      refine held_cons rfl ?_ ?_
      ·refine step_slice1 (E := EK) rfl _ rfl (y.1, x2) rfl ?_
       intro ys Ze hys hx
       have Zb4 := Lib.hid hys.slice
       have Zb3 := Lib.hid (HS_14.out.below hx)
       have Zbj := Lib.hid (HN_14.out.below hx)
       have Zb2 := Lib.hid (HR_14.out.below hx)
       have Zbr := Lib.hid (HB_14.out.below hx)
       have Zbv := Lib.hid (HY_14.out.below hx)
       have Zb5 := Lib.hid (belowThen HX_14.out (Nat.le_refl _) hx)
       have Zb6 := Lib.hid (OwnT.below hx HO_14.out)
       clear hys hx
       have Zb1 : (∃ vq : SV, Blk Ze g3 26 (ndC (xk, vb, vq))) ∧ Blk Ze g1 26 (ndC (xk, xb, xs)) ∧ KdL Ze p y := ⟨⟨_, Zbj.out⟩, Zbr.out, Zbv.out⟩
       refine ⟨Zb1, ?_⟩
       try simp only [Act.put, List.setIfInBounds_toArray, List.set_cons_succ, List.set_cons_zero]
       refine held_one 1 rfl (by kernel_rfl) ?_
       refine step_load rfl 24 _ rfl _ vk.1 rfl (NdL.of_blk Zbj.out).kids.now ?_
       have Zs := Zb3
       have Zu := Zbj
       have Z4 := Zb2
       have Zt := Zbr
       have Z5 := Zbv
       have Zi := Zb5
       have Z7 := Zb6
       have Z9 := Zb4
       have Zba : (∃ vq : SV, Blk Ze g3 26 (ndC (xk, vb, vq))) ∧ Blk Ze g1 26 (ndC (xk, xb, xs)) ∧ KdL Ze p y := ⟨⟨_, Zu.out⟩, Zt.out, Z5.out⟩
       refine ⟨Zba, ?_⟩
       try simp only [Act.put, List.setIfInBounds_toArray, List.set_cons_succ, List.set_cons_zero]
       refine held_one 17 rfl (by kernel_rfl) ?_
       refine Agg.step_appendG (E := EK) (base := w.heap.size) rfl _ _ rfl ys rfl rfl [(y.1, x2)] Zs.out.row Z9.out (by simp; omega) (by decide) Zi.out.size ?_
       intro vk0 Za hok hp hgr
       obtain ⟨vk2, rfl⟩ := own_sv hok
       have Zx := Lib.hid (show OwnS w.heap.size Za vb.1 bs vk2.1 (kk ++ [(y.1, x2)]) (l.take (q + 1)) (cs ++ b2) by
        rw [HT.out, show z = ((y.1, x2).1, z.2) from Prod.ext HYZ.out.symm rfl]
        exact Zs.out.push (y := (y.1, x2)) (OwnT.lowerB HLW.out z.2 x2 b2 Z7.out) HN2.out (fun i hi j hj => by have h1 := (HSb.out.range i hi).2; have h2 := HR2b.out j hj; omega) hok hp hgr)
       have Zc := Lib.hid (hp.blk g3 _ _ _ (by decide) Zu.out)
       have Zy := Lib.hid (hp.blk g2 _ _ _ (by decide) Z4.out)
       have Zj := Lib.hid (hp.blk g1 _ _ _ (by decide) Zt.out)
       have hpx : Below w.heap.size Ze Za := hp.below w.heap.size (Nat.le_refl _) Zi.out.size
       have Zd := Lib.hid (Zi.out.trans hpx)
       have Zk := Lib.hid (show ∀ j ∈ cs ++ b2, g3 < j from fun j hj => (List.mem_append.1 hj).elim (fun h => HCS.out j h) (fun h => by have := HR2b.out j h; have := HNb.out.lt; omega))
       have Zz := Lib.hid (show KdL Za p y from kid_lies HSL.out Zd.out HYK.out HAD.out)
       have Zv : (∃ vq : SV, Blk Za g3 26 (ndC (xk, vb, vq))) ∧ Blk Za g1 26 (ndC (xk, xb, xs)) ∧ KdL Za p y := ⟨⟨_, Zc.out⟩, Zj.out, Zz.out⟩
       clear hok hp hgr hpx
       refine ⟨Zv, ?_⟩
       try simp only [Act.put, List.setIfInBounds_toArray, List.set_cons_succ, List.set_cons_zero]
       refine held_take 18 (.pointer (some ⟨g3, 2, none⟩)) rfl (by kernel_rfl) (fun _ _ _ h => h) rfl (fun W _ => by kernel_rfl) (by assumption) ?_
       try simp only [Act.put, List.setIfInBounds_toArray, List.set_cons_succ, List.set_cons_zero]
       refine held_one 19 rfl (by kernel_rfl) ?_
       obtain ⟨Zb, hrun, hbf, hof⟩ := Agg.Blk.run_one (P := Tryz.prog) (ty := 24) Zc.out 2 (by show 2 < 3; omega) vk2.1 (sv_cells vk2) (sv_oneT vk2) (by kernel_rfl) (ndC (xk, vb, vk2)) rfl
       refine step_store rfl rfl 24 _ _ rfl (.pointer (some ⟨g3, 2, none⟩)) vk2.1 rfl rfl hrun ?_
       have Zr := Lib.hid (Zx.out.other hof Zc.out (by decide) (by decide) (fun h => by have := Zk.out g3 h; omega))
       have Zo := Lib.hid (Agg.Blk.keepO Zy.out hof (fun e => by have := HG23.out; omega))
       have Zh := Lib.hid (Agg.Blk.keepO Zj.out hof (fun e => by have := HG13.out; omega))
       have Zf := Lib.hid hbf
       have Zg := Lib.hid (Zd.out.trans (hof.below Zd.out.size (fun i hi => by subst hi; exact HG3.out)))
       have Zn := Lib.hid (show KdL Zb p y from kid_lies HSL.out Zg.out HYK.out HAD.out)
       have Zp := Zk
       clear hrun hbf hof
       have Zq : (∃ vq : SV, Blk Zb g3 26 (ndC (xk, vb, vq))) ∧ Blk Zb g1 26 (ndC (xk, xb, xs)) ∧ KdL Zb p y := ⟨⟨_, Zf.out⟩, Zh.out, Zn.out⟩
       refine ⟨Zq, ?_⟩
       try simp only [Act.put, List.setIfInBounds_toArray, List.set_cons_succ, List.set_cons_zero]
       refine held_end (by kernel_rfl) ?_
       simp only [ExPut, Act.put, List.setIfInBounds_toArray, List.set_cons_succ, List.set_cons_zero]
       exact ⟨vk2, x2, b2, Zr.out, Zp.out, Zf.out, Zo.out, Zh.out, Zg.out, _, _, _, _, _, _, _, _, _, _, _, _, _, _, _, _, _, _, _, rfl⟩
      exact AllReadyH.nil
     exact AllReadyH.nil
    rintro a' w4 ⟨vk2, x2, b2, h1, h2, h3, h4, h6, h5, hex⟩
    have HSf := Lib.hid h1
    have HLe := Lib.hid h2
    have HNf := Lib.hid h3
    have HRf := Lib.hid h4
    have HXf := Lib.hid h5
    have HBf := Lib.hid h6
    clear h1 h2 h3 h4 h5 h6
    simp only [ExPut, Act.put, List.setIfInBounds_toArray, List.set_cons_succ, List.set_cons_zero] at hex
    obtain ⟨y19, y20, y21, y22, y23, y24, y25, y26, y27, y28, y29, y30, y31, y32, y33, y34, y35, y36, y37, rfl⟩ := hex
    go_wp2_with fail
    go_roundw
    case rel => exact ⟨q + 1, vk2, _, _, by omega, by go_num, HSf.out, HLe.out, HNf.out, HRf.out, HBf.out, HXf.out⟩
    case measure => simp [intOf]; omega
   ·obtain rfl : q = l.length := by omega
    have hlq : decide (((l.length : Nat) : Int) < ((l.length : Nat) : Int)) = false := by simp
    go_wp2_with (first | (with_reducible refine wpList_loadL (NdL.of_blk HB.out).kids rfl _ rfl rfl ?_) | (with_reducible refine wpList_loadL (NdL.of_blk HN.out).all rfl _ rfl rfl ?_) | (refine Agg.wpList_put rfl rfl 26 _ _ rfl g2 (ndC (xk, vb, vk)) (ndC ndZ) rfl rfl HR.out (nd_info _) rfl (ndC_one _) ?_; intro we hb hx hs hk; have ho := Only.of_eq (S := (· = g2)) hx hs hk rfl; have HRe := Lib.hid hb; have HOe := Lib.hid ho; clear hb hx hs hk ho))
    refine Agg.post_row rfl rfl HRe.out nd_under rfl (nd_info _) rfl ⟨_, rfl, ?_, HX.out.trans (HOe.out.below HX.out.size (fun i hi => by subst hi; exact HG2.out))⟩
    have h := HSS.out.other HOe.out HR.out (by decide) (by decide) (fun h => by have := HCS.out g2 h; have := HG23.out; omega)
    rw [List.take_length] at h
    exact h.node
end Go.Proofs.YtfiadgdinhmgbaaGreatDoor
/-! (of general use) spenceref03: bit, Letters, value, within. -/
namespace Go.Proofs.YtfiadgdinhmgbaaGreatDoor
open Go.RowKit Pl
theorem within_any (c lo hi : Int) (w : World) :
  Calls Tryz.prog 131 #[.int .u8 c, .int .u8 lo, .int .u8 hi] w fun e w' => e = .returned (.bool (wi c lo hi)) ∧ w = w' := by
 by_cases h : lo ≤ c
 ·go_enter Tryz.func131, Tryz.ntmps131
  go_wp2_with fail
  go_ret
  exact ⟨by simp [wi, h], rfl⟩
 ·have hd : decide (lo ≤ c) = false := by simp; omega
  go_enter Tryz.func131, Tryz.ntmps131
  go_wp2_with fail
  go_ret
  exact ⟨by simp [wi, hd], rfl⟩
def bitAt (h : List UInt8) (i : Nat) : Nat := num 256 (nats h) / 2 ^ i % 2
theorem bitAt_eq (h : List UInt8) (i : Nat) (hi : i / 8 < h.length) : bitAt h i = (h[i / 8]?.getD 0).toNat / 2 ^ (i % 8) % 2 := by
 have hd := digs_num 256 (nats h) (nats_lt h)
 have hq := digs_getElem? 256 (nats h).length (num 256 (nats h)) (i / 8) (by simpa [nats] using hi)
 rw [hd] at hq
 have hn : (nats h)[i / 8]? = some (h[i / 8]?.getD 0).toNat := by simp [nats, List.getElem?_eq_getElem hi]
 rw [hn] at hq
 have hx := Option.some.inj hq
 unfold bitAt
 have e : num 256 (nats h) / 2 ^ i = num 256 (nats h) / 256 ^ (i / 8) / 2 ^ (i % 8) := by
  rw [pow256, Nat.div_div_eq_div_mul, ← Nat.pow_add, Nat.div_add_mod]
 rw [e, hx]
 generalize num 256 (nats h) / 256 ^ (i / 8) = y
 have hr : i % 8 < 8 := Nat.mod_lt _ (by omega)
 generalize i % 8 = r at hr
 have : r = 0 ∨ r = 1 ∨ r = 2 ∨ r = 3 ∨ r = 4 ∨ r = 5 ∨ r = 6 ∨ r = 7 := by omega
 rcases this with rfl | rfl | rfl | rfl | rfl | rfl | rfl | rfl <;> omega
def valI (c : UInt8) : Int := match val c with | some n => (n : Int) | none => -1
def part (h : List UInt8) (i t : Nat) : Nat := num 256 (nats h) / 2 ^ (5 * i + t) % 2 ^ (5 - t)
theorem part_lt (h : List UInt8) (i t : Nat) : part h i t < 32 :=
 Nat.lt_of_lt_of_le (Nat.mod_lt _ (Nat.pow_pos (by omega))) (Nat.pow_le_pow_right (n := 2) (by omega) (by omega : 5 - t ≤ 5))
theorem part_5 (h : List UInt8) (i : Nat) : part h i 5 = 0 := by simp [part, Nat.mod_one]
theorem part_0 (h : List UInt8) (i : Nat) : part h i 0 = num 256 (nats h) / 32 ^ i % 32 := by simp [part, pow32]
theorem part_step (h : List UInt8) (i t : Nat) (ht : t < 5) : part h i t = 2 * part h i (t + 1) + bitAt h (5 * i + t) := by
 unfold part bitAt
 rw [show 5 - t = (5 - (t + 1)) + 1 by omega, Nat.pow_succ', Nat.mod_mul, Nat.div_div_eq_div_mul, ← Nat.pow_succ, show (5 * i + t).succ = 5 * i + (t + 1) by omega]
 omega
theorem bitAt_lt (h : List UInt8) (i : Nat) : bitAt h i < 2 := Nat.mod_lt _ (by omega)
theorem refLetters_step (h : List UInt8) (k : Nat) (hk : k < 32) : ({ data := (List.take k (letters h)).toArray } : ByteArray) ++
  ByteArray.extract ⟨#[48, 49, 50, 51, 52, 53, 54, 55, 56, 57, 97, 98, 99, 100, 102, 103, 104, 105, 106, 107, 108, 109, 110, 112, 113, 114, 115, 118, 119, 120, 121, 122]⟩ (part h k 0) (part h k 0 + 1) = { data := (List.take (k + 1) (letters h)).toArray } := by
 show ({ data := (List.take k (letters h)).toArray } : ByteArray) ++ ByteArray.extract ⟨alpha.toArray⟩ (part h k 0) (part h k 0 + 1) = { data := (List.take (k + 1) (letters h)).toArray }
 have hp := part_lt h k 0
 have hl : k < (letters h).length := by rw [letters_length]; exact hk
 rw [Agg.bytes_extract, Agg.bytes_append, List.take_succ_eq_append_getElem hl]
 congr 3
 have ha : part h k 0 < alpha.length := hp
 rw [List.take_succ_eq_append_getElem ha, List.drop_append_of_le_length (by simp; omega), List.drop_eq_nil_of_le (by simp; omega), List.nil_append]
 congr 1
 have : (letters h)[k]? = some (letter (part h k 0)) := by
  unfold letters
  rw [List.getElem?_map, digs_getElem? _ _ _ _ hk, part_0]; rfl
 rw [List.getElem?_eq_getElem hl] at this
 rw [Option.some.inj this]
 simp [letter, List.getD, List.getElem?_eq_getElem ha]
end Go.Proofs.YtfiadgdinhmgbaaGreatDoor
/-! spenceref03.Name. -/
namespace Go.Proofs.YtfiadgdinhmgbaaGreatDoor
open Go.RowKit Pl
theorem sgn_wi (c : UInt8) : sgn c = (wi c.toNat 97 122 || wi c.toNat 65 90 || wi c.toNat 48 57 || ((c.toNat : Int) == 46) || ((c.toNat : Int) == 95) || ((c.toNat : Int) == 43) || ((c.toNat : Int) == 45)) := by
 have : ∀ n : Nat, n < 256 → sgn (UInt8.ofNat n) = (wi n 97 122 || wi n 65 90 || wi n 48 57 || ((n : Int) == 46) || ((n : Int) == 95) || ((n : Int) == 43) || ((n : Int) == 45)) := by decide +kernel
 have h := this c.toNat c.toNat_lt
 rwa [UInt8.ofNat_toNat] at h
theorem n45 {x : Int} (h : (x != 45) = false) : x = 45 := by simpa using h
set_option maxRecDepth 100000 in
set_option maxHeartbeats 2000000 in
theorem refName_any (s : List UInt8) (hs : s.length ≤ 9223372036854775807) (w : World) :
  Calls Tryz.prog 102 #[.string ⟨s.toArray⟩] w fun e w' => e = .returned (.bool (isName s)) ∧ w = w' := by
 have hsz := Agg.bytes_size s
 have HS := Lib.hid hsz
 have hlen : ∀ w, (Builtin.len_ #[9] 3 #[.string ⟨s.toArray⟩]).run Tryz.prog w = .ok (.int .i64 (s.length : Int)) w := fun w => by rw [run_len_string w 9 3 _ Tryz.underlying9, hsz]; rfl
 clear hsz
 go_enter Tryz.func102, Tryz.ntmps102
 go_wp2_with fail
 go_loop [3] (fun i => ∃ k : Nat, k ≤ s.length ∧ i = .int .i64 k ∧ ∀ j (hj : j < s.length), j < k → sgn s[j] = true) (fun i => s.length - (intOf i).toNat)
 case atStart => exact ⟨0, by omega, rfl, by intros; omega⟩
 case round =>
  obtain ⟨k, hk, rfl, hg⟩ := hrel
  have HG := Lib.hid hg
  clear hg
  by_cases hlt : k < s.length
  ·have hix := fun w => Agg.run_index_str (P := Tryz.prog) (k := .i64) (c := s[k]) w Tryz.underlying9 (List.getElem?_eq_getElem hlt)
   have hsg := sgn_wi s[k]
   have HS := Lib.hid hsg
   clear hsg
   generalize hc : s[k] = c at hix HS
   have HC := Lib.hid hc
   clear hc
   go_wp2_with (go_at_call 131; refine (within_any _ _ _ _).mono ?_; rintro e w' ⟨rfl, rfl⟩)
   ·have h45 : ((c.toNat : Int) != 45) = true := by assumption
    have hsg : sgn s[k] = false := by rw [HC.out, HS.out]; simp [*]; simpa using h45
    go_ret
    exact ⟨ret_bool (isName_bad s k hlt hsg).symm, rfl⟩
   all_goals
    have hsg : sgn s[k] = true := by rw [HC.out, HS.out]; first | (simp [*]; done) | (have h45 := n45 ‹((c.toNat : Int) != 45) = false›; simp [h45]; done)
    go_round
    case rel => exact ⟨k + 1, by omega, by go_num, fun j hj h => by
     rcases Nat.lt_or_ge j k with h' | h'
     ·exact HG.out j hj h'
     ·obtain rfl : j = k := by omega
      exact hsg⟩
    case measure => simp [intOf]; omega
  ·obtain rfl : k = s.length := by omega
   have hgood := isName_good s (fun j hj => HG.out j hj hj)
   have HI := Lib.hid hgood
   clear hgood
   cases s with
   | nil =>
    simp only [List.length_nil] at hlen
    go_wp2_with fail
    go_ret
    exact ⟨ret_bool (by rw [HI.out]; rfl), rfl⟩
   | cons c l =>
    have hix : ∀ w, (Instr.index 9 (.string ⟨(c :: l).toArray⟩) (.int .i64 0)).run Tryz.prog w = .ok (.int .u8 (c.toNat : Int)) w := fun w => Agg.run_index_str (i := 0) w Tryz.underlying9 rfl
    simp only [List.length_cons] at hlen
    go_wp2_with fail
    all_goals go_ret
    all_goals refine ⟨ret_bool ?_, rfl⟩
    all_goals rw [HI.out]
    ·have h24 : (l.length : Int) + 1 ≤ 24 := by assumption
     have e : (((c.toNat : Int)) != 46) = (c != 46) := by
      rw [Bool.eq_iff_iff]; simp only [bne_iff_ne, ne_eq]; rw [← UInt8.toNat_inj]; simp; omega
     simp [e, show l.length + 1 ≤ 24 by omega]
    ·have h24 : 24 < (l.length : Int) + 1 := by assumption
     simp [show ¬ l.length + 1 ≤ 24 by omega]
end Go.Proofs.YtfiadgdinhmgbaaGreatDoor
