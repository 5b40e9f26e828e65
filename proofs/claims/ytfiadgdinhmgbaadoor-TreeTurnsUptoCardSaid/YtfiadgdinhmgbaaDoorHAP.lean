/- A cursor, where other blocks are written. (Several texts in one.) -/
import Derived.Test.YtfiadgdinhmgbaaDoorHAI
import Derived.Test.YtfiadgdinhmgbaaDoorHAE
import Derived.Test.YtfiadgdinhmgbaaDoorHAF
import Derived.Test.YtfiadgdinhmgbaaDoorHAD
import Derived.Test.YtfiadgdinhmgbaaDoorHAJ
import Derived.Test.YtfiadgdinhmgbaaDoorHAG
import Derived.Test.YtfiadgdinhmgbaaDoorHAH
/-! What is read off an archive: nothing grows. No program in sight. -/
namespace Go.Tr
open Go.Proofs.YtfiadgdinhmgbaaDoor Go.Agg
theorem opnL_le {g : Nat → S → Option (T × Nat × S)} (hg : ∀ left s r, g left s = some r → r.2.1 ≤ left ∧ stLen r.2.2 ≤ stLen s) : ∀ (c : Nat) (last : List UInt8) (left : Nat) (s : S) (r : List K × Nat × S), opnL g c last left s = some r → r.2.1 ≤ left ∧ stLen r.2.2 ≤ stLen s
 | 0, last, left, s, r, h => by
  simp only [opnL, Option.some.injEq] at h
  subst h
  exact ⟨Nat.le_refl _, Nat.le_refl _⟩
 | c + 1, last, left, s, r, h => by
  simp only [opnL] at h
  split at h
  ·split at h
   ·cases h
   ·next t left2 s2 hgt =>
    split at h
    ·cases h
    ·next l2 left3 s3 hl2 =>
     have h1 := hg _ _ _ hgt
     have h2 := opnL_le hg c _ _ _ _ hl2
     have h3 := sText_len 24 s
     rw [← Option.some.inj h]
     exact ⟨Nat.le_trans h2.1 h1.1, Nat.le_trans h2.2 (Nat.le_trans h1.2 h3)⟩
  ·cases h
theorem opn_le : ∀ (f d left : Nat) (s : S) (r : T × Nat × S), opn f d left s = some r → r.2.1 ≤ left ∧ stLen r.2.2 ≤ stLen s
 | 0, d, left, s, r, h => by simp [opn] at h
 | f + 1, d, left, s, r, h => by
  simp only [opn] at h
  split at h
  ·cases h
  ·have h1 := sNum_len 4 s
   split at h
   ·split at h
    ·cases h
    ·next l left2 s2 hl =>
     have h2 := opnL_le (fun left s r h => opn_le f (d + 1) left s r h) _ _ _ _ _ hl
     have h3 := sNum_len 200 (sNum 4 s).2
     rw [← Option.some.inj h]
     exact ⟨by have := h2.1; show left2 ≤ left; simp only at this; omega, Nat.le_trans h2.2 (Nat.le_trans h3 h1)⟩
   ·have h3 := sText_len 2048 (sNum 4 s).2
    rw [← Option.some.inj h]
    exact ⟨Nat.sub_le _ _, Nat.le_trans h3 h1⟩
def andL (m : List K) : Option (List K × Nat × S) → Option (List K × Nat × S)
 | none => none
 | some (l, left, s) => some (m ++ l, left, s)
theorem andL_nil (r : Option (List K × Nat × S)) : andL [] r = r := by
 cases r with
 | none => rfl
 | some r => rfl
theorem opnL_bad {g : Nat → S → Option (T × Nat × S)} {c : Nat} {last n : List UInt8} {left : Nat} {s s1 : S} (h : sText 24 s = (n, s1)) (hb : Op.bytesLess last n = false) : opnL g (c + 1) last left s = none := by
 simp [opnL, h, hb]
theorem opnL_none' {g : Nat → S → Option (T × Nat × S)} {c : Nat} {last n : List UInt8} {left : Nat} {s s1 : S} (h : sText 24 s = (n, s1)) (hg : g left s1 = none) : opnL g (c + 1) last left s = none := by
 simp only [opnL, h, hg]
 split <;> rfl
theorem opnL_kid {g : Nat → S → Option (T × Nat × S)} {c : Nat} {last n : List UInt8} {left left1 : Nat} {s s1 s2 : S} {t : T} (h : sText 24 s = (n, s1)) (hb : Op.bytesLess last n = true) (hg : g left s1 = some (t, left1, s2)) (m : List K) :
  andL m (opnL g (c + 1) last left s) = andL (m ++ [(n, t)]) (opnL g c n left1 s2) := by
 simp only [opnL, h, hb, if_true, hg]
 cases opnL g c n left1 s2 with
 | none => rfl
 | some r => obtain ⟨l, l2, s3⟩ := r; simp [andL]
end Go.Tr
/-! A cut behind a region: what it leaves, said once for all orders. -/
namespace Go.Agg
open Go.RowKit
variable {P : Program}
def ExPut : List Nat → Act → Act → Prop
 | [], a, a' => a' = a
 | k :: ks, a, a' => ∃ x, ExPut ks (a.put (some k) x) a'
theorem wp_cutR {c : Code} {Q : Exit → Act → World → Prop} {a : Act} {w : World} (R : Act → Act → World → Prop) (h1 : c.wp P (fun e a' w' => match e with | .normal => R a a' w' | _ => False) a w)
  (h2 : ∀ a' w', R a a' w' → Q .normal a' w') : c.wp P Q a w :=
 Code.wp_mono (fun e a' w' h => by
  cases e
  case normal => exact h2 a' w' h
  all_goals exact False.elim h) h1
section
variable {l : List Oper} {md : Region.Mode} {Q : Exit → Act → World → Prop} {S : World → Prop} {fuel : Nat} {listed : Array Bool} {a : Act} {w : World}
theorem held_skip {o : Oper} (i : Nat) (ho : l[i]? = some o) (hB : takeB md l listed i = true) (hQ : ∀ c a w, Q (.panic c) (a.put o.dst undef) w → Q (.panic c) a w) (hw : Region.wanted o (yielded l.toArray a.tmps) = false)
  (hS : S w) (h : wpAnyH P md l.toArray Q S fuel (listed.setIfInBounds i true) (a.put o.dst undef) w) : wpAnyH P md l.toArray Q S (fuel + 1) listed a w := by
 simp only [takeB, Bool.and_eq_true] at hB
 exact wpAnyH_take (by simpa using ho) hB.1.1 hB.1.2 hB.2 hQ (.inr ⟨hw, rfl⟩) hS h
end
end Go.Agg
/-! Regions that draw their order, in which a maker takes texts. -/
namespace Go.Agg
open Go.RowKit
theorem exec_loadC {P : Program} {o : Oper} {a : Act} {w : World} {ty : TypeId} {x : Operand} {p v : Value} (ho : o.op = .load ty x) (hx : a.eval x = p) (hrun : (Instr.loadAt ty p).run P w = .ok v w) : (execOp a.eval o).run P w = .ok (.value v) w := by simp [execOp, ho, hx, hrun]
theorem exec_lenC {P : Program} {o : Oper} {a : Act} {w : World} {st : TypeId} {x : Operand} {v r : Value} (ho : o.op = .call { callee := .builtin .len, args := #[x], argTypes := #[st] }) (hx : a.eval x = v) (hrun : (Builtin.len_ #[st] o.type #[v]).run P w = .ok r w) : (execOp a.eval o).run P w = .ok (.value r) w := by
 simp [execOp, ho, resolve, invoke, builtin, hx, hrun]
theorem exec_build0C {P : Program} {o : Oper} {a : Act} {w : World} {ty : TypeId} {v : Value} (ho : o.op = .build ty #[]) (hrun : (Instr.build ty #[]).run P w = .ok v w) : (execOp a.eval o).run P w = .ok (.value v) w := by simp [execOp, ho, hrun]
theorem Blk.onlyC {w w' : World} {S : Nat → Prop} {g : Nat} {t : TypeId} {cs : Array Value} (h : Blk w g t cs) (ho : Only S w w') (hS : ¬ S g) : Blk w' g t cs := (ho.block g h.lt hS).trans h
end Go.Agg
namespace Go.Proofs.YtfiadgdinhmgbaaDoor
open Go.RowKit Pl Go.Agg
theorem mk_keeps {g b2 : Nat} {w w' : World} {v v' : Value} {cs : Array Value} {l : List UInt8} {t : TypeId} (hm : MkV g w v l) (hb : Blk w b2 t cs) (ht : t ≠ 5) (hs : MkStep g w w' v v') (hne : b2 ≠ g) : Blk w' b2 t cs :=
 hb.onlyC hs.only fun h => h.elim hne fun e => by
  obtain ⟨_, cur, hc⟩ := hm.own.block _ e
  unfold Blk at hb
  rw [hb] at hc
  injection hc with hc
  injection hc with _ h2
  exact ht h2
theorem newBytes_ownB {w w' : World} {v : Value} {s : List UInt8} (h : NewBytes w w' v s) : ∀ k, v.ownBlock = some k → w.heap.size ≤ k := by
 obtain ⟨cap, fr, rfl, _, _, _⟩ := h
 intro k hk
 obtain rfl : w.heap.size = k := by simpa [Value.ownBlock] using hk
 exact Nat.le_refl _
theorem bytes_svB {w : World} {v : Value} {l : List UInt8} (h : BytesAt w v l) : ∃ s : SV, v = s.1 := by
 obtain ⟨p, c, hf⟩ := h.form
 exact ⟨⟨v, p, _, c, hf⟩, rfl⟩
theorem step_toBytes {ops : Array Oper} {o : Oper} {a : Act} {w : World} {Q : Exit → Act → World → Prop} {K : Act → World → Prop} {F : Prop} (hg : o.guard = none) (x : Operand) (ho : o.op = .convert 9 23 x) (s : List UInt8) (hx : a.eval x = .string ⟨s.toArray⟩)
  (h : ∀ v' w', NewBytes w w' v' s → Below w.heap.size w w' → K (a.put o.dst v') w') : if Region.wanted o (yielded ops a.tmps) = true then o.wp Tryd.prog a w K Q else F := by
 obtain ⟨v', w', hr, h1, h2⟩ := run_toBytes w s
 exact step_val hg (v := v') (w' := w') (by simp [execOp, ho, hx, hr]) (h v' w' h1 h2)
theorem maker_build (w : World) : (Instr.build 113 #[]).run Tryd.prog w = .ok (.agg (mkC (.slice none 0 0))) w := by kernel_rfl
theorem hash_slice {w : World} {b i : Nat} {t : TypeId} {cs : Array Value} {h : List UInt8} (hb : Blk w b t cs) (hl : h.length = 20) (hc : ∀ j v, (hC h)[j]? = some v → cs[i + j]? = some v) : SliceOf EB w (.slice (some ⟨b, i, none⟩) 20 20) h := by
 refine .inr ⟨_, 20, by rw [hl], hb.lt, fun j v hj => ?_⟩
 rw [add_plain, hb.cell]
 refine hc j v ?_
 rw [flat_bytes] at hj
 simpa [hC] using hj
end Go.Proofs.YtfiadgdinhmgbaaDoor
/-! tree.own: a right tree in memory of its own. -/
namespace Go.Proofs.YtfiadgdinhmgbaaDoor
open Go.RowKit Pl Go.Agg Go.Tr
set_option maxRecDepth 100000 in
set_option maxHeartbeats 16000000 in
theorem own_any : ∀ (N : Nat) (t : T) (_ : count t ≤ N) (_ : ok t = true) (vn : Value) (w : World) (_ : NodeAt w vn t),
  Calls Tryd.prog 35 #[vn] w fun e w' => ∃ x', e = .returned (.agg (ndC x')) ∧ OwnN w.heap.size w' x' t ∧ Below w.heap.size w w' := by
 intro N
 induction N with
 | zero => intro t h; have := count_pos t; omega
 | succ N ih =>
 intro t hc hok vn w hv
 obtain ⟨x, rfl, hx⟩ := hv
 obtain ⟨k, bs, l⟩ := t
 obtain ⟨hk, hby, ks, hsl, hkv⟩ := hx
 obtain ⟨xk, xb, xs⟩ := x
 obtain rfl : xk = k := hk
 have hkl := hkv.len
 have hlk := fun W => kds_len hsl W
 rw [hkl] at hlk
 have ha : alone (.mk xk bs l) = true := by simp only [ok, Bool.and_eq_true] at hok; exact hok.1
 have hkok := kids_ok hok
 rw [show (T.mk xk bs l).kids = l from rfl] at hkok
 have hll : l.length ≤ 200 ∧ bs.length ≤ 2048 := by
  rcases alone_cases ha with ⟨_, rfl, h200, _⟩ | ⟨_, _, _, h, rfl⟩
  ·exact ⟨h200, by simp⟩
  ·exact ⟨by simp, h⟩
 have hll1 := hll.1
 have HKV := Lib.hid hkv
 have HSL := Lib.hid hsl
 have HBY := Lib.hid hby
 have HIH := Lib.hid ih
 have HC := Lib.hid hc
 have HKO := Lib.hid hkok
 have HEC := Lib.hid (enters_of Tryd.func66 (by kernel_rfl) rfl : ∀ args w, (callFunc 66 args).run Tryd.prog w = .ok (.enter 66 args) w)
 have HEO := Lib.hid (enters_of Tryd.func35 (by kernel_rfl) rfl : ∀ args w, (callFunc 35 args).run Tryd.prog w = .ok (.enter 35 args) w)
 clear hkv hby hsl ih hc hkok hok ha
 go_enter Tryd.func35, Tryd.ntmps35
 go_wp2_with (first | (refine wpList_box rfl 26 _ rfl (ndC (xk, xb, xs)) rfl ?_; intro g1 w1 hb hx hg; have HB1 := Lib.hid hb; have HX1 := Lib.hid hx; clear hb hx hg) | (refine Agg.wpList_zero rfl 26 rfl (ndC ndZ) nd_zero ?_; intro g2 w2 hb hx hg; have HR2 := Lib.hid hb; have HB2 := Lib.hid (HB1.out.below hx); have HX2 := Lib.hid (belowThen HX1.out (Nat.le_refl _) hx); have HG2 := Lib.hid (Nat.le_trans HX1.out.size hg); clear hb hx hg))
 refine Agg.wp_cutR (fun a a' w' => ∃ (g3 : Nat) (vb : SV), Blk w' g3 26 (ndC (xk, vb, svN)) ∧ Agg.Own EB w.heap.size w' vb.1 bs ∧ Below w2.heap.size w2 w' ∧ w2.heap.size ≤ g3 ∧ ExPut [6, 7, 8, 9, 10, 11] (a.put (some 3) (.pointer (some ⟨g3, 0, none⟩))) a') ?_ ?_
 ·try simp only [Act.put, List.setIfInBounds_toArray, List.set_cons_succ, List.set_cons_zero]
  obtain ⟨w3, hw3⟩ : ∃ W, W = w2.drew := ⟨_, rfl⟩
  have hd3 : Below w2.heap.size w2 w3 := by rw [hw3]; exact (Below.refl _ _).drew
  have HS_ := Lib.hid (HB2.out.below hd3)
  have HXX_ := Lib.hid hd3
  refine wp_region_held_drew (S := fun W => Blk W g1 26 (ndC (xk, xb, xs))) (by kernel_rfl) (by rw [← hw3]; exact HS_.out) (fun hHeld => ?_)
  rw [← hw3] at hHeld ⊢
  clear hw3 hd3
  refine held_take 0 (.pointer (some ⟨g1, 0, none⟩)) rfl (by kernel_rfl) (fun _ _ _ h => h) rfl (fun W _ => by kernel_rfl) (by assumption) ?_
  try simp only [Act.put, List.setIfInBounds_toArray, List.set_cons_succ, List.set_cons_zero]
  refine held_take 1 (.int .i64 xk) rfl (by kernel_rfl) (fun _ _ _ h => h) rfl (fun W hS => exec_loadB rfl rfl (NdL.of_blk hS).kind.now) (by assumption) ?_
  try simp only [Act.put, List.setIfInBounds_toArray, List.set_cons_succ, List.set_cons_zero]
  refine held_take 2 (.pointer (some ⟨g1, 1, none⟩)) rfl (by kernel_rfl) (fun _ _ _ h => h) rfl (fun W _ => by kernel_rfl) (by assumption) ?_
  try simp only [Act.put, List.setIfInBounds_toArray, List.set_cons_succ, List.set_cons_zero]
  refine held_take 3 (xb.1) rfl (by kernel_rfl) (fun _ _ _ h => h) rfl (fun W hS => exec_loadB rfl rfl (NdL.of_blk hS).bytes.now) (by assumption) ?_
  try simp only [Act.put, List.setIfInBounds_toArray, List.set_cons_succ, List.set_cons_zero]
  refine held_ready [4, 6] (by kernel_rfl) (by simp) ?_
  refine held_cons rfl ?_ ?_
  ·refine step_call rfl 66 _ _ rfl #[xb.1] (by simp only [List.map_toArray, List.map_cons, List.map_nil]; rfl) (fun W => HEC.out _ W) ?_
   refine (bclone_any xb.1 bs _ (by omega) (SliceOf.below HBY.out (HX2.out.trans (HXX_.out.mono HX2.out.size)))).mono ?_
   rintro e w3_4 ⟨vb0, rfl, hob, hx⟩
   obtain ⟨vb, rfl⟩ := own_sv hob
   have HO_4 := Lib.hid (hob.lower (Nat.le_trans HX2.out.size HXX_.out.size))
   have HS_4 := Lib.hid (HS_.out.below hx)
   have HXX_4 := Lib.hid (belowThen HXX_.out (Nat.le_refl _) hx)
   clear hob hx
   refine ⟨_, rfl, ?_⟩
   refine ⟨HS_4.out, ?_⟩
   try simp only [Act.put, List.setIfInBounds_toArray, List.set_cons_succ, List.set_cons_zero]
   refine held_take 5 (.agg (ndC (xk, vb, svN))) rfl (by kernel_rfl) (fun _ _ _ h => h) rfl (fun W _ => exec_b2 rfl rfl rfl (nd_build2 xk vb W)) (by assumption) ?_
   try simp only [Act.put, List.setIfInBounds_toArray, List.set_cons_succ, List.set_cons_zero]
   refine held_one 6 rfl (by kernel_rfl) ?_
   refine step_zero rfl 26 rfl (ndC ndZ) nd_zero ?_
   intro g3 Zbq hb hx hg
   have Zz := Lib.hid hb
   have HG3 := Lib.hid (show w2.heap.size ≤ g3 from Nat.le_trans HXX_4.out.size hg)
   have Z1 := Lib.hid (HS_4.out.below hx)
   have Z9 := Lib.hid (belowThen HXX_4.out (Nat.le_refl _) hx)
   have Zbd := Lib.hid (HO_4.out.below hx)
   clear hb hx hg
   refine ⟨Z1.out, ?_⟩
   try simp only [Act.put, List.setIfInBounds_toArray, List.set_cons_succ, List.set_cons_zero]
   refine held_one 7 rfl (by kernel_rfl) ?_
   refine step_put rfl rfl 26 _ _ rfl g3 (ndC (xk, vb, svN)) (ndC ndZ) rfl rfl Zz.out (nd_info _) rfl (ndC_one _) ?_
   intro Zbi hb hx hs hk
   have ho := Only.of_eq (S := (· = g3)) hx hs hk rfl
   have Z3 := Lib.hid hb
   have Z4 := Lib.hid (Own.onlyB Zbd.out ho Zz.out (by decide))
   have Z2 := Lib.hid (Z1.out.keepO ho (fun e => by have := HB2.out.lt; have := HG3.out; omega))
   have Z0 := Lib.hid (Z9.out.trans (hx.mono HG3.out))
   clear hb hx hs hk ho
   refine ⟨Z2.out, ?_⟩
   try simp only [Act.put, List.setIfInBounds_toArray, List.set_cons_succ, List.set_cons_zero]
   refine held_end (by kernel_rfl) ?_
   simp only [ExPut, Act.put, List.setIfInBounds_toArray, List.set_cons_succ, List.set_cons_zero]
   exact ⟨g3, vb, Z3.out, Z4.out, Z0.out, HG3.out, _, _, _, _, _, _, rfl⟩
  refine held_cons rfl ?_ ?_
  ·refine step_zero rfl 26 rfl (ndC ndZ) nd_zero ?_
   intro g3 w3_6 hb hx hg
   have HN_6 := Lib.hid hb
   have HG3 := Lib.hid (show w2.heap.size ≤ g3 from Nat.le_trans HXX_.out.size hg)
   have HS_6 := Lib.hid (HS_.out.below hx)
   have HXX_6 := Lib.hid (belowThen HXX_.out (Nat.le_refl _) hx)
   clear hb hx hg
   refine ⟨HS_6.out, ?_⟩
   try simp only [Act.put, List.setIfInBounds_toArray, List.set_cons_succ, List.set_cons_zero]
   refine held_one 4 rfl (by kernel_rfl) ?_
   refine step_call rfl 66 _ _ rfl #[xb.1] (by simp only [List.map_toArray, List.map_cons, List.map_nil]; rfl) (fun W => HEC.out _ W) ?_
   refine (bclone_any xb.1 bs _ (by omega) (SliceOf.below HBY.out (HX2.out.trans (HXX_6.out.mono HX2.out.size)))).mono ?_
   rintro e Zbq ⟨vb0, rfl, hob, hx⟩
   obtain ⟨vb, rfl⟩ := own_sv hob
   have Zbd := Lib.hid (hob.lower (Nat.le_trans HX2.out.size HXX_6.out.size))
   have Z1 := Lib.hid (HS_6.out.below hx)
   have Z9 := Lib.hid (belowThen HXX_6.out (Nat.le_refl _) hx)
   have Zz := Lib.hid (HN_6.out.below hx)
   clear hob hx
   refine ⟨_, rfl, ?_⟩
   refine ⟨Z1.out, ?_⟩
   try simp only [Act.put, List.setIfInBounds_toArray, List.set_cons_succ, List.set_cons_zero]
   refine held_take 5 (.agg (ndC (xk, vb, svN))) rfl (by kernel_rfl) (fun _ _ _ h => h) rfl (fun W _ => exec_b2 rfl rfl rfl (nd_build2 xk vb W)) (by assumption) ?_
   try simp only [Act.put, List.setIfInBounds_toArray, List.set_cons_succ, List.set_cons_zero]
   refine held_one 7 rfl (by kernel_rfl) ?_
   refine step_put rfl rfl 26 _ _ rfl g3 (ndC (xk, vb, svN)) (ndC ndZ) rfl rfl Zz.out (nd_info _) rfl (ndC_one _) ?_
   intro Zbi hb hx hs hk
   have ho := Only.of_eq (S := (· = g3)) hx hs hk rfl
   have Z3 := Lib.hid hb
   have Z4 := Lib.hid (Own.onlyB Zbd.out ho Zz.out (by decide))
   have Z2 := Lib.hid (Z1.out.keepO ho (fun e => by have := HB2.out.lt; have := HG3.out; omega))
   have Z0 := Lib.hid (Z9.out.trans (hx.mono HG3.out))
   clear hb hx hs hk ho
   refine ⟨Z2.out, ?_⟩
   try simp only [Act.put, List.setIfInBounds_toArray, List.set_cons_succ, List.set_cons_zero]
   refine held_end (by kernel_rfl) ?_
   simp only [ExPut, Act.put, List.setIfInBounds_toArray, List.set_cons_succ, List.set_cons_zero]
   exact ⟨g3, vb, Z3.out, Z4.out, Z0.out, HG3.out, _, _, _, _, _, _, rfl⟩
  exact AllReadyH.nil
 ·rintro a' w3 ⟨g3, vb, hn, hob, hx, hg, hex⟩
  have HN3 := Lib.hid hn
  have HO3 := Lib.hid hob
  have HX3 := Lib.hid (belowThen HX2.out (Nat.le_refl _) hx)
  have HB3 := Lib.hid (HB2.out.below hx)
  have HR3 := Lib.hid (HR2.out.below hx)
  have HG3 := Lib.hid (show w.heap.size ≤ g3 from Nat.le_trans HX2.out.size hg)
  have HG23 := Lib.hid (show g2 < g3 from Nat.lt_of_lt_of_le HR2.out.lt hg)
  clear hn hob hx hg
  simp only [ExPut, Act.put, List.setIfInBounds_toArray, List.set_cons_succ, List.set_cons_zero] at hex
  obtain ⟨y6, y7, y8, y9, y10, y11, rfl⟩ := hex
  go_wp2_with (first | (with_reducible refine wpList_loadL (NdL.of_blk HB3.out).kids rfl _ rfl rfl ?_))
  go_loopw [15] (fun i wr => ∃ (q : Nat) (vk : SV) (kk : List KdV) (cs : List Nat), q ≤ l.length ∧ i = .int .i64 (q : Int) ∧ OwnS w.heap.size wr vb.1 bs vk.1 kk (l.take q) cs ∧ (∀ j ∈ cs, g3 < j) ∧ Blk wr g3 26 (ndC (xk, vb, vk)) ∧ Blk wr g2 26 (ndC ndZ) ∧ Below w.heap.size w wr) (fun i _ => l.length - (intOf i).toNat)
  case atStart => exact ⟨0, svN, [], [], by omega, rfl, ⟨HO3.out, Agg.Own.nil _ _ _, rfl, by simpa [svN, ownB, Value.ownBlock] using ownB_nodup vb.1⟩, by simp, HN3.out, HR3.out, HX3.out⟩
  case round =>
   obtain ⟨wr1, rfl⟩ : ∃ y : World, y = wr := ⟨_, rfl⟩
   obtain ⟨q, vk, kk, cs, hq, rfl, hos, hcs, hn, hr, hx⟩ := hrel
   have HSS := Lib.hid hos
   have HCS := Lib.hid hcs
   have HN := Lib.hid hn
   have HR := Lib.hid hr
   have HX := Lib.hid hx
   clear hos hcs hn hr hx
   by_cases hlt : q < l.length
   ·have hlq : decide ((q : Int) < (l.length : Int)) = true := by simp; omega
    obtain ⟨z, hzk⟩ : ∃ z, l[q]? = some z := ⟨_, List.getElem?_eq_getElem hlt⟩
    obtain ⟨y, hyk, hyz, hyn⟩ := HKV.out.at_ q z hzk
    obtain ⟨p, hadr, hle⟩ := kid_at (HSL.out.below HX.out) q y hyk
    have HE := Lib.hid hle.all
    have HYZ := Lib.hid hyz
    have HYN := Lib.hid hyn
    have HT := Lib.hid (take_succ' hzk)
    have hcz : count z.2 ≤ N := by
     have h1 := countL_mem (List.mem_of_getElem? hzk)
     have h2 := HC.out
     simp only [count] at h2
     omega
    have hoz := okL_mem HKO.out (List.mem_of_getElem? hzk)
    have hkq : kk.length ≤ 200 := by
     have h1 := HSS.out.kids
     have h2 := (OwnL.reads _ _ _ h1).len
     rw [List.length_take] at h2
     omega
    clear hle hyk hyz hyn hzk
    go_wp2_with (first | (with_reducible refine wpList_loadL HE.out rfl _ rfl rfl ?_) | (refine wpList_new rfl rfl rfl 51 5 18 rfl rfl rfl (by decide) (kdC kdZ) (kdC y) kd_zero rfl (kd_info y) (kdC_one y) rfl (by first | (simp; done) | simp [Act.put]) ?_; intro g5 wa hb hx hg; have HYa := Lib.hid hb; have HSa := Lib.hid (HSS.out.below hx); have HNa := Lib.hid (HN.out.below hx); have HRa := Lib.hid (HR.out.below hx); have HXa := Lib.hid (belowThen HX.out (Nat.le_refl _) hx); have HG5 := Lib.hid (show g3 < g5 ∧ wr1.heap.size ≤ g5 from ⟨Nat.lt_of_lt_of_le HN.out.lt hg, hg⟩); have HRG := Lib.hid (show wr1.heap.size ≤ wa.heap.size from hx.size); clear hb hx hg))
    clear hadr
    refine Agg.wp_cutR (fun a a' w' => ∃ (vk2 : SV) (x2 : NdV) (b2 : List Nat), OwnS w.heap.size w' vb.1 bs vk2.1 (kk ++ [(y.1, x2)]) (l.take (q + 1)) (cs ++ b2) ∧ (∀ j ∈ cs ++ b2, g3 < j) ∧ Blk w' g3 26 (ndC (xk, vb, vk2)) ∧ Blk w' g2 26 (ndC ndZ) ∧ Below w.heap.size w w' ∧ ExPut [19, 20, 21, 22, 23, 24, 25, 26, 27, 28, 29] a a') ?_ ?_
    ·try simp only [Act.put, List.setIfInBounds_toArray, List.set_cons_succ, List.set_cons_zero]
     obtain ⟨wb, hwb⟩ : ∃ W, W = wa.drew := ⟨_, rfl⟩
     have hdb : Below wa.heap.size wa wb := by rw [hwb]; exact (Below.refl _ _).drew
     have HS_ := Lib.hid (HSa.out.below hdb)
     have HSb := HS_
     have HN_ := Lib.hid (HNa.out.below hdb)
     have HNb := HN_
     have HR_ := Lib.hid (HRa.out.below hdb)
     have HY_ := Lib.hid (HYa.out.below hdb)
     have HX_ := Lib.hid (belowThen HXa.out (Nat.le_refl _) hdb)
     refine wp_region_held_drew (S := fun W => (∃ vq : SV, Blk W g3 26 (ndC (xk, vb, vq))) ∧ Blk W g5 51 (kdC y)) (by kernel_rfl) (by rw [← hwb]; exact ⟨⟨_, HN_.out⟩, HY_.out⟩) (fun hHeld => ?_)
     rw [← hwb] at hHeld ⊢
     clear hwb hdb
     refine held_take 0 (.pointer (some ⟨g3, 2, none⟩)) rfl (by kernel_rfl) (fun _ _ _ h => h) rfl (fun W _ => by kernel_rfl) (by assumption) ?_
     try simp only [Act.put, List.setIfInBounds_toArray, List.set_cons_succ, List.set_cons_zero]
     refine held_take 2 (.pointer (some ⟨g5, 0, none⟩)) rfl (by kernel_rfl) (fun _ _ _ h => h) rfl (fun W _ => by kernel_rfl) (by assumption) ?_
     try simp only [Act.put, List.setIfInBounds_toArray, List.set_cons_succ, List.set_cons_zero]
     refine held_take 3 (.string ⟨y.1.toArray⟩) rfl (by kernel_rfl) (fun _ _ _ h => h) rfl (fun W hS => exec_loadB rfl rfl (KdL.ofB hS.2).name.now) (by assumption) ?_
     try simp only [Act.put, List.setIfInBounds_toArray, List.set_cons_succ, List.set_cons_zero]
     refine held_take 4 (.pointer (some ⟨g5, 1, none⟩)) rfl (by kernel_rfl) (fun _ _ _ h => h) rfl (fun W _ => by kernel_rfl) (by assumption) ?_
     try simp only [Act.put, List.setIfInBounds_toArray, List.set_cons_succ, List.set_cons_zero]
     refine held_take 5 (.agg (ndC y.2)) rfl (by kernel_rfl) (fun _ _ _ h => h) rfl (fun W hS => exec_loadB rfl rfl (kid_node hS.2).now) (by assumption) ?_
     try simp only [Act.put, List.setIfInBounds_toArray, List.set_cons_succ, List.set_cons_zero]
     refine held_ready [1, 6] (by kernel_rfl) (by simp) ?_
     refine held_cons rfl ?_ ?_
     ·refine step_load rfl 24 _ rfl _ vk.1 rfl (NdL.of_blk HN_.out).kids.now ?_
      refine ⟨⟨⟨_, HN_.out⟩, HY_.out⟩, ?_⟩
      have HS_1 := HS_
      have HN_1 := HN_
      have HR_1 := HR_
      have HY_1 := HY_
      have HX_1 := HX_
      try simp only [Act.put, List.setIfInBounds_toArray, List.set_cons_succ, List.set_cons_zero]
      refine held_one 6 rfl (by kernel_rfl) ?_
      refine step_call rfl 35 _ _ rfl #[.agg (ndC y.2)] (by simp only [List.map_toArray, List.map_cons, List.map_nil]; rfl) (fun W => HEO.out _ W) ?_
      refine (HIH.out z.2 hcz hoz (.agg (ndC y.2)) _ ⟨y.2, rfl, HYN.out.below HX_1.out⟩).mono ?_
      rintro e Zbh ⟨x2, rfl, ⟨b2, ho2, hn2⟩, hx⟩
      have Zbf := Lib.hid ho2
      have HN2 := Lib.hid hn2
      have HR2b := Lib.hid (show ∀ k ∈ b2, wb.heap.size ≤ k from fun k hk => (OwnT.range z.2 x2 b2 ho2 k hk).1)
      have HLW := Lib.hid (show w.heap.size ≤ wb.heap.size from HX_1.out.size)
      have Zbe := Lib.hid (HS_1.out.below hx)
      have Z6 := Lib.hid (HN_1.out.below hx)
      have Zba := Lib.hid (HR_1.out.below hx)
      have Z8 := Lib.hid (HY_1.out.below hx)
      have Zbc := Lib.hid (belowThen HX_1.out (Nat.le_refl _) hx)
      clear ho2 hn2 hx
      have Zbr : (∃ vq : SV, Blk Zbh g3 26 (ndC (xk, vb, vq))) ∧ Blk Zbh g5 51 (kdC y) := ⟨⟨_, Z6.out⟩, Z8.out⟩
      refine ⟨_, rfl, ?_⟩
      refine ⟨Zbr, ?_⟩
      try simp only [Act.put, List.setIfInBounds_toArray, List.set_cons_succ, List.set_cons_zero]
      refine held_take 7 (.agg (kdC (y.1, x2))) rfl (by kernel_rfl) (fun _ _ _ h => h) rfl (fun W _ => exec_b2 rfl rfl rfl (kd_build y.1 x2 W)) (by assumption) ?_
      try simp only [Act.put, List.setIfInBounds_toArray, List.set_cons_succ, List.set_cons_zero]
      refine held_one 8 rfl (by kernel_rfl) ?_
      refine step_slice1 (E := EK) rfl _ rfl (y.1, x2) rfl ?_
      intro ys Zv hys hx
      have Zx := Lib.hid hys.slice
      have Zo := Lib.hid (Zbe.out.below hx)
      have Zp := Lib.hid (Z6.out.below hx)
      have Zt := Lib.hid (Zba.out.below hx)
      have Zh := Lib.hid (Z8.out.below hx)
      have Zd := Lib.hid (belowThen Zbc.out (Nat.le_refl _) hx)
      have Zu := Lib.hid (OwnT.below hx Zbf.out)
      clear hys hx
      have Z5 : (∃ vq : SV, Blk Zv g3 26 (ndC (xk, vb, vq))) ∧ Blk Zv g5 51 (kdC y) := ⟨⟨_, Zp.out⟩, Zh.out⟩
      refine ⟨Z5, ?_⟩
      try simp only [Act.put, List.setIfInBounds_toArray, List.set_cons_succ, List.set_cons_zero]
      refine held_one 9 rfl (by kernel_rfl) ?_
      refine Agg.step_appendG (E := EK) (base := w.heap.size) rfl _ _ rfl ys rfl rfl [(y.1, x2)] Zo.out.row Zx.out (by simp; omega) (by decide) Zd.out.size ?_
      intro vk0 Za hok hp hgr
      obtain ⟨vk2, rfl⟩ := own_sv hok
      have Zq := Lib.hid (show OwnS w.heap.size Za vb.1 bs vk2.1 (kk ++ [(y.1, x2)]) (l.take (q + 1)) (cs ++ b2) by
       rw [HT.out, show z = ((y.1, x2).1, z.2) from Prod.ext HYZ.out.symm rfl]
       exact Zo.out.push (y := (y.1, x2)) (OwnT.lowerB HLW.out z.2 x2 b2 Zu.out) HN2.out (fun i hi j hj => by have h1 := (HSb.out.range i hi).2; have h2 := HR2b.out j hj; omega) hok hp hgr)
      have Zb := Lib.hid (hp.blk g3 _ _ _ (by decide) Zp.out)
      have Zs := Lib.hid (hp.blk g2 _ _ _ (by decide) Zt.out)
      have Ze := Lib.hid (Zd.out.trans (hp.below w.heap.size (Nat.le_refl _) Zd.out.size))
      have Zf := Lib.hid (show ∀ j ∈ cs ++ b2, g3 < j from fun j hj => (List.mem_append.1 hj).elim (fun h => HCS.out j h) (fun h => by have := HR2b.out j h; have := HNb.out.lt; omega))
      have hnv : some g5 ≠ vk.1.ownBlock := fun e => by have h1 := (HSS.out.range g5 (List.mem_append.2 (.inr (List.mem_append.2 (.inl (mem_ownB.2 e.symm)))))).2; have := HG5.out.2; omega
      have Zg := Lib.hid (show Blk Za g5 51 (kdC y) from (hp.other g5 Zh.out.lt hnv).trans Zh.out)
      have Zr : (∃ vq : SV, Blk Za g3 26 (ndC (xk, vb, vq))) ∧ Blk Za g5 51 (kdC y) := ⟨⟨_, Zb.out⟩, Zg.out⟩
      clear hok hp hgr hnv
      refine ⟨Zr, ?_⟩
      try simp only [Act.put, List.setIfInBounds_toArray, List.set_cons_succ, List.set_cons_zero]
      refine held_take 10 (.pointer (some ⟨g3, 2, none⟩)) rfl (by kernel_rfl) (fun _ _ _ h => h) rfl (fun W _ => by kernel_rfl) (by assumption) ?_
      try simp only [Act.put, List.setIfInBounds_toArray, List.set_cons_succ, List.set_cons_zero]
      refine held_one 11 rfl (by kernel_rfl) ?_
      obtain ⟨Zy, hrun, hbf, hof⟩ := Agg.Blk.run_one (P := Tryd.prog) (ty := 24) Zb.out 2 (by show 2 < 3; omega) vk2.1 (sv_cells vk2) (sv_oneT vk2) (by kernel_rfl) (ndC (xk, vb, vk2)) rfl
      refine step_store rfl rfl 24 _ _ rfl (.pointer (some ⟨g3, 2, none⟩)) vk2.1 rfl rfl hrun ?_
      have Zm := Lib.hid (Zq.out.other hof Zb.out (by decide) (by decide) (fun h => by have := Zf.out g3 h; omega))
      have Zn := Lib.hid (Agg.Blk.keepO Zs.out hof (fun e => by have := HG23.out; omega))
      have Zc := Lib.hid hbf
      have Zj := Lib.hid (Agg.Blk.keepO Zg.out hof (fun e => by have := HG5.out.1; omega))
      have Zi := Lib.hid (Ze.out.trans (hof.below Ze.out.size (fun i hi => by subst hi; exact HG3.out)))
      have Zk := Zf
      clear hrun hbf hof
      refine ⟨⟨⟨_, Zc.out⟩, Zj.out⟩, ?_⟩
      try simp only [Act.put, List.setIfInBounds_toArray, List.set_cons_succ, List.set_cons_zero]
      refine held_end (by kernel_rfl) ?_
      simp only [ExPut, Act.put, List.setIfInBounds_toArray, List.set_cons_succ, List.set_cons_zero]
      exact ⟨vk2, x2, b2, Zm.out, Zk.out, Zc.out, Zn.out, Zi.out, _, _, _, _, _, _, _, _, _, _, _, rfl⟩
     refine held_cons rfl ?_ ?_
     ·refine step_call rfl 35 _ _ rfl #[.agg (ndC y.2)] (by simp only [List.map_toArray, List.map_cons, List.map_nil]; rfl) (fun W => HEO.out _ W) ?_
      refine (HIH.out z.2 hcz hoz (.agg (ndC y.2)) _ ⟨y.2, rfl, HYN.out.below HX_.out⟩).mono ?_
      rintro e wb_6 ⟨x2, rfl, ⟨b2, ho2, hn2⟩, hx⟩
      have HO_6 := Lib.hid ho2
      have HN2 := Lib.hid hn2
      have HR2b := Lib.hid (show ∀ k ∈ b2, wb.heap.size ≤ k from fun k hk => (OwnT.range z.2 x2 b2 ho2 k hk).1)
      have HLW := Lib.hid (show w.heap.size ≤ wb.heap.size from HX_.out.size)
      have HS_6 := Lib.hid (HS_.out.below hx)
      have HN_6 := Lib.hid (HN_.out.below hx)
      have HR_6 := Lib.hid (HR_.out.below hx)
      have HY_6 := Lib.hid (HY_.out.below hx)
      have HX_6 := Lib.hid (belowThen HX_.out (Nat.le_refl _) hx)
      clear ho2 hn2 hx
      have hS_6 : (∃ vq : SV, Blk wb_6 g3 26 (ndC (xk, vb, vq))) ∧ Blk wb_6 g5 51 (kdC y) := ⟨⟨_, HN_6.out⟩, HY_6.out⟩
      refine ⟨_, rfl, ?_⟩
      refine ⟨hS_6, ?_⟩
      try simp only [Act.put, List.setIfInBounds_toArray, List.set_cons_succ, List.set_cons_zero]
      refine held_take 7 (.agg (kdC (y.1, x2))) rfl (by kernel_rfl) (fun _ _ _ h => h) rfl (fun W _ => exec_b2 rfl rfl rfl (kd_build y.1 x2 W)) (by assumption) ?_
      try simp only [Act.put, List.setIfInBounds_toArray, List.set_cons_succ, List.set_cons_zero]
      refine held_ready [1, 8] (by kernel_rfl) (by simp) ?_
      refine held_cons rfl ?_ ?_
      ·refine step_load rfl 24 _ rfl _ vk.1 rfl (NdL.of_blk HN_6.out).kids.now ?_
       refine ⟨⟨⟨_, HN_6.out⟩, HY_6.out⟩, ?_⟩
       have Zbe := HS_6
       have Z6 := HN_6
       have Zba := HR_6
       have Z8 := HY_6
       have Zbc := HX_6
       have Zbf := HO_6
       try simp only [Act.put, List.setIfInBounds_toArray, List.set_cons_succ, List.set_cons_zero]
       refine held_one 8 rfl (by kernel_rfl) ?_
       refine step_slice1 (E := EK) rfl _ rfl (y.1, x2) rfl ?_
       intro ys Zv hys hx
       have Zx := Lib.hid hys.slice
       have Zo := Lib.hid (Zbe.out.below hx)
       have Zp := Lib.hid (Z6.out.below hx)
       have Zt := Lib.hid (Zba.out.below hx)
       have Zh := Lib.hid (Z8.out.below hx)
       have Zd := Lib.hid (belowThen Zbc.out (Nat.le_refl _) hx)
       have Zu := Lib.hid (OwnT.below hx Zbf.out)
       clear hys hx
       have Z5 : (∃ vq : SV, Blk Zv g3 26 (ndC (xk, vb, vq))) ∧ Blk Zv g5 51 (kdC y) := ⟨⟨_, Zp.out⟩, Zh.out⟩
       refine ⟨Z5, ?_⟩
       try simp only [Act.put, List.setIfInBounds_toArray, List.set_cons_succ, List.set_cons_zero]
       refine held_one 9 rfl (by kernel_rfl) ?_
       refine Agg.step_appendG (E := EK) (base := w.heap.size) rfl _ _ rfl ys rfl rfl [(y.1, x2)] Zo.out.row Zx.out (by simp; omega) (by decide) Zd.out.size ?_
       intro vk0 Za hok hp hgr
       obtain ⟨vk2, rfl⟩ := own_sv hok
       have Zq := Lib.hid (show OwnS w.heap.size Za vb.1 bs vk2.1 (kk ++ [(y.1, x2)]) (l.take (q + 1)) (cs ++ b2) by
        rw [HT.out, show z = ((y.1, x2).1, z.2) from Prod.ext HYZ.out.symm rfl]
        exact Zo.out.push (y := (y.1, x2)) (OwnT.lowerB HLW.out z.2 x2 b2 Zu.out) HN2.out (fun i hi j hj => by have h1 := (HSb.out.range i hi).2; have h2 := HR2b.out j hj; omega) hok hp hgr)
       have Zb := Lib.hid (hp.blk g3 _ _ _ (by decide) Zp.out)
       have Zs := Lib.hid (hp.blk g2 _ _ _ (by decide) Zt.out)
       have Ze := Lib.hid (Zd.out.trans (hp.below w.heap.size (Nat.le_refl _) Zd.out.size))
       have Zf := Lib.hid (show ∀ j ∈ cs ++ b2, g3 < j from fun j hj => (List.mem_append.1 hj).elim (fun h => HCS.out j h) (fun h => by have := HR2b.out j h; have := HNb.out.lt; omega))
       have hnv : some g5 ≠ vk.1.ownBlock := fun e => by have h1 := (HSS.out.range g5 (List.mem_append.2 (.inr (List.mem_append.2 (.inl (mem_ownB.2 e.symm)))))).2; have := HG5.out.2; omega
       have Zg := Lib.hid (show Blk Za g5 51 (kdC y) from (hp.other g5 Zh.out.lt hnv).trans Zh.out)
       have Zr : (∃ vq : SV, Blk Za g3 26 (ndC (xk, vb, vq))) ∧ Blk Za g5 51 (kdC y) := ⟨⟨_, Zb.out⟩, Zg.out⟩
       clear hok hp hgr hnv
       refine ⟨Zr, ?_⟩
       try simp only [Act.put, List.setIfInBounds_toArray, List.set_cons_succ, List.set_cons_zero]
       refine held_take 10 (.pointer (some ⟨g3, 2, none⟩)) rfl (by kernel_rfl) (fun _ _ _ h => h) rfl (fun W _ => by kernel_rfl) (by assumption) ?_
       try simp only [Act.put, List.setIfInBounds_toArray, List.set_cons_succ, List.set_cons_zero]
       refine held_one 11 rfl (by kernel_rfl) ?_
       obtain ⟨Zy, hrun, hbf, hof⟩ := Agg.Blk.run_one (P := Tryd.prog) (ty := 24) Zb.out 2 (by show 2 < 3; omega) vk2.1 (sv_cells vk2) (sv_oneT vk2) (by kernel_rfl) (ndC (xk, vb, vk2)) rfl
       refine step_store rfl rfl 24 _ _ rfl (.pointer (some ⟨g3, 2, none⟩)) vk2.1 rfl rfl hrun ?_
       have Zm := Lib.hid (Zq.out.other hof Zb.out (by decide) (by decide) (fun h => by have := Zf.out g3 h; omega))
       have Zn := Lib.hid (Agg.Blk.keepO Zs.out hof (fun e => by have := HG23.out; omega))
       have Zc := Lib.hid hbf
       have Zj := Lib.hid (Agg.Blk.keepO Zg.out hof (fun e => by have := HG5.out.1; omega))
       have Zi := Lib.hid (Ze.out.trans (hof.below Ze.out.size (fun i hi => by subst hi; exact HG3.out)))
       have Zk := Zf
       clear hrun hbf hof
       refine ⟨⟨⟨_, Zc.out⟩, Zj.out⟩, ?_⟩
       try simp only [Act.put, List.setIfInBounds_toArray, List.set_cons_succ, List.set_cons_zero]
       refine held_end (by kernel_rfl) ?_
       simp only [ExPut, Act.put, List.setIfInBounds_toArray, List.set_cons_succ, List.set_cons_zero]
       exact ⟨vk2, x2, b2, Zm.out, Zk.out, Zc.out, Zn.out, Zi.out, _, _, _, _, _, _, _, _, _, _, _, rfl⟩
      refine held_cons rfl ?_ ?_
      ·refine step_slice1 (E := EK) rfl _ rfl (y.1, x2) rfl ?_
       intro ys Zbg hys hx
       have Zbp := Lib.hid hys.slice
       have Zbo := Lib.hid (HS_6.out.below hx)
       have Z7 := Lib.hid (HN_6.out.below hx)
       have Zbm := Lib.hid (HR_6.out.below hx)
       have Zbb := Lib.hid (HY_6.out.below hx)
       have Zbk := Lib.hid (belowThen HX_6.out (Nat.le_refl _) hx)
       have Zbj := Lib.hid (OwnT.below hx HO_6.out)
       clear hys hx
       have Zbn : (∃ vq : SV, Blk Zbg g3 26 (ndC (xk, vb, vq))) ∧ Blk Zbg g5 51 (kdC y) := ⟨⟨_, Z7.out⟩, Zbb.out⟩
       refine ⟨Zbn, ?_⟩
       try simp only [Act.put, List.setIfInBounds_toArray, List.set_cons_succ, List.set_cons_zero]
       refine held_one 1 rfl (by kernel_rfl) ?_
       refine step_load rfl 24 _ rfl _ vk.1 rfl (NdL.of_blk Z7.out).kids.now ?_
       refine ⟨⟨⟨_, Z7.out⟩, Zbb.out⟩, ?_⟩
       have Zo := Zbo
       have Zp := Z7
       have Zt := Zbm
       have Zh := Zbb
       have Zd := Zbk
       have Zu := Zbj
       have Zx := Zbp
       try simp only [Act.put, List.setIfInBounds_toArray, List.set_cons_succ, List.set_cons_zero]
       refine held_one 9 rfl (by kernel_rfl) ?_
       refine Agg.step_appendG (E := EK) (base := w.heap.size) rfl _ _ rfl ys rfl rfl [(y.1, x2)] Zo.out.row Zx.out (by simp; omega) (by decide) Zd.out.size ?_
       intro vk0 Za hok hp hgr
       obtain ⟨vk2, rfl⟩ := own_sv hok
       have Zq := Lib.hid (show OwnS w.heap.size Za vb.1 bs vk2.1 (kk ++ [(y.1, x2)]) (l.take (q + 1)) (cs ++ b2) by
        rw [HT.out, show z = ((y.1, x2).1, z.2) from Prod.ext HYZ.out.symm rfl]
        exact Zo.out.push (y := (y.1, x2)) (OwnT.lowerB HLW.out z.2 x2 b2 Zu.out) HN2.out (fun i hi j hj => by have h1 := (HSb.out.range i hi).2; have h2 := HR2b.out j hj; omega) hok hp hgr)
       have Zb := Lib.hid (hp.blk g3 _ _ _ (by decide) Zp.out)
       have Zs := Lib.hid (hp.blk g2 _ _ _ (by decide) Zt.out)
       have Ze := Lib.hid (Zd.out.trans (hp.below w.heap.size (Nat.le_refl _) Zd.out.size))
       have Zf := Lib.hid (show ∀ j ∈ cs ++ b2, g3 < j from fun j hj => (List.mem_append.1 hj).elim (fun h => HCS.out j h) (fun h => by have := HR2b.out j h; have := HNb.out.lt; omega))
       have hnv : some g5 ≠ vk.1.ownBlock := fun e => by have h1 := (HSS.out.range g5 (List.mem_append.2 (.inr (List.mem_append.2 (.inl (mem_ownB.2 e.symm)))))).2; have := HG5.out.2; omega
       have Zg := Lib.hid (show Blk Za g5 51 (kdC y) from (hp.other g5 Zh.out.lt hnv).trans Zh.out)
       have Zr : (∃ vq : SV, Blk Za g3 26 (ndC (xk, vb, vq))) ∧ Blk Za g5 51 (kdC y) := ⟨⟨_, Zb.out⟩, Zg.out⟩
       clear hok hp hgr hnv
       refine ⟨Zr, ?_⟩
       try simp only [Act.put, List.setIfInBounds_toArray, List.set_cons_succ, List.set_cons_zero]
       refine held_take 10 (.pointer (some ⟨g3, 2, none⟩)) rfl (by kernel_rfl) (fun _ _ _ h => h) rfl (fun W _ => by kernel_rfl) (by assumption) ?_
       try simp only [Act.put, List.setIfInBounds_toArray, List.set_cons_succ, List.set_cons_zero]
       refine held_one 11 rfl (by kernel_rfl) ?_
       obtain ⟨Zy, hrun, hbf, hof⟩ := Agg.Blk.run_one (P := Tryd.prog) (ty := 24) Zb.out 2 (by show 2 < 3; omega) vk2.1 (sv_cells vk2) (sv_oneT vk2) (by kernel_rfl) (ndC (xk, vb, vk2)) rfl
       refine step_store rfl rfl 24 _ _ rfl (.pointer (some ⟨g3, 2, none⟩)) vk2.1 rfl rfl hrun ?_
       have Zm := Lib.hid (Zq.out.other hof Zb.out (by decide) (by decide) (fun h => by have := Zf.out g3 h; omega))
       have Zn := Lib.hid (Agg.Blk.keepO Zs.out hof (fun e => by have := HG23.out; omega))
       have Zc := Lib.hid hbf
       have Zj := Lib.hid (Agg.Blk.keepO Zg.out hof (fun e => by have := HG5.out.1; omega))
       have Zi := Lib.hid (Ze.out.trans (hof.below Ze.out.size (fun i hi => by subst hi; exact HG3.out)))
       have Zk := Zf
       clear hrun hbf hof
       refine ⟨⟨⟨_, Zc.out⟩, Zj.out⟩, ?_⟩
       try simp only [Act.put, List.setIfInBounds_toArray, List.set_cons_succ, List.set_cons_zero]
       refine held_end (by kernel_rfl) ?_
       simp only [ExPut, Act.put, List.setIfInBounds_toArray, List.set_cons_succ, List.set_cons_zero]
       exact ⟨vk2, x2, b2, Zm.out, Zk.out, Zc.out, Zn.out, Zi.out, _, _, _, _, _, _, _, _, _, _, _, rfl⟩
      exact AllReadyH.nil
     exact AllReadyH.nil
    rintro a' w4 ⟨vk2, x2, b2, h1, h2, h3, h4, h5, hex⟩
    have HSf := Lib.hid h1
    have HLe := Lib.hid h2
    have HNf := Lib.hid h3
    have HRf := Lib.hid h4
    have HXf := Lib.hid h5
    clear h1 h2 h3 h4 h5
    simp only [ExPut, Act.put, List.setIfInBounds_toArray, List.set_cons_succ, List.set_cons_zero] at hex
    obtain ⟨y19, y20, y21, y22, y23, y24, y25, y26, y27, y28, y29, rfl⟩ := hex
    go_wp2_with fail
    go_roundw
    case rel => exact ⟨q + 1, vk2, _, _, by omega, by go_num, HSf.out, HLe.out, HNf.out, HRf.out, HXf.out⟩
    case measure => simp [intOf]; omega
   ·obtain rfl : q = l.length := by omega
    have hlq : decide (((l.length : Nat) : Int) < ((l.length : Nat) : Int)) = false := by simp
    go_wp2_with (first | (with_reducible refine wpList_loadL (NdL.of_blk HN.out).all rfl _ rfl rfl ?_) | (refine Agg.wpList_put rfl rfl 26 _ _ rfl g2 (ndC (xk, vb, vk)) (ndC ndZ) rfl rfl HR.out (nd_info _) rfl (ndC_one _) ?_; intro we hb hx hs hk; have ho := Only.of_eq (S := (· = g2)) hx hs hk rfl; have HRe := Lib.hid hb; have HOe := Lib.hid ho; clear hb hx hs hk ho))
    refine Agg.post_row rfl rfl HRe.out nd_under rfl (nd_info _) rfl ⟨_, rfl, ?_, HX.out.trans (HOe.out.below HX.out.size (fun i hi => by subst hi; exact HG2.out))⟩
    have h := HSS.out.other HOe.out HR.out (by decide) (by decide) (fun h => by have := HCS.out g2 h; have := HG23.out; omega)
    rw [List.take_length] at h
    exact h.node
end Go.Proofs.YtfiadgdinhmgbaaDoor
/-! code.Cursor as a state: contracts without cases. -/
namespace Go.Proofs.YtfiadgdinhmgbaaDoor
open Go.RowKit Pl Go.Agg
def CuS (base g : Nat) (w : World) (s : Option (List UInt8)) : Prop := ∃ v r e, CuV base g w v r e ∧ (e ≠ 0 → v = .slice none 0 0 ∧ r = []) ∧ s = (if e = 0 then some r else none)
theorem CuS.good {base g : Nat} {w : World} {v : Value} {r : List UInt8} (h : CuV base g w v r 0) : CuS base g w (some r) := ⟨v, r, 0, h, fun h => absurd rfl h, rfl⟩
theorem CuS.bad {base g : Nat} {w : World} (h : CBad base g w) : CuS base g w none := by
 obtain ⟨e, he, h⟩ := h
 exact ⟨_, _, e, h, fun _ => ⟨rfl, rfl⟩, by rw [if_neg he]⟩
theorem CuS.below {base g : Nat} {w w' : World} {s : Option (List UInt8)} (h : CuS base g w s) (hb : Below w.heap.size w w') : CuS base g w' s := by
 obtain ⟨v, r, e, h, h1, h2⟩ := h
 exact ⟨v, r, e, h.below hb, h1, h2⟩
theorem CuS.lt {base g : Nat} {w : World} {s : Option (List UInt8)} (h : CuS base g w s) : g < w.heap.size := by
 obtain ⟨v, r, e, h, _⟩ := h
 exact h.blk.lt
theorem getN_nil (most : Nat) : getN most [] = none := by
 unfold getN
 rw [if_pos (.inl rfl)]
theorem getT_nil (most : Nat) : getT most [] = none := by
 unfold getT
 rw [getN_nil]
theorem snum_any (base g most : Nat) (s : Option (List UInt8)) (w : World) (hl : stLen s ≤ 16777216) (hmo : most ≤ 1099511627776) (h : CuS base g w s) :
  Calls Tryd.prog 81 #[.pointer (some ⟨g, 0, none⟩), .int .i64 (most : Int)] w fun x w' => x = .returned (.int .i64 ((sNum most s).1 : Int)) ∧ CuS base g w' (sNum most s).2 ∧ Only (· = g) w w' := by
 obtain ⟨v, r, e, hv, hbad, rfl⟩ := h
 by_cases h0 : e = 0
 ·subst h0
  refine (cnum_any base g most v r 0 w (by simpa [stLen] using hl) hmo hv).mono ?_
  rintro x w' ⟨hc, ho⟩
  rcases hc with ⟨n, y, v', hg, rfl, hcu⟩ | ⟨hg, rfl, hcu⟩
  ·simp only [if_true, sNum, hg]
   exact ⟨trivial, CuS.good hcu, ho⟩
  ·simp only [if_true, sNum, hg] at hcu ⊢
   exact ⟨rfl, CuS.bad ⟨4, by omega, hcu⟩, ho⟩
 ·obtain ⟨rfl, rfl⟩ := hbad h0
  refine (cnum_any base g most _ [] e w (by simp) hmo hv).mono ?_
  rintro x w' ⟨hc, ho⟩
  rcases hc with ⟨n, y, v', hg, rfl, hcu⟩ | ⟨hg, rfl, hcu⟩
  ·rw [getN_nil] at hg; cases hg
  ·simp only [if_neg h0, sNum] at hcu ⊢
   exact ⟨rfl, CuS.bad ⟨e, h0, hcu⟩, ho⟩
theorem sraw_any (base g many : Nat) (s : Option (List UInt8)) (w : World) (hl : stLen s ≤ 16777216) (hmo : many ≤ 1099511627776) (h : CuS base g w s) :
  Calls Tryd.prog 97 #[.pointer (some ⟨g, 0, none⟩), .int .i64 (many : Int)] w fun x w' => ∃ u, x = .returned u ∧ Own EB w.heap.size w' u (sRaw many s).1 ∧ CuS base g w' (sRaw many s).2 ∧ Only (· = g) w w' := by
 obtain ⟨v, r, e, hv, hbad, rfl⟩ := h
 by_cases h0 : e = 0
 ·subst h0
  refine (craw_any base g many v r 0 w (by simpa [stLen] using hl) hmo hv).mono ?_
  rintro x w' ⟨hc, ho⟩
  rcases hc with ⟨_, hle, u, v', rfl, hu, hcu⟩ | ⟨hor, rfl, hcu⟩
  ·simp only [if_true, sRaw, if_pos hle]
   exact ⟨u, rfl, hu, CuS.good hcu, ho⟩
  ·have hle : ¬ many ≤ r.length := by rcases hor with h | h <;> omega
   simp only [if_true, sRaw, if_neg hle]
   exact ⟨_, rfl, Own.nil _ _ _, CuS.bad hcu, ho⟩
 ·obtain ⟨rfl, rfl⟩ := hbad h0
  refine (craw_any base g many _ [] e w (by simp) hmo hv).mono ?_
  rintro x w' ⟨hc, ho⟩
  rcases hc with ⟨h, _⟩ | ⟨hor, rfl, hcu⟩
  ·exact absurd h h0
  ·simp only [if_neg h0, sRaw]
   exact ⟨_, rfl, Own.nil _ _ _, CuS.bad hcu, ho⟩
theorem stext_any (base g most : Nat) (s : Option (List UInt8)) (w : World) (hl : stLen s ≤ 16777216) (h : CuS base g w s) :
  Calls Tryd.prog 82 #[.pointer (some ⟨g, 0, none⟩), .int .i64 (most : Int)] w fun x w' => ∃ u, x = .returned u ∧ Own EB w.heap.size w' u (sText most s).1 ∧ CuS base g w' (sText most s).2 ∧ Only (· = g) w w' := by
 obtain ⟨v, r, e, hv, hbad, rfl⟩ := h
 by_cases h0 : e = 0
 ·subst h0
  refine (ctext_any base g most v r 0 w (by simpa [stLen] using hl) (fun h => absurd rfl h) hv).mono ?_
  rintro x w' ⟨hc, ho⟩
  rcases hc with ⟨_, l, y, u, v', hg, rfl, hu, hcu⟩ | ⟨hor, rfl, hcu⟩
  ·simp only [if_true, sText, hg]
   exact ⟨u, rfl, hu, CuS.good hcu, ho⟩
  ·have hg : getT most r = none := hor.elim (fun h => absurd rfl h) id
   simp only [if_true, sText, hg]
   exact ⟨_, rfl, Own.nil _ _ _, CuS.bad hcu, ho⟩
 ·obtain ⟨rfl, rfl⟩ := hbad h0
  refine (ctext_any base g most _ [] e w (by simp) (fun _ => rfl) hv).mono ?_
  rintro x w' ⟨hc, ho⟩
  rcases hc with ⟨h, _⟩ | ⟨hor, rfl, hcu⟩
  ·exact absurd h h0
  ·simp only [if_neg h0, sText]
   exact ⟨_, rfl, Own.nil _ _ _, CuS.bad hcu, ho⟩
theorem send_any (base g : Nat) (s : Option (List UInt8)) (w : World) (h : CuS base g w s) :
  Calls Tryd.prog 56 #[.pointer (some ⟨g, 0, none⟩)] w fun x w' => (∃ c : Nat, x = .returned (.int .i64 (c : Int)) ∧ (c = 0 ↔ s = some [])) ∧ w' = w := by
 obtain ⟨v, r, e, hv, hbad, rfl⟩ := h
 refine (cend_any base g v r e w hv).mono ?_
 rintro x w' ⟨⟨c, rfl, hc⟩, rfl⟩
 refine ⟨⟨c, rfl, ?_⟩, rfl⟩
 rw [hc]
 by_cases h0 : e = 0
 ·simp [h0]
 ·simp [h0]
end Go.Proofs.YtfiadgdinhmgbaaDoor
/-! A cursor, where other blocks are written. -/
namespace Go.Proofs.YtfiadgdinhmgbaaDoor
open Go.RowKit Pl Go.Agg
theorem CuS.keep {base gc : Nat} {w w' : World} {s : Option (List UInt8)} {S : Nat → Prop} (h : CuS base gc w s) (ho : Only S w w') (hS : ¬ S gc) (hr : ∀ k, S k → k < w.heap.size → ∀ cur fr, w.heap[k]? ≠ some (Obj.cells cur 5 fr)) : CuS base gc w' s := by
 obtain ⟨v, r, e, hv, h1, h2⟩ := h
 refine ⟨v, r, e, ⟨hv.blk.only ho hS, restKeepT hv.rest fun k cur fr hk => (ho.block k (Agg.heap_lt hk) fun hs => hr k hs (Agg.heap_lt hk) cur fr hk).trans hk⟩, h1, h2⟩
section
variable {base gc : Nat} {w w' : World} {s : Option (List UInt8)}
theorem CuS.blk (h : CuS base gc w s) : ∃ cs, Blk w gc 106 cs := by
 obtain ⟨v, r, e, hv, _⟩ := h
 exact ⟨_, hv.blk⟩
theorem CuS.other {g : Nat} {t : TypeId} {cs : Array Value} (h : CuS base gc w s) (ho : Only (· = g) w w') (hb : Blk w g t cs) (h2 : t ≠ 106) (h3 : t ≠ 5) : CuS base gc w' s := by
 refine h.keep ho (fun e => ?_) fun k hk _ cur fr hc => ?_
 ·subst e
  obtain ⟨cs', hb'⟩ := h.blk
  exact h2 (hb.type hb')
 ·subst hk
  unfold Blk at hb
  rw [hb] at hc
  injection hc with hc
  injection hc with _ hc
  exact h3 hc
theorem CuS.pushed {α : Type} {E : Elem Tryd.prog α} {B : Nat} {v : Value} (h : CuS base gc w s) (hp : Pushed E B w w' v) (h2 : 106 ≠ E.ty) (h3 : 5 ≠ E.ty) : CuS base gc w' s := by
 obtain ⟨v, r, e, hv, h4, h5⟩ := h
 exact ⟨v, r, e, ⟨hp.blk gc _ _ _ h2 hv.blk, restKeepT hv.rest fun k cur fr hk => hp.blk k _ _ _ h3 hk⟩, h4, h5⟩
end
end Go.Proofs.YtfiadgdinhmgbaaDoor
