/- spenceref09.Open. (Several texts in one.) -/
import Derived.Test.YtfiadgdinhmgbaaGreatDoorEBC
import Derived.Test.YtfiadgdinhmgbaaGreatDoorEAO
import Derived.Test.YtfiadgdinhmgbaaGreatDoorEBD
import Derived.Test.YtfiadgdinhmgbaaGreatDoorEAZ
import Derived.Test.YtfiadgdinhmgbaaGreatDoorEAP
import Derived.Test.YtfiadgdinhmgbaaGreatDoorEAN
import Derived.Test.YtfiadgdinhmgbaaGreatDoorEAF
import Derived.Deep.RegionHeld
/-! (of general use) The document's cursor, where other blocks are written. -/
namespace Go.Agg
open Go.RowKit
variable {P : Program} {α : Type} {E : Elem P α} {base : Nat} {w w' : World} {v : Value} {l : List α}
theorem Own.onlyX {S : Nat → Prop} (h : Own E base w v l) (ho : Only S w w') (hS : ∀ k, v.ownBlock = some k → ¬ S k) : Own E base w' v l := by
 obtain ⟨h1, h2⟩ := h
 refine ⟨h1, ?_⟩
 rcases h2 with h2 | ⟨g, cap, cur, e1, e2, e3, e4⟩
 ·exact .inl h2
 ·exact .inr ⟨g, cap, cur, e1, e2, (ho.block g (heap_lt e3) (hS g (by rw [e1]; rfl))).trans e3, e4⟩
end Go.Agg
namespace Go.Proofs.YtfiadgdinhmgbaaGreatDoor
open Go.RowKit Pl Go.Agg
theorem CrS.other {base gc : Nat} {w w' : World} {s : Option (List UInt8)} {g : Nat} {t : TypeId} {cs : Array Value} (h : CrS base gc w s) (ho : Only (· = g) w w') (hb : Blk w g t cs) (h1 : t ≠ 61) (h2 : t ≠ 5) : CrS base gc w' s := by
 obtain ⟨v, r, e, hv, h3, h4⟩ := h
 refine ⟨v, r, e, ⟨hv.blk.only ho (fun e => h1 ?_), restKeepT hv.rest fun k cur fr hk => (ho.block k (Agg.heap_lt hk) fun e => h2 ?_).trans hk⟩, h3, h4⟩
 ·subst e; exact hb.type hv.blk
 ·subst e
  unfold Blk at hb
  rw [hb] at hk
  injection hk with hk
  injection hk with _ hk
theorem CrS.pushed {base gc B : Nat} {w w' : World} {s : Option (List UInt8)} {α : Type} {E : Elem Tryz.prog α} {v : Value} (h : CrS base gc w s) (hp : Pushed E B w w' v) (h2 : 61 ≠ E.ty) (h3 : 5 ≠ E.ty) : CrS base gc w' s := by
 obtain ⟨v, r, e, hv, h4, h5⟩ := h
 exact ⟨v, r, e, ⟨hp.blk gc _ _ _ h2 hv.blk, restKeepT hv.rest fun k cur fr hk => hp.blk k _ _ _ h3 hk⟩, h4, h5⟩
theorem CrS.blk {base gc : Nat} {w : World} {s : Option (List UInt8)} (h : CrS base gc w s) : ∃ cs, Blk w gc 61 cs := by
 obtain ⟨v, r, e, hv, _⟩ := h
 exact ⟨_, hv.blk⟩
theorem cr_buildK {v : Value} (hv : ∃ p n c, v = .slice p n c) (W : World) : (Instr.build 61 #[(0, v)]).run Tryz.prog W = .ok (.agg (cuC v 0)) W := by
 obtain ⟨p, n, c, rfl⟩ := hv
 kernel_rfl
theorem wpList_copyK {ops : Array Oper} {rest : List Oper} {o : Oper} {a : Act} {w w' : World} {Q : Exit → Act → World → Prop} (hw : Region.wanted o (yielded ops a.tmps) = true) (d s : Operand)
  (ho : o.op = .call { callee := .builtin .copy, args := #[d, s], argTypes := #[23, 23] }) (x y r : Value) (hd : a.eval d = x) (hs : a.eval s = y)
  (hrun : (Builtin.copy_ #[23, 23] o.type #[x, y]).run Tryz.prog w = .ok r w') (h : wpList Tryz.prog ops Q rest (a.put o.dst r) w') : wpList Tryz.prog ops Q (o :: rest) a w := by
 refine wpList_valw hw ?_ h
 simp [execOp, ho, resolve, invoke, builtin, hd, hs, hrun]
end Go.Proofs.YtfiadgdinhmgbaaGreatDoor
/-! spenceref09.Open. -/
namespace Go.Agg
open Go.RowKit
section
variable {P : Program} {ops : Array Oper} {o : Oper} {a : Act} {w : World} {Q : Exit → Act → World → Prop} {K : Act → World → Prop} {F : Prop}
theorem step_callW (hw : Region.wanted o (yielded ops a.tmps) = true) (f : FuncId) (xs : Array Operand) (ts : Array TypeId) (ho : o.op = .call { callee := .value (.func f), args := xs, argTypes := ts }) (vs : Array Value) (hv : xs.map a.eval = vs)
  (he : ∀ w, (callFunc f vs).run P w = .ok (.enter f vs) w) (h : Calls P f vs w fun e w' => ∃ v, e = .returned v ∧ K (a.put o.dst v) w') : if Region.wanted o (yielded ops a.tmps) = true then o.wp P a w K Q else F := by
 rw [if_pos hw]
 unfold Oper.wp
 have : (execOp a.eval o).run P w = .ok (.enter f vs) w := by
  subst hv
  have hf : a.eval (Operand.func f) = .func (.func f) #[] #[] := rfl
  simp [execOp, ho, resolve, invoke, hf, Deferred.ofValue, he]
 rw [this, Oper.upon_enter]
 refine h.mono ?_
 rintro e w' ⟨v, rfl, hk⟩
 exact hk
theorem step_valW {v : Value} {w' : World} (hw : Region.wanted o (yielded ops a.tmps) = true) (hrun : (execOp a.eval o).run P w = .ok (.value v) w') (h : K (a.put o.dst v) w') : if Region.wanted o (yielded ops a.tmps) = true then o.wp P a w K Q else F := by
 rw [if_pos hw]
 unfold Oper.wp
 rw [hrun]
 exact h
theorem exec_neqSb {x y : Operand} {t u : TypeId} {s r : List UInt8} {b : Bool} (ho : o.op = .binOp .neq t x y u) (hx : a.eval x = .string ⟨s.toArray⟩) (hy : a.eval y = .string ⟨r.toArray⟩) (hb : (!decide (s = r)) = b) : (execOp a.eval o).run P w = .ok (.value (.bool b)) w := by
 rw [← hb]; exact exec_neqS ho hx hy
end
end Go.Agg
namespace Go.Proofs.YtfiadgdinhmgbaaGreatDoor
open Go.RowKit Pl Go.Agg Go.Tr
theorem exec_toStrB {o : Oper} {a : Act} {w : World} {x : Operand} {v : Value} {s : List UInt8} (ho : o.op = .convert 23 9 x) (hx : a.eval x = v) (hs : BytesAt w v s) : (execOp a.eval o).run Tryz.prog w = .ok (.value (.string ⟨s.toArray⟩)) w := by
 subst hx
 simp [execOp, ho, run_toStr hs]
set_option maxRecDepth 100000 in
set_option maxHeartbeats 16000000 in
theorem open9_any (v : Value) (b : List UInt8) (w : World) (hl : b.length ≤ 1048576) (hb : BytesAt w v b) (hcap : ∀ p n c, v = .slice p n c → n ≤ c) :
  Calls Tryz.prog 12 #[v] w fun e w' => ∃ x, e = .returned (.tuple #[.agg (ndC x), .int .i64 (opE b : Int)]) ∧ OwnN w.heap.size w' x (opT b) ∧ Below w.heap.size w w' := by
 have hlv := fun W => bytes_len hb W
 have HV := Lib.hid hb
 have HCAP := Lib.hid hcap
 have HFO := Lib.hid (show ∃ p n c, v = .slice p n c by obtain ⟨p, c, hf⟩ := hb.form; exact ⟨p, _, c, hf⟩)
 clear hb hcap
 go_enter Tryz.func12, Tryz.ntmps12
 by_cases hc : b.length ≤ 4096
 case neg =>
  have hd : decide (4096 < (b.length : Int)) = true := by simp; omega
  have HE := Lib.hid (open9_long hc)
  clear hc
  go_wp2_with (first | (refine Agg.wpList_zero rfl 26 rfl (ndC ndZ) nd_zero ?_; intro g2 w1 hb hx hg; have HR1 := Lib.hid hb; have HX1 := Lib.hid hx; have HV1 := Lib.hid (SliceOf.below HV.out hx); have HG2 := Lib.hid (show w.heap.size ≤ g2 from hg); clear hb hx hg) | (with_reducible refine wpList_build0 26 rfl (by kernel_rfl) (.agg (ndC ndZ)) nd_build0 ?_) | (refine Agg.wpList_put rfl rfl 26 _ _ rfl g2 (ndC ndZ) (ndC ndZ) rfl rfl HR1.out (nd_info _) rfl (ndC_one _) ?_; intro wf hb hx hs9 hk; have ho9 := Only.of_eq (S := (· = g2)) hx hs9 hk rfl; have HF := Lib.hid hb; have HXF := Lib.hid (HX1.out.trans (ho9.below (B := w.heap.size) HX1.out.size (fun i hi => by subst hi; exact HG2.out))); clear hb hx hs9 hk ho9))
  exact post_row_tmp rfl rfl rfl HF.out nd_under rfl (nd_info _) rfl (by first | exact ⟨ndZ, by rw [(HE.out).1]; rfl, by rw [(HE.out).2]; exact ownN_zero _ _, HXF.out⟩ | exact ⟨ndZ.1, ndZ.2.1.1, ndZ.2.1.2, ndZ.2.2.1, ndZ.2.2.2, by rw [(HE.out).1]; rfl, by rw [(HE.out).2]; exact ownN_zero _ _, HXF.out⟩)
 case pos =>
  have hd : decide (4096 < (b.length : Int)) = false := by simp; omega
  obtain ⟨t, s1, hrn⟩ : ∃ t s1, rn 8 (some b) = (t, s1) := ⟨_, _, rfl⟩
  have HRN := Lib.hid hrn
  have HL := Lib.hid hc
  clear hrn hc
  go_wp2_with (first | (refine Agg.wpList_zero rfl 26 rfl (ndC ndZ) nd_zero ?_; intro g2 w1 hb hx hg; have HR1 := Lib.hid hb; have HX1 := Lib.hid hx; have HV1 := Lib.hid (SliceOf.below HV.out hx); have HG2 := Lib.hid (show w.heap.size ≤ g2 from hg); clear hb hx hg) | (with_reducible refine wpList_build1 61 0 _ rfl rfl v rfl (.agg (cuC v 0)) (cr_buildK HFO.out) ?_) | (refine wpList_box rfl 61 _ rfl (cuC v 0) rfl ?_; intro gc w2 hb hx hg; have HR2 := Lib.hid (HR1.out.below hx); have HX2 := Lib.hid (belowThen HX1.out (Nat.le_refl _) hx); have HC2 := Lib.hid (show CaS w.heap.size gc w2 (some b) from CaS.good ⟨hb, (RestA.of_arg HV.out HCAP.out (Nat.le_trans HX1.out.size hg)).keep (Nat.le_trans HX1.out.size hx.size) (fun k hk _ => (hx.block k (Nat.lt_of_lt_of_le hk HX1.out.size)).trans (HX1.out.block k hk))⟩); have HGC := Lib.hid (show w1.heap.size ≤ gc from hg); clear hb hx hg))
  refine (show Calls Tryz.prog 33 #[.pointer (some ⟨gc, 0, none⟩), .int .i64 8] w2 _ from node9_any 8 (some b) w.heap.size gc w2 (by omega) (by simp [stLen]; omega) HX2.out.size HC2.out).mono ?_
  rintro e w3 ⟨x, rfl, hon, hca, ho⟩
  rw [HRN.out] at hon hca
  obtain ⟨vv, r, e, hv, hs⟩ := hca
  have hs : s1 = if e = 0 then some r else none := hs
  have HO3 := Lib.hid hon
  have HV3 := Lib.hid hv
  have HR3 := Lib.hid (Agg.Blk.keepO HR2.out ho (fun e => by have h1 := HR1.out.lt; have h2 := HGC.out; have e : g2 = gc := e; omega))
  have HX3 := Lib.hid (HX2.out.trans (ho.below (B := w.heap.size) HX2.out.size (fun i hi => by subst hi; exact Nat.le_trans HX1.out.size HGC.out)))
  clear hon hv ho
  go_wp2_with (first | (refine wpList_new rfl rfl rfl 26 5 14 rfl rfl rfl (by decide) (ndC ndZ) (ndC x) nd_zero rfl (nd_info _) (ndC_one _) rfl (by first | (simp; done) | simp [Act.put]) ?_; intro g5 w4 hb hx hg; have HN4 := Lib.hid hb; have HO4 := Lib.hid (HO3.out.below hx); have HV4 := Lib.hid (HV3.out.below hx); have HR4 := Lib.hid (HR3.out.below hx); have HX4 := Lib.hid (belowThen HX3.out (Nat.le_refl _) hx); clear hb hx hg))
  by_cases he : e = 0
  case neg =>
   have he1 : ((e : Int) != 0) = true := by simp; omega
   have he2 : decide (¬ (e : Int) = 0) = true := decide_eq_true (by omega)
   have he3 : ((e : Int) == 0) = false := by rw [beq_eq_false_iff_ne]; omega
   rw [if_neg he] at hs
   have HE := Lib.hid (open9_bad HL.out (.inl (by rw [HRN.out]; exact hs)))
   clear hs he
   try simp only [Act.put, List.setIfInBounds_toArray, List.set_cons_succ, List.set_cons_zero]
   refine wp_region_later_lit (by kernel_rfl) (by kernel_rfl) ?_
   repeat (first | go_big_quiet_skip | ((first | (with_reducible refine wpQuiet_loadL HV4.out.err rfl _ rfl rfl ?_)); simp only [Act.put, List.setIfInBounds_toArray, List.set_cons_succ, List.set_cons_zero]) | go_big_quiet_step (fail))
   refine wpQuiet_nil ?_
   intro _ hw'
   obtain ⟨x1, rfl⟩ := hw'
   have HR5 := Lib.hid (HR4.out.below x1.h)
   have HX5 := Lib.hid (belowThen HX4.out (Nat.le_refl _) x1.h)
   go_wp2_with (first | (with_reducible refine wpList_build0 26 rfl (by kernel_rfl) (.agg (ndC ndZ)) nd_build0 ?_) | (refine Agg.wpList_put rfl rfl 26 _ _ rfl g2 (ndC ndZ) (ndC ndZ) rfl rfl HR5.out (nd_info _) rfl (ndC_one _) ?_; intro wf hb hx hs9 hk; have ho9 := Only.of_eq (S := (· = g2)) hx hs9 hk rfl; have HF := Lib.hid hb; have HXF := Lib.hid (HX5.out.trans (ho9.below (B := w.heap.size) HX5.out.size (fun i hi => by subst hi; exact HG2.out))); clear hb hx hs9 hk ho9))
   exact post_row_tmp rfl rfl rfl HF.out nd_under rfl (nd_info _) rfl (by first | exact ⟨ndZ, by rw [(HE.out).1]; rfl, by rw [(HE.out).2]; exact ownN_zero _ _, HXF.out⟩ | exact ⟨ndZ.1, ndZ.2.1.1, ndZ.2.1.2, ndZ.2.2.1, ndZ.2.2.2, by rw [(HE.out).1]; rfl, by rw [(HE.out).2]; exact ownN_zero _ _, HXF.out⟩)
  case pos =>
   subst he
   rw [if_pos rfl] at hs
   subst hs
   have hpp := rn_puts 8 (some b) t r HRN.out
   have hbb : b = packB t ++ r := Option.some.inj hpp.1
   have hlen := congrArg List.length hbb
   rw [List.length_append] at hlen
   have hmz : msz t ≤ 1048576 := by have := hpp.2; have := HL.out; omega
   have hpl : (packB t).length ≤ 1048576 := by have := HL.out; omega
   have HND4 := Lib.hid (show NodeAt w4 (.agg (ndC x)) t from ⟨x, rfl, HO4.out.reads⟩)
   clear hpp hbb hlen
   cases hrt : right t with
   | false =>
    have HE := Lib.hid (open9_bad HL.out (.inr (.inl (by rw [HRN.out]; exact hrt))))
    have HC := Lib.hid (fun y : Later w4 => (by have := rright_any (.agg (ndC x)) t hmz y.w (HND4.out.below y.h); rw [hrt] at this; exact this : Calls Tryz.prog 34 #[.agg (ndC x)] y.w fun e w' => e = .returned (.bool false) ∧ Below y.w.heap.size y.w w'))
    clear hrt
    try simp only [Act.put, List.setIfInBounds_toArray, List.set_cons_succ, List.set_cons_zero]
    refine wp_region_later_lit (by kernel_rfl) (by kernel_rfl) ?_
    repeat (first | go_big_quiet_skip | ((first | (with_reducible refine wpQuiet_loadL HV4.out.err rfl _ rfl rfl ?_) | (with_reducible refine wpQuiet_loadL (NdL.of_blk HN4.out).all rfl _ rfl rfl ?_)); simp only [Act.put, List.setIfInBounds_toArray, List.set_cons_succ, List.set_cons_zero]) | go_big_quiet_step (first | (go_at_call 34; first | (with_reducible exact Calls.later (HC.out _)))))
    refine wpQuiet_nil ?_
    intro _ hw'
    obtain ⟨x1, rfl⟩ := hw'
    have HR5 := Lib.hid (HR4.out.below x1.h)
    have HX5 := Lib.hid (belowThen HX4.out (Nat.le_refl _) x1.h)
    go_wp2_with (first | (with_reducible refine wpList_build0 26 rfl (by kernel_rfl) (.agg (ndC ndZ)) nd_build0 ?_) | (refine Agg.wpList_put rfl rfl 26 _ _ rfl g2 (ndC ndZ) (ndC ndZ) rfl rfl HR5.out (nd_info _) rfl (ndC_one _) ?_; intro wf hb hx hs9 hk; have ho9 := Only.of_eq (S := (· = g2)) hx hs9 hk rfl; have HF := Lib.hid hb; have HXF := Lib.hid (HX5.out.trans (ho9.below (B := w.heap.size) HX5.out.size (fun i hi => by subst hi; exact HG2.out))); clear hb hx hs9 hk ho9))
    exact post_row_tmp rfl rfl rfl HF.out nd_under rfl (nd_info _) rfl (by first | exact ⟨ndZ, by rw [(HE.out).1]; rfl, by rw [(HE.out).2]; exact ownN_zero _ _, HXF.out⟩ | exact ⟨ndZ.1, ndZ.2.1.1, ndZ.2.1.2, ndZ.2.2.1, ndZ.2.2.2, by rw [(HE.out).1]; rfl, by rw [(HE.out).2]; exact ownN_zero _ _, HXF.out⟩)
   | true =>
    have hok : ok t = true := by simp only [right, lookB, Bool.and_eq_true] at hrt; exact hrt.1.1
    have HRT := Lib.hid hrt
    have HOK := Lib.hid hok
    have HVB4 := Lib.hid (SliceOf.below HV.out HX4.out)
    clear hrt hok
    have HEK := Lib.hid (enters_of Tryz.func34 (by kernel_rfl) rfl : ∀ args w, (callFunc 34 args).run Tryz.prog w = .ok (.enter 34 args) w)
    have HEB := Lib.hid (enters_of Tryz.func4 (by kernel_rfl) rfl : ∀ args w, (callFunc 4 args).run Tryz.prog w = .ok (.enter 4 args) w)
    by_cases hpb : packB t = b
    ·have HPB := Lib.hid (show (!decide (packB t = b)) = false by simp [hpb])
     have HE := Lib.hid (open9_good HL.out HRN.out HRT.out hpb)
     clear hpb
     try simp only [Act.put, List.setIfInBounds_toArray, List.set_cons_succ, List.set_cons_zero]
     obtain ⟨w5, hw5⟩ : ∃ W, W = w4.drew := ⟨_, rfl⟩
     have hd5 : Below w4.heap.size w4 w5 := by rw [hw5]; exact (Below.refl _ _).drew
     have hS5 : SliceOf EB w5 v b ∧ Blk w5 g5 26 (ndC x) ∧ Blk w5 gc 61 (cuC vv 0) := ⟨SliceOf.below HVB4.out hd5, HN4.out.below hd5, HV4.out.blk.below hd5⟩
     have HND5 := Lib.hid (HND4.out.below hd5)
     have HR5 := Lib.hid (HR4.out.below hd5)
     have HO5 := Lib.hid (HO4.out.below hd5)
     have HX5 := Lib.hid (belowThen HX4.out (Nat.le_refl _) hd5)
     refine wp_region_held_drew (S := fun W => SliceOf EB W v b ∧ Blk W g5 26 (ndC x) ∧ Blk W gc 61 (cuC vv 0)) (by kernel_rfl) (by rw [← hw5]; exact hS5) (fun hHeld => ?_)
     rw [← hw5] at hHeld ⊢
     clear hw5 hd5 hHeld
     refine held_take 0 (.pointer (some ⟨gc, 0, none⟩)) rfl (by kernel_rfl) (fun _ _ _ h => h) rfl (fun W _ => by kernel_rfl) (by assumption) ?_
     try simp only [Act.put, List.setIfInBounds_toArray, List.set_cons_succ, List.set_cons_zero]
     refine held_take 1 (.pointer (some ⟨gc, 0, none⟩)) rfl (by kernel_rfl) (fun _ _ _ h => h) rfl (fun W _ => by kernel_rfl) (by assumption) ?_
     try simp only [Act.put, List.setIfInBounds_toArray, List.set_cons_succ, List.set_cons_zero]
     refine held_take 2 (.pointer (some ⟨gc, 1, none⟩)) rfl (by kernel_rfl) (fun _ _ _ h => h) rfl (fun W _ => by kernel_rfl) (by assumption) ?_
     try simp only [Act.put, List.setIfInBounds_toArray, List.set_cons_succ, List.set_cons_zero]
     refine held_take 3 (.int .i64 ((0 : Nat) : Int)) rfl (by kernel_rfl) (fun _ _ _ h => h) rfl (fun W hS => exec_loadB rfl rfl (Agg.Blk.one (P := Tryz.prog) hS.2.2 1 rfl Tryz.underlying35 rfl).now) (by assumption) ?_
     try simp only [Act.put, List.setIfInBounds_toArray, List.set_cons_succ, List.set_cons_zero]
     refine held_take 4 (.bool false) rfl (by kernel_rfl) (fun _ _ _ h => h) rfl (fun W _ => by kernel_rfl) (by assumption) ?_
     try simp only [Act.put, List.setIfInBounds_toArray, List.set_cons_succ, List.set_cons_zero]
     refine held_take 5 (.bool false) rfl (by kernel_rfl) (fun _ _ _ h => h) rfl (fun W _ => by kernel_rfl) (by assumption) ?_
     try simp only [Act.put, List.setIfInBounds_toArray, List.set_cons_succ, List.set_cons_zero]
     refine held_take 6 (.agg (ndC x)) rfl (by kernel_rfl) (fun _ _ _ h => h) rfl (fun W hS => exec_loadB rfl rfl (NdL.of_blk hS.2.1).all.now) (by assumption) ?_
     try simp only [Act.put, List.setIfInBounds_toArray, List.set_cons_succ, List.set_cons_zero]
     refine held_one 7 rfl (by kernel_rfl) ?_
     refine Agg.step_callW rfl 34 _ _ rfl #[.agg (ndC x)] (by simp [Act.eval]) (fun W => HEK.out _ W) ?_
     refine (rright_any _ t hmz w5 HND5.out).mono ?_
     rintro e w6 ⟨rfl, hx⟩
     rw [HRT.out]
     have hS6 : SliceOf EB w6 v b ∧ Blk w6 g5 26 (ndC x) ∧ Blk w6 gc 61 (cuC vv 0) := ⟨SliceOf.below hS5.1 hx, hS5.2.1.below hx, hS5.2.2.below hx⟩
     have HND6 := Lib.hid (HND5.out.below hx)
     have HR6 := Lib.hid (HR5.out.below hx)
     have HO6 := Lib.hid (HO5.out.below hx)
     have HX6 := Lib.hid (belowThen HX5.out (Nat.le_refl _) hx)
     clear hx hS5
     refine ⟨_, rfl, hS6, ?_⟩
     try simp only [Act.put, List.setIfInBounds_toArray, List.set_cons_succ, List.set_cons_zero]
     refine held_take 8 (.bool false) rfl (by kernel_rfl) (fun _ _ _ h => h) rfl (fun W _ => by kernel_rfl) (by assumption) ?_
     try simp only [Act.put, List.setIfInBounds_toArray, List.set_cons_succ, List.set_cons_zero]
     refine held_take 9 (.bool false) rfl (by kernel_rfl) (fun _ _ _ h => h) rfl (fun W _ => by kernel_rfl) (by assumption) ?_
     try simp only [Act.put, List.setIfInBounds_toArray, List.set_cons_succ, List.set_cons_zero]
     refine held_take 10 (.bool false) rfl (by kernel_rfl) (fun _ _ _ h => h) rfl (fun W _ => by kernel_rfl) (by assumption) ?_
     try simp only [Act.put, List.setIfInBounds_toArray, List.set_cons_succ, List.set_cons_zero]
     refine held_take 11 (.agg (ndC x)) rfl (by kernel_rfl) (fun _ _ _ h => h) rfl (fun W hS => exec_loadB rfl rfl (NdL.of_blk hS.2.1).all.now) (by assumption) ?_
     try simp only [Act.put, List.setIfInBounds_toArray, List.set_cons_succ, List.set_cons_zero]
     refine held_take 14 (v) rfl (by kernel_rfl) (fun _ _ _ h => h) rfl (fun W _ => by kernel_rfl) (by assumption) ?_
     try simp only [Act.put, List.setIfInBounds_toArray, List.set_cons_succ, List.set_cons_zero]
     refine held_take 15 (.string ⟨b.toArray⟩) rfl (by kernel_rfl) (fun _ _ _ h => h) rfl (fun W hS => exec_toStrB rfl rfl hS.1) (by assumption) ?_
     try simp only [Act.put, List.setIfInBounds_toArray, List.set_cons_succ, List.set_cons_zero]
     refine held_one 12 rfl (by kernel_rfl) ?_
     refine Agg.step_callW rfl 4 _ _ rfl #[.agg (ndC x)] (by simp [Act.eval]) (fun W => HEB.out _ W) ?_
     refine (rbytes_any (count t) t (Nat.le_refl _) HOK.out hpl _ w6 HND6.out).mono ?_
     rintro e w7 ⟨v9, rfl, ho9, hx⟩
     have HP7 := Lib.hid ho9.slice
     have hS7 : SliceOf EB w7 v b ∧ Blk w7 g5 26 (ndC x) ∧ Blk w7 gc 61 (cuC vv 0) := ⟨SliceOf.below hS6.1 hx, hS6.2.1.below hx, hS6.2.2.below hx⟩
     have HND7 := Lib.hid (HND6.out.below hx)
     have HR7 := Lib.hid (HR6.out.below hx)
     have HO7 := Lib.hid (HO6.out.below hx)
     have HX7 := Lib.hid (belowThen HX6.out (Nat.le_refl _) hx)
     clear hx ho9 hS6
     refine ⟨_, rfl, hS7, ?_⟩
     try simp only [Act.put, List.setIfInBounds_toArray, List.set_cons_succ, List.set_cons_zero]
     refine held_one 13 rfl (by kernel_rfl) ?_
     refine Agg.step_valW rfl (exec_toStrB rfl rfl HP7.out) ?_
     refine ⟨hS7, ?_⟩
     try simp only [Act.put, List.setIfInBounds_toArray, List.set_cons_succ, List.set_cons_zero]
     refine held_take 16 (.bool false) rfl (by kernel_rfl) (fun _ _ _ h => h) rfl (fun W _ => exec_neqSb rfl rfl rfl HPB.out) (by assumption) ?_
     try simp only [Act.put, List.setIfInBounds_toArray, List.set_cons_succ, List.set_cons_zero]
     refine held_take 17 (.bool false) rfl (by kernel_rfl) (fun _ _ _ h => h) rfl (fun W _ => by kernel_rfl) (by assumption) ?_
     try simp only [Act.put, List.setIfInBounds_toArray, List.set_cons_succ, List.set_cons_zero]
     refine held_end (by kernel_rfl) ?_
     go_wp2_with (first | (with_reducible refine wpList_loadL (NdL.of_blk hS7.2.1).all rfl _ rfl rfl ?_) | (refine Agg.wpList_put rfl rfl 26 _ _ rfl g2 (ndC x) (ndC ndZ) rfl rfl HR7.out (nd_info _) rfl (ndC_one _) ?_; intro wf hb hx hs9 hk; have ho9 := Only.of_eq (S := (· = g2)) hx hs9 hk rfl; have HF := Lib.hid hb; have HXF := Lib.hid (HX7.out.trans (ho9.below (B := w.heap.size) HX7.out.size (fun i hi => by subst hi; exact HG2.out))); have HOF := Lib.hid ((OwnN.otherB HO7.out ho9 (fun j hj e => by have h1 := HR2.out.lt; have e : j = g2 := e; omega)).lower HX2.out.size); clear hb hx hs9 hk ho9))
     exact post_row_tmp rfl rfl rfl HF.out nd_under rfl (nd_info _) rfl (by first | exact ⟨x, by rw [HE.out.1]; rfl, by rw [HE.out.2]; exact HOF.out, HXF.out⟩ | exact ⟨x.1, x.2.1.1, x.2.1.2, x.2.2.1, x.2.2.2, by rw [HE.out.1]; rfl, by rw [HE.out.2]; exact HOF.out, HXF.out⟩)
    ·have HPB := Lib.hid (show (!decide (packB t = b)) = true by simp [hpb])
     have HE := Lib.hid (open9_bad HL.out (.inr (.inr (by rw [HRN.out]; exact hpb))))
     clear hpb
     try simp only [Act.put, List.setIfInBounds_toArray, List.set_cons_succ, List.set_cons_zero]
     obtain ⟨w5, hw5⟩ : ∃ W, W = w4.drew := ⟨_, rfl⟩
     have hd5 : Below w4.heap.size w4 w5 := by rw [hw5]; exact (Below.refl _ _).drew
     have hS5 : SliceOf EB w5 v b ∧ Blk w5 g5 26 (ndC x) ∧ Blk w5 gc 61 (cuC vv 0) := ⟨SliceOf.below HVB4.out hd5, HN4.out.below hd5, HV4.out.blk.below hd5⟩
     have HND5 := Lib.hid (HND4.out.below hd5)
     have HR5 := Lib.hid (HR4.out.below hd5)
     have HO5 := Lib.hid (HO4.out.below hd5)
     have HX5 := Lib.hid (belowThen HX4.out (Nat.le_refl _) hd5)
     refine wp_region_held_drew (S := fun W => SliceOf EB W v b ∧ Blk W g5 26 (ndC x) ∧ Blk W gc 61 (cuC vv 0)) (by kernel_rfl) (by rw [← hw5]; exact hS5) (fun hHeld => ?_)
     rw [← hw5] at hHeld ⊢
     clear hw5 hd5 hHeld
     refine held_take 0 (.pointer (some ⟨gc, 0, none⟩)) rfl (by kernel_rfl) (fun _ _ _ h => h) rfl (fun W _ => by kernel_rfl) (by assumption) ?_
     try simp only [Act.put, List.setIfInBounds_toArray, List.set_cons_succ, List.set_cons_zero]
     refine held_take 1 (.pointer (some ⟨gc, 0, none⟩)) rfl (by kernel_rfl) (fun _ _ _ h => h) rfl (fun W _ => by kernel_rfl) (by assumption) ?_
     try simp only [Act.put, List.setIfInBounds_toArray, List.set_cons_succ, List.set_cons_zero]
     refine held_take 2 (.pointer (some ⟨gc, 1, none⟩)) rfl (by kernel_rfl) (fun _ _ _ h => h) rfl (fun W _ => by kernel_rfl) (by assumption) ?_
     try simp only [Act.put, List.setIfInBounds_toArray, List.set_cons_succ, List.set_cons_zero]
     refine held_take 3 (.int .i64 ((0 : Nat) : Int)) rfl (by kernel_rfl) (fun _ _ _ h => h) rfl (fun W hS => exec_loadB rfl rfl (Agg.Blk.one (P := Tryz.prog) hS.2.2 1 rfl Tryz.underlying35 rfl).now) (by assumption) ?_
     try simp only [Act.put, List.setIfInBounds_toArray, List.set_cons_succ, List.set_cons_zero]
     refine held_take 4 (.bool false) rfl (by kernel_rfl) (fun _ _ _ h => h) rfl (fun W _ => by kernel_rfl) (by assumption) ?_
     try simp only [Act.put, List.setIfInBounds_toArray, List.set_cons_succ, List.set_cons_zero]
     refine held_take 5 (.bool false) rfl (by kernel_rfl) (fun _ _ _ h => h) rfl (fun W _ => by kernel_rfl) (by assumption) ?_
     try simp only [Act.put, List.setIfInBounds_toArray, List.set_cons_succ, List.set_cons_zero]
     refine held_take 6 (.agg (ndC x)) rfl (by kernel_rfl) (fun _ _ _ h => h) rfl (fun W hS => exec_loadB rfl rfl (NdL.of_blk hS.2.1).all.now) (by assumption) ?_
     try simp only [Act.put, List.setIfInBounds_toArray, List.set_cons_succ, List.set_cons_zero]
     refine held_one 7 rfl (by kernel_rfl) ?_
     refine Agg.step_callW rfl 34 _ _ rfl #[.agg (ndC x)] (by simp [Act.eval]) (fun W => HEK.out _ W) ?_
     refine (rright_any _ t hmz w5 HND5.out).mono ?_
     rintro e w6 ⟨rfl, hx⟩
     rw [HRT.out]
     have hS6 : SliceOf EB w6 v b ∧ Blk w6 g5 26 (ndC x) ∧ Blk w6 gc 61 (cuC vv 0) := ⟨SliceOf.below hS5.1 hx, hS5.2.1.below hx, hS5.2.2.below hx⟩
     have HND6 := Lib.hid (HND5.out.below hx)
     have HR6 := Lib.hid (HR5.out.below hx)
     have HO6 := Lib.hid (HO5.out.below hx)
     have HX6 := Lib.hid (belowThen HX5.out (Nat.le_refl _) hx)
     clear hx hS5
     refine ⟨_, rfl, hS6, ?_⟩
     try simp only [Act.put, List.setIfInBounds_toArray, List.set_cons_succ, List.set_cons_zero]
     refine held_take 8 (.bool false) rfl (by kernel_rfl) (fun _ _ _ h => h) rfl (fun W _ => by kernel_rfl) (by assumption) ?_
     try simp only [Act.put, List.setIfInBounds_toArray, List.set_cons_succ, List.set_cons_zero]
     refine held_take 9 (.bool false) rfl (by kernel_rfl) (fun _ _ _ h => h) rfl (fun W _ => by kernel_rfl) (by assumption) ?_
     try simp only [Act.put, List.setIfInBounds_toArray, List.set_cons_succ, List.set_cons_zero]
     refine held_take 10 (.bool false) rfl (by kernel_rfl) (fun _ _ _ h => h) rfl (fun W _ => by kernel_rfl) (by assumption) ?_
     try simp only [Act.put, List.setIfInBounds_toArray, List.set_cons_succ, List.set_cons_zero]
     refine held_take 11 (.agg (ndC x)) rfl (by kernel_rfl) (fun _ _ _ h => h) rfl (fun W hS => exec_loadB rfl rfl (NdL.of_blk hS.2.1).all.now) (by assumption) ?_
     try simp only [Act.put, List.setIfInBounds_toArray, List.set_cons_succ, List.set_cons_zero]
     refine held_take 14 (v) rfl (by kernel_rfl) (fun _ _ _ h => h) rfl (fun W _ => by kernel_rfl) (by assumption) ?_
     try simp only [Act.put, List.setIfInBounds_toArray, List.set_cons_succ, List.set_cons_zero]
     refine held_take 15 (.string ⟨b.toArray⟩) rfl (by kernel_rfl) (fun _ _ _ h => h) rfl (fun W hS => exec_toStrB rfl rfl hS.1) (by assumption) ?_
     try simp only [Act.put, List.setIfInBounds_toArray, List.set_cons_succ, List.set_cons_zero]
     refine held_one 12 rfl (by kernel_rfl) ?_
     refine Agg.step_callW rfl 4 _ _ rfl #[.agg (ndC x)] (by simp [Act.eval]) (fun W => HEB.out _ W) ?_
     refine (rbytes_any (count t) t (Nat.le_refl _) HOK.out hpl _ w6 HND6.out).mono ?_
     rintro e w7 ⟨v9, rfl, ho9, hx⟩
     have HP7 := Lib.hid ho9.slice
     have hS7 : SliceOf EB w7 v b ∧ Blk w7 g5 26 (ndC x) ∧ Blk w7 gc 61 (cuC vv 0) := ⟨SliceOf.below hS6.1 hx, hS6.2.1.below hx, hS6.2.2.below hx⟩
     have HND7 := Lib.hid (HND6.out.below hx)
     have HR7 := Lib.hid (HR6.out.below hx)
     have HO7 := Lib.hid (HO6.out.below hx)
     have HX7 := Lib.hid (belowThen HX6.out (Nat.le_refl _) hx)
     clear hx ho9 hS6
     refine ⟨_, rfl, hS7, ?_⟩
     try simp only [Act.put, List.setIfInBounds_toArray, List.set_cons_succ, List.set_cons_zero]
     refine held_one 13 rfl (by kernel_rfl) ?_
     refine Agg.step_valW rfl (exec_toStrB rfl rfl HP7.out) ?_
     refine ⟨hS7, ?_⟩
     try simp only [Act.put, List.setIfInBounds_toArray, List.set_cons_succ, List.set_cons_zero]
     refine held_take 16 (.bool true) rfl (by kernel_rfl) (fun _ _ _ h => h) rfl (fun W _ => exec_neqSb rfl rfl rfl HPB.out) (by assumption) ?_
     try simp only [Act.put, List.setIfInBounds_toArray, List.set_cons_succ, List.set_cons_zero]
     refine held_take 17 (.bool true) rfl (by kernel_rfl) (fun _ _ _ h => h) rfl (fun W _ => by kernel_rfl) (by assumption) ?_
     try simp only [Act.put, List.setIfInBounds_toArray, List.set_cons_succ, List.set_cons_zero]
     refine held_end (by kernel_rfl) ?_
     go_wp2_with (first | (with_reducible refine wpList_build0 26 rfl (by kernel_rfl) (.agg (ndC ndZ)) nd_build0 ?_) | (refine Agg.wpList_put rfl rfl 26 _ _ rfl g2 (ndC ndZ) (ndC ndZ) rfl rfl HR7.out (nd_info _) rfl (ndC_one _) ?_; intro wf hb hx hs9 hk; have ho9 := Only.of_eq (S := (· = g2)) hx hs9 hk rfl; have HF := Lib.hid hb; have HXF := Lib.hid (HX7.out.trans (ho9.below (B := w.heap.size) HX7.out.size (fun i hi => by subst hi; exact HG2.out))); clear hb hx hs9 hk ho9))
     exact post_row_tmp rfl rfl rfl HF.out nd_under rfl (nd_info _) rfl (by first | exact ⟨ndZ, by rw [(HE.out).1]; rfl, by rw [(HE.out).2]; exact ownN_zero _ _, HXF.out⟩ | exact ⟨ndZ.1, ndZ.2.1.1, ndZ.2.1.2, ndZ.2.2.1, ndZ.2.2.2, by rw [(HE.out).1]; rfl, by rw [(HE.out).2]; exact ownN_zero _ _, HXF.out⟩)
end Go.Proofs.YtfiadgdinhmgbaaGreatDoor
