/- tree.step, tree.walk: the iterator over a tree's nodes. -/
import Derived.Test.YtfiadgdinhmgbaaDoorHAY
import Derived.Test.YtfiadgdinhmgbaaDoorHAZ
import Derived.Test.YtfiadgdinhmgbaaDoorHAM
import Derived.Test.YtfiadgdinhmgbaaDoorHAG
import Derived.Test.YtfiadgdinhmgbaaDoorHAD
import Derived.Test.YtfiadgdinhmgbaaDoorHAP
import Derived.Test.YtfiadgdinhmgbaaDoorHAO
namespace Go.Agg
open Go.RowKit
section
variable {F : Fence} {n : Nat} {P : Program} {ops : Array Oper} {rest : List Oper} {o o2 : Oper} {a : Act} {w w' : World} {Q : Exit → Act → World → Prop}
theorem exec_catS {t u : TypeId} {x y : Operand} {s r : List UInt8} (ho : o.op = .binOp .add t x y u) (hx : a.eval x = .string ⟨s.toArray⟩) (hy : a.eval y = .string ⟨r.toArray⟩) (hl : s.length + r.length ≤ 9223372036854775807) : (execOp a.eval o).run P w = .ok (.value (.string ⟨(s ++ r).toArray⟩)) w := by
 have h1 := bytes_size s
 have h2 := bytes_size r
 have h3 : ¬ ((((⟨s.toArray⟩ : ByteArray).size + (⟨r.toArray⟩ : ByteArray).size : Nat) : Int) > IntKind.i64.max) := by rw [h1, h2]; simp only [IntKind.max, IntKind.bits]; omega
 simp only [execOp, ho, hx, hy]
 simp only [binOp, Op.stringOp, if_neg h3, bytes_append]
 first | rfl | simp
theorem wpListIn_box (hF : ∀ f, F.fn f) (hg : o.guard = none) (ty : TypeId) (x : Operand) (ho : o.op = .box ty x) (cs : Array Value) (hx : a.eval x = .agg cs)
  (h : ∀ g w', Blk w' g ty cs → Below w.heap.size w w' → w.heap.size ≤ g → wpListIn F n P ops Q rest (a.put o.dst (.pointer (some ⟨g, 0, none⟩))) w') : wpListIn F n P ops Q (o :: rest) a w :=
 wpListIn_valR hF (by simp [Region.wanted, hg]) (by unfold Oper.plainB; rw [ho]) (by simp [execOp, ho, hx, Instr.box, newVar, newRow, Value.cells]) (h _ _ (Blk.new w ty cs) ((Below.refl _ _).alloc (Nat.le_refl _) _) (Nat.le_refl _))
theorem wpListIn_catS (hF : ∀ f, F.fn f) (hw : Region.wanted o (yielded ops a.tmps) = true) {t u : TypeId} {x y : Operand} (s r q : List UInt8) (ho : o.op = .binOp .add t x y u) (hx : a.eval x = .string ⟨s.toArray⟩) (hy : a.eval y = .string ⟨r.toArray⟩) (hl : s.length + r.length ≤ 9223372036854775807) (hq : s ++ r = q)
  (h : wpListIn F n P ops Q rest (a.put o.dst (.string ⟨q.toArray⟩)) w) : wpListIn F n P ops Q (o :: rest) a w := by
 subst hq
 exact wpListIn_valR hF hw (by unfold Oper.plainB; rw [ho]) (exec_catS ho hx hy hl) h
theorem wpListIn_neqS (hF : ∀ f, F.fn f) (hw : Region.wanted o (yielded ops a.tmps) = true) {t u : TypeId} {x y : Operand} (s r : List UInt8) (ho : o.op = .binOp .neq t x y u) (hx : a.eval x = .string ⟨s.toArray⟩) (hy : a.eval y = .string ⟨r.toArray⟩) (b : Bool) (hb : (!decide (s = r)) = b)
  (h : wpListIn F n P ops Q rest (a.put o.dst (.bool b)) w) : wpListIn F n P ops Q (o :: rest) a w := by
 subst hb
 exact wpListIn_valR hF hw (by unfold Oper.plainB; rw [ho]) (exec_neqS ho hx hy) h
theorem wpListIn_newB (hF : ∀ f, F.fn f) (hg : o.guard = none) (hg2 : o2.guard = none) (hd2 : o2.dst = none) (ty : TypeId) (d k : Tmp) (ho : o.op = .alloc ty) (hd : o.dst = some d) (ho2 : o2.op = .store ty (.tmp d) (.tmp k)) (hkd : Nat.beq d k = false) (z cs : Array Value)
  (hz : (P.info? ty).map (·.zero) = some (some (.agg z))) (hzs : z.size = cs.size) (hi : (P.info? ty).map (·.size) = some cs.size) (h1 : cs.all (·.oneCell') = true)
  (hy : a.eval (.tmp k) = .agg cs) (hsz : d < a.tmps.size)
  (h : ∀ g w', Blk w' g ty cs → Below w.heap.size w w' → w.heap.size ≤ g → wpListIn F n P ops Q rest (a.put o.dst (.pointer (some ⟨g, 0, none⟩))) w') : wpListIn F n P ops Q (o :: o2 :: rest) a w :=
 wpListIn_new hF hg hg2 hd2 ty d k ho hd ho2 hkd z cs hz hzs hi h1 hy hsz fun w' hb e => h _ w' hb (by rw [e]; exact below_new (Below.refl _ _) (Nat.le_refl _) _ _ _) (Nat.le_refl _)
end
end Go.Agg
namespace Go.Proofs.YtfiadgdinhmgbaaDoor
open Go.RowKit Go.Shelf Pl Go.Agg Go.Tr
attribute [local go_sem] Oper.semAt_some
abbrev WE : Type := List UInt8 × NdV
def encW (e : WE) : Array Value := #[.string ⟨e.1.toArray⟩, .agg (ndC e.2)]
def NxW (w0 : World) (L : List (List UInt8 × T)) (pre : List WE) (x : WE) : Prop := ∃ z, L[pre.length]? = some z ∧ x.1 = z.1 ∧ NodeV w0 x.2 z.2
def KpN (m : Nat) (A B : World) : Prop := Below m A B ∧ ∀ (g : Nat) (t : TypeId) (cs : Array Value) (fr : Nat × Nat), (t = 26 ∨ t = 51) → A.heap[g]? = some (.cells cs t fr) → B.heap[g]? = some (.cells cs t fr)
theorem KpN.trans {m : Nat} {A B C : World} (h : KpN m A B) (k : KpN m B C) : KpN m A C := ⟨h.1.trans k.1, fun g _ _ _ ht hg => k.2 g _ _ _ ht (h.2 g _ _ _ ht hg)⟩
theorem KpN.below {m : Nat} {A B : World} (hm : m ≤ A.heap.size) (h : Below A.heap.size A B) : KpN m A B := ⟨h.mono hm, fun g _ _ _ _ hg => (h.block g (heap_lt hg)).trans hg⟩
theorem KpN.node {m g : Nat} {A B : World} {cs : Array Value} (h : KpN m A B) (hb : Blk A g 26 cs) : Blk B g 26 cs := h.2 g _ _ _ (.inl rfl) hb
theorem KpN.kid {m g : Nat} {A B : World} {cs : Array Value} (h : KpN m A B) (hb : Blk A g 51 cs) : Blk B g 51 cs := h.2 g _ _ _ (.inr rfl) hb
theorem KpN.put {m l : Nat} {W : World} {o : Obj} (hm : m ≤ l) (o' : Obj) (hl : W.heap[l]? = some o) (ho : o.isCells = false) : KpN m W (W.putObj l o') :=
 ⟨below_putObj hm _, fun g _ _ _ _ hg => (World.putObj_heap_other (by rintro rfl; rw [hl] at hg; cases hg; cases ho)).trans hg⟩
structure WkJ (w0 : World) (lp : Nat) (L : List (List UInt8 × T)) (J : List WE → World → Prop) : Prop where
 low : ∀ pre A, J pre A → Below w0.heap.size w0 A
 new : ∀ pre A B, J pre A → Below A.heap.size A B → J pre B
 round : ∀ pre x A, J pre A → NxW w0 L pre x → YieldAt Fence.wide 1 Tryd.prog lp (encW x) A fun e B => e = .returned (.bool true) ∧ J (pre ++ [x]) B ∧ KpN w0.heap.size A B
theorem drop_app {α : Type} {l r : List α} {n : Nat} {a b : List α} (h : l.drop n = a ++ b) (hn : n + a.length = r.length) : l.drop r.length = b := by
 rw [← hn, ← List.drop_drop, h, List.drop_left]
set_option maxRecDepth 100000 in
set_option maxHeartbeats 8000000 in
theorem step_any {w0 : World} {lp : Nat} {L : List (List UInt8 × T)} {J : List WE → World → Prop} (hJ : WkJ w0 lp L J) : ∀ (N : Nat) (t : T) (_ : count t ≤ N) (_ : ok t = true) (s : List UInt8) (_ : s.length + 30 * deep t ≤ 100000) (x : NdV) (_ : NodeV w0 x t) (pre : List WE) (r : List (List UInt8 × T)) (_ : L.drop pre.length = walkB s t ++ r) (W : World) (_ : J pre W),
  Calls Tryd.prog 75 #[.string ⟨s.toArray⟩, .agg (ndC x), .func (.yield lp) #[] #[]] W fun e W' => e = .returned (.bool true) ∧ ∃ xs : List WE, xs.length = (walkB s t).length ∧ J (pre ++ xs) W' ∧ KpN w0.heap.size W W' := by
 intro N
 induction N with
 | zero => intro t h; have := count_pos t; omega
 | succ N ih =>
 intro t hc hok s hsl x hx pre r hL W hj
 have HX := Lib.hid hx
 obtain ⟨k, b, l⟩ := t
 obtain ⟨hk, hby, ks, hsl0, hkv⟩ := hx
 have hkl := hkv.len
 have hlk : ∀ W', Below w0.heap.size w0 W' → ∀ W2, (Builtin.len_ #[24] 3 #[x.2.2.1]).run Tryd.prog W2 = .ok (.int .i64 (l.length : Int)) W2 := fun W' h W2 => by
  have := kds_len (hsl0.below h) W2
  rwa [hkl] at this
 have hlk := hlk W (hJ.low _ _ hj)
 have hll : l.length ≤ 200 := by
  have ha : alone (.mk k b l) = true := by simp only [ok, Bool.and_eq_true] at hok; exact hok.1
  rcases alone_cases ha with ⟨_, _, h200, _⟩ | ⟨_, _, _, _, rfl⟩
  ·exact h200
  ·simp
 have HC := Lib.hid (fun x (hx : x ∈ l) => show count x.2 ≤ N by have h1 := countL_mem hx; simp only [count] at hc; omega)
 have HOK := Lib.hid (fun x (hx : x ∈ l) => show ok x.2 = true from okL_mem (kids_ok hok) hx)
 have HNM := Lib.hid (fun x (hx : x ∈ l) => show isName x.1 = true by
  have ha : alone (.mk k b l) = true := by simp only [ok, Bool.and_eq_true] at hok; exact hok.1
  rcases alone_cases ha with ⟨_, _, _, hn⟩ | ⟨_, _, _, _, rfl⟩
  ·exact named_all _ _ hn x hx
  ·cases hx)
 have HD := Lib.hid (fun x (hx : x ∈ l) => show s.length + 1 + 24 + 30 * deep x.2 ≤ 100000 by have := deepL_mem hx; simp only [deep] at hsl; omega)
 have HSLN := Lib.hid (show s.length ≤ 100000 by omega)
 have HIH := Lib.hid ih
 have HKV := Lib.hid hkv
 have HSL := Lib.hid hsl0
 have HJJ := Lib.hid hJ
 have HL := Lib.hid hL
 have HJ0 := Lib.hid hj
 clear ih hc hok hsl hby hsl0 hkv hJ hL hj hk hkl
 refine (callsIn_wide (n := 2)).1 ?_
 refine callsIn_of_wp Tryd.func75 rfl trivial ?_ rfl
 simp only [Tryd.ntmps75, List.size_toArray, List.length_cons, List.length_nil, Nat.reduceAdd, Nat.reduceSub, Array.replicate_succ, Array.replicate_zero, List.push_toArray, List.append_toArray, List.nil_append, List.cons_append]
 have HNX := Lib.hid (show NxW w0 L pre (s, x) from ⟨(s, .mk k b l), by
  have h := HL.out
  have h2 : (L.drop pre.length)[0]? = some (s, .mk k b l) := by rw [h]; simp [walkB]
  rwa [List.getElem?_drop, Nat.add_zero] at h2, rfl, HX.out⟩)
 gi_wp2_with (first | (refine Agg.wpListIn_box wide_all rfl 26 _ rfl (ndC x) rfl ?_; intro g4 w1 hb hx hg; have HB1 := Lib.hid hb; have HX1 := Lib.hid hx; obtain ⟨fn, tmps, assign, body, hy, hR⟩ := HJJ.out.round pre (s, x) w1 (HJJ.out.new _ _ _ HJ0.out hx) HNX.out; dsimp only [encW] at hy; have HR := Lib.hid hR; clear hb hx hg hR) | (with_reducible refine wpListIn_loadL (NdL.of_blk HB1.out).all wide_all rfl _ rfl rfl ?_))
 refine HR.out.mono ?_
 rintro e w2 ⟨rfl, hj2, hk2⟩
 have HJ2 := Lib.hid hj2
 have HB2 := Lib.hid (hk2.node HB1.out)
 have HK2 := Lib.hid ((KpN.below (HJJ.out.low _ _ HJ0.out).size HX1.out).trans hk2)
 clear hj2 hk2 hy
 gi_wp2_with (first | (with_reducible refine wpListIn_loadL (NdL.of_blk HB2.out).kids wide_all rfl _ rfl rfl ?_))
 have hdr : L.drop (pre.length + 1) = walkBL s l ++ r := by
  have h := HL.out
  rw [walkB, List.cons_append] at h
  rw [← List.drop_drop, h, List.drop_one, List.tail_cons]
 gi_loopw [18] (fun i wr => ∃ (q : Nat) (xs : List WE), q ≤ l.length ∧ i = .int .i64 (q : Int) ∧ L.drop (pre.length + xs.length) = walkBL s (l.drop q) ++ r ∧ xs.length + (walkBL s (l.drop q)).length = (walkB s (.mk k b l)).length ∧ J (pre ++ xs) wr ∧ Blk wr g4 26 (ndC x) ∧ KpN w0.heap.size W wr) (fun i _ => l.length - (intOf i).toNat)
 case atStart => exact ⟨0, [(s, x)], by omega, rfl, hdr, by simp [walkB]; omega, HJ2.out, HB2.out, HK2.out⟩
 case round =>
  obtain ⟨q, xs, hq, rfl, hld, hln, hj, hb, hk⟩ := hrel
  have HLD := Lib.hid hld
  have HLN := Lib.hid hln
  have HJ := Lib.hid hj
  have HB := Lib.hid hb
  have HK := Lib.hid hk
  clear hld hln hj hb hk hdr HJ2 HB2 HK2
  by_cases hlt : q < l.length
  ·have hlq : decide ((q : Int) < (l.length : Int)) = true := by simp; omega
   obtain ⟨z, hzk⟩ : ∃ z, l[q]? = some z := ⟨_, List.getElem?_eq_getElem hlt⟩
   obtain ⟨y, hyk, hyz, hyn⟩ := HKV.out.at_ q z hzk
   obtain ⟨p, hadr, hle⟩ := kid_at (HSL.out.below (HJJ.out.low _ _ HJ.out)) q y hyk
   have HE := Lib.hid hle.all
   have hin := List.mem_of_getElem? hzk
   obtain ⟨n, u⟩ := z
   obtain ⟨n', nd⟩ := y
   obtain rfl : n' = n := hyz
   have HZ := Lib.hid hzk
   have hnl : n'.length ≤ 24 := name_len (HNM.out _ hin)
   have hcl := HC.out _ hin
   have hokl := HOK.out _ hin
   have hdl : s.length + 1 + 24 + 30 * deep u ≤ 100000 := HD.out _ hin
   have hsl9 := HSLN.out
   have HCALL := Lib.hid (HIH.out u hcl hokl (under s n') (by have := under_length s n'; omega) nd hyn (pre ++ xs) (walkBL s (l.drop (q + 1)) ++ r) (by rw [List.length_append, HLD.out, walkBL_snoc hzk, List.append_assoc]))
   clear hle hyk hyn hzk hin hcl hokl hdl
   by_cases hs : s = []
   ·have hne : (!decide (s = ([] : List UInt8))) = false := by simp [hs]
    have HU := Lib.hid (show under s n' = n' by simp [under, hs])
    rw [HU.out] at HCALL
    clear hs
    gi_wp2_with (first | (with_reducible refine wpListIn_loadL HE.out wide_all rfl _ rfl rfl ?_) | (refine Agg.wpListIn_newB wide_all rfl rfl rfl 51 8 21 rfl rfl rfl (by decide) (kdC kdZ) (kdC (n', nd)) kd_zero rfl (kd_info _) (kdC_one _) rfl (by first | (simp; done) | simp [Act.put]) ?_; intro g8 w3 hb hx hg; have HN3 := Lib.hid hb; have HB3 := Lib.hid (HB.out.below hx); have HJ3 := Lib.hid (HJJ.out.new _ _ _ HJ.out hx); have HK3 := Lib.hid (HK.out.trans (KpN.below (HJJ.out.low _ _ HJ.out).size hx)); clear hb hx hg) | (with_reducible refine wpListIn_loadL (KdL.of_blk HN3.out).name wide_all rfl _ rfl rfl ?_) | (with_reducible refine wpListIn_loadL (kid_node HN3.out) wide_all rfl _ rfl rfl ?_) | (refine Agg.wpListIn_neqS wide_all rfl s [] rfl rfl rfl false hne ?_))
    refine ⟨trivial, CallsIn.mono (callsIn_wide.2 (HCALL.out w3 HJ3.out)) ?_⟩
    rintro e w4 ⟨rfl, ys, hyl, hj4, hk4⟩
    have HJ4 := Lib.hid hj4
    have HB4 := Lib.hid (hk4.node HB3.out)
    have HK4 := Lib.hid (HK3.out.trans hk4)
    have HYL := Lib.hid hyl
    clear hj4 hk4 hyl
    gi_wp2_with fail
    go_roundw
    case rel =>
     have h1 := HYL.out
     have h2 := HLN.out
     have h3 := HLD.out
     rw [walkBL_snoc HZ.out] at h2 h3
     dsimp only at h2 h3
     rw [HU.out] at h2 h3
     rw [List.length_append] at h2
     refine ⟨q + 1, xs ++ ys, by omega, by go_num, ?_, by rw [List.length_append]; omega, by rw [← List.append_assoc]; exact HJ4.out, HB4.out, HK4.out⟩
     rw [List.length_append, ← Nat.add_assoc, ← List.drop_drop, h3, List.append_assoc, HYL.out, List.drop_left]
    case measure => simp [intOf] <;> omega
   ·have hne : (!decide (s = ([] : List UInt8))) = true := by simp [hs]
    have HU := Lib.hid (show (s ++ [47]) ++ n' = under s n' by simp [under, hs])
    clear hs
    gi_wp2_with (first | (with_reducible refine wpListIn_loadL HE.out wide_all rfl _ rfl rfl ?_) | (refine Agg.wpListIn_newB wide_all rfl rfl rfl 51 8 21 rfl rfl rfl (by decide) (kdC kdZ) (kdC (n', nd)) kd_zero rfl (kd_info _) (kdC_one _) rfl (by first | (simp; done) | simp [Act.put]) ?_; intro g8 w3 hb hx hg; have HN3 := Lib.hid hb; have HB3 := Lib.hid (HB.out.below hx); have HJ3 := Lib.hid (HJJ.out.new _ _ _ HJ.out hx); have HK3 := Lib.hid (HK.out.trans (KpN.below (HJJ.out.low _ _ HJ.out).size hx)); clear hb hx hg) | (with_reducible refine wpListIn_loadL (KdL.of_blk HN3.out).name wide_all rfl _ rfl rfl ?_) | (with_reducible refine wpListIn_loadL (kid_node HN3.out) wide_all rfl _ rfl rfl ?_) | (refine Agg.wpListIn_neqS wide_all rfl s [] rfl rfl rfl true hne ?_) | (refine Agg.wpListIn_catS wide_all rfl s [47] (s ++ [47]) rfl rfl rfl (by simp; omega) rfl ?_) | (refine Agg.wpListIn_catS wide_all rfl (s ++ [47]) n' (under s n') rfl rfl rfl (by simp; omega) HU.out ?_))
    refine ⟨trivial, CallsIn.mono (callsIn_wide.2 (HCALL.out w3 HJ3.out)) ?_⟩
    rintro e w4 ⟨rfl, ys, hyl, hj4, hk4⟩
    have HJ4 := Lib.hid hj4
    have HB4 := Lib.hid (hk4.node HB3.out)
    have HK4 := Lib.hid (HK3.out.trans hk4)
    have HYL := Lib.hid hyl
    clear hj4 hk4 hyl
    gi_wp2_with fail
    go_roundw
    case rel =>
     have h1 := HYL.out
     have h2 := HLN.out
     have h3 := HLD.out
     rw [walkBL_snoc HZ.out] at h2 h3
     dsimp only at h2 h3
     rw [List.length_append] at h2
     refine ⟨q + 1, xs ++ ys, by omega, by go_num, ?_, by rw [List.length_append]; omega, by rw [← List.append_assoc]; exact HJ4.out, HB4.out, HK4.out⟩
     rw [List.length_append, ← Nat.add_assoc, ← List.drop_drop, h3, List.append_assoc, HYL.out, List.drop_left]
    case measure => simp [intOf] <;> omega
  ·obtain rfl : q = l.length := by omega
   have hlq : decide (((l.length : Nat) : Int) < ((l.length : Nat) : Int)) = false := by simp
   have HLN9 := Lib.hid (show xs.length = (walkB s (.mk k b l)).length by have := HLN.out; rw [List.drop_length] at this; simpa [walkBL] using this)
   gi_wp2_with fail
   go_ret
   exact ⟨rfl, xs, HLN9.out, HJ.out, HK.out⟩
theorem walk_seq {w0 w : World} (hw : Below w0.heap.size w0 w) (g1 : Nat) (t : T) (hok : ok t = true) (hd : deep t ≤ 8) (x : NdV) (hx : NodeV w0 x t) (hb : Blk w g1 26 (ndC x)) (Kp : World → World → Prop) (hKp : ∀ A B, Kp A B → KpN w0.heap.size A B)
  (hlow : w0.heap.size ≤ w.heap.size) : SeqW Tryd.prog 74 #[.pointer (some ⟨g1, 0, none⟩)] encW Kp (NxW w0 (walkB [] t)) (fun xs => xs.length = (walkB [] t).length) w := by
 intro lp J W hbW hsz hJT hY h0
 have hWk : WkJ w0 lp (walkB [] t) (fun pre A => J pre A ∧ Below w0.heap.size w0 A) := ⟨fun pre A h => h.2, fun pre A B h hb => ⟨hJT pre A B h.1 hb, h.2.trans (hb.mono h.2.size)⟩, fun pre x A h hn => by
  obtain ⟨fn, tmps, assign, body, hy, hR⟩ := hY pre x A h.1 hn
  refine ⟨fn, tmps, assign, body, hy, hR.mono ?_⟩
  rintro e B ⟨rfl, hj, hk⟩
  exact ⟨rfl, ⟨hj, h.2.trans (hKp _ _ hk).1⟩, hKp _ _ hk⟩⟩
 have hlow' : Below w0.heap.size w0 W := hw.trans (hbW.mono hlow)
 have HST := Lib.hid (step_any hWk (count t) t (Nat.le_refl _) hok [] (by simp; omega) x hx [] [] (by simp) W ⟨h0, hlow'⟩)
 have HB := Lib.hid (hb.below hbW)
 clear hb hx hWk hY h0 hJT
 refine (callsIn_wide (n := 2)).1 ?_
 refine callsIn_of_wp Tryd.func74 rfl trivial ?_ rfl
 simp only [Tryd.ntmps74, List.size_toArray, List.length_cons, List.length_nil, Nat.reduceAdd, Nat.reduceSub, Array.replicate_succ, Array.replicate_zero, List.push_toArray, List.append_toArray, List.nil_append, List.cons_append]
 gi_wp2_with (first | (with_reducible refine wpListIn_loadL (NdL.of_blk HB.out).all wide_all rfl _ rfl rfl ?_))
 refine ⟨trivial, CallsIn.mono (callsIn_wide.2 HST.out) ?_⟩
 rintro e w2 ⟨rfl, xs, hl, hj, _⟩
 rw [List.nil_append] at hj
 have HJ := Lib.hid hj.1
 have HXL := Lib.hid hl
 clear hj hl HST
 gi_wp2_with fail
 go_end0
 exact ⟨⟨_, rfl⟩, xs, HXL.out, HJ.out⟩
end Go.Proofs.YtfiadgdinhmgbaaDoor
