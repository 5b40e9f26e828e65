/- Find, Put and Take as chapter 8 asks; TreePuts' law. No program in sight. (Several texts in one.) -/
import Derived.Test.YtfiadgdinhmgbaaGreatDoorEAN
import Derived.Test.YtfiadgdinhmgbaaGreatDoorEAO
import Derived.Test.YtfiadgdinhmgbaaGreatDoorEAJ
import Derived.Test.YtfiadgdinhmgbaaGreatDoorEAH
/-! pack.joined, put, packed, Pack, Size. -/
namespace Go.Tr
open Go.Proofs.YtfiadgdinhmgbaaGreatDoor Go.Agg
theorem packL_append (l m : List K) : packL (l ++ m) = packL l ++ packL m := by
 induction l with
 | nil => simp [packL]
 | cons x l ih => obtain ⟨n, t⟩ := x; simp only [List.cons_append, packL, ih, List.append_assoc]
theorem packL_takeLen (l : List K) (k : Nat) : (packL (l.take k)).length ≤ (packL l).length := by
 have e : packL l = packL (l.take k) ++ packL (l.drop k) := by rw [← packL_append, List.take_append_drop]
 rw [e, List.length_append]; omega
theorem packL_kidLen {l : List K} {k : Nat} {x : K} (h : l[k]? = some x) : (packL (l.take k)).length + (encT x.1).length + (packB x.2).length ≤ (packL l).length := by
 have h1 := packL_takeLen l (k + 1)
 rw [packL_take h] at h1
 simp only [List.length_append] at h1
 omega
end Go.Tr
namespace Go.Agg
open Go.RowKit
variable {P : Program} {α : Type} {E : Elem P α} {ops : Array Oper} {rest : List Oper} {o : Oper} {a : Act} {w : World} {Q : Exit → Act → World → Prop}
theorem wpList_slice2W (hg : o.guard = none) (x y : Operand) (ho : o.op = .buildSlice E.st 2 #[(0, x), (1, y)]) (vx vy : α) (hx : a.eval x = E.val vx) (hy : a.eval y = E.val vy)
  (h : ∀ v' w', SliceOf E w' v' [vx, vy] → (∀ b, v'.ownBlock = some b → w.heap.size ≤ b) → Below w.heap.size w w' → wpList P ops Q rest (a.put o.dst v') w') : wpList P ops Q (o :: rest) a w :=
 wpList_val hg (v := .slice (some ⟨w.heap.size, 0, none⟩) 2 2) (w' := w.alloc (.cells ((E.val vx).cells ++ (E.val vy).cells) E.ty)) (by simp [execOp, ho, hx, hy, run_slice_two])
  (h _ _ (slice_of_block2 (Blk.new w E.ty _)) (fun b hb => by
   obtain rfl : w.heap.size = b := by simpa [Value.ownBlock] using hb
   exact Nat.le_refl _) ((Below.refl _ _).alloc (Nat.le_refl _) _))
end Go.Agg
namespace Go.Proofs.YtfiadgdinhmgbaaGreatDoor
open Go.RowKit Pl Go.Agg Go.Tr
set_option maxRecDepth 100000 in
set_option maxHeartbeats 4000000 in
theorem joined_any (g k : Nat) (v x : Value) (s : SV) (l b : List UInt8) (w : World) (hk : k ≤ 1099511627776) (hb : b.length ≤ 2097152) (hl : l.length ≤ 1048576) (hx : Off EBB g w v x [s]) (hs : Off EB g w v s.1 l) (hm : MkV g w v b) :
  Calls Tryz.prog 99 #[.pointer (some ⟨g, 0, none⟩), .int .i64 (k : Int), x] w fun e w' => (∃ r, e = .returned r) ∧ ∃ v', MkV g w' v' (b ++ (encN k ++ encT l)) ∧ MkStep g w w' v v' := by
 have HX := Lib.hid hx
 have HS := Lib.hid hs
 have HM := Lib.hid hm
 clear hx hs hm
 go_enter Tryz.func99, Tryz.ntmps99
 go_wp2_with (first | (refine wpList_slice1 (E := EI) (base := w.heap.size) rfl _ rfl k rfl (Nat.le_refl _) ?_; intro xs w1 hxs hx1; have HXS := Lib.hid hxs; have HX1 := Lib.hid hx1; clear hxs hx1))
 have hlt := fun i hi => HM.out.lt i hi
 refine (num_any g v xs [k] b w1 (by simp; omega) (by simp) (by omega) (Off.behind (w0 := w) HXS.out.slice (fun i hi => (HXS.out.block i hi).1) HM.out.blk.lt hlt) (HM.out.below HX1.out)).mono ?_
 rintro e w2 ⟨rfl, v2, hm2, hs2⟩
 have HS2 := Lib.hid ((MkStep.of_below HX1.out).trans hs2)
 have HM2 := Lib.hid (show MkV g w2 v2 (b ++ encN k) by simpa using hm2)
 have h6 := encN_len (n := k) hk
 clear hm2 hs2 hlt
 go_wp2_with fail
 refine (text_any g v2 x s l (b ++ encN k) w2 (by rw [List.length_append]; omega) hl (HX.out.step HS2.out) (HS.out.step HS2.out) HM2.out).mono ?_
 rintro e w3 ⟨rfl, v3, hm3, hs3⟩
 have HM3 := Lib.hid (show MkV g w3 v3 (b ++ (encN k ++ encT l)) by rw [← List.append_assoc]; exact hm3)
 have HS3 := Lib.hid (HS2.out.trans hs3)
 clear hm3 hs3
 go_wp2_with fail
 go_end0
 exact ⟨⟨_, rfl⟩, v3, HM3.out, HS3.out⟩

set_option maxRecDepth 100000 in
set_option maxHeartbeats 16000000 in
theorem put_any : ∀ (N : Nat) (t : T) (_ : count t ≤ N) (_ : ok t = true) (vn v : Value) (g : Nat) (b : List UInt8) (w0 w : World) (_ : b.length + (packB t).length ≤ 1000000) (_ : NodeAt w0 vn t) (_ : Below w0.heap.size w0 w) (_ : w0.heap.size ≤ g) (_ : MkV g w v b),
  Calls Tryz.prog 55 #[.pointer (some ⟨g, 0, none⟩), vn] w fun e w' => (∃ r, e = .returned r) ∧ ∃ v', MkV g w' v' (b ++ packB t) ∧ MkStep g w w' v v' := by
 intro N
 induction N with
 | zero => intro t h; have := count_pos t; omega
 | succ N ih =>
 intro t hc hok vn v g b w0 w hlen hv hx0 hg hm
 obtain ⟨x, rfl, hx⟩ := hv
 obtain ⟨k, bs, l⟩ := t
 obtain ⟨hk, hby, ks, hsl, hkv⟩ := hx
 obtain ⟨xk, xb, xs⟩ := x
 obtain rfl : xk = k := hk
 have hkl := hkv.len
 have hlk := fun W => kds_len (hsl.below hx0) W
 rw [hkl] at hlk
 have ha : alone (.mk xk bs l) = true := by simp only [ok, Bool.and_eq_true] at hok; exact hok.1
 have hkok := kids_ok hok
 rw [show (T.mk xk bs l).kids = l from rfl] at hkok
 have HX0 := Lib.hid hx0
 have HKV := Lib.hid hkv
 have HSL := Lib.hid hsl
 have HBY := Lib.hid hby
 have HM := Lib.hid hm
 have HIH := Lib.hid ih
 have HC := Lib.hid hc
 have HKO := Lib.hid hkok
 clear hx0 hkv hby hsl hm ih hc hkok hok
 rcases alone_cases ha with ⟨rfl, rfl, h200, hnm⟩ | ⟨h4, h1, h3, h2048, rfl⟩
 ·have HNM := Lib.hid hnm
  have HLN := Lib.hid (show (b ++ (encN 4 ++ encN l.length)).length + (packL l).length ≤ 1000000 by simp only [packB, if_true, List.length_append] at hlen ⊢; omega)
  have HLB := Lib.hid (show b.length ≤ 1000000 by omega)
  have e4 := encN_len (n := 4) (by omega)
  have eL := encN_len (n := l.length) (by omega)
  have hlb := HLB.out
  clear hnm hlen ha
  go_enter Tryz.func55, Tryz.ntmps55
  go_wp2_with (first | (refine wpList_box rfl 26 _ rfl (ndC (4, xb, xs)) rfl ?_; intro g3 w1 hb hx hg3; have HB1 := Lib.hid hb; have HX1 := Lib.hid hx; have HM1 := Lib.hid (HM.out.below hx); have HG3 := Lib.hid (show g3 ≠ g from fun e => by have := HM.out.blk.lt; omega); clear hb hx hg3) | (with_reducible refine wpList_loadL (NdL.of_blk HB1.out).kind rfl _ rfl rfl ?_) | (with_reducible refine wpList_loadL (NdL.of_blk HB1.out).kids rfl _ rfl rfl ?_) | (refine Agg.wpList_slice2W (E := EI) rfl _ _ rfl 4 l.length rfl rfl ?_; intro ys w2 hys hyb hx; have HYS := Lib.hid hys; have HYB := Lib.hid hyb; have HX2 := Lib.hid (HX1.out.trans (hx.mono HX1.out.size)); have HB2 := Lib.hid (HB1.out.below hx); have HM2 := Lib.hid (HM1.out.below hx); clear hys hyb hx))
  have hlt := fun i hi => HM1.out.lt i hi
  refine (num_any g v ys [4, l.length] b w2 (by simp; omega) (by simp) (by omega) (Off.behind (w0 := w1) HYS.out HYB.out HM1.out.blk.lt hlt) HM2.out).mono ?_
  rintro e w3 ⟨rfl, v3, hm3, hs3⟩
  have HS3 := Lib.hid ((MkStep.of_below HX2.out).trans hs3)
  have HM3 := Lib.hid (show MkV g w3 v3 (b ++ (encN 4 ++ encN l.length)) by simpa using hm3)
  have HB3 := Lib.hid (mk_keeps HM2.out HB2.out (by decide) hs3 HG3.out)
  have HPK := Lib.hid (show b ++ packB (.mk 4 [] l) = (b ++ (encN 4 ++ encN l.length)) ++ packL l by simp [packB])
  clear hm3 hs3 hlt
  obtain ⟨hd, hhd⟩ : ∃ hd, b ++ (encN 4 ++ encN l.length) = hd := ⟨_, rfl⟩
  rw [hhd] at HM3 HPK HLN
  have hhl := HLN.out
  clear hhd
  go_wp2_with (first | (with_reducible refine wpList_loadL (NdL.of_blk HB3.out).kids rfl _ rfl rfl ?_))
  go_loopw [31] (fun i wr => ∃ (q : Nat) (vq : Value), q ≤ l.length ∧ i = .int .i64 (q : Int) ∧ MkV g wr vq (hd ++ packL (l.take q)) ∧ MkStep g w wr v vq) (fun i _ => l.length - (intOf i).toNat)
  case atStart => exact ⟨0, v3, by omega, rfl, by simpa [packL] using HM3.out, HS3.out⟩
  case round =>
   obtain ⟨wr1, rfl⟩ : ∃ y : World, y = wr := ⟨_, rfl⟩
   obtain ⟨q, vq, hq, rfl, hmq, hsq⟩ := hrel
   have HMO := HM
   clear HM
   have HM := Lib.hid hmq
   have HS := Lib.hid hsq
   clear hmq hsq
   by_cases hlt : q < l.length
   ·have hlq : decide ((q : Int) < (l.length : Int)) = true := by simp; omega
    obtain ⟨z, hzk⟩ : ∃ z, l[q]? = some z := ⟨_, List.getElem?_eq_getElem hlt⟩
    obtain ⟨y, hyk, hyz, hyn⟩ := HKV.out.at_ q z hzk
    have HWr := Lib.hid (show Below w0.heap.size w0 wr1 from HX0.out.trans ((HMO.out.stepBelow HS.out).mono hg))
    obtain ⟨p, hadr, hle⟩ := kid_at (HSL.out.below HWr.out) q y hyk
    have HE := Lib.hid hle.all
    have HYZ := Lib.hid hyz
    have HYN := Lib.hid hyn
    have HT := Lib.hid (packL_take hzk)
    have hkl2 := packL_kidLen hzk
    have hcz : count z.2 ≤ N := by
     have h1 := countL_mem (List.mem_of_getElem? hzk)
     have h2 := HC.out
     simp only [count] at h2
     omega
    have hoz := okL_mem HKO.out (List.mem_of_getElem? hzk)
    have hnz := name_le (named_all l none HNM.out z (List.mem_of_getElem? hzk))
    clear hle hyk hyn hyz hzk
    go_wp2_with (first | (with_reducible refine wpList_loadL HE.out rfl _ rfl rfl ?_) | (refine wpList_new rfl rfl rfl 28 5 34 rfl rfl rfl (by decide) (kdC kdZ) (kdC y) kd_zero rfl (kd_info y) (kdC_one y) rfl (by first | (simp; done) | simp [Act.put]) ?_; intro g5 wa hb hx hg; have HYB := Lib.hid hb; have HMa := Lib.hid (HM.out.below hx); have HSa := Lib.hid (HS.out.trans (MkStep.of_below hx)); have HN5 := Lib.hid (show g5 ≠ g from fun e => by have := HM.out.blk.lt; omega); clear hb hx hg) | (with_reducible refine wpList_loadL (KdL.ofB HYB.out).name rfl _ rfl rfl ?_) | (with_reducible refine wpList_toBytes y.1 _ rfl rfl rfl ?_; intro y2 wb hn hx; obtain ⟨sv, hsv⟩ := bytes_svB hn.slice; have HNb := Lib.hid hn; have HSV := Lib.hid hsv; have HMb := Lib.hid (HMa.out.below hx); have HSb := Lib.hid (HSa.out.trans (MkStep.of_below hx)); have HYb := Lib.hid (HYB.out.below hx); clear hn hx hsv) | (rw [HSV.out]; refine wpList_slice1 (E := EBB) (base := wb.heap.size) rfl _ rfl sv rfl (Nat.le_refl _) ?_; intro ys wc hys hx; have HYS2 := Lib.hid hys; have HMc := Lib.hid (HMb.out.below hx); have HSc := Lib.hid (HSb.out.trans (MkStep.of_below hx)); have HYc := Lib.hid (HYb.out.below hx); have HNc := Lib.hid (SliceOf.below (show SliceOf EB wb sv.1 y.1 by rw [← HSV.out]; exact HNb.out.slice) hx); have HXbc := Lib.hid hx; clear hys hx))
    have HKC := Lib.hid (kid_node HYc.out)
    have hb4 : (hd ++ packL (l.take q)).length ≤ 4194304 := by rw [List.length_append]; omega
    have hyl : y.1.length ≤ 1048576 := by rw [HYZ.out]; omega
    refine (text_any g vq ys sv y.1 (hd ++ packL (l.take q)) wc hb4 hyl (Off.behind (w0 := wb) HYS2.out.slice (fun i hi => (HYS2.out.block i hi).1) HMb.out.blk.lt HMb.out.lt) (Off.behind (w0 := wa) HNc.out (by have h := newBytes_ownB HNb.out; rw [HSV.out] at h; exact h) HMa.out.blk.lt HMa.out.lt) HMc.out).mono ?_
    rintro e wd ⟨rfl, vd, hmd, hsd⟩
    have HMd := Lib.hid (show MkV g wd vd (hd ++ packL (l.take q) ++ encT z.1) by rw [← HYZ.out]; exact hmd)
    have HSd := Lib.hid (HSc.out.trans hsd)
    have HYd := Lib.hid (kid_node (mk_keeps HMc.out HYc.out (by decide) hsd HN5.out))
    clear hmd hsd hb4 hyl HKC
    go_wp2_with (first | (with_reducible refine wpList_loadL HYd.out rfl _ rfl rfl ?_))
    have HWd := Lib.hid (show Below w0.heap.size w0 wd from HX0.out.trans ((HMO.out.stepBelow HSd.out).mono hg))
    refine (HIH.out z.2 hcz hoz (.agg (ndC y.2)) vd g (hd ++ packL (l.take q) ++ encT z.1) w0 wd (by simp only [List.length_append]; omega) ⟨y.2, rfl, HYN.out⟩ HWd.out hg HMd.out).mono ?_
    rintro e we ⟨⟨r, rfl⟩, ve, hme, hse⟩
    have HMe := Lib.hid (show MkV g we ve (hd ++ packL (l.take (q + 1))) by rw [HT.out]; simpa [List.append_assoc] using hme)
    have HSe := Lib.hid (HSd.out.trans hse)
    clear hme hse
    go_wp2_with fail
    go_roundw
    case rel => exact ⟨q + 1, ve, by omega, by go_num, HMe.out, HSe.out⟩
    case measure => simp [intOf]; omega
   ·obtain rfl : q = l.length := by omega
    have hlq : decide (((l.length : Nat) : Int) < ((l.length : Nat) : Int)) = false := by simp
    have HMF := Lib.hid (show MkV g wr1 vq (b ++ packB (.mk 4 [] l)) by have h := HM.out; rw [List.take_length] at h; rw [HPK.out]; exact h)
    go_wp2_with fail
    go_end0
    exact ⟨⟨_, rfl⟩, vq, HMF.out, HS.out⟩
 ·have hlenb := hlen
  have HPK := Lib.hid (show b ++ packB (.mk xk bs []) = b ++ (encN xk.toNat ++ encT bs) by simp [packB, h4])
  have HLB := Lib.hid (show b.length ≤ 1000000 by omega)
  have hkk : ((xk.toNat : Nat) : Int) = xk := by omega
  have hlb := HLB.out
  have fin : ∀ (K : Nat) (_ : (K : Int) = xk) (_ : K ≤ 3) (g3 : Nat) (w1 w2 : World) (ys : Value) (_ : Below w.heap.size w w1) (_ : MkV g w1 v b) (_ : Below w1.heap.size w1 w2) (_ : SliceOf EBB w2 ys [xb]) (_ : ∀ i, ys.ownBlock = some i → w1.heap.size ≤ i),
    Calls Tryz.prog 99 #[.pointer (some ⟨g, 0, none⟩), .int .i64 (K : Int), ys] w2 fun e w' => (∃ r, e = .returned r) ∧ ∃ v', MkV g w' v' (b ++ packB (.mk xk bs [])) ∧ MkStep g w w' v v' := fun K hK hK3 g3 w1 w2 ys h1 h2 h3 h4' h5 => by
   have hxb : Off EB g w2 v xb.1 bs := Off.before (w0 := w0) HBY.out (HX0.out.trans ((h1.trans (h3.mono h1.size)).mono HX0.out.size)) hg (fun i hi => Nat.le_trans hg (HM.out.ge i hi))
   refine (joined_any g K v ys xb bs b w2 (by omega) (by omega) (by omega) (Off.behind (w0 := w1) h4' h5 h2.blk.lt h2.lt) hxb (h2.below h3)).mono ?_
   rintro e w' ⟨hr, v', hm, hs⟩
   refine ⟨hr, v', ?_, (MkStep.of_below (h1.trans (h3.mono h1.size))).trans hs⟩
   rw [HPK.out, show xk.toNat = K by omega]
   exact hm
  have FIN := Lib.hid fin
  clear fin hkk ha hlen hlenb
  have hk3 : xk = 1 ∨ xk = 2 ∨ xk = 3 := by omega
  rcases hk3 with rfl | rfl | rfl
  ·go_enter Tryz.func55, Tryz.ntmps55
   go_wp2_with (first | (refine wpList_box rfl 26 _ rfl (ndC (1, xb, xs)) rfl ?_; intro g3 w1 hb hx hg3; have HB1 := Lib.hid hb; have HX1 := Lib.hid hx; have HM1 := Lib.hid (HM.out.below hx); clear hb hx hg3) | (with_reducible refine wpList_loadL (NdL.of_blk HB1.out).kind rfl _ rfl rfl ?_) | (with_reducible refine wpList_loadL (NdL.of_blk HB1.out).bytes rfl _ rfl rfl ?_) | (refine wpList_slice1 (E := EBB) (base := w1.heap.size) rfl _ rfl xb rfl (Nat.le_refl _) ?_; intro ys w2 hys hx; have HYS := Lib.hid hys; have HX2 := Lib.hid hx; clear hys hx))
   refine (show Calls Tryz.prog 99 #[.pointer (some ⟨g, 0, none⟩), .int .i64 1, ys] w2 _ from FIN.out 1 rfl (by omega) g3 w1 w2 ys HX1.out HM1.out HX2.out HYS.out.slice (fun i hi => (HYS.out.block i hi).1)).mono ?_
   rintro e w3 ⟨⟨r, rfl⟩, v3, hm, hs⟩
   have HM3 := Lib.hid hm
   have HS3 := Lib.hid hs
   clear hm hs
   go_wp2_with fail
   refine bodyPost_ret (results_none rfl _ _ _) rfl ?_
   exact ⟨⟨_, rfl⟩, v3, HM3.out, HS3.out⟩
  ·go_enter Tryz.func55, Tryz.ntmps55
   go_wp2_with (first | (refine wpList_box rfl 26 _ rfl (ndC (2, xb, xs)) rfl ?_; intro g3 w1 hb hx hg3; have HB1 := Lib.hid hb; have HX1 := Lib.hid hx; have HM1 := Lib.hid (HM.out.below hx); clear hb hx hg3) | (with_reducible refine wpList_loadL (NdL.of_blk HB1.out).kind rfl _ rfl rfl ?_) | (with_reducible refine wpList_loadL (NdL.of_blk HB1.out).bytes rfl _ rfl rfl ?_) | (refine wpList_slice1 (E := EBB) (base := w1.heap.size) rfl _ rfl xb rfl (Nat.le_refl _) ?_; intro ys w2 hys hx; have HYS := Lib.hid hys; have HX2 := Lib.hid hx; clear hys hx))
   refine (show Calls Tryz.prog 99 #[.pointer (some ⟨g, 0, none⟩), .int .i64 2, ys] w2 _ from FIN.out 2 rfl (by omega) g3 w1 w2 ys HX1.out HM1.out HX2.out HYS.out.slice (fun i hi => (HYS.out.block i hi).1)).mono ?_
   rintro e w3 ⟨⟨r, rfl⟩, v3, hm, hs⟩
   have HM3 := Lib.hid hm
   have HS3 := Lib.hid hs
   clear hm hs
   go_wp2_with fail
   refine bodyPost_ret (results_none rfl _ _ _) rfl ?_
   exact ⟨⟨_, rfl⟩, v3, HM3.out, HS3.out⟩
  ·go_enter Tryz.func55, Tryz.ntmps55
   go_wp2_with (first | (refine wpList_box rfl 26 _ rfl (ndC (3, xb, xs)) rfl ?_; intro g3 w1 hb hx hg3; have HB1 := Lib.hid hb; have HX1 := Lib.hid hx; have HM1 := Lib.hid (HM.out.below hx); clear hb hx hg3) | (with_reducible refine wpList_loadL (NdL.of_blk HB1.out).kind rfl _ rfl rfl ?_) | (with_reducible refine wpList_loadL (NdL.of_blk HB1.out).bytes rfl _ rfl rfl ?_) | (refine wpList_slice1 (E := EBB) (base := w1.heap.size) rfl _ rfl xb rfl (Nat.le_refl _) ?_; intro ys w2 hys hx; have HYS := Lib.hid hys; have HX2 := Lib.hid hx; clear hys hx))
   refine (show Calls Tryz.prog 99 #[.pointer (some ⟨g, 0, none⟩), .int .i64 3, ys] w2 _ from FIN.out 3 rfl (by omega) g3 w1 w2 ys HX1.out HM1.out HX2.out HYS.out.slice (fun i hi => (HYS.out.block i hi).1)).mono ?_
   rintro e w3 ⟨⟨r, rfl⟩, v3, hm, hs⟩
   have HM3 := Lib.hid hm
   have HS3 := Lib.hid hs
   clear hm hs
   go_wp2_with fail
   refine bodyPost_ret (results_none rfl _ _ _) rfl ?_
   exact ⟨⟨_, rfl⟩, v3, HM3.out, HS3.out⟩
theorem mkZ : (Tryz.prog.info? 109).map (·.zero) = some (some (.agg (mkC (.slice none 0 0)))) := by kernel_rfl
set_option maxRecDepth 100000 in
set_option maxHeartbeats 4000000 in
theorem packed_any (vn : Value) (t : T) (w : World) (hok : ok t = true) (hl : (packB t).length ≤ 1000000) (hv : NodeAt w vn t) :
  Calls Tryz.prog 36 #[vn] w fun e w' => ∃ v', e = .returned v' ∧ Own EB w.heap.size w' v' (packB t) ∧ Below w.heap.size w w' := by
 obtain ⟨x, rfl, hx⟩ := hv
 have HN := Lib.hid hx
 clear hx
 go_enter Tryz.func36, Tryz.ntmps36
 go_wp2_with (first | (refine wpList_box rfl 26 _ rfl (ndC x) rfl ?_; intro g1 w1 hb hx hg; have HB1 := Lib.hid hb; have HX1 := Lib.hid hx; clear hb hx hg) | (refine Agg.wpList_zero rfl 109 rfl (mkC (.slice none 0 0)) mkZ ?_; intro g2 w2 hb hx hg; have HM2 := Lib.hid (MkV.mk hb (Own.nil _ _ _)); have HB2 := Lib.hid (HB1.out.below hx); have HX2 := Lib.hid (belowThen HX1.out (Nat.le_refl _) hx); have HG2 := Lib.hid (Nat.le_trans HX1.out.size hg); clear hb hx hg) | (with_reducible refine wpList_loadL (NdL.of_blk HB2.out).all rfl _ rfl rfl ?_))
 refine (put_any (count t) t (Nat.le_refl _) hok (.agg (ndC x)) _ g2 [] w w2 (by simpa using hl) ⟨x, rfl, HN.out⟩ HX2.out HG2.out HM2.out).mono ?_
 rintro e w3 ⟨⟨r, rfl⟩, v3, hm, hs⟩
 have HM3 := Lib.hid (show MkV g2 w3 v3 (packB t) from hm)
 have HX3 := Lib.hid (HX2.out.trans ((HM2.out.stepBelow hs).mono HG2.out))
 clear hm hs
 go_wp2_with fail
 refine (done_any g2 v3 _ w3 (by omega) HM3.out).mono ?_
 rintro e w4 ⟨v4, rfl, ho, hx⟩
 have HO4 := Lib.hid (ho.lower HX3.out.size)
 have HX4 := Lib.hid (belowThen HX3.out (Nat.le_refl _) hx)
 clear ho hx
 go_wp2_with fail
 go_ret
 exact ⟨v4, rfl, HO4.out, HX4.out⟩
theorem right_okT {t : T} (h : right t = true) : ok t = true := (look_parts h).1
set_option maxRecDepth 100000 in
set_option maxHeartbeats 4000000 in
theorem pack_any (vn : Value) (t : T) (w : World) (hv : NodeAt w vn t) :
  Calls Tryz.prog 22 #[vn] w fun e w' => ∃ v', e = .returned (.tuple #[v', .int .i64 (pkE t : Int)]) ∧ Own EB w.heap.size w' v' (pkB t) ∧ Below w.heap.size w w' := by
 obtain ⟨x, rfl, hx⟩ := hv
 have HN := Lib.hid hx
 clear hx
 go_enter Tryz.func22, Tryz.ntmps22
 go_wp2_with (first | (refine wpList_box rfl 26 _ rfl (ndC x) rfl ?_; intro g1 w1 hb hx hg; have HB1 := Lib.hid hb; have HX1 := Lib.hid hx; clear hb hx hg) | (with_reducible refine wpList_loadL (NdL.of_blk HB1.out).all rfl _ rfl rfl ?_))
 refine (tright_any (.agg (ndC x)) t w1 ⟨x, rfl, HN.out.below HX1.out⟩).mono ?_
 rintro e w2 ⟨rfl, hx⟩
 have HB2 := Lib.hid (HB1.out.below hx)
 have HX2 := Lib.hid (belowThen HX1.out (Nat.le_refl _) hx)
 clear hx
 cases hr : right t with
 | false =>
  have HE := Lib.hid (show pkE t = 2 ∧ pkB t = [] by simp [pkE, pkB, hr])
  clear hr
  go_wp2_with fail
  go_ret2
  exact ⟨_, by rw [HE.out.1]; rfl, by rw [HE.out.2]; exact Own.nil _ _ _, HX2.out⟩
 | true =>
  have hpl := right_pack hr
  have HOK := Lib.hid (right_okT hr)
  have HRR := Lib.hid hr
  clear hr
  go_wp2_with (first | (with_reducible refine wpList_loadL (NdL.of_blk HB2.out).all rfl _ rfl rfl ?_))
  refine (packed_any (.agg (ndC x)) t w2 HOK.out (by omega) ⟨x, rfl, HN.out.below HX2.out⟩).mono ?_
  rintro e w3 ⟨v3, rfl, ho, hx⟩
  have hlv := fun W => bytes_len ho.slice W
  have HO3 := Lib.hid (ho.lower HX2.out.size)
  have HX3 := Lib.hid (belowThen HX2.out (Nat.le_refl _) hx)
  clear ho hx
  by_cases hc : 4096 < (packB t).length
  ·have hd : decide (4096 < ((packB t).length : Int)) = true := by simp; omega
   have HE := Lib.hid (show pkE t = 3 ∧ pkB t = [] by
    have : ¬ (packB t).length ≤ 4096 := by omega
    simp [pkE, pkB, HRR.out, this])
   go_wp2_with fail
   go_ret2
   exact ⟨_, by rw [HE.out.1]; rfl, by rw [HE.out.2]; exact Own.nil _ _ _, HX3.out⟩
  ·have hd : decide (4096 < ((packB t).length : Int)) = false := by simp; omega
   have HE := Lib.hid (show pkE t = 0 ∧ pkB t = packB t by
    have : (packB t).length ≤ 4096 := by omega
    simp [pkE, pkB, HRR.out, this])
   go_wp2_with fail
   go_ret2
   exact ⟨v3, by rw [HE.out.1]; rfl, by rw [HE.out.2]; exact HO3.out, HX3.out⟩
set_option maxRecDepth 100000 in
set_option maxHeartbeats 4000000 in
theorem psize_any (vn : Value) (t : T) (w : World) (hv : NodeAt w vn t) :
  Calls Tryz.prog 24 #[vn] w fun e w' => e = .returned (.int .i64 (pkN t : Int)) ∧ Below w.heap.size w w' := by
 obtain ⟨x, rfl, hx⟩ := hv
 have HN := Lib.hid hx
 clear hx
 go_enter Tryz.func24, Tryz.ntmps24
 go_wp2_with (first | (refine wpList_box rfl 26 _ rfl (ndC x) rfl ?_; intro g1 w1 hb hx hg; have HB1 := Lib.hid hb; have HX1 := Lib.hid hx; clear hb hx hg) | (with_reducible refine wpList_loadL (NdL.of_blk HB1.out).all rfl _ rfl rfl ?_))
 refine (tright_any (.agg (ndC x)) t w1 ⟨x, rfl, HN.out.below HX1.out⟩).mono ?_
 rintro e w2 ⟨rfl, hx⟩
 have HB2 := Lib.hid (HB1.out.below hx)
 have HX2 := Lib.hid (belowThen HX1.out (Nat.le_refl _) hx)
 clear hx
 cases hr : right t with
 | false =>
  have HE := Lib.hid (show pkN t = 0 by simp [pkN, hr])
  clear hr
  go_wp2_with fail
  go_ret
  exact ⟨by rw [HE.out]; rfl, HX2.out⟩
 | true =>
  have hpl := right_pack hr
  have HOK := Lib.hid (right_okT hr)
  have HE := Lib.hid (show pkN t = (packB t).length by simp [pkN, hr])
  clear hr
  go_wp2_with (first | (with_reducible refine wpList_loadL (NdL.of_blk HB2.out).all rfl _ rfl rfl ?_))
  refine (packed_any (.agg (ndC x)) t w2 HOK.out (by omega) ⟨x, rfl, HN.out.below HX2.out⟩).mono ?_
  rintro e w3 ⟨v3, rfl, ho, hx⟩
  have hlv := fun W => bytes_len ho.slice W
  have HX3 := Lib.hid (belowThen HX2.out (Nat.le_refl _) hx)
  clear ho hx
  go_wp2_with fail
  go_ret
  exact ⟨by rw [HE.out]; rfl, HX3.out⟩
end Go.Proofs.YtfiadgdinhmgbaaGreatDoor
/-! A right tree, of which a node is taken, is right. No program in sight. -/
namespace Go.Tr
theorem named_iff : ∀ (l : List K) (b : Option (List UInt8)), named b l = true ↔ (∀ x ∈ l, Pl.isName x.1 = true) ∧ (l.Pairwise fun x y => Op.bytesLess x.1 y.1 = true) ∧ ∀ c, b = some c → ∀ x ∈ l, Op.bytesLess c x.1 = true
 | [], b => by simp [named]
 | (n, t) :: l, b => by
  simp only [named, Bool.and_eq_true, named_iff l (some n), List.mem_cons, forall_eq_or_imp, List.pairwise_cons, Option.some.injEq, forall_eq']
  constructor
  ·rintro ⟨⟨h1, h2⟩, h3, h4, h5⟩
   refine ⟨⟨h1, h3⟩, ⟨fun x hx => h5 x hx, h4⟩, ?_⟩
   rintro c rfl
   exact ⟨h2, fun x hx => bytesLess_trans _ _ _ h2 (h5 x hx)⟩
  ·rintro ⟨⟨h1, h3⟩, ⟨h5, h4⟩, h6⟩
   refine ⟨⟨h1, ?_⟩, h3, h4, fun x hx => h5 x hx⟩
   cases b with
   | none => rfl
   | some c => exact (h6 c rfl).1
theorem named_sub {l m : List K} (h : named none l = true) (hs : m.map (·.1) |>.Sublist (l.map (·.1))) : named none m = true := by
 rw [named_iff] at h ⊢
 obtain ⟨h1, h2, _⟩ := h
 have h3 : (l.map (·.1)).Pairwise fun x y => Op.bytesLess x y = true := List.pairwise_map.2 h2
 refine ⟨fun x hx => ?_, List.pairwise_map.1 (h3.sublist hs), fun c e => by cases e⟩
 have := hs.subset (List.mem_map_of_mem (f := (·.1)) hx)
 obtain ⟨y, hy, e⟩ := List.mem_map.1 this
 rw [← e]
 exact h1 y hy
theorem okL_iff (l : List K) : okL l = true ↔ ∀ x ∈ l, ok x.2 = true := by
 induction l with
 | nil => simp [okL]
 | cons x l ih => obtain ⟨n, t⟩ := x; simp only [okL, Bool.and_eq_true, ih, List.mem_cons, forall_eq_or_imp]
theorem countL_turn {l : List K} {n : List UInt8} {f : T → T} (h : ∀ x ∈ l, count (f x.2) ≤ count x.2) : countL (turnK l n f) ≤ countL l := by
 induction l with
 | nil => simp [turnK]
 | cons x l ih =>
  obtain ⟨m, t⟩ := x
  have h1 := h (m, t) (by simp)
  have h2 := ih (fun x hx => h x (by simp [hx]))
  simp only [turnK, List.map_cons] at h2 ⊢
  split
  ·simp only [countL] at h1 ⊢; omega
  ·simp only [countL]; omega
theorem deepL_turn {l : List K} {n : List UInt8} {f : T → T} (h : ∀ x ∈ l, deep (f x.2) ≤ deep x.2) : deepL (turnK l n f) ≤ deepL l := by
 induction l with
 | nil => simp [turnK]
 | cons x l ih =>
  obtain ⟨m, t⟩ := x
  have h1 := h (m, t) (by simp)
  have h2 := ih (fun x hx => h x (by simp [hx]))
  simp only [turnK, List.map_cons] at h2 ⊢
  split
  ·simp only [deepL] at h1 ⊢; omega
  ·simp only [deepL]; omega
theorem countL_takeK (l : List K) (n : List UInt8) : countL (takeK l n) ≤ countL l := by
 induction l with
 | nil => simp [takeK]
 | cons x l ih =>
  obtain ⟨m, t⟩ := x
  simp only [takeK, List.filter_cons] at ih ⊢
  split
  ·simp only [countL]; omega
  ·simp only [countL]; omega
theorem deepL_takeK (l : List K) (n : List UInt8) : deepL (takeK l n) ≤ deepL l := by
 induction l with
 | nil => simp [takeK]
 | cons x l ih =>
  obtain ⟨m, t⟩ := x
  simp only [takeK, List.filter_cons] at ih ⊢
  split
  ·simp only [deepL]; omega
  ·simp only [deepL]; omega
theorem turnK_names (l : List K) (n : List UInt8) (f : T → T) : (turnK l n f).map (·.1) = l.map (·.1) := by
 simp only [turnK, List.map_map]
 refine List.map_congr_left fun x _ => ?_
 simp only [Function.comp]
 split <;> simp_all
theorem alone_sub {k : Int} {b : List UInt8} {l m : List K} (h : alone (.mk k b l) = true) (hs : (m.map (·.1)).Sublist (l.map (·.1))) : alone (.mk k b m) = true := by
 have hlen : m.length ≤ l.length := by have := hs.length_le; simpa using this
 simp only [alone, Bool.or_eq_true, Bool.and_eq_true, decide_eq_true_eq, List.isEmpty_iff] at h ⊢
 rcases h with (⟨⟨h1, h2⟩, h3⟩ | ⟨⟨⟨h1, h2⟩, h4⟩, h3⟩) | ⟨⟨⟨h1, h2⟩, h3⟩, h4⟩
 ·subst h3
  exact .inl (.inl ⟨⟨h1, h2⟩, List.length_eq_zero_iff.1 (by simpa using hlen)⟩)
 ·subst h3
  exact .inl (.inr ⟨⟨⟨h1, h2⟩, h4⟩, List.length_eq_zero_iff.1 (by simpa using hlen)⟩)
 ·exact .inr ⟨⟨⟨h1, h2⟩, by omega⟩, named_sub h4 hs⟩
theorem take_ok : ∀ (ns : N) (t : T), ok t = true → ok (take t ns) = true ∧ count (take t ns) ≤ count t ∧ deep (take t ns) ≤ deep t
 | [], t, h => ⟨h, Nat.le_refl _, Nat.le_refl _⟩
 | [n], .mk k b l, h => by
  have h2 := kids_ok h
  simp only [ok, Bool.and_eq_true] at h
  rw [show (T.mk k b l).kids = l from rfl, okL_iff] at h2
  refine ⟨?_, ?_, ?_⟩
  ·show ok (.mk k b (takeK l n)) = true
   simp only [ok, Bool.and_eq_true]
   refine ⟨alone_sub h.1 (List.Sublist.map _ List.filter_sublist), ?_⟩
   rw [okL_iff]
   exact fun x hx => h2 x (List.mem_filter.1 hx).1
  ·show count (.mk k b (takeK l n)) ≤ _
   have := countL_takeK l n
   simp only [count]; omega
  ·show deep (.mk k b (takeK l n)) ≤ _
   have := deepL_takeK l n
   simp only [deep]; omega
 | n :: m :: ns, .mk k b l, h => by
  have h2 := kids_ok h
  simp only [ok, Bool.and_eq_true] at h
  rw [show (T.mk k b l).kids = l from rfl, okL_iff] at h2
  have ih : ∀ x ∈ l, ok (take x.2 (m :: ns)) = true ∧ count (take x.2 (m :: ns)) ≤ count x.2 ∧ deep (take x.2 (m :: ns)) ≤ deep x.2 := fun x hx => take_ok (m :: ns) x.2 (h2 x hx)
  refine ⟨?_, ?_, ?_⟩
  ·show ok (.mk k b (turnK l n fun y => take y (m :: ns))) = true
   simp only [ok, Bool.and_eq_true]
   refine ⟨alone_sub h.1 (by rw [turnK_names]; exact List.Sublist.refl _), ?_⟩
   rw [okL_iff]
   intro x hx
   obtain ⟨y, hy, e⟩ := List.mem_map.1 hx
   rw [← e]
   split
   ·exact (ih y hy).1
   ·exact h2 y hy
  ·show count (.mk k b (turnK l n fun y => take y (m :: ns))) ≤ _
   have := countL_turn (l := l) (n := n) (f := fun y => take y (m :: ns)) (fun x hx => (ih x hx).2.1)
   simp only [count]; omega
  ·show deep (.mk k b (turnK l n fun y => take y (m :: ns))) ≤ _
   have := deepL_turn (l := l) (n := n) (f := fun y => take y (m :: ns)) (fun x hx => (ih x hx).2.2)
   simp only [deep]; omega
theorem take_right {t : T} (ns : N) (h : right t = true) : right (take t ns) = true := by
 simp only [right, lookB, Bool.and_eq_true, decide_eq_true_eq] at h ⊢
 obtain ⟨h1, h2, h3⟩ := take_ok ns t h.1.1
 exact ⟨⟨h1, by omega⟩, by omega⟩
end Go.Tr
/-! Ways below a way. No program in sight. -/
namespace Go.Tr
theorem splitB_slash : ∀ (a s : List UInt8), splitB (a ++ (47 :: s)) = splitB a ++ splitB s
 | [], s => by simp [splitB]
 | c :: a, s => by
  have ih := splitB_slash a s
  by_cases hc : c = 47
  ·subst hc
   simp only [List.cons_append, splitB, if_true, ih, List.cons_append]
  ·simp only [List.cons_append, splitB, if_neg hc, ih]
   cases h : splitB a with
   | nil => exact absurd h (splitB_ne a)
   | cons x l => simp
theorem join_below {ns ws : N} {s : List UInt8} (hn : ∀ n ∈ ns, Pl.isName n = true) (hw : ∀ n ∈ ws, Pl.isName n = true) (hw0 : ws ≠ []) (h : joinB ns = joinB ws ++ (47 :: s)) : ∃ ms, ns = ws ++ ms ∧ ms ≠ [] ∧ joinB ms = s := by
 have hn0 : ns ≠ [] := by
  rintro rfl
  simp [joinB] at h
 have h1 := split_join ns hn0 (fun n h => name_slash (hn n h))
 have h2 := split_join ws hw0 (fun n h => name_slash (hw n h))
 rw [h, splitB_slash, h2] at h1
 exact ⟨splitB s, h1.symm, splitB_ne s, join_split s⟩
theorem below_join {ws ms : N} (hw : ws ≠ []) (hm : ms ≠ []) : joinB (ws ++ ms) = joinB ws ++ (47 :: joinB ms) := joinB_append ws ms hw hm
theorem find_below {t x y : T} {ws ms : N} (hx : find t ws = some x) (hy : find t (ws ++ ms) = some y) : find x ms = some y := by
 rw [find_append, hx] at hy
 exact hy
def begins (way w : List UInt8) : Bool := decide (w = []) || decide (way = w) || (decide (w.length < way.length) && decide (way.take (w.length + 1) = w ++ [47]))
theorem begins_iff {ns ws : N} (hn : ∀ n ∈ ns, Pl.isName n = true) (hw : ∀ n ∈ ws, Pl.isName n = true) : begins (joinB ns) (joinB ws) = true ↔ ws <+: ns := by
 simp only [begins, Bool.or_eq_true, Bool.and_eq_true, decide_eq_true_eq]
 constructor
 ·rintro ((h | h) | ⟨_, h⟩)
  ·have : ws = [] := by
    cases hws : ws with
    | nil => rfl
    | cons w l => exact absurd h (by rw [hws]; exact joinB_ne _ (by simp) (fun n hm => name_ne (hw n (by rw [hws]; exact hm))))
   subst this
   exact List.nil_prefix
  ·rw [joinB_inj hn hw h]
   exact List.prefix_refl _
  ·cases hws : ws with
   | nil => exact List.nil_prefix
   | cons w l =>
    rw [← hws]
    have h3 : joinB ns = joinB ws ++ (47 :: (joinB ns).drop ((joinB ws).length + 1)) := by
     conv => lhs; rw [← List.take_append_drop ((joinB ws).length + 1) (joinB ns), h]
     simp
    obtain ⟨ms, e, _, _⟩ := join_below hn hw (by rw [hws]; simp) h3
    exact ⟨ms, e.symm⟩
 ·rintro ⟨ms, rfl⟩
  cases hws : ws with
  | nil => exact .inl (.inl rfl)
  | cons w l =>
   rw [← hws]
   cases hms : ms with
   | nil => exact .inl (.inr (by simp))
   | cons m k =>
    rw [← hms]
    have h1 := below_join (ws := ws) (ms := ms) (by rw [hws]; simp) (by rw [hms]; simp)
    refine .inr ⟨?_, ?_⟩
    ·rw [h1]; simp
    ·rw [h1, List.take_append, List.take_of_length_le (by omega)]
     simp
end Go.Tr
/-! Find, Put and Take as chapter 8 asks; TreePuts' law. No program in sight. -/
namespace Go.Tr
def zTree : T := .mk 0 [] []
def fdE (t : T) (s : List UInt8) : Nat := if right t then (match wayN s with | none => 4 | some ws => if (find t ws).isSome then 0 else 5) else 2
def fdT (t : T) (s : List UInt8) : T := if fdE t s = 0 then (find t ((wayN s).getD [])).getD zTree else zTree
def ptE (t : T) (s : List UInt8) (x : T) : Nat := if right t && right x then (match wayN s with | none => 4 | some ws => match put t x (ws.take 1000) with | none => 6 | some p => if right p then 0 else 3) else 2
def ptT (t : T) (s : List UInt8) (x : T) : T := if ptE t s x = 0 then (put t x (((wayN s).getD []).take 1000)).getD zTree else zTree
def tkE (t : T) (s : List UInt8) : Nat := if fdE t s ≠ 0 then fdE t s else if s = [] then 5 else 0
def tkT (t : T) (s : List UInt8) : T := if tkE t s = 0 then take t ((wayN s).getD []) else zTree
theorem fdE_zero {t : T} {s : List UInt8} (h : fdE t s = 0) : right t = true ∧ ∃ ws, wayN s = some ws ∧ find t ws = some (fdT t s) := by
 have h0 := h
 unfold fdE at h
 split at h
 ·next hr =>
  refine ⟨hr, ?_⟩
  split at h
  ·cases h
  ·next ws hw =>
   split at h
   ·next hs =>
    obtain ⟨x, hx⟩ := Option.isSome_iff_exists.1 hs
    refine ⟨ws, hw, ?_⟩
    rw [fdT, if_pos h0, hw, Option.getD_some, hx, Option.getD_some]
   ·cases h
 ·cases h
theorem fdE_of {t x : T} {s : List UInt8} {ws : N} (hr : right t = true) (hw : wayN s = some ws) (hf : find t ws = some x) : fdE t s = 0 ∧ fdT t s = x := by
 have e : fdE t s = 0 := by simp [fdE, hr, hw, hf]
 exact ⟨e, by rw [fdT, if_pos e, hw, Option.getD_some, hf, Option.getD_some]⟩
theorem fdE_none {t : T} {s : List UInt8} {ws : N} (hr : right t = true) (hw : wayN s = some ws) (hf : find t ws = none) : fdE t s = 5 := by simp [fdE, hr, hw, hf]
theorem right_ok {t : T} (h : right t = true) : ok t = true := by
 simp only [right, lookB, Bool.and_eq_true] at h
 exact h.1.1
theorem right_deep {t : T} (h : right t = true) : deep t ≤ 8 := by
 simp only [right, lookB, Bool.and_eq_true, decide_eq_true_eq] at h
 omega
theorem ptE_zero {t x : T} {s : List UInt8} (h : ptE t s x = 0) : right t = true ∧ right x = true ∧ right (ptT t s x) = true ∧ ∃ ws, wayN s = some ws ∧ put t x ws = some (ptT t s x) ∧ find (ptT t s x) ws = some x := by
 have h0 := h
 unfold ptE at h
 split at h
 ·next hr =>
  simp only [Bool.and_eq_true] at hr
  split at h
  ·cases h
  ·next ws hw =>
   split at h
   ·cases h
   ·next p hp =>
    split at h
    ·next hpr =>
     have e : ptT t s x = p := by rw [ptT, if_pos h0, hw, Option.getD_some, hp, Option.getD_some]
     rw [e]
     have hf := find_put _ _ _ _ (right_ok hr.1) hp
     have hd := (find_ok _ _ _ (right_ok hpr) hf).2.2
     have hd8 := right_deep hpr
     have hx := deep_pos x
     rw [List.length_take] at hd
     have ht : ws.take 1000 = ws := List.take_of_length_le (by omega)
     rw [ht] at hp hf
     exact ⟨hr.1, hr.2, hpr, ws, hw, hp, hf⟩
    ·cases h
 ·cases h
theorem ptT_not {t x : T} {s : List UInt8} (h : ptE t s x ≠ 0) : ptT t s x = zTree := by rw [ptT, if_neg h]
theorem apart_iff {ns ws : N} (hn : ∀ n ∈ ns, Pl.isName n = true) (hw : ∀ n ∈ ws, Pl.isName n = true) : (begins (joinB ns) (joinB ws) = false ∧ begins (joinB ws) (joinB ns) = false) ↔ ¬ ws <+: ns ∧ ¬ ns <+: ws := by
 rw [← Bool.not_eq_true, ← Bool.not_eq_true, begins_iff hn hw, begins_iff hw hn]
theorem puts {t x : T} {s : List UInt8} (h : ptE t s x = 0) : fdE (ptT t s x) s = 0 ∧ fdT (ptT t s x) s = x ∧ ∀ m, begins m s = false → begins s m = false → fdE (ptT t s x) m = fdE t m ∧ fdT (ptT t s x) m = fdT t m := by
 obtain ⟨h1, h2, h3, ws, hw, hp, hf⟩ := ptE_zero h
 obtain ⟨e, hn, _⟩ := wayN_some hw
 obtain ⟨g1, g2⟩ := fdE_of h3 hw hf
 refine ⟨g1, g2, fun m hm1 hm2 => ?_⟩
 have key : ∀ ms, wayN m = some ms → find (ptT t s x) ms = find t ms := by
  intro ms hms
  obtain ⟨e', hn', _⟩ := wayN_some hms
  have := (apart_iff hn' hn).1 (by rw [e, e']; exact ⟨hm1, hm2⟩)
  exact find_put_else ws ms t x _ (right_ok h1) hp this.1 this.2
 have e1 : fdE (ptT t s x) m = fdE t m := by
  unfold fdE
  rw [if_pos h3, if_pos h1]
  cases hms : wayN m with
  | none => rfl
  | some ms => simp only [key ms hms]
 refine ⟨e1, ?_⟩
 unfold fdT
 rw [e1]
 cases hms : wayN m with
 | none => simp [fdE, hms, h1]
 | some ms => simp only [Option.getD_some, key ms hms]
theorem takes {t : T} {s : List UInt8} (h : tkE t s = 0) : right (tkT t s) = true ∧ fdE (tkT t s) s = 5 ∧ ∀ m, begins m s = false → begins s m = false → fdE (tkT t s) m = fdE t m ∧ fdT (tkT t s) m = fdT t m := by
 have h0 := h
 unfold tkE at h
 split at h
 ·next hne => exact absurd h hne
 ·next hz =>
  split at h
  ·cases h
  ·next hs =>
   have hz : fdE t s = 0 := by simpa using hz
   obtain ⟨h1, ws, hw, hf⟩ := fdE_zero hz
   obtain ⟨e, hn, hnil⟩ := wayN_some hw
   have hws : ws ≠ [] := fun e => hs (hnil.2 e)
   have et : tkT t s = take t ws := by rw [tkT, if_pos h0, hw, Option.getD_some]
   rw [et]
   have hr := take_right ws h1
   have hnone := find_take ws [] t hws
   rw [List.append_nil] at hnone
   refine ⟨hr, fdE_none hr hw hnone, fun m hm1 hm2 => ?_⟩
   have key : ∀ ms, wayN m = some ms → find (take t ws) ms = find t ms := by
    intro ms hms
    obtain ⟨e', hn', _⟩ := wayN_some hms
    have := (apart_iff hn' hn).1 (by rw [e, e']; exact ⟨hm1, hm2⟩)
    exact find_take_else ws ms t hws this.1 this.2
   have e1 : fdE (take t ws) m = fdE t m := by
    unfold fdE
    rw [if_pos hr, if_pos h1]
    cases hms : wayN m with
    | none => rfl
    | some ms => simp only [key ms hms]
   refine ⟨e1, ?_⟩
   unfold fdT
   rw [e1]
   cases hms : wayN m with
   | none => simp [fdE, hms, h1]
   | some ms => simp only [Option.getD_some, key ms hms]
end Go.Tr
