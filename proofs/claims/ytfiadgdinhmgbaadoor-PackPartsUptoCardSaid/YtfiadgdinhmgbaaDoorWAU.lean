/- pack.joined, put, packed, Pack, Size. -/
import Derived.Test.YtfiadgdinhmgbaaDoorWAM
import Derived.Test.YtfiadgdinhmgbaaDoorWAN
import Derived.Test.YtfiadgdinhmgbaaDoorWAH
namespace Go.Tr
open Go.Proofs.YtfiadgdinhmgbaaDoor Go.Agg
theorem packL_append (l m : List K) : packL (l ++ m) = packL l ++ packL m := by
  induction l with
  | nil => simp [packL]
  | cons x l ih => obtain ⟨n, t⟩ := x; simp only [List.cons_append, packL, ih, List.append_assoc]
theorem packL_takeLen (l : List K) (k : Nat) : (packL (l.take k)).length ≤ (packL l).length := by
  have e : packL l = packL (l.take k) ++ packL (l.drop k) := by rw [← packL_append, List.take_append_drop]
  rw [e, List.length_append]; omega
theorem packL_kidLen {l : List K} {k : Nat} {x : K} (h : l[k]? = some x) : (packL (l.take k)).length + (encT x.1).length + (packB x.2).length ≤ (packL l).length := by
  have h1 := packL_takeLen l (k + 1)
  rw [packL_take h] at h1
  simp only [List.length_append] at h1
  omega
end Go.Tr
namespace Go.Agg
open Go.RowKit
variable {P : Program} {α : Type} {E : Elem P α} {ops : Array Oper} {rest : List Oper} {o : Oper} {a : Act} {w : World} {Q : Exit → Act → World → Prop}
/-- '[]T{x, y}': where it lies -/
theorem wpList_slice2W (hg : o.guard = none) (x y : Operand) (ho : o.op = .buildSlice E.st 2 #[(0, x), (1, y)]) (vx vy : α) (hx : a.eval x = E.val vx) (hy : a.eval y = E.val vy)
    (h : ∀ v' w', SliceOf E w' v' [vx, vy] → (∀ b, v'.ownBlock = some b → w.heap.size ≤ b) → Below w.heap.size w w' → wpList P ops Q rest (a.put o.dst v') w') : wpList P ops Q (o :: rest) a w :=
  wpList_val hg (v := .slice (some ⟨w.heap.size, 0, none⟩) 2 2) (w' := w.alloc (.cells ((E.val vx).cells ++ (E.val vy).cells) E.ty)) (by simp [execOp, ho, hx, hy, run_slice_two])
    (h _ _ (slice_of_block2 (Blk.new w E.ty _)) (fun b hb => by
      obtain rfl : w.heap.size = b := by simpa [Value.ownBlock] using hb
      exact Nat.le_refl _) ((Below.refl _ _).alloc (Nat.le_refl _) _))
end Go.Agg
namespace Go.Proofs.YtfiadgdinhmgbaaDoor
open Go.RowKit Pl Go.Agg Go.Tr
set_option maxRecDepth 100000 in
set_option maxHeartbeats 4000000 in
theorem joined_any (g k : Nat) (v x : Value) (s : SV) (l b : List UInt8) (w : World) (hk : k ≤ 1099511627776) (hb : b.length ≤ 2097152) (hl : l.length ≤ 1048576) (hx : Off EBB g w v x [s]) (hs : Off EB g w v s.1 l) (hm : MkV g w v b) :
    Calls Tryd.prog 98 #[.pointer (some ⟨g, 0, none⟩), .int .i64 (k : Int), x] w fun e w' => (∃ r, e = .returned r) ∧ ∃ v', MkV g w' v' (b ++ (encN k ++ encT l)) ∧ MkStep g w w' v v' := by
  have HX := Lib.hid hx
  have HS := Lib.hid hs
  have HM := Lib.hid hm
  clear hx hs hm
  go_enter Tryd.func98, Tryd.ntmps98
  go_wp2_with (first | (refine Agg.wpList_slice1 (E := EI) (base := w.heap.size) rfl _ rfl k rfl (Nat.le_refl _) ?_; intro xs w1 hxs hx1; have HXS := Lib.hid hxs; have HX1 := Lib.hid hx1; clear hxs hx1))
  have hlt := fun i hi => HM.out.lt i hi
  refine (num_any g v xs [k] b w1 (by simp; omega) (by simp) (by omega) (Off.behind (w0 := w) HXS.out.slice (fun i hi => (HXS.out.block i hi).1) HM.out.blk.lt hlt) (HM.out.below HX1.out)).mono ?_
  rintro e w2 ⟨rfl, v2, hm2, hs2⟩
  have HS2 := Lib.hid ((MkStep.of_below HX1.out).trans hs2)
  have HM2 := Lib.hid (show MkV g w2 v2 (b ++ encN k) by simpa using hm2)
  have h6 := encN_len (n := k) hk
  clear hm2 hs2 hlt
  go_wp2_with fail
  refine (text_any g v2 x s l (b ++ encN k) w2 (by rw [List.length_append]; omega) hl (HX.out.step HS2.out) (HS.out.step HS2.out) HM2.out).mono ?_
  rintro e w3 ⟨rfl, v3, hm3, hs3⟩
  have HM3 := Lib.hid (show MkV g w3 v3 (b ++ (encN k ++ encT l)) by rw [← List.append_assoc]; exact hm3)
  have HS3 := Lib.hid (HS2.out.trans hs3)
  clear hm3 hs3
  go_wp2_with fail
  go_end0
  exact ⟨⟨_, rfl⟩, v3, HM3.out, HS3.out⟩

set_option maxRecDepth 100000 in
set_option maxHeartbeats 16000000 in
theorem put_any : ∀ (N : Nat) (t : T) (_ : count t ≤ N) (_ : ok t = true) (vn v : Value) (g : Nat) (b : List UInt8) (w0 w : World) (_ : b.length + (packB t).length ≤ 1000000) (_ : NodeAt w0 vn t) (_ : Below w0.heap.size w0 w) (_ : w0.heap.size ≤ g) (_ : MkV g w v b),
    Calls Tryd.prog 83 #[.pointer (some ⟨g, 0, none⟩), vn] w fun e w' => (∃ r, e = .returned r) ∧ ∃ v', MkV g w' v' (b ++ packB t) ∧ MkStep g w w' v v' := by
  intro N
  induction N with
  | zero => intro t h; have := count_pos t; omega
  | succ N ih =>
  intro t hc hok vn v g b w0 w hlen hv hx0 hg hm
  obtain ⟨x, rfl, hx⟩ := hv
  obtain ⟨k, bs, l⟩ := t
  obtain ⟨hk, hby, ks, hsl, hkv⟩ := hx
  obtain ⟨xk, xb, xs⟩ := x
  obtain rfl : xk = k := hk
  have hkl := hkv.len
  have hlk := fun W => kds_len (hsl.below hx0) W
  rw [hkl] at hlk
  have ha : alone (.mk xk bs l) = true := by simp only [ok, Bool.and_eq_true] at hok; exact hok.1
  have hkok := kids_ok hok
  rw [show (T.mk xk bs l).kids = l from rfl] at hkok
  have HX0 := Lib.hid hx0
  have HKV := Lib.hid hkv
  have HSL := Lib.hid hsl
  have HBY := Lib.hid hby
  have HM := Lib.hid hm
  have HIH := Lib.hid ih
  have HC := Lib.hid hc
  have HKO := Lib.hid hkok
  clear hx0 hkv hby hsl hm ih hc hkok hok
  rcases alone_cases ha with ⟨rfl, rfl, h200, hnm⟩ | ⟨h4, h1, h3, h2048, rfl⟩
  · have HNM := Lib.hid hnm
    have HLN := Lib.hid (show (b ++ (encN 4 ++ encN l.length)).length + (packL l).length ≤ 1000000 by simp only [packB, if_true, List.length_append] at hlen ⊢; omega)
    have HLB := Lib.hid (show b.length ≤ 1000000 by omega)
    have e4 := encN_len (n := 4) (by omega)
    have eL := encN_len (n := l.length) (by omega)
    have hlb := HLB.out
    clear hnm hlen ha
    go_enter Tryd.func83, Tryd.ntmps83
    go_wp2_with (first | (refine Agg.wpList_box rfl 26 _ rfl (ndC (4, xb, xs)) rfl ?_; intro g3 w1 hb hx hg3; have HB1 := Lib.hid hb; have HX1 := Lib.hid hx; have HM1 := Lib.hid (HM.out.below hx); have HG3 := Lib.hid (show g3 ≠ g from fun e => by have := HM.out.blk.lt; omega); clear hb hx hg3) | (with_reducible refine Agg.wpList_loadL (NdL.of_blk HB1.out).kind rfl _ rfl rfl ?_) | (with_reducible refine Agg.wpList_loadL (NdL.of_blk HB1.out).kids rfl _ rfl rfl ?_) | (refine Agg.wpList_slice2W (E := EI) rfl _ _ rfl 4 l.length rfl rfl ?_; intro ys w2 hys hyb hx; have HYS := Lib.hid hys; have HYB := Lib.hid hyb; have HX2 := Lib.hid (HX1.out.trans (hx.mono HX1.out.size)); have HB2 := Lib.hid (HB1.out.below hx); have HM2 := Lib.hid (HM1.out.below hx); clear hys hyb hx))
    have hlt := fun i hi => HM1.out.lt i hi
    refine (num_any g v ys [4, l.length] b w2 (by simp; omega) (by simp) (by omega) (Off.behind (w0 := w1) HYS.out HYB.out HM1.out.blk.lt hlt) HM2.out).mono ?_
    rintro e w3 ⟨rfl, v3, hm3, hs3⟩
    have HS3 := Lib.hid ((MkStep.of_below HX2.out).trans hs3)
    have HM3 := Lib.hid (show MkV g w3 v3 (b ++ (encN 4 ++ encN l.length)) by simpa using hm3)
    have HB3 := Lib.hid (mk_keeps HM2.out HB2.out (by decide) hs3 HG3.out)
    have HPK := Lib.hid (show b ++ packB (.mk 4 [] l) = (b ++ (encN 4 ++ encN l.length)) ++ packL l by simp [packB])
    clear hm3 hs3 hlt
    obtain ⟨hd, hhd⟩ : ∃ hd, b ++ (encN 4 ++ encN l.length) = hd := ⟨_, rfl⟩
    rw [hhd] at HM3 HPK HLN
    have hhl := HLN.out
    clear hhd
    go_wp2_with (first | (with_reducible refine Agg.wpList_loadL (NdL.of_blk HB3.out).kids rfl _ rfl rfl ?_))
    go_loopw [31] (fun i wr => ∃ (q : Nat) (vq : Value), q ≤ l.length ∧ i = .int .i64 (q : Int) ∧ MkV g wr vq (hd ++ packL (l.take q)) ∧ MkStep g w wr v vq) (fun i _ => l.length - (intOf i).toNat)
    case atStart => exact ⟨0, v3, by omega, rfl, by simpa [packL] using HM3.out, HS3.out⟩
    case round =>
      obtain ⟨wr1, rfl⟩ : ∃ y : World, y = wr := ⟨_, rfl⟩
      obtain ⟨q, vq, hq, rfl, hmq, hsq⟩ := hrel
      have HMO := HM
      clear HM
      have HM := Lib.hid hmq
      have HS := Lib.hid hsq
      clear hmq hsq
      by_cases hlt : q < l.length
      · have hlq : decide ((q : Int) < (l.length : Int)) = true := by simp; omega
        obtain ⟨z, hzk⟩ : ∃ z, l[q]? = some z := ⟨_, List.getElem?_eq_getElem hlt⟩
        obtain ⟨y, hyk, hyz, hyn⟩ := HKV.out.at_ q z hzk
        have HWr := Lib.hid (show Below w0.heap.size w0 wr1 from HX0.out.trans ((HMO.out.stepBelow HS.out).mono hg))
        obtain ⟨p, hadr, hle⟩ := kid_at (HSL.out.below HWr.out) q y hyk
        have HE := Lib.hid hle.all
        have HYZ := Lib.hid hyz
        have HYN := Lib.hid hyn
        have HT := Lib.hid (packL_take hzk)
        have hkl2 := packL_kidLen hzk
        have hcz : count z.2 ≤ N := by
          have h1 := countL_mem (List.mem_of_getElem? hzk)
          have h2 := HC.out
          simp only [count] at h2
          omega
        have hoz := okL_mem HKO.out (List.mem_of_getElem? hzk)
        have hnz := name_le (named_all l none HNM.out z (List.mem_of_getElem? hzk))
        clear hle hyk hyn hyz hzk
        go_wp2_with (first | (with_reducible refine Agg.wpList_loadL HE.out rfl _ rfl rfl ?_) | (refine Agg.wpList_new rfl rfl rfl 51 5 34 rfl rfl rfl (by decide) (kdC kdZ) (kdC y) kd_zero rfl (kd_info y) (kdC_one y) rfl (by first | (simp; done) | simp [Act.put]) ?_; intro g5 wa hb hx hg; have HYB := Lib.hid hb; have HMa := Lib.hid (HM.out.below hx); have HSa := Lib.hid (HS.out.trans (MkStep.of_below hx)); have HN5 := Lib.hid (show g5 ≠ g from fun e => by have := HM.out.blk.lt; omega); clear hb hx hg) | (with_reducible refine Agg.wpList_loadL (KdL.ofB HYB.out).name rfl _ rfl rfl ?_) | (with_reducible refine wpList_toBytes y.1 _ rfl rfl rfl ?_; intro y2 wb hn hx; obtain ⟨sv, hsv⟩ := bytes_svB hn.slice; have HNb := Lib.hid hn; have HSV := Lib.hid hsv; have HMb := Lib.hid (HMa.out.below hx); have HSb := Lib.hid (HSa.out.trans (MkStep.of_below hx)); have HYb := Lib.hid (HYB.out.below hx); clear hn hx hsv) | (rw [HSV.out]; refine Agg.wpList_slice1 (E := EBB) (base := wb.heap.size) rfl _ rfl sv rfl (Nat.le_refl _) ?_; intro ys wc hys hx; have HYS2 := Lib.hid hys; have HMc := Lib.hid (HMb.out.below hx); have HSc := Lib.hid (HSb.out.trans (MkStep.of_below hx)); have HYc := Lib.hid (HYb.out.below hx); have HNc := Lib.hid (SliceOf.below (show SliceOf EB wb sv.1 y.1 by rw [← HSV.out]; exact HNb.out.slice) hx); have HXbc := Lib.hid hx; clear hys hx))
        have HKC := Lib.hid (kid_node HYc.out)
        have hb4 : (hd ++ packL (l.take q)).length ≤ 4194304 := by rw [List.length_append]; omega
        have hyl : y.1.length ≤ 1048576 := by rw [HYZ.out]; omega
        refine (text_any g vq ys sv y.1 (hd ++ packL (l.take q)) wc hb4 hyl (Off.behind (w0 := wb) HYS2.out.slice (fun i hi => (HYS2.out.block i hi).1) HMb.out.blk.lt HMb.out.lt) (Off.behind (w0 := wa) HNc.out (by have h := newBytes_ownB HNb.out; rw [HSV.out] at h; exact h) HMa.out.blk.lt HMa.out.lt) HMc.out).mono ?_
        rintro e wd ⟨rfl, vd, hmd, hsd⟩
        have HMd := Lib.hid (show MkV g wd vd (hd ++ packL (l.take q) ++ encT z.1) by rw [← HYZ.out]; exact hmd)
        have HSd := Lib.hid (HSc.out.trans hsd)
        have HYd := Lib.hid (kid_node (mk_keeps HMc.out HYc.out (by decide) hsd HN5.out))
        clear hmd hsd hb4 hyl HKC
        go_wp2_with (first | (with_reducible refine Agg.wpList_loadL HYd.out rfl _ rfl rfl ?_))
        have HWd := Lib.hid (show Below w0.heap.size w0 wd from HX0.out.trans ((HMO.out.stepBelow HSd.out).mono hg))
        refine (HIH.out z.2 hcz hoz (.agg (ndC y.2)) vd g (hd ++ packL (l.take q) ++ encT z.1) w0 wd (by simp only [List.length_append]; omega) ⟨y.2, rfl, HYN.out⟩ HWd.out hg HMd.out).mono ?_
        rintro e we ⟨⟨r, rfl⟩, ve, hme, hse⟩
        have HMe := Lib.hid (show MkV g we ve (hd ++ packL (l.take (q + 1))) by rw [HT.out]; simpa [List.append_assoc] using hme)
        have HSe := Lib.hid (HSd.out.trans hse)
        clear hme hse
        go_wp2_with fail
        go_roundw
        case rel => exact ⟨q + 1, ve, by omega, by go_num, HMe.out, HSe.out⟩
        case measure => simp [intOf]; omega
      · obtain rfl : q = l.length := by omega
        have hlq : decide (((l.length : Nat) : Int) < ((l.length : Nat) : Int)) = false := by simp
        have HMF := Lib.hid (show MkV g wr1 vq (b ++ packB (.mk 4 [] l)) by have h := HM.out; rw [List.take_length] at h; rw [HPK.out]; exact h)
        go_wp2_with fail
        go_end0
        exact ⟨⟨_, rfl⟩, vq, HMF.out, HS.out⟩
  · have hlenb := hlen
    have HPK := Lib.hid (show b ++ packB (.mk xk bs []) = b ++ (encN xk.toNat ++ encT bs) by simp [packB, h4])
    have HLB := Lib.hid (show b.length ≤ 1000000 by omega)
    have hkk : ((xk.toNat : Nat) : Int) = xk := by omega
    have hlb := HLB.out
    have fin : ∀ (K : Nat) (_ : (K : Int) = xk) (_ : K ≤ 3) (g3 : Nat) (w1 w2 : World) (ys : Value) (_ : Below w.heap.size w w1) (_ : MkV g w1 v b) (_ : Below w1.heap.size w1 w2) (_ : SliceOf EBB w2 ys [xb]) (_ : ∀ i, ys.ownBlock = some i → w1.heap.size ≤ i),
        Calls Tryd.prog 98 #[.pointer (some ⟨g, 0, none⟩), .int .i64 (K : Int), ys] w2 fun e w' => (∃ r, e = .returned r) ∧ ∃ v', MkV g w' v' (b ++ packB (.mk xk bs [])) ∧ MkStep g w w' v v' := fun K hK hK3 g3 w1 w2 ys h1 h2 h3 h4' h5 => by
      have hxb : Off EB g w2 v xb.1 bs := Off.before (w0 := w0) HBY.out (HX0.out.trans ((h1.trans (h3.mono h1.size)).mono HX0.out.size)) hg (fun i hi => Nat.le_trans hg (HM.out.ge i hi))
      refine (joined_any g K v ys xb bs b w2 (by omega) (by omega) (by omega) (Off.behind (w0 := w1) h4' h5 h2.blk.lt h2.lt) hxb (h2.below h3)).mono ?_
      rintro e w' ⟨hr, v', hm, hs⟩
      refine ⟨hr, v', ?_, (MkStep.of_below (h1.trans (h3.mono h1.size))).trans hs⟩
      rw [HPK.out, show xk.toNat = K by omega]
      exact hm
    have FIN := Lib.hid fin
    clear fin hkk ha hlen hlenb
    have hk3 : xk = 1 ∨ xk = 2 ∨ xk = 3 := by omega
    rcases hk3 with rfl | rfl | rfl
    · go_enter Tryd.func83, Tryd.ntmps83
      go_wp2_with (first | (refine Agg.wpList_box rfl 26 _ rfl (ndC (1, xb, xs)) rfl ?_; intro g3 w1 hb hx hg3; have HB1 := Lib.hid hb; have HX1 := Lib.hid hx; have HM1 := Lib.hid (HM.out.below hx); clear hb hx hg3) | (with_reducible refine Agg.wpList_loadL (NdL.of_blk HB1.out).kind rfl _ rfl rfl ?_) | (with_reducible refine Agg.wpList_loadL (NdL.of_blk HB1.out).bytes rfl _ rfl rfl ?_) | (refine Agg.wpList_slice1 (E := EBB) (base := w1.heap.size) rfl _ rfl xb rfl (Nat.le_refl _) ?_; intro ys w2 hys hx; have HYS := Lib.hid hys; have HX2 := Lib.hid hx; clear hys hx))
      refine (show Calls Tryd.prog 98 #[.pointer (some ⟨g, 0, none⟩), .int .i64 1, ys] w2 _ from FIN.out 1 rfl (by omega) g3 w1 w2 ys HX1.out HM1.out HX2.out HYS.out.slice (fun i hi => (HYS.out.block i hi).1)).mono ?_
      rintro e w3 ⟨⟨r, rfl⟩, v3, hm, hs⟩
      have HM3 := Lib.hid hm
      have HS3 := Lib.hid hs
      clear hm hs
      go_wp2_with fail
      refine bodyPost_ret (results_none rfl _ _ _) rfl ?_
      exact ⟨⟨_, rfl⟩, v3, HM3.out, HS3.out⟩
    · go_enter Tryd.func83, Tryd.ntmps83
      go_wp2_with (first | (refine Agg.wpList_box rfl 26 _ rfl (ndC (2, xb, xs)) rfl ?_; intro g3 w1 hb hx hg3; have HB1 := Lib.hid hb; have HX1 := Lib.hid hx; have HM1 := Lib.hid (HM.out.below hx); clear hb hx hg3) | (with_reducible refine Agg.wpList_loadL (NdL.of_blk HB1.out).kind rfl _ rfl rfl ?_) | (with_reducible refine Agg.wpList_loadL (NdL.of_blk HB1.out).bytes rfl _ rfl rfl ?_) | (refine Agg.wpList_slice1 (E := EBB) (base := w1.heap.size) rfl _ rfl xb rfl (Nat.le_refl _) ?_; intro ys w2 hys hx; have HYS := Lib.hid hys; have HX2 := Lib.hid hx; clear hys hx))
      refine (show Calls Tryd.prog 98 #[.pointer (some ⟨g, 0, none⟩), .int .i64 2, ys] w2 _ from FIN.out 2 rfl (by omega) g3 w1 w2 ys HX1.out HM1.out HX2.out HYS.out.slice (fun i hi => (HYS.out.block i hi).1)).mono ?_
      rintro e w3 ⟨⟨r, rfl⟩, v3, hm, hs⟩
      have HM3 := Lib.hid hm
      have HS3 := Lib.hid hs
      clear hm hs
      go_wp2_with fail
      refine bodyPost_ret (results_none rfl _ _ _) rfl ?_
      exact ⟨⟨_, rfl⟩, v3, HM3.out, HS3.out⟩
    · go_enter Tryd.func83, Tryd.ntmps83
      go_wp2_with (first | (refine Agg.wpList_box rfl 26 _ rfl (ndC (3, xb, xs)) rfl ?_; intro g3 w1 hb hx hg3; have HB1 := Lib.hid hb; have HX1 := Lib.hid hx; have HM1 := Lib.hid (HM.out.below hx); clear hb hx hg3) | (with_reducible refine Agg.wpList_loadL (NdL.of_blk HB1.out).kind rfl _ rfl rfl ?_) | (with_reducible refine Agg.wpList_loadL (NdL.of_blk HB1.out).bytes rfl _ rfl rfl ?_) | (refine Agg.wpList_slice1 (E := EBB) (base := w1.heap.size) rfl _ rfl xb rfl (Nat.le_refl _) ?_; intro ys w2 hys hx; have HYS := Lib.hid hys; have HX2 := Lib.hid hx; clear hys hx))
      refine (show Calls Tryd.prog 98 #[.pointer (some ⟨g, 0, none⟩), .int .i64 3, ys] w2 _ from FIN.out 3 rfl (by omega) g3 w1 w2 ys HX1.out HM1.out HX2.out HYS.out.slice (fun i hi => (HYS.out.block i hi).1)).mono ?_
      rintro e w3 ⟨⟨r, rfl⟩, v3, hm, hs⟩
      have HM3 := Lib.hid hm
      have HS3 := Lib.hid hs
      clear hm hs
      go_wp2_with fail
      refine bodyPost_ret (results_none rfl _ _ _) rfl ?_
      exact ⟨⟨_, rfl⟩, v3, HM3.out, HS3.out⟩
theorem mkZ : (Tryd.prog.info? 113).map (·.zero) = some (some (.agg (mkC (.slice none 0 0)))) := by kernel_rfl
set_option maxRecDepth 100000 in
set_option maxHeartbeats 4000000 in
theorem packed_any (vn : Value) (t : T) (w : World) (hok : ok t = true) (hl : (packB t).length ≤ 1000000) (hv : NodeAt w vn t) :
    Calls Tryd.prog 57 #[vn] w fun e w' => ∃ v', e = .returned v' ∧ Own EB w.heap.size w' v' (packB t) ∧ Below w.heap.size w w' := by
  obtain ⟨x, rfl, hx⟩ := hv
  have HN := Lib.hid hx
  clear hx
  go_enter Tryd.func57, Tryd.ntmps57
  go_wp2_with (first | (refine Agg.wpList_box rfl 26 _ rfl (ndC x) rfl ?_; intro g1 w1 hb hx hg; have HB1 := Lib.hid hb; have HX1 := Lib.hid hx; clear hb hx hg) | (refine Agg.wpList_zero rfl 113 rfl (mkC (.slice none 0 0)) mkZ ?_; intro g2 w2 hb hx hg; have HM2 := Lib.hid (MkV.mk hb (Own.nil _ _ _)); have HB2 := Lib.hid (HB1.out.below hx); have HX2 := Lib.hid (Agg.belowThen HX1.out (Nat.le_refl _) hx); have HG2 := Lib.hid (Nat.le_trans HX1.out.size hg); clear hb hx hg) | (with_reducible refine Agg.wpList_loadL (NdL.of_blk HB2.out).all rfl _ rfl rfl ?_))
  refine (put_any (count t) t (Nat.le_refl _) hok (.agg (ndC x)) _ g2 [] w w2 (by simpa using hl) ⟨x, rfl, HN.out⟩ HX2.out HG2.out HM2.out).mono ?_
  rintro e w3 ⟨⟨r, rfl⟩, v3, hm, hs⟩
  have HM3 := Lib.hid (show MkV g2 w3 v3 (packB t) from hm)
  have HX3 := Lib.hid (HX2.out.trans ((HM2.out.stepBelow hs).mono HG2.out))
  clear hm hs
  go_wp2_with fail
  refine (done_any g2 v3 _ w3 (by omega) HM3.out).mono ?_
  rintro e w4 ⟨v4, rfl, ho, hx⟩
  have HO4 := Lib.hid (ho.lower HX3.out.size)
  have HX4 := Lib.hid (Agg.belowThen HX3.out (Nat.le_refl _) hx)
  clear ho hx
  go_wp2_with fail
  go_ret
  exact ⟨v4, rfl, HO4.out, HX4.out⟩
theorem right_okT {t : T} (h : right t = true) : ok t = true := (look_parts h).1
set_option maxRecDepth 100000 in
set_option maxHeartbeats 4000000 in
theorem pack_any (vn : Value) (t : T) (w : World) (hv : NodeAt w vn t) :
    Calls Tryd.prog 53 #[vn] w fun e w' => ∃ v', e = .returned (.tuple #[v', .int .i64 (pkE t : Int)]) ∧ Own EB w.heap.size w' v' (pkB t) ∧ Below w.heap.size w w' := by
  obtain ⟨x, rfl, hx⟩ := hv
  have HN := Lib.hid hx
  clear hx
  go_enter Tryd.func53, Tryd.ntmps53
  go_wp2_with (first | (refine Agg.wpList_box rfl 26 _ rfl (ndC x) rfl ?_; intro g1 w1 hb hx hg; have HB1 := Lib.hid hb; have HX1 := Lib.hid hx; clear hb hx hg) | (with_reducible refine Agg.wpList_loadL (NdL.of_blk HB1.out).all rfl _ rfl rfl ?_))
  refine (tright_any (.agg (ndC x)) t w1 ⟨x, rfl, HN.out.below HX1.out⟩).mono ?_
  rintro e w2 ⟨rfl, hx⟩
  have HB2 := Lib.hid (HB1.out.below hx)
  have HX2 := Lib.hid (Agg.belowThen HX1.out (Nat.le_refl _) hx)
  clear hx
  cases hr : right t with
  | false =>
    have HE := Lib.hid (show pkE t = 2 ∧ pkB t = [] by simp [pkE, pkB, hr])
    clear hr
    go_wp2_with fail
    go_ret2
    exact ⟨_, by rw [HE.out.1]; rfl, by rw [HE.out.2]; exact Own.nil _ _ _, HX2.out⟩
  | true =>
    have hpl := right_pack hr
    have HOK := Lib.hid (right_okT hr)
    have HRR := Lib.hid hr
    clear hr
    go_wp2_with (first | (with_reducible refine Agg.wpList_loadL (NdL.of_blk HB2.out).all rfl _ rfl rfl ?_))
    refine (packed_any (.agg (ndC x)) t w2 HOK.out (by omega) ⟨x, rfl, HN.out.below HX2.out⟩).mono ?_
    rintro e w3 ⟨v3, rfl, ho, hx⟩
    have hlv := fun W => bytes_len ho.slice W
    have HO3 := Lib.hid (ho.lower HX2.out.size)
    have HX3 := Lib.hid (Agg.belowThen HX2.out (Nat.le_refl _) hx)
    clear ho hx
    by_cases hc : 4096 < (packB t).length
    · have hd : decide (4096 < ((packB t).length : Int)) = true := by simp; omega
      have HE := Lib.hid (show pkE t = 3 ∧ pkB t = [] by
        have : ¬ (packB t).length ≤ 4096 := by omega
        simp [pkE, pkB, HRR.out, this])
      go_wp2_with fail
      go_ret2
      exact ⟨_, by rw [HE.out.1]; rfl, by rw [HE.out.2]; exact Own.nil _ _ _, HX3.out⟩
    · have hd : decide (4096 < ((packB t).length : Int)) = false := by simp; omega
      have HE := Lib.hid (show pkE t = 0 ∧ pkB t = packB t by
        have : (packB t).length ≤ 4096 := by omega
        simp [pkE, pkB, HRR.out, this])
      go_wp2_with fail
      go_ret2
      exact ⟨v3, by rw [HE.out.1]; rfl, by rw [HE.out.2]; exact HO3.out, HX3.out⟩
end Go.Proofs.YtfiadgdinhmgbaaDoor
