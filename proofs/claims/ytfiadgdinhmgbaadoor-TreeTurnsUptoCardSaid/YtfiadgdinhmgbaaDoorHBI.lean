/- spenceref08.with: a directory with a kid, in its place. -/
import Derived.Test.YtfiadgdinhmgbaaDoorHBH
import Derived.Test.YtfiadgdinhmgbaaDoorHAQ
import Derived.Test.YtfiadgdinhmgbaaDoorHAV
namespace Go.Tr
open Go.Proofs.YtfiadgdinhmgbaaDoor
theorem leq_or (n m : List UInt8) : (!Op.bytesLess m n) = (Op.bytesLess n m || decide (n = m)) := by
 by_cases e : n = m
 ·subst e
  simp [bytesLess_irrefl]
 ·cases h : Op.bytesLess n m with
  | true => simp [bytesLess_asymm _ _ h]
  | false => simp [e, bytesLess_total _ _ e h]
end Go.Tr
namespace Go.Proofs.YtfiadgdinhmgbaaDoor
open Go.RowKit Pl Go.Agg Go.Tr
theorem nd_buildW (k : Int) (W : World) : (Instr.build 26 #[(0, .int .i64 k)]).run Tryd.prog W = .ok (.agg (ndC (k, svN, svN))) W := by kernel_rfl
inductive All2 {α β : Type} (R : α → β → Prop) : List α → List β → Prop
 | nil : All2 R [] []
 | cons {a : α} {b : β} {l : List α} {m : List β} : R a b → All2 R l m → All2 R (a :: l) (b :: m)
theorem All2.len {α β : Type} {R : α → β → Prop} {l : List α} {m : List β} (h : All2 R l m) : l.length = m.length := by
 induction h with
 | nil => rfl
 | cons _ _ ih => simp [ih]
theorem All2.mono {α β : Type} {R S : α → β → Prop} (hRS : ∀ a b, R a b → S a b) {l : List α} {m : List β} (h : All2 R l m) : All2 S l m := by
 induction h with
 | nil => exact .nil
 | cons h1 _ ih => exact .cons (hRS _ _ h1) ih
theorem forall2_at {α β : Type} {R : α → β → Prop} : ∀ {ks : List α} {l : List β}, All2 R ks l → ∀ (q : Nat) (z : β), l[q]? = some z → ∃ y, ks[q]? = some y ∧ R y z
 | _, [], _, q, z, h => by simp at h
 | [], _ :: _, h0, _, _, _ => by cases h0
 | y :: ks, x :: l, h0, 0, z, h => by
  cases h0 with
  | cons h1 h2 =>
   simp only [List.getElem?_cons_zero, Option.some.injEq] at h
   subst h
   exact ⟨y, rfl, h1⟩
 | y :: ks, x :: l, h0, q + 1, z, h => by
  cases h0 with
  | cons h1 h2 =>
   rw [List.getElem?_cons_succ] at h
   exact forall2_at h2 q z h
theorem forall2_snoc {α β : Type} {R : α → β → Prop} {ks : List α} {l : List β} (h : All2 R ks l) {y : α} {z : β} (hy : R y z) : All2 R (ks ++ [y]) (l ++ [z]) := by
 induction h with
 | nil => exact .cons hy .nil
 | cons h1 _ ih => exact .cons h1 ih
set_option maxRecDepth 100000 in
set_option maxHeartbeats 64000000 in
theorem rwith_any (R : KdV → K → Prop) (hRn : ∀ y z, R y z → y.1 = z.1) (xk : Int) (xb xs : SV) (ks : List KdV) (l : List K) (xx : NdV) (u : T) (nm : List UInt8) (hl : l.length ≤ 1048576) (w : World) (hsl : SliceOf EK w xs.1 ks) (hks : All2 R ks l) (hxR : R (nm, xx) (nm, u)) :
  Calls Tryd.prog 70 #[.agg (ndC (xk, xb, xs)), .string ⟨nm.toArray⟩, .agg (ndC xx)] w fun e w' => ∃ (vk : SV) (kk : List KdV), e = .returned (.agg (ndC (xk, svN, vk))) ∧ Agg.Own EK w.heap.size w' vk.1 kk ∧ All2 R kk (withR nm u l false) ∧ Below w.heap.size w w' := by
 have hkl := hks.len
 have hll : l.length ≤ 1048576 := hl
 have hlk := fun W => kds_len hsl W
 rw [hkl] at hlk
 have HKV := Lib.hid hks
 have HSL := Lib.hid hsl
 have HU := Lib.hid hxR
 have HRN := Lib.hid hRn
 clear hks hsl hxR hl hRn
 go_enter Tryd.func70, Tryd.ntmps70
 go_wp2_with (first | (refine wpList_box rfl 26 _ rfl (ndC (xk, xb, xs)) rfl ?_; intro g3 w1 hb hx hg; have HB1 := Lib.hid hb; have HX1 := Lib.hid hx; clear hb hx hg) | (refine wpList_box rfl 26 _ rfl (ndC xx) rfl ?_; intro g5 w2 hb hx hg; have HB2 := Lib.hid (HB1.out.below hx); have HU2 := Lib.hid hb; have HX2 := Lib.hid (belowThen HX1.out (Nat.le_refl _) hx); clear hb hx hg) | (refine Agg.wpList_zero rfl 26 rfl (ndC ndZ) nd_zero ?_; intro g6 w3 hb hx hg; have HB3 := Lib.hid (HB2.out.below hx); have HU3 := Lib.hid (HU2.out.below hx); have HR3 := Lib.hid hb; have HG6 := Lib.hid (show w.heap.size ≤ g6 from Nat.le_trans HX2.out.size hg); have HX3 := Lib.hid (belowThen HX2.out (Nat.le_refl _) hx); clear hb hx hg) | (with_reducible refine wpList_loadL (NdL.of_blk HB3.out).kind rfl _ rfl rfl ?_) | (with_reducible refine wpList_build1 26 0 _ rfl rfl (.int .i64 xk) rfl (.agg (ndC (xk, svN, svN))) (nd_buildW _) ?_) | (refine wpList_new rfl rfl rfl 26 7 12 rfl rfl rfl (by decide) (ndC ndZ) (ndC (xk, svN, svN)) nd_zero rfl (nd_info _) (ndC_one _) rfl (by first | (simp; done) | simp [Act.put]) ?_; intro g7 w4 hb hx hg; have HN4 := Lib.hid hb; have HB4 := Lib.hid (HB3.out.below hx); have HU4 := Lib.hid (HU3.out.below hx); have HR4 := Lib.hid (HR3.out.below hx); have HG7 := Lib.hid (show w.heap.size ≤ g7 ∧ g3 ≠ g7 ∧ g5 ≠ g7 ∧ g6 ≠ g7 from ⟨Nat.le_trans HX3.out.size hg, fun e => (by have := HB3.out.lt; omega), fun e => (by have := HU3.out.lt; omega), fun e => (by have := HR3.out.lt; omega)⟩); have HX4 := Lib.hid (belowThen HX3.out (Nat.le_refl _) hx); clear hb hx hg))
 go_loopw [8, 9] (fun pv i wr => ∃ (q : Nat) (pb : Bool) (vk : SV) (kk : List KdV) (done : List K), q ≤ l.length ∧ pv = .bool pb ∧ i = .int .i64 (q : Int) ∧ done ++ withR nm u (l.drop q) pb = withR nm u l false ∧ done.length ≤ 2 * q ∧ All2 R kk done ∧ Agg.Own EK w.heap.size wr vk.1 kk ∧ Blk wr g7 26 (ndC (xk, svN, vk)) ∧ Blk wr g3 26 (ndC (xk, xb, xs)) ∧ Blk wr g5 26 (ndC xx) ∧ Blk wr g6 26 (ndC ndZ) ∧ Below w.heap.size w wr) (fun _ i _ => l.length - (intOf i).toNat)
 case atStart => exact ⟨0, false, svN, [], [], by omega, rfl, rfl, rfl, by simp, .nil, Agg.Own.nil _ _ _, HN4.out, HB4.out, HU4.out, HR4.out, HX4.out⟩
 case round =>
  obtain ⟨wa, rfl⟩ : ∃ y : World, y = wr := ⟨_, rfl⟩
  obtain ⟨q, pb, vk, kk, done, hq, rfl, rfl, hdn, hdl, hkd, hok, hn, hb3, hb5, hr6, hx⟩ := hrel
  have HD := Lib.hid hdn
  have HKDa := Lib.hid hkd
  have HOa := Lib.hid hok
  have HNa := Lib.hid hn
  have HBa := Lib.hid hb3
  have HUa := Lib.hid hb5
  have HRa := Lib.hid hr6
  have HXa := Lib.hid hx
  have hkk := hkd.len
  clear hdn hkd hok hn hb3 hb5 hr6 hx
  by_cases hlt : q < l.length
  case pos =>
   have hlq : decide ((q : Int) < (l.length : Int)) = true := by simp; omega
   obtain ⟨z, hzk⟩ : ∃ z, l[q]? = some z := ⟨_, List.getElem?_eq_getElem hlt⟩
   obtain ⟨y, hyk, hyn⟩ := forall2_at HKV.out q z hzk
   have hyz := HRN.out y z hyn
   obtain ⟨pa, hadr, hle⟩ := kid_at (HSL.out.below HXa.out) q y hyk
   have HYa := Lib.hid hle
   have HAD := Lib.hid hadr
   have HYK := Lib.hid hyk
   obtain ⟨zn, zt⟩ := z
   have hyz : y.1 = zn := hyz
   subst hyz
   have HYN := Lib.hid hyn
   have hdr : l.drop q = (y.1, zt) :: l.drop (q + 1) := by
    obtain ⟨h1, h2⟩ := List.getElem?_eq_some_iff.1 hzk
    rw [List.drop_eq_getElem_cons h1, h2]
   have hd := HD.out
   rw [hdr] at hd
   simp only [withR] at hd
   have HD2 := Lib.hid hd
   clear hle hyk hyn hzk hdr hd
   cases pb with
   | true =>
    by_cases heq : y.1 = nm
    case pos =>
     have HEQ := Lib.hid (show (!decide (y.1 = nm)) = false by simp [heq])
     have HD3 := Lib.hid (show done ++ withR nm u (l.drop (q + 1)) true = withR nm u l false by
      rw [← HD2.out]
      simp [heq])
     clear heq
     go_wp2_with (first | (with_reducible refine wpList_loadL (NdL.of_blk HBa.out).kids rfl _ rfl rfl ?_) | (with_reducible refine wpList_loadL HYa.out.name rfl _ rfl rfl ?_) | (refine Agg.wpList_neqS rfl rfl rfl rfl false HEQ.out ?_))
     go_roundw
     case rel => exact ⟨q + 1, true, vk, kk, done, by omega, rfl, by go_num, HD3.out, by omega, HKDa.out, HOa.out, HNa.out, HBa.out, HUa.out, HRa.out, HXa.out⟩
     case measure => simp [intOf]; omega
    case neg =>
     have HEQ := Lib.hid (show (!decide (y.1 = nm)) = true by simp [heq])
     have HD3 := Lib.hid (show done ++ [(y.1, zt)] ++ withR nm u (l.drop (q + 1)) true = withR nm u l false by
      rw [← HD2.out]
      simp [heq])
     clear heq
     go_wp2_with (first | (with_reducible refine wpList_loadL (NdL.of_blk HBa.out).kids rfl _ rfl rfl ?_) | (with_reducible refine wpList_loadL HYa.out.name rfl _ rfl rfl ?_) | (refine Agg.wpList_neqS rfl rfl rfl rfl true HEQ.out ?_))
     refine Agg.wp_cutR (fun a a' w' => ∃ vk2 : SV, Agg.Own EK w.heap.size w' vk2.1 (kk ++ [y]) ∧ Blk w' g7 26 (ndC (xk, svN, vk2)) ∧ Blk w' g3 26 (ndC (xk, xb, xs)) ∧ Blk w' g5 26 (ndC xx) ∧ Blk w' g6 26 (ndC ndZ) ∧ Below w.heap.size w w' ∧ ExPut [48, 49, 50, 51, 52, 53, 54, 55, 56, 57] a a') ?_ ?_
     ·try simp only [Act.put, List.setIfInBounds_toArray, List.set_cons_succ, List.set_cons_zero]
      obtain ⟨wd, hwd⟩ : ∃ W, W = wa.drew := ⟨_, rfl⟩
      have hdb : Below wa.heap.size wa wd := by rw [hwd]; exact (Below.refl _ _).drew
      have HO_ := Lib.hid (HOa.out.below hdb)
      have HN_ := Lib.hid (HNa.out.below hdb)
      have HB_ := Lib.hid (HBa.out.below hdb)
      have HU_ := Lib.hid (HUa.out.below hdb)
      have HR_ := Lib.hid (HRa.out.below hdb)
      have HY_ := Lib.hid (HYa.out.below hdb)
      have HX_ := Lib.hid (belowThen HXa.out (Nat.le_refl _) hdb)
      refine wp_region_held_drew (S := fun W => (∃ vq : SV, Blk W g7 26 (ndC (xk, svN, vq))) ∧ Blk W g3 26 (ndC (xk, xb, xs)) ∧ KdL W pa y) (by kernel_rfl) (by rw [← hwd]; exact ⟨⟨_, HN_.out⟩, HB_.out, HY_.out⟩) (fun hHeld => ?_)
      rw [← hwd] at hHeld ⊢
      clear hwd hdb
      refine held_take 0 (.pointer (some ⟨g7, 2, none⟩)) rfl (by kernel_rfl) (fun _ _ _ h => h) rfl (fun W _ => by kernel_rfl) (by assumption) ?_
      try simp only [Act.put, List.setIfInBounds_toArray, List.set_cons_succ, List.set_cons_zero]
      refine held_take 2 (.pointer (some ⟨g3, 2, none⟩)) rfl (by kernel_rfl) (fun _ _ _ h => h) rfl (fun W _ => by kernel_rfl) (by assumption) ?_
      try simp only [Act.put, List.setIfInBounds_toArray, List.set_cons_succ, List.set_cons_zero]
      refine held_take 3 (xs.1) rfl (by kernel_rfl) (fun _ _ _ h => h) rfl (fun W hS => exec_loadB rfl rfl (NdL.of_blk hS.2.1).kids.now) (by assumption) ?_
      try simp only [Act.put, List.setIfInBounds_toArray, List.set_cons_succ, List.set_cons_zero]
      refine held_take 4 (.int .i64 (q : Int)) rfl (by kernel_rfl) (fun _ _ _ h => h) rfl (fun W _ => by kernel_rfl) (by assumption) ?_
      try simp only [Act.put, List.setIfInBounds_toArray, List.set_cons_succ, List.set_cons_zero]
      refine held_take 5 (.pointer (some pa)) rfl (by kernel_rfl) (fun _ _ _ h => h) rfl (fun W _ => exec_idx rfl rfl rfl (HAD.out W)) (by assumption) ?_
      try simp only [Act.put, List.setIfInBounds_toArray, List.set_cons_succ, List.set_cons_zero]
      refine held_take 6 (.agg (kdC y)) rfl (by kernel_rfl) (fun _ _ _ h => h) rfl (fun W hS => exec_loadB rfl rfl hS.2.2.all.now) (by assumption) ?_
      try simp only [Act.put, List.setIfInBounds_toArray, List.set_cons_succ, List.set_cons_zero]
      refine held_ready [1, 7] (by kernel_rfl) (by simp) ?_
      refine held_cons rfl ?_ ?_
      ·refine step_load rfl 24 _ rfl _ vk.1 rfl (NdL.of_blk HN_.out).kids.now ?_
       have HO_1 := HO_
       have HN_1 := HN_
       have HB_1 := HB_
       have HU_1 := HU_
       have HR_1 := HR_
       have HY_1 := HY_
       have HX_1 := HX_
       have hS_1 : (∃ vq : SV, Blk wd g7 26 (ndC (xk, svN, vq))) ∧ Blk wd g3 26 (ndC (xk, xb, xs)) ∧ KdL wd pa y := ⟨⟨_, HN_1.out⟩, HB_1.out, HY_1.out⟩
       refine ⟨hS_1, ?_⟩
       try simp only [Act.put, List.setIfInBounds_toArray, List.set_cons_succ, List.set_cons_zero]
       refine held_one 7 rfl (by kernel_rfl) ?_
       refine step_slice1 (E := EK) rfl _ rfl y rfl ?_
       intro ys wd_7 hys hx
       have Z1 := Lib.hid hys.slice
       have Z2 := Lib.hid (HO_1.out.below hx)
       have Zq := Lib.hid (HN_1.out.below hx)
       have Zp := Lib.hid (HB_1.out.below hx)
       have Zy := Lib.hid (HU_1.out.below hx)
       have Zx := Lib.hid (HR_1.out.below hx)
       have Z0 := Lib.hid (HY_1.out.below hx)
       have Zi := Lib.hid (belowThen HX_1.out (Nat.le_refl _) hx)
       clear hys hx
       have Zz : (∃ vq : SV, Blk wd_7 g7 26 (ndC (xk, svN, vq))) ∧ Blk wd_7 g3 26 (ndC (xk, xb, xs)) ∧ KdL wd_7 pa y := ⟨⟨_, Zq.out⟩, Zp.out, Z0.out⟩
       refine ⟨Zz, ?_⟩
       try simp only [Act.put, List.setIfInBounds_toArray, List.set_cons_succ, List.set_cons_zero]
       refine held_one 8 rfl (by kernel_rfl) ?_
       refine Agg.step_appendG (E := EK) (base := w.heap.size) rfl _ _ rfl ys rfl rfl [y] Z2.out Z1.out (by simp only [List.length_cons, List.length_nil]; omega) (by decide) Zi.out.size ?_
       intro vk0 Zg hok hp _
       obtain ⟨vk2, rfl⟩ := own_sv hok
       have Zt := Lib.hid hok
       have Ze := Lib.hid (hp.blk g7 _ _ _ (by decide) Zq.out)
       have Zh := Lib.hid (hp.blk g3 _ _ _ (by decide) Zp.out)
       have Zs := Lib.hid (hp.blk g5 _ _ _ (by decide) Zy.out)
       have Zv := Lib.hid (hp.blk g6 _ _ _ (by decide) Zx.out)
       have Zf := Lib.hid (Zi.out.trans (hp.below w.heap.size (Nat.le_refl _) Zi.out.size))
       have Zu := Lib.hid (show KdL Zg pa y from kid_lies HSL.out Zf.out HYK.out HAD.out)
       clear hok hp
       have Zr : (∃ vq : SV, Blk Zg g7 26 (ndC (xk, svN, vq))) ∧ Blk Zg g3 26 (ndC (xk, xb, xs)) ∧ KdL Zg pa y := ⟨⟨_, Ze.out⟩, Zh.out, Zu.out⟩
       refine ⟨Zr, ?_⟩
       try simp only [Act.put, List.setIfInBounds_toArray, List.set_cons_succ, List.set_cons_zero]
       refine held_take 9 (.pointer (some ⟨g7, 2, none⟩)) rfl (by kernel_rfl) (fun _ _ _ h => h) rfl (fun W _ => by kernel_rfl) (by assumption) ?_
       try simp only [Act.put, List.setIfInBounds_toArray, List.set_cons_succ, List.set_cons_zero]
       refine held_one 10 rfl (by kernel_rfl) ?_
       obtain ⟨Za, hrun, hbf, hof⟩ := Agg.Blk.run_one (P := Tryd.prog) (ty := 24) Ze.out 2 (by show 2 < 3; omega) vk2.1 (sv_cells vk2) (sv_oneT vk2) (by kernel_rfl) (ndC (xk, svN, vk2)) rfl
       refine step_store rfl rfl 24 _ _ rfl (.pointer (some ⟨g7, 2, none⟩)) vk2.1 rfl rfl hrun ?_
       have Zo := Lib.hid (Own.onlyB Zt.out hof Ze.out (by decide))
       have Zb := Lib.hid (Agg.Blk.keepO Zh.out hof (fun e => HG7.out.2.1 e))
       have Zn := Lib.hid (Agg.Blk.keepO Zs.out hof (fun e => HG7.out.2.2.1 e))
       have Zm := Lib.hid (Agg.Blk.keepO Zv.out hof (fun e => HG7.out.2.2.2 e))
       have Zc := Lib.hid hbf
       have Zd := Lib.hid (Zf.out.trans (hof.below Zf.out.size (fun i hi => by subst hi; exact HG7.out.1)))
       have Zk := Lib.hid (show KdL Za pa y from kid_lies HSL.out Zd.out HYK.out HAD.out)
       clear hrun hbf hof
       have Zj : (∃ vq : SV, Blk Za g7 26 (ndC (xk, svN, vq))) ∧ Blk Za g3 26 (ndC (xk, xb, xs)) ∧ KdL Za pa y := ⟨⟨_, Zc.out⟩, Zb.out, Zk.out⟩
       refine ⟨Zj, ?_⟩
       try simp only [Act.put, List.setIfInBounds_toArray, List.set_cons_succ, List.set_cons_zero]
       refine held_end (by kernel_rfl) ?_
       simp only [ExPut, Act.put, List.setIfInBounds_toArray, List.set_cons_succ, List.set_cons_zero]
       exact ⟨vk2, Zo.out, Zc.out, Zb.out, Zn.out, Zm.out, Zd.out, _, _, _, _, _, _, _, _, _, _, rfl⟩
      refine held_cons rfl ?_ ?_
      ·refine step_slice1 (E := EK) rfl _ rfl y rfl ?_
       intro ys wd_7 hys hx
       have HZ_7 := Lib.hid hys.slice
       have HO_7 := Lib.hid (HO_.out.below hx)
       have HN_7 := Lib.hid (HN_.out.below hx)
       have HB_7 := Lib.hid (HB_.out.below hx)
       have HU_7 := Lib.hid (HU_.out.below hx)
       have HR_7 := Lib.hid (HR_.out.below hx)
       have HY_7 := Lib.hid (HY_.out.below hx)
       have HX_7 := Lib.hid (belowThen HX_.out (Nat.le_refl _) hx)
       clear hys hx
       have hS_7 : (∃ vq : SV, Blk wd_7 g7 26 (ndC (xk, svN, vq))) ∧ Blk wd_7 g3 26 (ndC (xk, xb, xs)) ∧ KdL wd_7 pa y := ⟨⟨_, HN_7.out⟩, HB_7.out, HY_7.out⟩
       refine ⟨hS_7, ?_⟩
       try simp only [Act.put, List.setIfInBounds_toArray, List.set_cons_succ, List.set_cons_zero]
       refine held_one 1 rfl (by kernel_rfl) ?_
       refine step_load rfl 24 _ rfl _ vk.1 rfl (NdL.of_blk HN_7.out).kids.now ?_
       have Z2 := HO_7
       have Zq := HN_7
       have Zp := HB_7
       have Zy := HU_7
       have Zx := HR_7
       have Z0 := HY_7
       have Zi := HX_7
       have Z1 := HZ_7
       have Zz : (∃ vq : SV, Blk wd_7 g7 26 (ndC (xk, svN, vq))) ∧ Blk wd_7 g3 26 (ndC (xk, xb, xs)) ∧ KdL wd_7 pa y := ⟨⟨_, Zq.out⟩, Zp.out, Z0.out⟩
       refine ⟨Zz, ?_⟩
       try simp only [Act.put, List.setIfInBounds_toArray, List.set_cons_succ, List.set_cons_zero]
       refine held_one 8 rfl (by kernel_rfl) ?_
       refine Agg.step_appendG (E := EK) (base := w.heap.size) rfl _ _ rfl ys rfl rfl [y] Z2.out Z1.out (by simp only [List.length_cons, List.length_nil]; omega) (by decide) Zi.out.size ?_
       intro vk0 Zg hok hp _
       obtain ⟨vk2, rfl⟩ := own_sv hok
       have Zt := Lib.hid hok
       have Ze := Lib.hid (hp.blk g7 _ _ _ (by decide) Zq.out)
       have Zh := Lib.hid (hp.blk g3 _ _ _ (by decide) Zp.out)
       have Zs := Lib.hid (hp.blk g5 _ _ _ (by decide) Zy.out)
       have Zv := Lib.hid (hp.blk g6 _ _ _ (by decide) Zx.out)
       have Zf := Lib.hid (Zi.out.trans (hp.below w.heap.size (Nat.le_refl _) Zi.out.size))
       have Zu := Lib.hid (show KdL Zg pa y from kid_lies HSL.out Zf.out HYK.out HAD.out)
       clear hok hp
       have Zr : (∃ vq : SV, Blk Zg g7 26 (ndC (xk, svN, vq))) ∧ Blk Zg g3 26 (ndC (xk, xb, xs)) ∧ KdL Zg pa y := ⟨⟨_, Ze.out⟩, Zh.out, Zu.out⟩
       refine ⟨Zr, ?_⟩
       try simp only [Act.put, List.setIfInBounds_toArray, List.set_cons_succ, List.set_cons_zero]
       refine held_take 9 (.pointer (some ⟨g7, 2, none⟩)) rfl (by kernel_rfl) (fun _ _ _ h => h) rfl (fun W _ => by kernel_rfl) (by assumption) ?_
       try simp only [Act.put, List.setIfInBounds_toArray, List.set_cons_succ, List.set_cons_zero]
       refine held_one 10 rfl (by kernel_rfl) ?_
       obtain ⟨Za, hrun, hbf, hof⟩ := Agg.Blk.run_one (P := Tryd.prog) (ty := 24) Ze.out 2 (by show 2 < 3; omega) vk2.1 (sv_cells vk2) (sv_oneT vk2) (by kernel_rfl) (ndC (xk, svN, vk2)) rfl
       refine step_store rfl rfl 24 _ _ rfl (.pointer (some ⟨g7, 2, none⟩)) vk2.1 rfl rfl hrun ?_
       have Zo := Lib.hid (Own.onlyB Zt.out hof Ze.out (by decide))
       have Zb := Lib.hid (Agg.Blk.keepO Zh.out hof (fun e => HG7.out.2.1 e))
       have Zn := Lib.hid (Agg.Blk.keepO Zs.out hof (fun e => HG7.out.2.2.1 e))
       have Zm := Lib.hid (Agg.Blk.keepO Zv.out hof (fun e => HG7.out.2.2.2 e))
       have Zc := Lib.hid hbf
       have Zd := Lib.hid (Zf.out.trans (hof.below Zf.out.size (fun i hi => by subst hi; exact HG7.out.1)))
       have Zk := Lib.hid (show KdL Za pa y from kid_lies HSL.out Zd.out HYK.out HAD.out)
       clear hrun hbf hof
       have Zj : (∃ vq : SV, Blk Za g7 26 (ndC (xk, svN, vq))) ∧ Blk Za g3 26 (ndC (xk, xb, xs)) ∧ KdL Za pa y := ⟨⟨_, Zc.out⟩, Zb.out, Zk.out⟩
       refine ⟨Zj, ?_⟩
       try simp only [Act.put, List.setIfInBounds_toArray, List.set_cons_succ, List.set_cons_zero]
       refine held_end (by kernel_rfl) ?_
       simp only [ExPut, Act.put, List.setIfInBounds_toArray, List.set_cons_succ, List.set_cons_zero]
       exact ⟨vk2, Zo.out, Zc.out, Zb.out, Zn.out, Zm.out, Zd.out, _, _, _, _, _, _, _, _, _, _, rfl⟩
      exact AllReadyH.nil
     ·rintro a' we ⟨vk2, h1, h2, h3, h4, h5, h6, hex⟩
      simp only [ExPut, Act.put, List.setIfInBounds_toArray, List.set_cons_succ, List.set_cons_zero] at hex
      obtain ⟨y48, y49, y50, y51, y52, y53, y54, y55, y56, y57, rfl⟩ := hex
      have HOe := Lib.hid h1
      have HNe := Lib.hid h2
      have HBe := Lib.hid h3
      have HUe := Lib.hid h4
      have HRe := Lib.hid h5
      have HXe := Lib.hid h6
      clear h1 h2 h3 h4 h5 h6
      go_wp2_with fail
      go_roundw
      case rel => exact ⟨q + 1, true, vk2, _, done ++ [(y.1, zt)], by omega, rfl, by go_num, HD3.out, by simp only [List.length_append, List.length_cons, List.length_nil]; omega, forall2_snoc HKDa.out HYN.out, HOe.out, HNe.out, HBe.out, HUe.out, HRe.out, HXe.out⟩
      case measure => simp [intOf]; omega
   | false =>
    have hlo := leq_or nm y.1
    cases hb1 : (!Op.bytesLess y.1 nm) with
    | true =>
     have HLQ := Lib.hid hb1
     have HLO := Lib.hid (hlo.symm.trans hb1)
     clear hlo hb1
     by_cases heq : y.1 = nm
     case pos =>
      have HEQ := Lib.hid (show (!decide (y.1 = nm)) = false by simp [heq])
      have HD3 := Lib.hid (show done ++ [(nm, u)] ++ withR nm u (l.drop (q + 1)) true = withR nm u l false by
       rw [← HD2.out]
       simp [heq])
      clear heq
      go_wp2_with (first | (with_reducible refine wpList_loadL (NdL.of_blk HBa.out).kids rfl _ rfl rfl ?_) | (with_reducible refine wpList_loadL HYa.out.name rfl _ rfl rfl ?_) | (with_reducible refine wpList_loadL (NdL.of_blk HNa.out).kids rfl _ rfl rfl ?_) | (with_reducible refine wpList_loadL (NdL.of_blk HUa.out).all rfl _ rfl rfl ?_) | (with_reducible refine wpList_build2 51 0 _ 1 _ rfl rfl (.string ⟨nm.toArray⟩) (.agg (ndC xx)) rfl rfl (.agg (kdC (nm, xx))) (kd_build nm xx) ?_) | (refine wpList_push (E := EK) rfl rfl 37 rfl _ rfl _ rfl (nm, xx) rfl (fun _ => rfl) (by first | (simp; done) | simp [Act.put]) HOa.out (by omega) (by decide) HXa.out.size ?_; intro u9 v9 wb ho hp; obtain ⟨vk1, rfl⟩ := own_sv ho; have HOb := Lib.hid ho; have HXb := Lib.hid (HXa.out.trans (hp.below _ (Nat.le_refl _) HXa.out.size)); have HNb := Lib.hid (hp.blk g7 _ _ _ (by decide) HNa.out); have HBb := Lib.hid (hp.blk g3 _ _ _ (by decide) HBa.out); have HUb := Lib.hid (hp.blk g5 _ _ _ (by decide) HUa.out); have HRb := Lib.hid (hp.blk g6 _ _ _ (by decide) HRa.out); clear ho hp) | (refine Agg.wpList_put1 rfl rfl 24 _ _ rfl g7 2 vk1.1 rfl rfl HNb.out (by show 2 < 3; omega) (sv_cells vk1) (sv_oneT vk1) (by kernel_rfl) (ndC (xk, svN, vk1)) rfl ?_; intro wc hb ho hz; have HNc := Lib.hid hb; have HOc := Lib.hid (Own.onlyB HOb.out ho HNb.out (by decide)); have HXc := Lib.hid (HXb.out.trans (ho.below (B := w.heap.size) HXb.out.size (fun i hi => by subst hi; exact HG7.out.1))); have HBc := Lib.hid (Agg.Blk.keepO HBb.out ho (fun e => HG7.out.2.1 e)); have HUc := Lib.hid (Agg.Blk.keepO HUb.out ho (fun e => HG7.out.2.2.1 e)); have HRc := Lib.hid (Agg.Blk.keepO HRb.out ho (fun e => HG7.out.2.2.2 e)); have HYc := Lib.hid (kid_lies HSL.out HXc.out HYK.out HAD.out); clear hb ho hz) | (with_reducible refine wpList_loadL (NdL.of_blk HBc.out).kids rfl _ rfl rfl ?_) | (with_reducible refine wpList_loadL HYc.out.name rfl _ rfl rfl ?_) | (refine Agg.wpList_leqS rfl rfl rfl rfl true HLQ.out ?_) | (refine Agg.wpList_neqS rfl rfl rfl rfl false HEQ.out ?_))
      go_roundw
      case rel => exact ⟨q + 1, true, vk1, (kk ++ [(nm, xx)]), (done ++ [(nm, u)]), by omega, rfl, by go_num, HD3.out, by simp only [List.length_append, List.length_cons, List.length_nil]; omega, forall2_snoc HKDa.out HU.out, HOc.out, HNc.out, HBc.out, HUc.out, HRc.out, HXc.out⟩
      case measure => simp [intOf]; omega
     case neg =>
      have HEQ := Lib.hid (show (!decide (y.1 = nm)) = true by simp [heq])
      have HD3 := Lib.hid (show done ++ [(nm, u)] ++ [(y.1, zt)] ++ withR nm u (l.drop (q + 1)) true = withR nm u l false by
       rw [← HD2.out]
       simp [heq, HLO.out])
      clear heq
      go_wp2_with (first | (with_reducible refine wpList_loadL (NdL.of_blk HBa.out).kids rfl _ rfl rfl ?_) | (with_reducible refine wpList_loadL HYa.out.name rfl _ rfl rfl ?_) | (with_reducible refine wpList_loadL (NdL.of_blk HNa.out).kids rfl _ rfl rfl ?_) | (with_reducible refine wpList_loadL (NdL.of_blk HUa.out).all rfl _ rfl rfl ?_) | (with_reducible refine wpList_build2 51 0 _ 1 _ rfl rfl (.string ⟨nm.toArray⟩) (.agg (ndC xx)) rfl rfl (.agg (kdC (nm, xx))) (kd_build nm xx) ?_) | (refine wpList_push (E := EK) rfl rfl 37 rfl _ rfl _ rfl (nm, xx) rfl (fun _ => rfl) (by first | (simp; done) | simp [Act.put]) HOa.out (by omega) (by decide) HXa.out.size ?_; intro u9 v9 wb ho hp; obtain ⟨vk1, rfl⟩ := own_sv ho; have HOb := Lib.hid ho; have HXb := Lib.hid (HXa.out.trans (hp.below _ (Nat.le_refl _) HXa.out.size)); have HNb := Lib.hid (hp.blk g7 _ _ _ (by decide) HNa.out); have HBb := Lib.hid (hp.blk g3 _ _ _ (by decide) HBa.out); have HUb := Lib.hid (hp.blk g5 _ _ _ (by decide) HUa.out); have HRb := Lib.hid (hp.blk g6 _ _ _ (by decide) HRa.out); clear ho hp) | (refine Agg.wpList_put1 rfl rfl 24 _ _ rfl g7 2 vk1.1 rfl rfl HNb.out (by show 2 < 3; omega) (sv_cells vk1) (sv_oneT vk1) (by kernel_rfl) (ndC (xk, svN, vk1)) rfl ?_; intro wc hb ho hz; have HNc := Lib.hid hb; have HOc := Lib.hid (Own.onlyB HOb.out ho HNb.out (by decide)); have HXc := Lib.hid (HXb.out.trans (ho.below (B := w.heap.size) HXb.out.size (fun i hi => by subst hi; exact HG7.out.1))); have HBc := Lib.hid (Agg.Blk.keepO HBb.out ho (fun e => HG7.out.2.1 e)); have HUc := Lib.hid (Agg.Blk.keepO HUb.out ho (fun e => HG7.out.2.2.1 e)); have HRc := Lib.hid (Agg.Blk.keepO HRb.out ho (fun e => HG7.out.2.2.2 e)); have HYc := Lib.hid (kid_lies HSL.out HXc.out HYK.out HAD.out); clear hb ho hz) | (with_reducible refine wpList_loadL (NdL.of_blk HBc.out).kids rfl _ rfl rfl ?_) | (with_reducible refine wpList_loadL HYc.out.name rfl _ rfl rfl ?_) | (refine Agg.wpList_leqS rfl rfl rfl rfl true HLQ.out ?_) | (refine Agg.wpList_neqS rfl rfl rfl rfl true HEQ.out ?_))
      refine Agg.wp_cutR (fun a a' w' => ∃ vk2 : SV, Agg.Own EK w.heap.size w' vk2.1 ((kk ++ [(nm, xx)]) ++ [y]) ∧ Blk w' g7 26 (ndC (xk, svN, vk2)) ∧ Blk w' g3 26 (ndC (xk, xb, xs)) ∧ Blk w' g5 26 (ndC xx) ∧ Blk w' g6 26 (ndC ndZ) ∧ Below w.heap.size w w' ∧ ExPut [48, 49, 50, 51, 52, 53, 54, 55, 56, 57] a a') ?_ ?_
      ·try simp only [Act.put, List.setIfInBounds_toArray, List.set_cons_succ, List.set_cons_zero]
       obtain ⟨wd, hwd⟩ : ∃ W, W = wc.drew := ⟨_, rfl⟩
       have hdb : Below wc.heap.size wc wd := by rw [hwd]; exact (Below.refl _ _).drew
       have HO_ := Lib.hid (HOc.out.below hdb)
       have HN_ := Lib.hid (HNc.out.below hdb)
       have HB_ := Lib.hid (HBc.out.below hdb)
       have HU_ := Lib.hid (HUc.out.below hdb)
       have HR_ := Lib.hid (HRc.out.below hdb)
       have HY_ := Lib.hid (HYc.out.below hdb)
       have HX_ := Lib.hid (belowThen HXc.out (Nat.le_refl _) hdb)
       refine wp_region_held_drew (S := fun W => (∃ vq : SV, Blk W g7 26 (ndC (xk, svN, vq))) ∧ Blk W g3 26 (ndC (xk, xb, xs)) ∧ KdL W pa y) (by kernel_rfl) (by rw [← hwd]; exact ⟨⟨_, HN_.out⟩, HB_.out, HY_.out⟩) (fun hHeld => ?_)
       rw [← hwd] at hHeld ⊢
       clear hwd hdb
       refine held_take 0 (.pointer (some ⟨g7, 2, none⟩)) rfl (by kernel_rfl) (fun _ _ _ h => h) rfl (fun W _ => by kernel_rfl) (by assumption) ?_
       try simp only [Act.put, List.setIfInBounds_toArray, List.set_cons_succ, List.set_cons_zero]
       refine held_take 2 (.pointer (some ⟨g3, 2, none⟩)) rfl (by kernel_rfl) (fun _ _ _ h => h) rfl (fun W _ => by kernel_rfl) (by assumption) ?_
       try simp only [Act.put, List.setIfInBounds_toArray, List.set_cons_succ, List.set_cons_zero]
       refine held_take 3 (xs.1) rfl (by kernel_rfl) (fun _ _ _ h => h) rfl (fun W hS => exec_loadB rfl rfl (NdL.of_blk hS.2.1).kids.now) (by assumption) ?_
       try simp only [Act.put, List.setIfInBounds_toArray, List.set_cons_succ, List.set_cons_zero]
       refine held_take 4 (.int .i64 (q : Int)) rfl (by kernel_rfl) (fun _ _ _ h => h) rfl (fun W _ => by kernel_rfl) (by assumption) ?_
       try simp only [Act.put, List.setIfInBounds_toArray, List.set_cons_succ, List.set_cons_zero]
       refine held_take 5 (.pointer (some pa)) rfl (by kernel_rfl) (fun _ _ _ h => h) rfl (fun W _ => exec_idx rfl rfl rfl (HAD.out W)) (by assumption) ?_
       try simp only [Act.put, List.setIfInBounds_toArray, List.set_cons_succ, List.set_cons_zero]
       refine held_take 6 (.agg (kdC y)) rfl (by kernel_rfl) (fun _ _ _ h => h) rfl (fun W hS => exec_loadB rfl rfl hS.2.2.all.now) (by assumption) ?_
       try simp only [Act.put, List.setIfInBounds_toArray, List.set_cons_succ, List.set_cons_zero]
       refine held_ready [1, 7] (by kernel_rfl) (by simp) ?_
       refine held_cons rfl ?_ ?_
       ·refine step_load rfl 24 _ rfl _ vk1.1 rfl (NdL.of_blk HN_.out).kids.now ?_
        have HO_1 := HO_
        have HN_1 := HN_
        have HB_1 := HB_
        have HU_1 := HU_
        have HR_1 := HR_
        have HY_1 := HY_
        have HX_1 := HX_
        have hS_1 : (∃ vq : SV, Blk wd g7 26 (ndC (xk, svN, vq))) ∧ Blk wd g3 26 (ndC (xk, xb, xs)) ∧ KdL wd pa y := ⟨⟨_, HN_1.out⟩, HB_1.out, HY_1.out⟩
        refine ⟨hS_1, ?_⟩
        try simp only [Act.put, List.setIfInBounds_toArray, List.set_cons_succ, List.set_cons_zero]
        refine held_one 7 rfl (by kernel_rfl) ?_
        refine step_slice1 (E := EK) rfl _ rfl y rfl ?_
        intro ys wd_7 hys hx
        have Z1 := Lib.hid hys.slice
        have Z2 := Lib.hid (HO_1.out.below hx)
        have Zq := Lib.hid (HN_1.out.below hx)
        have Zp := Lib.hid (HB_1.out.below hx)
        have Zy := Lib.hid (HU_1.out.below hx)
        have Zx := Lib.hid (HR_1.out.below hx)
        have Z0 := Lib.hid (HY_1.out.below hx)
        have Zi := Lib.hid (belowThen HX_1.out (Nat.le_refl _) hx)
        clear hys hx
        have Zz : (∃ vq : SV, Blk wd_7 g7 26 (ndC (xk, svN, vq))) ∧ Blk wd_7 g3 26 (ndC (xk, xb, xs)) ∧ KdL wd_7 pa y := ⟨⟨_, Zq.out⟩, Zp.out, Z0.out⟩
        refine ⟨Zz, ?_⟩
        try simp only [Act.put, List.setIfInBounds_toArray, List.set_cons_succ, List.set_cons_zero]
        refine held_one 8 rfl (by kernel_rfl) ?_
        refine Agg.step_appendG (E := EK) (base := w.heap.size) rfl _ _ rfl ys rfl rfl [y] Z2.out Z1.out (by simp only [List.length_append, List.length_cons, List.length_nil]; omega) (by decide) Zi.out.size ?_
        intro vk0 Zg hok hp _
        obtain ⟨vk2, rfl⟩ := own_sv hok
        have Zt := Lib.hid hok
        have Ze := Lib.hid (hp.blk g7 _ _ _ (by decide) Zq.out)
        have Zh := Lib.hid (hp.blk g3 _ _ _ (by decide) Zp.out)
        have Zs := Lib.hid (hp.blk g5 _ _ _ (by decide) Zy.out)
        have Zv := Lib.hid (hp.blk g6 _ _ _ (by decide) Zx.out)
        have Zf := Lib.hid (Zi.out.trans (hp.below w.heap.size (Nat.le_refl _) Zi.out.size))
        have Zu := Lib.hid (show KdL Zg pa y from kid_lies HSL.out Zf.out HYK.out HAD.out)
        clear hok hp
        have Zr : (∃ vq : SV, Blk Zg g7 26 (ndC (xk, svN, vq))) ∧ Blk Zg g3 26 (ndC (xk, xb, xs)) ∧ KdL Zg pa y := ⟨⟨_, Ze.out⟩, Zh.out, Zu.out⟩
        refine ⟨Zr, ?_⟩
        try simp only [Act.put, List.setIfInBounds_toArray, List.set_cons_succ, List.set_cons_zero]
        refine held_take 9 (.pointer (some ⟨g7, 2, none⟩)) rfl (by kernel_rfl) (fun _ _ _ h => h) rfl (fun W _ => by kernel_rfl) (by assumption) ?_
        try simp only [Act.put, List.setIfInBounds_toArray, List.set_cons_succ, List.set_cons_zero]
        refine held_one 10 rfl (by kernel_rfl) ?_
        obtain ⟨Za, hrun, hbf, hof⟩ := Agg.Blk.run_one (P := Tryd.prog) (ty := 24) Ze.out 2 (by show 2 < 3; omega) vk2.1 (sv_cells vk2) (sv_oneT vk2) (by kernel_rfl) (ndC (xk, svN, vk2)) rfl
        refine step_store rfl rfl 24 _ _ rfl (.pointer (some ⟨g7, 2, none⟩)) vk2.1 rfl rfl hrun ?_
        have Zo := Lib.hid (Own.onlyB Zt.out hof Ze.out (by decide))
        have Zb := Lib.hid (Agg.Blk.keepO Zh.out hof (fun e => HG7.out.2.1 e))
        have Zn := Lib.hid (Agg.Blk.keepO Zs.out hof (fun e => HG7.out.2.2.1 e))
        have Zm := Lib.hid (Agg.Blk.keepO Zv.out hof (fun e => HG7.out.2.2.2 e))
        have Zc := Lib.hid hbf
        have Zd := Lib.hid (Zf.out.trans (hof.below Zf.out.size (fun i hi => by subst hi; exact HG7.out.1)))
        have Zk := Lib.hid (show KdL Za pa y from kid_lies HSL.out Zd.out HYK.out HAD.out)
        clear hrun hbf hof
        have Zj : (∃ vq : SV, Blk Za g7 26 (ndC (xk, svN, vq))) ∧ Blk Za g3 26 (ndC (xk, xb, xs)) ∧ KdL Za pa y := ⟨⟨_, Zc.out⟩, Zb.out, Zk.out⟩
        refine ⟨Zj, ?_⟩
        try simp only [Act.put, List.setIfInBounds_toArray, List.set_cons_succ, List.set_cons_zero]
        refine held_end (by kernel_rfl) ?_
        simp only [ExPut, Act.put, List.setIfInBounds_toArray, List.set_cons_succ, List.set_cons_zero]
        exact ⟨vk2, Zo.out, Zc.out, Zb.out, Zn.out, Zm.out, Zd.out, _, _, _, _, _, _, _, _, _, _, rfl⟩
       refine held_cons rfl ?_ ?_
       ·refine step_slice1 (E := EK) rfl _ rfl y rfl ?_
        intro ys wd_7 hys hx
        have HZ_7 := Lib.hid hys.slice
        have HO_7 := Lib.hid (HO_.out.below hx)
        have HN_7 := Lib.hid (HN_.out.below hx)
        have HB_7 := Lib.hid (HB_.out.below hx)
        have HU_7 := Lib.hid (HU_.out.below hx)
        have HR_7 := Lib.hid (HR_.out.below hx)
        have HY_7 := Lib.hid (HY_.out.below hx)
        have HX_7 := Lib.hid (belowThen HX_.out (Nat.le_refl _) hx)
        clear hys hx
        have hS_7 : (∃ vq : SV, Blk wd_7 g7 26 (ndC (xk, svN, vq))) ∧ Blk wd_7 g3 26 (ndC (xk, xb, xs)) ∧ KdL wd_7 pa y := ⟨⟨_, HN_7.out⟩, HB_7.out, HY_7.out⟩
        refine ⟨hS_7, ?_⟩
        try simp only [Act.put, List.setIfInBounds_toArray, List.set_cons_succ, List.set_cons_zero]
        refine held_one 1 rfl (by kernel_rfl) ?_
        refine step_load rfl 24 _ rfl _ vk1.1 rfl (NdL.of_blk HN_7.out).kids.now ?_
        have Z2 := HO_7
        have Zq := HN_7
        have Zp := HB_7
        have Zy := HU_7
        have Zx := HR_7
        have Z0 := HY_7
        have Zi := HX_7
        have Z1 := HZ_7
        have Zz : (∃ vq : SV, Blk wd_7 g7 26 (ndC (xk, svN, vq))) ∧ Blk wd_7 g3 26 (ndC (xk, xb, xs)) ∧ KdL wd_7 pa y := ⟨⟨_, Zq.out⟩, Zp.out, Z0.out⟩
        refine ⟨Zz, ?_⟩
        try simp only [Act.put, List.setIfInBounds_toArray, List.set_cons_succ, List.set_cons_zero]
        refine held_one 8 rfl (by kernel_rfl) ?_
        refine Agg.step_appendG (E := EK) (base := w.heap.size) rfl _ _ rfl ys rfl rfl [y] Z2.out Z1.out (by simp only [List.length_append, List.length_cons, List.length_nil]; omega) (by decide) Zi.out.size ?_
        intro vk0 Zg hok hp _
        obtain ⟨vk2, rfl⟩ := own_sv hok
        have Zt := Lib.hid hok
        have Ze := Lib.hid (hp.blk g7 _ _ _ (by decide) Zq.out)
        have Zh := Lib.hid (hp.blk g3 _ _ _ (by decide) Zp.out)
        have Zs := Lib.hid (hp.blk g5 _ _ _ (by decide) Zy.out)
        have Zv := Lib.hid (hp.blk g6 _ _ _ (by decide) Zx.out)
        have Zf := Lib.hid (Zi.out.trans (hp.below w.heap.size (Nat.le_refl _) Zi.out.size))
        have Zu := Lib.hid (show KdL Zg pa y from kid_lies HSL.out Zf.out HYK.out HAD.out)
        clear hok hp
        have Zr : (∃ vq : SV, Blk Zg g7 26 (ndC (xk, svN, vq))) ∧ Blk Zg g3 26 (ndC (xk, xb, xs)) ∧ KdL Zg pa y := ⟨⟨_, Ze.out⟩, Zh.out, Zu.out⟩
        refine ⟨Zr, ?_⟩
        try simp only [Act.put, List.setIfInBounds_toArray, List.set_cons_succ, List.set_cons_zero]
        refine held_take 9 (.pointer (some ⟨g7, 2, none⟩)) rfl (by kernel_rfl) (fun _ _ _ h => h) rfl (fun W _ => by kernel_rfl) (by assumption) ?_
        try simp only [Act.put, List.setIfInBounds_toArray, List.set_cons_succ, List.set_cons_zero]
        refine held_one 10 rfl (by kernel_rfl) ?_
        obtain ⟨Za, hrun, hbf, hof⟩ := Agg.Blk.run_one (P := Tryd.prog) (ty := 24) Ze.out 2 (by show 2 < 3; omega) vk2.1 (sv_cells vk2) (sv_oneT vk2) (by kernel_rfl) (ndC (xk, svN, vk2)) rfl
        refine step_store rfl rfl 24 _ _ rfl (.pointer (some ⟨g7, 2, none⟩)) vk2.1 rfl rfl hrun ?_
        have Zo := Lib.hid (Own.onlyB Zt.out hof Ze.out (by decide))
        have Zb := Lib.hid (Agg.Blk.keepO Zh.out hof (fun e => HG7.out.2.1 e))
        have Zn := Lib.hid (Agg.Blk.keepO Zs.out hof (fun e => HG7.out.2.2.1 e))
        have Zm := Lib.hid (Agg.Blk.keepO Zv.out hof (fun e => HG7.out.2.2.2 e))
        have Zc := Lib.hid hbf
        have Zd := Lib.hid (Zf.out.trans (hof.below Zf.out.size (fun i hi => by subst hi; exact HG7.out.1)))
        have Zk := Lib.hid (show KdL Za pa y from kid_lies HSL.out Zd.out HYK.out HAD.out)
        clear hrun hbf hof
        have Zj : (∃ vq : SV, Blk Za g7 26 (ndC (xk, svN, vq))) ∧ Blk Za g3 26 (ndC (xk, xb, xs)) ∧ KdL Za pa y := ⟨⟨_, Zc.out⟩, Zb.out, Zk.out⟩
        refine ⟨Zj, ?_⟩
        try simp only [Act.put, List.setIfInBounds_toArray, List.set_cons_succ, List.set_cons_zero]
        refine held_end (by kernel_rfl) ?_
        simp only [ExPut, Act.put, List.setIfInBounds_toArray, List.set_cons_succ, List.set_cons_zero]
        exact ⟨vk2, Zo.out, Zc.out, Zb.out, Zn.out, Zm.out, Zd.out, _, _, _, _, _, _, _, _, _, _, rfl⟩
       exact AllReadyH.nil
      ·rintro a' we ⟨vk2, h1, h2, h3, h4, h5, h6, hex⟩
       simp only [ExPut, Act.put, List.setIfInBounds_toArray, List.set_cons_succ, List.set_cons_zero] at hex
       obtain ⟨y48, y49, y50, y51, y52, y53, y54, y55, y56, y57, rfl⟩ := hex
       have HOe := Lib.hid h1
       have HNe := Lib.hid h2
       have HBe := Lib.hid h3
       have HUe := Lib.hid h4
       have HRe := Lib.hid h5
       have HXe := Lib.hid h6
       clear h1 h2 h3 h4 h5 h6
       go_wp2_with fail
       go_roundw
       case rel => exact ⟨q + 1, true, vk2, _, (done ++ [(nm, u)]) ++ [(y.1, zt)], by omega, rfl, by go_num, HD3.out, by simp only [List.length_append, List.length_cons, List.length_nil]; omega, forall2_snoc (forall2_snoc HKDa.out HU.out) HYN.out, HOe.out, HNe.out, HBe.out, HUe.out, HRe.out, HXe.out⟩
       case measure => simp [intOf]; omega
    | false =>
     have HLQ := Lib.hid hb1
     have HLO := Lib.hid (hlo.symm.trans hb1)
     clear hlo hb1
     by_cases heq : y.1 = nm
     case pos =>
      exact absurd HLO.out (by simp [heq])
     case neg =>
      have HEQ := Lib.hid (show (!decide (y.1 = nm)) = true by simp [heq])
      have HD3 := Lib.hid (show done ++ [(y.1, zt)] ++ withR nm u (l.drop (q + 1)) false = withR nm u l false by
       rw [← HD2.out]
       simp [heq, HLO.out])
      clear heq
      go_wp2_with (first | (with_reducible refine wpList_loadL (NdL.of_blk HBa.out).kids rfl _ rfl rfl ?_) | (with_reducible refine wpList_loadL HYa.out.name rfl _ rfl rfl ?_) | (refine Agg.wpList_leqS rfl rfl rfl rfl false HLQ.out ?_) | (refine Agg.wpList_neqS rfl rfl rfl rfl true HEQ.out ?_))
      refine Agg.wp_cutR (fun a a' w' => ∃ vk2 : SV, Agg.Own EK w.heap.size w' vk2.1 (kk ++ [y]) ∧ Blk w' g7 26 (ndC (xk, svN, vk2)) ∧ Blk w' g3 26 (ndC (xk, xb, xs)) ∧ Blk w' g5 26 (ndC xx) ∧ Blk w' g6 26 (ndC ndZ) ∧ Below w.heap.size w w' ∧ ExPut [48, 49, 50, 51, 52, 53, 54, 55, 56, 57] a a') ?_ ?_
      ·try simp only [Act.put, List.setIfInBounds_toArray, List.set_cons_succ, List.set_cons_zero]
       obtain ⟨wd, hwd⟩ : ∃ W, W = wa.drew := ⟨_, rfl⟩
       have hdb : Below wa.heap.size wa wd := by rw [hwd]; exact (Below.refl _ _).drew
       have HO_ := Lib.hid (HOa.out.below hdb)
       have HN_ := Lib.hid (HNa.out.below hdb)
       have HB_ := Lib.hid (HBa.out.below hdb)
       have HU_ := Lib.hid (HUa.out.below hdb)
       have HR_ := Lib.hid (HRa.out.below hdb)
       have HY_ := Lib.hid (HYa.out.below hdb)
       have HX_ := Lib.hid (belowThen HXa.out (Nat.le_refl _) hdb)
       refine wp_region_held_drew (S := fun W => (∃ vq : SV, Blk W g7 26 (ndC (xk, svN, vq))) ∧ Blk W g3 26 (ndC (xk, xb, xs)) ∧ KdL W pa y) (by kernel_rfl) (by rw [← hwd]; exact ⟨⟨_, HN_.out⟩, HB_.out, HY_.out⟩) (fun hHeld => ?_)
       rw [← hwd] at hHeld ⊢
       clear hwd hdb
       refine held_take 0 (.pointer (some ⟨g7, 2, none⟩)) rfl (by kernel_rfl) (fun _ _ _ h => h) rfl (fun W _ => by kernel_rfl) (by assumption) ?_
       try simp only [Act.put, List.setIfInBounds_toArray, List.set_cons_succ, List.set_cons_zero]
       refine held_take 2 (.pointer (some ⟨g3, 2, none⟩)) rfl (by kernel_rfl) (fun _ _ _ h => h) rfl (fun W _ => by kernel_rfl) (by assumption) ?_
       try simp only [Act.put, List.setIfInBounds_toArray, List.set_cons_succ, List.set_cons_zero]
       refine held_take 3 (xs.1) rfl (by kernel_rfl) (fun _ _ _ h => h) rfl (fun W hS => exec_loadB rfl rfl (NdL.of_blk hS.2.1).kids.now) (by assumption) ?_
       try simp only [Act.put, List.setIfInBounds_toArray, List.set_cons_succ, List.set_cons_zero]
       refine held_take 4 (.int .i64 (q : Int)) rfl (by kernel_rfl) (fun _ _ _ h => h) rfl (fun W _ => by kernel_rfl) (by assumption) ?_
       try simp only [Act.put, List.setIfInBounds_toArray, List.set_cons_succ, List.set_cons_zero]
       refine held_take 5 (.pointer (some pa)) rfl (by kernel_rfl) (fun _ _ _ h => h) rfl (fun W _ => exec_idx rfl rfl rfl (HAD.out W)) (by assumption) ?_
       try simp only [Act.put, List.setIfInBounds_toArray, List.set_cons_succ, List.set_cons_zero]
       refine held_take 6 (.agg (kdC y)) rfl (by kernel_rfl) (fun _ _ _ h => h) rfl (fun W hS => exec_loadB rfl rfl hS.2.2.all.now) (by assumption) ?_
       try simp only [Act.put, List.setIfInBounds_toArray, List.set_cons_succ, List.set_cons_zero]
       refine held_ready [1, 7] (by kernel_rfl) (by simp) ?_
       refine held_cons rfl ?_ ?_
       ·refine step_load rfl 24 _ rfl _ vk.1 rfl (NdL.of_blk HN_.out).kids.now ?_
        have HO_1 := HO_
        have HN_1 := HN_
        have HB_1 := HB_
        have HU_1 := HU_
        have HR_1 := HR_
        have HY_1 := HY_
        have HX_1 := HX_
        have hS_1 : (∃ vq : SV, Blk wd g7 26 (ndC (xk, svN, vq))) ∧ Blk wd g3 26 (ndC (xk, xb, xs)) ∧ KdL wd pa y := ⟨⟨_, HN_1.out⟩, HB_1.out, HY_1.out⟩
        refine ⟨hS_1, ?_⟩
        try simp only [Act.put, List.setIfInBounds_toArray, List.set_cons_succ, List.set_cons_zero]
        refine held_one 7 rfl (by kernel_rfl) ?_
        refine step_slice1 (E := EK) rfl _ rfl y rfl ?_
        intro ys wd_7 hys hx
        have Z1 := Lib.hid hys.slice
        have Z2 := Lib.hid (HO_1.out.below hx)
        have Zq := Lib.hid (HN_1.out.below hx)
        have Zp := Lib.hid (HB_1.out.below hx)
        have Zy := Lib.hid (HU_1.out.below hx)
        have Zx := Lib.hid (HR_1.out.below hx)
        have Z0 := Lib.hid (HY_1.out.below hx)
        have Zi := Lib.hid (belowThen HX_1.out (Nat.le_refl _) hx)
        clear hys hx
        have Zz : (∃ vq : SV, Blk wd_7 g7 26 (ndC (xk, svN, vq))) ∧ Blk wd_7 g3 26 (ndC (xk, xb, xs)) ∧ KdL wd_7 pa y := ⟨⟨_, Zq.out⟩, Zp.out, Z0.out⟩
        refine ⟨Zz, ?_⟩
        try simp only [Act.put, List.setIfInBounds_toArray, List.set_cons_succ, List.set_cons_zero]
        refine held_one 8 rfl (by kernel_rfl) ?_
        refine Agg.step_appendG (E := EK) (base := w.heap.size) rfl _ _ rfl ys rfl rfl [y] Z2.out Z1.out (by simp only [List.length_cons, List.length_nil]; omega) (by decide) Zi.out.size ?_
        intro vk0 Zg hok hp _
        obtain ⟨vk2, rfl⟩ := own_sv hok
        have Zt := Lib.hid hok
        have Ze := Lib.hid (hp.blk g7 _ _ _ (by decide) Zq.out)
        have Zh := Lib.hid (hp.blk g3 _ _ _ (by decide) Zp.out)
        have Zs := Lib.hid (hp.blk g5 _ _ _ (by decide) Zy.out)
        have Zv := Lib.hid (hp.blk g6 _ _ _ (by decide) Zx.out)
        have Zf := Lib.hid (Zi.out.trans (hp.below w.heap.size (Nat.le_refl _) Zi.out.size))
        have Zu := Lib.hid (show KdL Zg pa y from kid_lies HSL.out Zf.out HYK.out HAD.out)
        clear hok hp
        have Zr : (∃ vq : SV, Blk Zg g7 26 (ndC (xk, svN, vq))) ∧ Blk Zg g3 26 (ndC (xk, xb, xs)) ∧ KdL Zg pa y := ⟨⟨_, Ze.out⟩, Zh.out, Zu.out⟩
        refine ⟨Zr, ?_⟩
        try simp only [Act.put, List.setIfInBounds_toArray, List.set_cons_succ, List.set_cons_zero]
        refine held_take 9 (.pointer (some ⟨g7, 2, none⟩)) rfl (by kernel_rfl) (fun _ _ _ h => h) rfl (fun W _ => by kernel_rfl) (by assumption) ?_
        try simp only [Act.put, List.setIfInBounds_toArray, List.set_cons_succ, List.set_cons_zero]
        refine held_one 10 rfl (by kernel_rfl) ?_
        obtain ⟨Za, hrun, hbf, hof⟩ := Agg.Blk.run_one (P := Tryd.prog) (ty := 24) Ze.out 2 (by show 2 < 3; omega) vk2.1 (sv_cells vk2) (sv_oneT vk2) (by kernel_rfl) (ndC (xk, svN, vk2)) rfl
        refine step_store rfl rfl 24 _ _ rfl (.pointer (some ⟨g7, 2, none⟩)) vk2.1 rfl rfl hrun ?_
        have Zo := Lib.hid (Own.onlyB Zt.out hof Ze.out (by decide))
        have Zb := Lib.hid (Agg.Blk.keepO Zh.out hof (fun e => HG7.out.2.1 e))
        have Zn := Lib.hid (Agg.Blk.keepO Zs.out hof (fun e => HG7.out.2.2.1 e))
        have Zm := Lib.hid (Agg.Blk.keepO Zv.out hof (fun e => HG7.out.2.2.2 e))
        have Zc := Lib.hid hbf
        have Zd := Lib.hid (Zf.out.trans (hof.below Zf.out.size (fun i hi => by subst hi; exact HG7.out.1)))
        have Zk := Lib.hid (show KdL Za pa y from kid_lies HSL.out Zd.out HYK.out HAD.out)
        clear hrun hbf hof
        have Zj : (∃ vq : SV, Blk Za g7 26 (ndC (xk, svN, vq))) ∧ Blk Za g3 26 (ndC (xk, xb, xs)) ∧ KdL Za pa y := ⟨⟨_, Zc.out⟩, Zb.out, Zk.out⟩
        refine ⟨Zj, ?_⟩
        try simp only [Act.put, List.setIfInBounds_toArray, List.set_cons_succ, List.set_cons_zero]
        refine held_end (by kernel_rfl) ?_
        simp only [ExPut, Act.put, List.setIfInBounds_toArray, List.set_cons_succ, List.set_cons_zero]
        exact ⟨vk2, Zo.out, Zc.out, Zb.out, Zn.out, Zm.out, Zd.out, _, _, _, _, _, _, _, _, _, _, rfl⟩
       refine held_cons rfl ?_ ?_
       ·refine step_slice1 (E := EK) rfl _ rfl y rfl ?_
        intro ys wd_7 hys hx
        have HZ_7 := Lib.hid hys.slice
        have HO_7 := Lib.hid (HO_.out.below hx)
        have HN_7 := Lib.hid (HN_.out.below hx)
        have HB_7 := Lib.hid (HB_.out.below hx)
        have HU_7 := Lib.hid (HU_.out.below hx)
        have HR_7 := Lib.hid (HR_.out.below hx)
        have HY_7 := Lib.hid (HY_.out.below hx)
        have HX_7 := Lib.hid (belowThen HX_.out (Nat.le_refl _) hx)
        clear hys hx
        have hS_7 : (∃ vq : SV, Blk wd_7 g7 26 (ndC (xk, svN, vq))) ∧ Blk wd_7 g3 26 (ndC (xk, xb, xs)) ∧ KdL wd_7 pa y := ⟨⟨_, HN_7.out⟩, HB_7.out, HY_7.out⟩
        refine ⟨hS_7, ?_⟩
        try simp only [Act.put, List.setIfInBounds_toArray, List.set_cons_succ, List.set_cons_zero]
        refine held_one 1 rfl (by kernel_rfl) ?_
        refine step_load rfl 24 _ rfl _ vk.1 rfl (NdL.of_blk HN_7.out).kids.now ?_
        have Z2 := HO_7
        have Zq := HN_7
        have Zp := HB_7
        have Zy := HU_7
        have Zx := HR_7
        have Z0 := HY_7
        have Zi := HX_7
        have Z1 := HZ_7
        have Zz : (∃ vq : SV, Blk wd_7 g7 26 (ndC (xk, svN, vq))) ∧ Blk wd_7 g3 26 (ndC (xk, xb, xs)) ∧ KdL wd_7 pa y := ⟨⟨_, Zq.out⟩, Zp.out, Z0.out⟩
        refine ⟨Zz, ?_⟩
        try simp only [Act.put, List.setIfInBounds_toArray, List.set_cons_succ, List.set_cons_zero]
        refine held_one 8 rfl (by kernel_rfl) ?_
        refine Agg.step_appendG (E := EK) (base := w.heap.size) rfl _ _ rfl ys rfl rfl [y] Z2.out Z1.out (by simp only [List.length_cons, List.length_nil]; omega) (by decide) Zi.out.size ?_
        intro vk0 Zg hok hp _
        obtain ⟨vk2, rfl⟩ := own_sv hok
        have Zt := Lib.hid hok
        have Ze := Lib.hid (hp.blk g7 _ _ _ (by decide) Zq.out)
        have Zh := Lib.hid (hp.blk g3 _ _ _ (by decide) Zp.out)
        have Zs := Lib.hid (hp.blk g5 _ _ _ (by decide) Zy.out)
        have Zv := Lib.hid (hp.blk g6 _ _ _ (by decide) Zx.out)
        have Zf := Lib.hid (Zi.out.trans (hp.below w.heap.size (Nat.le_refl _) Zi.out.size))
        have Zu := Lib.hid (show KdL Zg pa y from kid_lies HSL.out Zf.out HYK.out HAD.out)
        clear hok hp
        have Zr : (∃ vq : SV, Blk Zg g7 26 (ndC (xk, svN, vq))) ∧ Blk Zg g3 26 (ndC (xk, xb, xs)) ∧ KdL Zg pa y := ⟨⟨_, Ze.out⟩, Zh.out, Zu.out⟩
        refine ⟨Zr, ?_⟩
        try simp only [Act.put, List.setIfInBounds_toArray, List.set_cons_succ, List.set_cons_zero]
        refine held_take 9 (.pointer (some ⟨g7, 2, none⟩)) rfl (by kernel_rfl) (fun _ _ _ h => h) rfl (fun W _ => by kernel_rfl) (by assumption) ?_
        try simp only [Act.put, List.setIfInBounds_toArray, List.set_cons_succ, List.set_cons_zero]
        refine held_one 10 rfl (by kernel_rfl) ?_
        obtain ⟨Za, hrun, hbf, hof⟩ := Agg.Blk.run_one (P := Tryd.prog) (ty := 24) Ze.out 2 (by show 2 < 3; omega) vk2.1 (sv_cells vk2) (sv_oneT vk2) (by kernel_rfl) (ndC (xk, svN, vk2)) rfl
        refine step_store rfl rfl 24 _ _ rfl (.pointer (some ⟨g7, 2, none⟩)) vk2.1 rfl rfl hrun ?_
        have Zo := Lib.hid (Own.onlyB Zt.out hof Ze.out (by decide))
        have Zb := Lib.hid (Agg.Blk.keepO Zh.out hof (fun e => HG7.out.2.1 e))
        have Zn := Lib.hid (Agg.Blk.keepO Zs.out hof (fun e => HG7.out.2.2.1 e))
        have Zm := Lib.hid (Agg.Blk.keepO Zv.out hof (fun e => HG7.out.2.2.2 e))
        have Zc := Lib.hid hbf
        have Zd := Lib.hid (Zf.out.trans (hof.below Zf.out.size (fun i hi => by subst hi; exact HG7.out.1)))
        have Zk := Lib.hid (show KdL Za pa y from kid_lies HSL.out Zd.out HYK.out HAD.out)
        clear hrun hbf hof
        have Zj : (∃ vq : SV, Blk Za g7 26 (ndC (xk, svN, vq))) ∧ Blk Za g3 26 (ndC (xk, xb, xs)) ∧ KdL Za pa y := ⟨⟨_, Zc.out⟩, Zb.out, Zk.out⟩
        refine ⟨Zj, ?_⟩
        try simp only [Act.put, List.setIfInBounds_toArray, List.set_cons_succ, List.set_cons_zero]
        refine held_end (by kernel_rfl) ?_
        simp only [ExPut, Act.put, List.setIfInBounds_toArray, List.set_cons_succ, List.set_cons_zero]
        exact ⟨vk2, Zo.out, Zc.out, Zb.out, Zn.out, Zm.out, Zd.out, _, _, _, _, _, _, _, _, _, _, rfl⟩
       exact AllReadyH.nil
      ·rintro a' we ⟨vk2, h1, h2, h3, h4, h5, h6, hex⟩
       simp only [ExPut, Act.put, List.setIfInBounds_toArray, List.set_cons_succ, List.set_cons_zero] at hex
       obtain ⟨y48, y49, y50, y51, y52, y53, y54, y55, y56, y57, rfl⟩ := hex
       have HOe := Lib.hid h1
       have HNe := Lib.hid h2
       have HBe := Lib.hid h3
       have HUe := Lib.hid h4
       have HRe := Lib.hid h5
       have HXe := Lib.hid h6
       clear h1 h2 h3 h4 h5 h6
       go_wp2_with fail
       go_roundw
       case rel => exact ⟨q + 1, false, vk2, _, done ++ [(y.1, zt)], by omega, rfl, by go_num, HD3.out, by simp only [List.length_append, List.length_cons, List.length_nil]; omega, forall2_snoc HKDa.out HYN.out, HOe.out, HNe.out, HBe.out, HUe.out, HRe.out, HXe.out⟩
       case measure => simp [intOf]; omega
  case neg =>
   obtain rfl : q = l.length := by omega
   have hlq : decide (((l.length : Nat) : Int) < ((l.length : Nat) : Int)) = false := by simp
   have hd := HD.out
   rw [List.drop_length] at hd
   simp only [withR] at hd
   cases pb with
   | true =>
    have HDE := Lib.hid (show done = withR nm u l false by simpa using hd)
    clear hd
    go_wp2_with (first | (with_reducible refine wpList_loadL (NdL.of_blk HBa.out).kids rfl _ rfl rfl ?_) | (with_reducible refine wpList_loadL (NdL.of_blk HNa.out).all rfl _ rfl rfl ?_) | (refine Agg.wpList_put rfl rfl 26 _ _ rfl g6 (ndC (xk, svN, vk)) (ndC ndZ) rfl rfl HRa.out (nd_info _) rfl (ndC_one _) ?_; intro we hb hx hs9 hk9; have ho := Only.of_eq (S := (· = g6)) hx hs9 hk9 rfl; have HRe := Lib.hid hb; have HOe := Lib.hid (Own.onlyB HOa.out ho HRa.out (by decide)); have HXe := Lib.hid (HXa.out.trans (ho.below HXa.out.size (fun i hi => by subst hi; exact HG6.out))); clear hb hx hs9 hk9 ho))
    exact Agg.post_row rfl rfl HRe.out nd_under rfl (nd_info _) rfl ⟨_, _, rfl, HOe.out, HDE.out ▸ HKDa.out, HXe.out⟩
   | false =>
    have HDE := Lib.hid (show done ++ [(nm, u)] = withR nm u l false by simpa using hd)
    clear hd
    go_wp2_with (first | (with_reducible refine wpList_loadL (NdL.of_blk HBa.out).kids rfl _ rfl rfl ?_) | (with_reducible refine wpList_loadL (NdL.of_blk HNa.out).kids rfl _ rfl rfl ?_) | (with_reducible refine wpList_loadL (NdL.of_blk HUa.out).all rfl _ rfl rfl ?_) | (with_reducible refine wpList_build2 51 0 _ 1 _ rfl rfl (.string ⟨nm.toArray⟩) (.agg (ndC xx)) rfl rfl (.agg (kdC (nm, xx))) (kd_build nm xx) ?_) | (refine wpList_push (E := EK) rfl rfl 65 rfl _ rfl _ rfl (nm, xx) rfl (fun _ => rfl) (by first | (simp; done) | simp [Act.put]) HOa.out (by omega) (by decide) HXa.out.size ?_; intro u9 v9 wb ho hp; obtain ⟨vk1, rfl⟩ := own_sv ho; have HOb := Lib.hid ho; have HXb := Lib.hid (HXa.out.trans (hp.below _ (Nat.le_refl _) HXa.out.size)); have HNb := Lib.hid (hp.blk g7 _ _ _ (by decide) HNa.out); have HBb := Lib.hid (hp.blk g3 _ _ _ (by decide) HBa.out); have HUb := Lib.hid (hp.blk g5 _ _ _ (by decide) HUa.out); have HRb := Lib.hid (hp.blk g6 _ _ _ (by decide) HRa.out); clear ho hp) | (refine Agg.wpList_put1 rfl rfl 24 _ _ rfl g7 2 vk1.1 rfl rfl HNb.out (by show 2 < 3; omega) (sv_cells vk1) (sv_oneT vk1) (by kernel_rfl) (ndC (xk, svN, vk1)) rfl ?_; intro wc hb ho hz; have HNc := Lib.hid hb; have HOc := Lib.hid (Own.onlyB HOb.out ho HNb.out (by decide)); have HXc := Lib.hid (HXb.out.trans (ho.below (B := w.heap.size) HXb.out.size (fun i hi => by subst hi; exact HG7.out.1))); have HBc := Lib.hid (Agg.Blk.keepO HBb.out ho (fun e => HG7.out.2.1 e)); have HUc := Lib.hid (Agg.Blk.keepO HUb.out ho (fun e => HG7.out.2.2.1 e)); have HRc := Lib.hid (Agg.Blk.keepO HRb.out ho (fun e => HG7.out.2.2.2 e)); clear hb ho hz) | (with_reducible refine wpList_loadL (NdL.of_blk HNc.out).all rfl _ rfl rfl ?_) | (refine Agg.wpList_put rfl rfl 26 _ _ rfl g6 (ndC (xk, svN, vk1)) (ndC ndZ) rfl rfl HRc.out (nd_info _) rfl (ndC_one _) ?_; intro we hb hx hs9 hk9; have ho := Only.of_eq (S := (· = g6)) hx hs9 hk9 rfl; have HRe := Lib.hid hb; have HOe := Lib.hid (Own.onlyB HOc.out ho HRc.out (by decide)); have HXe := Lib.hid (HXc.out.trans (ho.below HXc.out.size (fun i hi => by subst hi; exact HG6.out))); clear hb hx hs9 hk9 ho))
    exact Agg.post_row rfl rfl HRe.out nd_under rfl (nd_info _) rfl ⟨_, _, rfl, HOe.out, HDE.out ▸ forall2_snoc HKDa.out HU.out, HXe.out⟩
end Go.Proofs.YtfiadgdinhmgbaaDoor
