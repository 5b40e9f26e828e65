/- resolve.Put. -/
import Derived.Test.YtdebbmembkbniaaGreatTAQ
import Derived.Test.YtdebbmembkbniaaGreatTAD
import Derived.Test.YtdebbmembkbniaaGreatTAJ
import Derived.Test.YtdebbmembkbniaaGreatTAM
namespace Go.Proofs.YtdebbmembkbniaaGreat
open Go.RowKit Pl Go.Agg
def putHd (r : Rv) (k : Nat) : List UInt8 := (([] ++ (encN r.1.length ++ r.1)) ++ ([r.2.1.length] : List Nat).flatMap encN) ++ (r.2.1.take k).flatMap putRi
theorem putHd_succ {r : Rv} {k : Nat} {x : Rin} (h : r.2.1[k]? = some x) : putHd r (k + 1) = ((putHd r k ++ (encN x.1.length ++ x.1)) ++ x.2.1.1) ++ (encN x.2.1.2.length ++ x.2.1.2) := by
 unfold putHd
 rw [List.take_add_one, h]
 simp [List.flatMap_append, putRi, encT, List.append_assoc]
theorem putHd_all (r : Rv) : putHd r r.2.1.length ++ (encN r.2.2.length ++ r.2.2) = putRs r := by
 unfold putHd putRs
 rw [List.take_length]
 simp [encT, List.append_assoc]
theorem putHd_len {r : Rv} (h : canRv r = true) (k : Nat) : (putHd r k).length ≤ 2000 := by
 have P := can_parts h
 have h4 := flat_putRi (l := r.2.1.take k) (fun x hx => P.ins x (List.mem_of_mem_take hx))
 have h1 := P.name
 have h2 := P.inp
 have h5 := encN_len (n := r.1.length) (by omega)
 have h7 := encN_len (n := r.2.1.length) (by omega)
 have h8 : (r.2.1.take k).length ≤ 8 := by rw [List.length_take]; omega
 unfold putHd
 simp only [List.length_append, List.flatMap_cons, List.flatMap_nil, List.length_nil]
 omega
set_option maxRecDepth 100000 in
set_option maxHeartbeats 16000000 in
theorem rput_any (v : Value) (r : Rv) (hil : r.2.1.length ≤ 1048576) (w : World) (h : RvAt w v r) :
  Calls Tryz.prog 9 #[v] w fun e w' => ∃ v', e = .returned (.tuple #[v', .int .i64 (errRv r : Int)]) ∧ Agg.Own EB w.heap.size w' v' (putRv r) ∧ Below w.heap.size w w' := by
 obtain ⟨vi, vr, rfl, hvi, hvr⟩ := h
 have hli := ris_len hvi
 have HV := Lib.hid (And.intro hvi hvr)
 have HET := Lib.hid (enters_of Tryz.func32 (by kernel_rfl) rfl : ∀ args w, (callFunc 32 args).run Tryz.prog w = .ok (.enter 32 args) w)
 have HEN := Lib.hid (enters_of Tryz.func33 (by kernel_rfl) rfl : ∀ args w, (callFunc 33 args).run Tryz.prog w = .ok (.enter 33 args) w)
 have HER := Lib.hid (enters_of Tryz.func34 (by kernel_rfl) rfl : ∀ args w, (callFunc 34 args).run Tryz.prog w = .ok (.enter 34 args) w)
 clear hvi hvr
 go_enter Tryz.func9, Tryz.ntmps9
 go_wp2_with (first | (with_reducible refine wpList_box rfl 25 _ rfl (#[.string ⟨r.1.toArray⟩, vi, vr]) rfl ?_; intro g1 w1 hb hx1 hg; have HR1 := Lib.hid hb; have HX1 := Lib.hid hx1; have HL1 := Lib.hid (RvB.of_blk hb); clear hb hx1 hg) | (with_reducible refine wpList_loadL HL1.out.all rfl _ rfl rfl ?_))
 refine (rsCan_any _ r hil w1 ⟨vi, vr, rfl, HV.out.1.below HX1.out, HV.out.2.below HX1.out⟩).mono ?_
 rintro e w2 ⟨rfl, hx2⟩
 have HR2 := Lib.hid (HR1.out.below hx2)
 have HX2 := Lib.hid (belowThen HX1.out (Nat.le_refl _) hx2)
 clear hx2
 cases hcan : canRv r with
 | false =>
  have HO := Lib.hid (show putRv r = [] ∧ errRv r = 2 by simp [putRv, errRv, hcan])
  clear hcan
  go_wp2_with fail
  go_ret2
  exact ⟨.slice none 0 0, by rw [HO.out.2]; rfl, by rw [HO.out.1]; exact Agg.Own.nil _ _ _, HX2.out⟩
 | true =>
 have HO := Lib.hid (show putRv r = putRs r ∧ errRv r = 0 by simp [putRv, errRv, hcan])
 have HCN := Lib.hid hcan
 have HP := Lib.hid (can_parts hcan)
 have hnl := HP.out.name
 have hi8 := HP.out.inp
 have hrl := HP.out.rcp
 have hne := encN_len (n := r.1.length) (by omega)
 have hni := encN_len (n := r.2.1.length) (by omega)
 have hnr := encN_len (n := r.2.2.length) (by omega)
 clear hcan
 go_wp2_with fail
 refine Agg.wp_cutR (fun a a' w' => ∃ g vb, MkV g w' vb (putHd r 0) ∧ Blk w' g1 25 (#[.string ⟨r.1.toArray⟩, vi, vr]) ∧ Below w.heap.size w w' ∧ w.heap.size ≤ g ∧ g1 ≠ g ∧ ExPut [10, 11, 12, 13, 14, 15, 16, 17, 18, 19, 20, 21] (a.put (some 4) (.pointer (some ⟨g, 0, none⟩))) a') ?_ ?_
 ·
  try simp only [Act.put, List.setIfInBounds_toArray, List.set_cons_succ, List.set_cons_zero]
  obtain ⟨wz, hw0⟩ : ∃ W, W = w2.drew := ⟨_, rfl⟩
  have hd : Below w2.heap.size w2 wz := by rw [hw0]; exact (Below.refl _ _).drew
  have HRr0 := Lib.hid (HR2.out.below hd)
  have HXr0 := Lib.hid (belowThen HX2.out (Nat.le_refl _) hd)
  refine wp_region_held_drew (S := fun W => Blk W g1 25 #[.string ⟨r.1.toArray⟩, vi, vr]) (by kernel_rfl) (by rw [← hw0]; exact HRr0.out) (fun hHeld => ?_)
  rw [← hw0] at hHeld ⊢
  clear hw0 hd
  refine held_take 0 (.agg (mkC (.slice none 0 0))) rfl (by kernel_rfl) (fun _ _ _ h => h) rfl (fun W _ => exec_build0C rfl (maker_build W)) (by assumption) ?_
  try simp only [Act.put, List.setIfInBounds_toArray, List.set_cons_succ, List.set_cons_zero]
  refine held_take 2 (.pointer (some ⟨g1, 0, none⟩)) rfl (by kernel_rfl) (fun _ _ _ h => h) rfl (fun W _ => by kernel_rfl) (by assumption) ?_
  try simp only [Act.put, List.setIfInBounds_toArray, List.set_cons_succ, List.set_cons_zero]
  refine held_take 3 (.string ⟨r.1.toArray⟩) rfl (by kernel_rfl) (fun _ _ _ h => h) rfl (fun W hS => exec_loadC rfl rfl (hS.one (ty := 9) 0 rfl Tryz.underlying9 rfl).now) (by assumption) ?_
  try simp only [Act.put, List.setIfInBounds_toArray, List.set_cons_succ, List.set_cons_zero]
  refine held_take 7 (.pointer (some ⟨g1, 1, none⟩)) rfl (by kernel_rfl) (fun _ _ _ h => h) rfl (fun W _ => by kernel_rfl) (by assumption) ?_
  try simp only [Act.put, List.setIfInBounds_toArray, List.set_cons_succ, List.set_cons_zero]
  refine held_take 8 (vi) rfl (by kernel_rfl) (fun _ _ _ h => h) rfl (fun W hS => exec_loadC rfl rfl (hS.one (ty := 22) 1 rfl ris_under rfl).now) (by assumption) ?_
  try simp only [Act.put, List.setIfInBounds_toArray, List.set_cons_succ, List.set_cons_zero]
  refine held_take 9 (.int .i64 (r.2.1.length : Int)) rfl (by kernel_rfl) (fun _ _ _ h => h) rfl (fun W _ => exec_lenC rfl rfl (hli W)) (by assumption) ?_
  try simp only [Act.put, List.setIfInBounds_toArray, List.set_cons_succ, List.set_cons_zero]
  refine held_ready [1, 4, 10] (by kernel_rfl) (by simp) ?_
  refine held_cons rfl ?_ ?_
  ·refine Agg.step_box rfl 85 _ rfl (mkC (.slice none 0 0)) rfl ?_
   intro g wr_1 hb hx hg
   have HMr_1 := Lib.hid (⟨hb, Agg.Own.nil _ _ _⟩ : MkV g wr_1 (.slice none 0 0) [])
   have HRr_1 := Lib.hid (HRr0.out.below hx)
   have HXr_1 := Lib.hid (belowThen HXr0.out (Nat.le_refl _) hx)
   have HG := Lib.hid (Nat.le_trans HXr0.out.size hg)
   have HNG0 := Lib.hid (show g1 ≠ g from fun e => (by have := HRr0.out.lt; omega))
   clear hb hx hg
   refine ⟨HRr_1.out, ?_⟩
   try simp only [Act.put, List.setIfInBounds_toArray, List.set_cons_succ, List.set_cons_zero]
   refine held_ready [4, 10] (by kernel_rfl) (by simp) ?_
   refine held_cons rfl ?_ ?_
   ·refine step_toBytes rfl _ rfl (r.1) rfl ?_
    intro vr4 Zdp hn hx
    obtain ⟨sva, rfl⟩ := bytes_svB hn.slice
    have Zdg := Lib.hid (Off.behind (w0 := wr_1) hn.slice (fun k hk => newBytes_ownB hn k hk) HMr_1.out.blk.lt HMr_1.out.lt)
    have Zdc := Lib.hid (HRr_1.out.below hx)
    have Zci := Lib.hid (HMr_1.out.below hx)
    have Zdo := Lib.hid (belowThen HXr_1.out (Nat.le_refl _) hx)
    clear hn hx
    refine ⟨Zdc.out, ?_⟩
    try simp only [Act.put, List.setIfInBounds_toArray, List.set_cons_succ, List.set_cons_zero]
    refine held_ready [5, 10] (by kernel_rfl) (by simp) ?_
    refine held_cons rfl ?_ ?_
    ·refine step_slice1 (E := EBB) rfl _ rfl sva rfl ?_
     intro ysa Zdd hys hx
     have Zcg := Lib.hid (Off.behind (w0 := Zdp) hys.slice (fun k hk => (hys.block k hk).1) Zci.out.blk.lt Zci.out.lt)
     have Zch := Lib.hid (Zdg.out.step (MkStep.of_below hx))
     have Zca := Lib.hid (Zdc.out.below hx)
     have Zbh := Lib.hid (Zci.out.below hx)
     have Zco := Lib.hid (belowThen Zdo.out (Nat.le_refl _) hx)
     clear hys hx
     refine ⟨Zca.out, ?_⟩
     try simp only [Act.put, List.setIfInBounds_toArray, List.set_cons_succ, List.set_cons_zero]
     refine held_ready [6, 10] (by kernel_rfl) (by simp) ?_
     refine held_cons rfl ?_ ?_
     ·refine step_call rfl 32 _ _ rfl #[.pointer (some ⟨g, 0, none⟩), ysa] (by simp only [List.map_toArray, List.map_cons, List.map_nil]; rfl) (fun W => HET.out _ W) ?_
      refine (text_any g (.slice none 0 0) ysa sva (r.1) [] _ (by simp) (by omega) Zcg.out Zch.out Zbh.out).mono ?_
      rintro x Zda ⟨rfl, vr_6, hm, hs⟩
      have Zb2 := Lib.hid hm
      have Zcf := Lib.hid (mk_keeps Zbh.out Zca.out (by decide) hs HNG0.out)
      have Zc0 := Lib.hid (Zco.out.trans ((Zbh.out.stepBelow hs).mono HG.out))
      clear hm hs
      refine ⟨_, rfl, ?_⟩
      refine ⟨Zcf.out, ?_⟩
      try simp only [Act.put, List.setIfInBounds_toArray, List.set_cons_succ, List.set_cons_zero]
      refine held_one 10 rfl (by kernel_rfl) ?_
      refine step_slice1 (E := EI) rfl _ rfl (r.2.1.length : Nat) rfl ?_
      intro ysn Zbg hys hx
      have Zt := Lib.hid (Off.behind (w0 := Zda) hys.slice (fun k hk => (hys.block k hk).1) Zb2.out.blk.lt Zb2.out.lt)
      have Zf := Lib.hid (Zcf.out.below hx)
      have Zb := Lib.hid (Zb2.out.below hx)
      have Zv := Lib.hid (belowThen Zc0.out (Nat.le_refl _) hx)
      clear hys hx
      refine ⟨Zf.out, ?_⟩
      try simp only [Act.put, List.setIfInBounds_toArray, List.set_cons_succ, List.set_cons_zero]
      refine held_one 11 rfl (by kernel_rfl) ?_
      refine step_call rfl 33 _ _ rfl #[.pointer (some ⟨g, 0, none⟩), ysn] (by simp only [List.map_toArray, List.map_cons, List.map_nil]; rfl) (fun W => HEN.out _ W) ?_
      refine (num_any g vr_6 ysn [r.2.1.length] ([] ++ (encN (r.1).length ++ r.1)) _ (by intro n hn; simp only [List.mem_cons, List.not_mem_nil, or_false] at hn; omega) (by simp) (by simp only [List.length_append, List.length_nil]; omega) Zt.out Zb.out).mono ?_
      rintro x Zba ⟨rfl, vr_11, hm, hs⟩
      have Zr := Lib.hid hm
      have Zd := Lib.hid (mk_keeps Zb.out Zf.out (by decide) hs HNG0.out)
      have Zq := Lib.hid (Zv.out.trans ((Zb.out.stepBelow hs).mono HG.out))
      clear hm hs
      refine ⟨_, rfl, ?_⟩
      refine ⟨Zd.out, ?_⟩
      try simp only [Act.put, List.setIfInBounds_toArray, List.set_cons_succ, List.set_cons_zero]
      refine held_take 12 (.pointer (some ⟨g, 0, none⟩)) rfl (by kernel_rfl) (fun _ _ _ h => h) rfl (fun W _ => by kernel_rfl) (by assumption) ?_
      try simp only [Act.put, List.setIfInBounds_toArray, List.set_cons_succ, List.set_cons_zero]
      refine held_end (by kernel_rfl) ?_
      refine ⟨g, _, (by have := Zr.out; simpa [putHd] using this), Zd.out, Zq.out, HG.out, HNG0.out, ?_⟩
      simp only [ExPut, Act.put, List.setIfInBounds_toArray, List.set_cons_succ, List.set_cons_zero]
      exact ⟨_, _, _, _, _, _, _, _, _, _, _, _, rfl⟩
     refine held_cons rfl ?_ ?_
     ·refine step_slice1 (E := EI) rfl _ rfl (r.2.1.length : Nat) rfl ?_
      intro ysn Zbq hys hx
      have Z1 := Lib.hid (Off.behind (w0 := Zdd) hys.slice (fun k hk => (hys.block k hk).1) Zbh.out.blk.lt Zbh.out.lt)
      have Z2 := Lib.hid (Zch.out.step (MkStep.of_below hx))
      have Z3 := Lib.hid (Zcg.out.step (MkStep.of_below hx))
      have Zu := Lib.hid (Zca.out.below hx)
      have Zm := Lib.hid (Zbh.out.below hx)
      have Z6 := Lib.hid (belowThen Zco.out (Nat.le_refl _) hx)
      clear hys hx
      refine ⟨Zu.out, ?_⟩
      try simp only [Act.put, List.setIfInBounds_toArray, List.set_cons_succ, List.set_cons_zero]
      refine held_one 6 rfl (by kernel_rfl) ?_
      refine step_call rfl 32 _ _ rfl #[.pointer (some ⟨g, 0, none⟩), ysa] (by simp only [List.map_toArray, List.map_cons, List.map_nil]; rfl) (fun W => HET.out _ W) ?_
      refine (text_any g (.slice none 0 0) ysa sva (r.1) [] _ (by simp) (by omega) Z3.out Z2.out Zm.out).mono ?_
      rintro x Zbg ⟨rfl, vr_6, hm, hs⟩
      have Zb := Lib.hid hm
      have Zt := Lib.hid (Z1.out.step hs)
      have Zf := Lib.hid (mk_keeps Zm.out Zu.out (by decide) hs HNG0.out)
      have Zv := Lib.hid (Z6.out.trans ((Zm.out.stepBelow hs).mono HG.out))
      clear hm hs
      refine ⟨_, rfl, ?_⟩
      refine ⟨Zf.out, ?_⟩
      try simp only [Act.put, List.setIfInBounds_toArray, List.set_cons_succ, List.set_cons_zero]
      refine held_one 11 rfl (by kernel_rfl) ?_
      refine step_call rfl 33 _ _ rfl #[.pointer (some ⟨g, 0, none⟩), ysn] (by simp only [List.map_toArray, List.map_cons, List.map_nil]; rfl) (fun W => HEN.out _ W) ?_
      refine (num_any g vr_6 ysn [r.2.1.length] ([] ++ (encN (r.1).length ++ r.1)) _ (by intro n hn; simp only [List.mem_cons, List.not_mem_nil, or_false] at hn; omega) (by simp) (by simp only [List.length_append, List.length_nil]; omega) Zt.out Zb.out).mono ?_
      rintro x Zba ⟨rfl, vr_11, hm, hs⟩
      have Zr := Lib.hid hm
      have Zd := Lib.hid (mk_keeps Zb.out Zf.out (by decide) hs HNG0.out)
      have Zq := Lib.hid (Zv.out.trans ((Zb.out.stepBelow hs).mono HG.out))
      clear hm hs
      refine ⟨_, rfl, ?_⟩
      refine ⟨Zd.out, ?_⟩
      try simp only [Act.put, List.setIfInBounds_toArray, List.set_cons_succ, List.set_cons_zero]
      refine held_take 12 (.pointer (some ⟨g, 0, none⟩)) rfl (by kernel_rfl) (fun _ _ _ h => h) rfl (fun W _ => by kernel_rfl) (by assumption) ?_
      try simp only [Act.put, List.setIfInBounds_toArray, List.set_cons_succ, List.set_cons_zero]
      refine held_end (by kernel_rfl) ?_
      refine ⟨g, _, (by have := Zr.out; simpa [putHd] using this), Zd.out, Zq.out, HG.out, HNG0.out, ?_⟩
      simp only [ExPut, Act.put, List.setIfInBounds_toArray, List.set_cons_succ, List.set_cons_zero]
      exact ⟨_, _, _, _, _, _, _, _, _, _, _, _, rfl⟩
     exact AllReadyH.nil
    refine held_cons rfl ?_ ?_
    ·refine step_slice1 (E := EI) rfl _ rfl (r.2.1.length : Nat) rfl ?_
     intro ysn Zb5 hys hx
     have Zbx := Lib.hid (Off.behind (w0 := Zdp) hys.slice (fun k hk => (hys.block k hk).1) Zci.out.blk.lt Zci.out.lt)
     have Zbu := Lib.hid (Zdg.out.step (MkStep.of_below hx))
     have Zbm := Lib.hid (Zdc.out.below hx)
     have Z9 := Lib.hid (Zci.out.below hx)
     have Zb6 := Lib.hid (belowThen Zdo.out (Nat.le_refl _) hx)
     clear hys hx
     refine ⟨Zbm.out, ?_⟩
     try simp only [Act.put, List.setIfInBounds_toArray, List.set_cons_succ, List.set_cons_zero]
     refine held_one 5 rfl (by kernel_rfl) ?_
     refine step_slice1 (E := EBB) rfl _ rfl sva rfl ?_
     intro ysa Zbq hys hx
     have Z3 := Lib.hid (Off.behind (w0 := Zb5) hys.slice (fun k hk => (hys.block k hk).1) Z9.out.blk.lt Z9.out.lt)
     have Z2 := Lib.hid (Zbu.out.step (MkStep.of_below hx))
     have Z1 := Lib.hid (Zbx.out.step (MkStep.of_below hx))
     have Zu := Lib.hid (Zbm.out.below hx)
     have Zm := Lib.hid (Z9.out.below hx)
     have Z6 := Lib.hid (belowThen Zb6.out (Nat.le_refl _) hx)
     clear hys hx
     refine ⟨Zu.out, ?_⟩
     try simp only [Act.put, List.setIfInBounds_toArray, List.set_cons_succ, List.set_cons_zero]
     refine held_one 6 rfl (by kernel_rfl) ?_
     refine step_call rfl 32 _ _ rfl #[.pointer (some ⟨g, 0, none⟩), ysa] (by simp only [List.map_toArray, List.map_cons, List.map_nil]; rfl) (fun W => HET.out _ W) ?_
     refine (text_any g (.slice none 0 0) ysa sva (r.1) [] _ (by simp) (by omega) Z3.out Z2.out Zm.out).mono ?_
     rintro x Zbg ⟨rfl, vr_6, hm, hs⟩
     have Zb := Lib.hid hm
     have Zt := Lib.hid (Z1.out.step hs)
     have Zf := Lib.hid (mk_keeps Zm.out Zu.out (by decide) hs HNG0.out)
     have Zv := Lib.hid (Z6.out.trans ((Zm.out.stepBelow hs).mono HG.out))
     clear hm hs
     refine ⟨_, rfl, ?_⟩
     refine ⟨Zf.out, ?_⟩
     try simp only [Act.put, List.setIfInBounds_toArray, List.set_cons_succ, List.set_cons_zero]
     refine held_one 11 rfl (by kernel_rfl) ?_
     refine step_call rfl 33 _ _ rfl #[.pointer (some ⟨g, 0, none⟩), ysn] (by simp only [List.map_toArray, List.map_cons, List.map_nil]; rfl) (fun W => HEN.out _ W) ?_
     refine (num_any g vr_6 ysn [r.2.1.length] ([] ++ (encN (r.1).length ++ r.1)) _ (by intro n hn; simp only [List.mem_cons, List.not_mem_nil, or_false] at hn; omega) (by simp) (by simp only [List.length_append, List.length_nil]; omega) Zt.out Zb.out).mono ?_
     rintro x Zba ⟨rfl, vr_11, hm, hs⟩
     have Zr := Lib.hid hm
     have Zd := Lib.hid (mk_keeps Zb.out Zf.out (by decide) hs HNG0.out)
     have Zq := Lib.hid (Zv.out.trans ((Zb.out.stepBelow hs).mono HG.out))
     clear hm hs
     refine ⟨_, rfl, ?_⟩
     refine ⟨Zd.out, ?_⟩
     try simp only [Act.put, List.setIfInBounds_toArray, List.set_cons_succ, List.set_cons_zero]
     refine held_take 12 (.pointer (some ⟨g, 0, none⟩)) rfl (by kernel_rfl) (fun _ _ _ h => h) rfl (fun W _ => by kernel_rfl) (by assumption) ?_
     try simp only [Act.put, List.setIfInBounds_toArray, List.set_cons_succ, List.set_cons_zero]
     refine held_end (by kernel_rfl) ?_
     refine ⟨g, _, (by have := Zr.out; simpa [putHd] using this), Zd.out, Zq.out, HG.out, HNG0.out, ?_⟩
     simp only [ExPut, Act.put, List.setIfInBounds_toArray, List.set_cons_succ, List.set_cons_zero]
     exact ⟨_, _, _, _, _, _, _, _, _, _, _, _, rfl⟩
    exact AllReadyH.nil
   refine held_cons rfl ?_ ?_
   ·refine step_slice1 (E := EI) rfl _ rfl (r.2.1.length : Nat) rfl ?_
    intro ysn Zdt hys hx
    have Zdq := Lib.hid (Off.behind (w0 := wr_1) hys.slice (fun k hk => (hys.block k hk).1) HMr_1.out.blk.lt HMr_1.out.lt)
    have Zdj := Lib.hid (HRr_1.out.below hx)
    have Zc4 := Lib.hid (HMr_1.out.below hx)
    have Zdv := Lib.hid (belowThen HXr_1.out (Nat.le_refl _) hx)
    clear hys hx
    refine ⟨Zdj.out, ?_⟩
    try simp only [Act.put, List.setIfInBounds_toArray, List.set_cons_succ, List.set_cons_zero]
    refine held_one 4 rfl (by kernel_rfl) ?_
    refine step_toBytes rfl _ rfl (r.1) rfl ?_
    intro vr4 Zb5 hn hx
    obtain ⟨sva, rfl⟩ := bytes_svB hn.slice
    have Zbu := Lib.hid (Off.behind (w0 := Zdt) hn.slice (fun k hk => newBytes_ownB hn k hk) Zc4.out.blk.lt Zc4.out.lt)
    have Zbx := Lib.hid (Zdq.out.step (MkStep.of_below hx))
    have Zbm := Lib.hid (Zdj.out.below hx)
    have Z9 := Lib.hid (Zc4.out.below hx)
    have Zb6 := Lib.hid (belowThen Zdv.out (Nat.le_refl _) hx)
    clear hn hx
    refine ⟨Zbm.out, ?_⟩
    try simp only [Act.put, List.setIfInBounds_toArray, List.set_cons_succ, List.set_cons_zero]
    refine held_one 5 rfl (by kernel_rfl) ?_
    refine step_slice1 (E := EBB) rfl _ rfl sva rfl ?_
    intro ysa Zbq hys hx
    have Z3 := Lib.hid (Off.behind (w0 := Zb5) hys.slice (fun k hk => (hys.block k hk).1) Z9.out.blk.lt Z9.out.lt)
    have Z2 := Lib.hid (Zbu.out.step (MkStep.of_below hx))
    have Z1 := Lib.hid (Zbx.out.step (MkStep.of_below hx))
    have Zu := Lib.hid (Zbm.out.below hx)
    have Zm := Lib.hid (Z9.out.below hx)
    have Z6 := Lib.hid (belowThen Zb6.out (Nat.le_refl _) hx)
    clear hys hx
    refine ⟨Zu.out, ?_⟩
    try simp only [Act.put, List.setIfInBounds_toArray, List.set_cons_succ, List.set_cons_zero]
    refine held_one 6 rfl (by kernel_rfl) ?_
    refine step_call rfl 32 _ _ rfl #[.pointer (some ⟨g, 0, none⟩), ysa] (by simp only [List.map_toArray, List.map_cons, List.map_nil]; rfl) (fun W => HET.out _ W) ?_
    refine (text_any g (.slice none 0 0) ysa sva (r.1) [] _ (by simp) (by omega) Z3.out Z2.out Zm.out).mono ?_
    rintro x Zbg ⟨rfl, vr_6, hm, hs⟩
    have Zb := Lib.hid hm
    have Zt := Lib.hid (Z1.out.step hs)
    have Zf := Lib.hid (mk_keeps Zm.out Zu.out (by decide) hs HNG0.out)
    have Zv := Lib.hid (Z6.out.trans ((Zm.out.stepBelow hs).mono HG.out))
    clear hm hs
    refine ⟨_, rfl, ?_⟩
    refine ⟨Zf.out, ?_⟩
    try simp only [Act.put, List.setIfInBounds_toArray, List.set_cons_succ, List.set_cons_zero]
    refine held_one 11 rfl (by kernel_rfl) ?_
    refine step_call rfl 33 _ _ rfl #[.pointer (some ⟨g, 0, none⟩), ysn] (by simp only [List.map_toArray, List.map_cons, List.map_nil]; rfl) (fun W => HEN.out _ W) ?_
    refine (num_any g vr_6 ysn [r.2.1.length] ([] ++ (encN (r.1).length ++ r.1)) _ (by intro n hn; simp only [List.mem_cons, List.not_mem_nil, or_false] at hn; omega) (by simp) (by simp only [List.length_append, List.length_nil]; omega) Zt.out Zb.out).mono ?_
    rintro x Zba ⟨rfl, vr_11, hm, hs⟩
    have Zr := Lib.hid hm
    have Zd := Lib.hid (mk_keeps Zb.out Zf.out (by decide) hs HNG0.out)
    have Zq := Lib.hid (Zv.out.trans ((Zb.out.stepBelow hs).mono HG.out))
    clear hm hs
    refine ⟨_, rfl, ?_⟩
    refine ⟨Zd.out, ?_⟩
    try simp only [Act.put, List.setIfInBounds_toArray, List.set_cons_succ, List.set_cons_zero]
    refine held_take 12 (.pointer (some ⟨g, 0, none⟩)) rfl (by kernel_rfl) (fun _ _ _ h => h) rfl (fun W _ => by kernel_rfl) (by assumption) ?_
    try simp only [Act.put, List.setIfInBounds_toArray, List.set_cons_succ, List.set_cons_zero]
    refine held_end (by kernel_rfl) ?_
    refine ⟨g, _, (by have := Zr.out; simpa [putHd] using this), Zd.out, Zq.out, HG.out, HNG0.out, ?_⟩
    simp only [ExPut, Act.put, List.setIfInBounds_toArray, List.set_cons_succ, List.set_cons_zero]
    exact ⟨_, _, _, _, _, _, _, _, _, _, _, _, rfl⟩
   exact AllReadyH.nil
  refine held_cons rfl ?_ ?_
  ·refine step_toBytes rfl _ rfl (r.1) rfl ?_
   intro vr4 wr_4 hn hx
   obtain ⟨sva, rfl⟩ := bytes_svB hn.slice
   have HSOar_4 := Lib.hid hn.slice
   have HRr_4 := Lib.hid (HRr0.out.below hx)
   have HXr_4 := Lib.hid (belowThen HXr0.out (Nat.le_refl _) hx)
   clear hn hx
   refine ⟨HRr_4.out, ?_⟩
   try simp only [Act.put, List.setIfInBounds_toArray, List.set_cons_succ, List.set_cons_zero]
   refine held_ready [1, 5, 10] (by kernel_rfl) (by simp) ?_
   refine held_cons rfl ?_ ?_
   ·refine Agg.step_box rfl 85 _ rfl (mkC (.slice none 0 0)) rfl ?_
    intro g Zdp hb hx hg
    have Zci := Lib.hid (⟨hb, Agg.Own.nil _ _ _⟩ : MkV g Zdp (.slice none 0 0) [])
    have Zdg := Lib.hid (Off.before (v := .slice none 0 0) (w0 := wr_4) (HSOar_4.out : SliceOf EB wr_4 _ _) hx hg (fun k hk => by simp [Value.ownBlock] at hk))
    have Zdc := Lib.hid (HRr_4.out.below hx)
    have Zdo := Lib.hid (belowThen HXr_4.out (Nat.le_refl _) hx)
    have HG := Lib.hid (Nat.le_trans HXr_4.out.size hg)
    have HNG0 := Lib.hid (show g1 ≠ g from fun e => (by have := HRr_4.out.lt; omega))
    clear hb hx hg
    refine ⟨Zdc.out, ?_⟩
    try simp only [Act.put, List.setIfInBounds_toArray, List.set_cons_succ, List.set_cons_zero]
    refine held_ready [5, 10] (by kernel_rfl) (by simp) ?_
    refine held_cons rfl ?_ ?_
    ·refine step_slice1 (E := EBB) rfl _ rfl sva rfl ?_
     intro ysa Zdd hys hx
     have Zcg := Lib.hid (Off.behind (w0 := Zdp) hys.slice (fun k hk => (hys.block k hk).1) Zci.out.blk.lt Zci.out.lt)
     have Zch := Lib.hid (Zdg.out.step (MkStep.of_below hx))
     have Zca := Lib.hid (Zdc.out.below hx)
     have Zbh := Lib.hid (Zci.out.below hx)
     have Zco := Lib.hid (belowThen Zdo.out (Nat.le_refl _) hx)
     clear hys hx
     refine ⟨Zca.out, ?_⟩
     try simp only [Act.put, List.setIfInBounds_toArray, List.set_cons_succ, List.set_cons_zero]
     refine held_ready [6, 10] (by kernel_rfl) (by simp) ?_
     refine held_cons rfl ?_ ?_
     ·refine step_call rfl 32 _ _ rfl #[.pointer (some ⟨g, 0, none⟩), ysa] (by simp only [List.map_toArray, List.map_cons, List.map_nil]; rfl) (fun W => HET.out _ W) ?_
      refine (text_any g (.slice none 0 0) ysa sva (r.1) [] _ (by simp) (by omega) Zcg.out Zch.out Zbh.out).mono ?_
      rintro x Zda ⟨rfl, vr_6, hm, hs⟩
      have Zb2 := Lib.hid hm
      have Zcf := Lib.hid (mk_keeps Zbh.out Zca.out (by decide) hs HNG0.out)
      have Zc0 := Lib.hid (Zco.out.trans ((Zbh.out.stepBelow hs).mono HG.out))
      clear hm hs
      refine ⟨_, rfl, ?_⟩
      refine ⟨Zcf.out, ?_⟩
      try simp only [Act.put, List.setIfInBounds_toArray, List.set_cons_succ, List.set_cons_zero]
      refine held_one 10 rfl (by kernel_rfl) ?_
      refine step_slice1 (E := EI) rfl _ rfl (r.2.1.length : Nat) rfl ?_
      intro ysn Zbg hys hx
      have Zt := Lib.hid (Off.behind (w0 := Zda) hys.slice (fun k hk => (hys.block k hk).1) Zb2.out.blk.lt Zb2.out.lt)
      have Zf := Lib.hid (Zcf.out.below hx)
      have Zb := Lib.hid (Zb2.out.below hx)
      have Zv := Lib.hid (belowThen Zc0.out (Nat.le_refl _) hx)
      clear hys hx
      refine ⟨Zf.out, ?_⟩
      try simp only [Act.put, List.setIfInBounds_toArray, List.set_cons_succ, List.set_cons_zero]
      refine held_one 11 rfl (by kernel_rfl) ?_
      refine step_call rfl 33 _ _ rfl #[.pointer (some ⟨g, 0, none⟩), ysn] (by simp only [List.map_toArray, List.map_cons, List.map_nil]; rfl) (fun W => HEN.out _ W) ?_
      refine (num_any g vr_6 ysn [r.2.1.length] ([] ++ (encN (r.1).length ++ r.1)) _ (by intro n hn; simp only [List.mem_cons, List.not_mem_nil, or_false] at hn; omega) (by simp) (by simp only [List.length_append, List.length_nil]; omega) Zt.out Zb.out).mono ?_
      rintro x Zba ⟨rfl, vr_11, hm, hs⟩
      have Zr := Lib.hid hm
      have Zd := Lib.hid (mk_keeps Zb.out Zf.out (by decide) hs HNG0.out)
      have Zq := Lib.hid (Zv.out.trans ((Zb.out.stepBelow hs).mono HG.out))
      clear hm hs
      refine ⟨_, rfl, ?_⟩
      refine ⟨Zd.out, ?_⟩
      try simp only [Act.put, List.setIfInBounds_toArray, List.set_cons_succ, List.set_cons_zero]
      refine held_take 12 (.pointer (some ⟨g, 0, none⟩)) rfl (by kernel_rfl) (fun _ _ _ h => h) rfl (fun W _ => by kernel_rfl) (by assumption) ?_
      try simp only [Act.put, List.setIfInBounds_toArray, List.set_cons_succ, List.set_cons_zero]
      refine held_end (by kernel_rfl) ?_
      refine ⟨g, _, (by have := Zr.out; simpa [putHd] using this), Zd.out, Zq.out, HG.out, HNG0.out, ?_⟩
      simp only [ExPut, Act.put, List.setIfInBounds_toArray, List.set_cons_succ, List.set_cons_zero]
      exact ⟨_, _, _, _, _, _, _, _, _, _, _, _, rfl⟩
     refine held_cons rfl ?_ ?_
     ·refine step_slice1 (E := EI) rfl _ rfl (r.2.1.length : Nat) rfl ?_
      intro ysn Zbq hys hx
      have Z1 := Lib.hid (Off.behind (w0 := Zdd) hys.slice (fun k hk => (hys.block k hk).1) Zbh.out.blk.lt Zbh.out.lt)
      have Z2 := Lib.hid (Zch.out.step (MkStep.of_below hx))
      have Z3 := Lib.hid (Zcg.out.step (MkStep.of_below hx))
      have Zu := Lib.hid (Zca.out.below hx)
      have Zm := Lib.hid (Zbh.out.below hx)
      have Z6 := Lib.hid (belowThen Zco.out (Nat.le_refl _) hx)
      clear hys hx
      refine ⟨Zu.out, ?_⟩
      try simp only [Act.put, List.setIfInBounds_toArray, List.set_cons_succ, List.set_cons_zero]
      refine held_one 6 rfl (by kernel_rfl) ?_
      refine step_call rfl 32 _ _ rfl #[.pointer (some ⟨g, 0, none⟩), ysa] (by simp only [List.map_toArray, List.map_cons, List.map_nil]; rfl) (fun W => HET.out _ W) ?_
      refine (text_any g (.slice none 0 0) ysa sva (r.1) [] _ (by simp) (by omega) Z3.out Z2.out Zm.out).mono ?_
      rintro x Zbg ⟨rfl, vr_6, hm, hs⟩
      have Zb := Lib.hid hm
      have Zt := Lib.hid (Z1.out.step hs)
      have Zf := Lib.hid (mk_keeps Zm.out Zu.out (by decide) hs HNG0.out)
      have Zv := Lib.hid (Z6.out.trans ((Zm.out.stepBelow hs).mono HG.out))
      clear hm hs
      refine ⟨_, rfl, ?_⟩
      refine ⟨Zf.out, ?_⟩
      try simp only [Act.put, List.setIfInBounds_toArray, List.set_cons_succ, List.set_cons_zero]
      refine held_one 11 rfl (by kernel_rfl) ?_
      refine step_call rfl 33 _ _ rfl #[.pointer (some ⟨g, 0, none⟩), ysn] (by simp only [List.map_toArray, List.map_cons, List.map_nil]; rfl) (fun W => HEN.out _ W) ?_
      refine (num_any g vr_6 ysn [r.2.1.length] ([] ++ (encN (r.1).length ++ r.1)) _ (by intro n hn; simp only [List.mem_cons, List.not_mem_nil, or_false] at hn; omega) (by simp) (by simp only [List.length_append, List.length_nil]; omega) Zt.out Zb.out).mono ?_
      rintro x Zba ⟨rfl, vr_11, hm, hs⟩
      have Zr := Lib.hid hm
      have Zd := Lib.hid (mk_keeps Zb.out Zf.out (by decide) hs HNG0.out)
      have Zq := Lib.hid (Zv.out.trans ((Zb.out.stepBelow hs).mono HG.out))
      clear hm hs
      refine ⟨_, rfl, ?_⟩
      refine ⟨Zd.out, ?_⟩
      try simp only [Act.put, List.setIfInBounds_toArray, List.set_cons_succ, List.set_cons_zero]
      refine held_take 12 (.pointer (some ⟨g, 0, none⟩)) rfl (by kernel_rfl) (fun _ _ _ h => h) rfl (fun W _ => by kernel_rfl) (by assumption) ?_
      try simp only [Act.put, List.setIfInBounds_toArray, List.set_cons_succ, List.set_cons_zero]
      refine held_end (by kernel_rfl) ?_
      refine ⟨g, _, (by have := Zr.out; simpa [putHd] using this), Zd.out, Zq.out, HG.out, HNG0.out, ?_⟩
      simp only [ExPut, Act.put, List.setIfInBounds_toArray, List.set_cons_succ, List.set_cons_zero]
      exact ⟨_, _, _, _, _, _, _, _, _, _, _, _, rfl⟩
     exact AllReadyH.nil
    refine held_cons rfl ?_ ?_
    ·refine step_slice1 (E := EI) rfl _ rfl (r.2.1.length : Nat) rfl ?_
     intro ysn Zb5 hys hx
     have Zbx := Lib.hid (Off.behind (w0 := Zdp) hys.slice (fun k hk => (hys.block k hk).1) Zci.out.blk.lt Zci.out.lt)
     have Zbu := Lib.hid (Zdg.out.step (MkStep.of_below hx))
     have Zbm := Lib.hid (Zdc.out.below hx)
     have Z9 := Lib.hid (Zci.out.below hx)
     have Zb6 := Lib.hid (belowThen Zdo.out (Nat.le_refl _) hx)
     clear hys hx
     refine ⟨Zbm.out, ?_⟩
     try simp only [Act.put, List.setIfInBounds_toArray, List.set_cons_succ, List.set_cons_zero]
     refine held_one 5 rfl (by kernel_rfl) ?_
     refine step_slice1 (E := EBB) rfl _ rfl sva rfl ?_
     intro ysa Zbq hys hx
     have Z3 := Lib.hid (Off.behind (w0 := Zb5) hys.slice (fun k hk => (hys.block k hk).1) Z9.out.blk.lt Z9.out.lt)
     have Z2 := Lib.hid (Zbu.out.step (MkStep.of_below hx))
     have Z1 := Lib.hid (Zbx.out.step (MkStep.of_below hx))
     have Zu := Lib.hid (Zbm.out.below hx)
     have Zm := Lib.hid (Z9.out.below hx)
     have Z6 := Lib.hid (belowThen Zb6.out (Nat.le_refl _) hx)
     clear hys hx
     refine ⟨Zu.out, ?_⟩
     try simp only [Act.put, List.setIfInBounds_toArray, List.set_cons_succ, List.set_cons_zero]
     refine held_one 6 rfl (by kernel_rfl) ?_
     refine step_call rfl 32 _ _ rfl #[.pointer (some ⟨g, 0, none⟩), ysa] (by simp only [List.map_toArray, List.map_cons, List.map_nil]; rfl) (fun W => HET.out _ W) ?_
     refine (text_any g (.slice none 0 0) ysa sva (r.1) [] _ (by simp) (by omega) Z3.out Z2.out Zm.out).mono ?_
     rintro x Zbg ⟨rfl, vr_6, hm, hs⟩
     have Zb := Lib.hid hm
     have Zt := Lib.hid (Z1.out.step hs)
     have Zf := Lib.hid (mk_keeps Zm.out Zu.out (by decide) hs HNG0.out)
     have Zv := Lib.hid (Z6.out.trans ((Zm.out.stepBelow hs).mono HG.out))
     clear hm hs
     refine ⟨_, rfl, ?_⟩
     refine ⟨Zf.out, ?_⟩
     try simp only [Act.put, List.setIfInBounds_toArray, List.set_cons_succ, List.set_cons_zero]
     refine held_one 11 rfl (by kernel_rfl) ?_
     refine step_call rfl 33 _ _ rfl #[.pointer (some ⟨g, 0, none⟩), ysn] (by simp only [List.map_toArray, List.map_cons, List.map_nil]; rfl) (fun W => HEN.out _ W) ?_
     refine (num_any g vr_6 ysn [r.2.1.length] ([] ++ (encN (r.1).length ++ r.1)) _ (by intro n hn; simp only [List.mem_cons, List.not_mem_nil, or_false] at hn; omega) (by simp) (by simp only [List.length_append, List.length_nil]; omega) Zt.out Zb.out).mono ?_
     rintro x Zba ⟨rfl, vr_11, hm, hs⟩
     have Zr := Lib.hid hm
     have Zd := Lib.hid (mk_keeps Zb.out Zf.out (by decide) hs HNG0.out)
     have Zq := Lib.hid (Zv.out.trans ((Zb.out.stepBelow hs).mono HG.out))
     clear hm hs
     refine ⟨_, rfl, ?_⟩
     refine ⟨Zd.out, ?_⟩
     try simp only [Act.put, List.setIfInBounds_toArray, List.set_cons_succ, List.set_cons_zero]
     refine held_take 12 (.pointer (some ⟨g, 0, none⟩)) rfl (by kernel_rfl) (fun _ _ _ h => h) rfl (fun W _ => by kernel_rfl) (by assumption) ?_
     try simp only [Act.put, List.setIfInBounds_toArray, List.set_cons_succ, List.set_cons_zero]
     refine held_end (by kernel_rfl) ?_
     refine ⟨g, _, (by have := Zr.out; simpa [putHd] using this), Zd.out, Zq.out, HG.out, HNG0.out, ?_⟩
     simp only [ExPut, Act.put, List.setIfInBounds_toArray, List.set_cons_succ, List.set_cons_zero]
     exact ⟨_, _, _, _, _, _, _, _, _, _, _, _, rfl⟩
    exact AllReadyH.nil
   refine held_cons rfl ?_ ?_
   ·refine step_slice1 (E := EBB) rfl _ rfl sva rfl ?_
    intro ysa Zdx hys hx
    have Zd5 := Lib.hid hys.slice
    have Zd0 := Lib.hid (SliceOf.below HSOar_4.out hx)
    have Zds := Lib.hid (HRr_4.out.below hx)
    have Zdz := Lib.hid (belowThen HXr_4.out (Nat.le_refl _) hx)
    clear hys hx
    refine ⟨Zds.out, ?_⟩
    try simp only [Act.put, List.setIfInBounds_toArray, List.set_cons_succ, List.set_cons_zero]
    refine held_ready [1, 10] (by kernel_rfl) (by simp) ?_
    refine held_cons rfl ?_ ?_
    ·refine Agg.step_box rfl 85 _ rfl (mkC (.slice none 0 0)) rfl ?_
     intro g Zdd hb hx hg
     have Zbh := Lib.hid (⟨hb, Agg.Own.nil _ _ _⟩ : MkV g Zdd (.slice none 0 0) [])
     have Zch := Lib.hid (Off.before (v := .slice none 0 0) (w0 := Zdx) (Zd0.out : SliceOf EB Zdx _ _) hx hg (fun k hk => by simp [Value.ownBlock] at hk))
     have Zcg := Lib.hid (Off.before (v := .slice none 0 0) (w0 := Zdx) (Zd5.out : SliceOf EBB Zdx _ _) hx hg (fun k hk => by simp [Value.ownBlock] at hk))
     have Zca := Lib.hid (Zds.out.below hx)
     have Zco := Lib.hid (belowThen Zdz.out (Nat.le_refl _) hx)
     have HG := Lib.hid (Nat.le_trans Zdz.out.size hg)
     have HNG0 := Lib.hid (show g1 ≠ g from fun e => (by have := Zds.out.lt; omega))
     clear hb hx hg
     refine ⟨Zca.out, ?_⟩
     try simp only [Act.put, List.setIfInBounds_toArray, List.set_cons_succ, List.set_cons_zero]
     refine held_ready [6, 10] (by kernel_rfl) (by simp) ?_
     refine held_cons rfl ?_ ?_
     ·refine step_call rfl 32 _ _ rfl #[.pointer (some ⟨g, 0, none⟩), ysa] (by simp only [List.map_toArray, List.map_cons, List.map_nil]; rfl) (fun W => HET.out _ W) ?_
      refine (text_any g (.slice none 0 0) ysa sva (r.1) [] _ (by simp) (by omega) Zcg.out Zch.out Zbh.out).mono ?_
      rintro x Zda ⟨rfl, vr_6, hm, hs⟩
      have Zb2 := Lib.hid hm
      have Zcf := Lib.hid (mk_keeps Zbh.out Zca.out (by decide) hs HNG0.out)
      have Zc0 := Lib.hid (Zco.out.trans ((Zbh.out.stepBelow hs).mono HG.out))
      clear hm hs
      refine ⟨_, rfl, ?_⟩
      refine ⟨Zcf.out, ?_⟩
      try simp only [Act.put, List.setIfInBounds_toArray, List.set_cons_succ, List.set_cons_zero]
      refine held_one 10 rfl (by kernel_rfl) ?_
      refine step_slice1 (E := EI) rfl _ rfl (r.2.1.length : Nat) rfl ?_
      intro ysn Zbg hys hx
      have Zt := Lib.hid (Off.behind (w0 := Zda) hys.slice (fun k hk => (hys.block k hk).1) Zb2.out.blk.lt Zb2.out.lt)
      have Zf := Lib.hid (Zcf.out.below hx)
      have Zb := Lib.hid (Zb2.out.below hx)
      have Zv := Lib.hid (belowThen Zc0.out (Nat.le_refl _) hx)
      clear hys hx
      refine ⟨Zf.out, ?_⟩
      try simp only [Act.put, List.setIfInBounds_toArray, List.set_cons_succ, List.set_cons_zero]
      refine held_one 11 rfl (by kernel_rfl) ?_
      refine step_call rfl 33 _ _ rfl #[.pointer (some ⟨g, 0, none⟩), ysn] (by simp only [List.map_toArray, List.map_cons, List.map_nil]; rfl) (fun W => HEN.out _ W) ?_
      refine (num_any g vr_6 ysn [r.2.1.length] ([] ++ (encN (r.1).length ++ r.1)) _ (by intro n hn; simp only [List.mem_cons, List.not_mem_nil, or_false] at hn; omega) (by simp) (by simp only [List.length_append, List.length_nil]; omega) Zt.out Zb.out).mono ?_
      rintro x Zba ⟨rfl, vr_11, hm, hs⟩
      have Zr := Lib.hid hm
      have Zd := Lib.hid (mk_keeps Zb.out Zf.out (by decide) hs HNG0.out)
      have Zq := Lib.hid (Zv.out.trans ((Zb.out.stepBelow hs).mono HG.out))
      clear hm hs
      refine ⟨_, rfl, ?_⟩
      refine ⟨Zd.out, ?_⟩
      try simp only [Act.put, List.setIfInBounds_toArray, List.set_cons_succ, List.set_cons_zero]
      refine held_take 12 (.pointer (some ⟨g, 0, none⟩)) rfl (by kernel_rfl) (fun _ _ _ h => h) rfl (fun W _ => by kernel_rfl) (by assumption) ?_
      try simp only [Act.put, List.setIfInBounds_toArray, List.set_cons_succ, List.set_cons_zero]
      refine held_end (by kernel_rfl) ?_
      refine ⟨g, _, (by have := Zr.out; simpa [putHd] using this), Zd.out, Zq.out, HG.out, HNG0.out, ?_⟩
      simp only [ExPut, Act.put, List.setIfInBounds_toArray, List.set_cons_succ, List.set_cons_zero]
      exact ⟨_, _, _, _, _, _, _, _, _, _, _, _, rfl⟩
     refine held_cons rfl ?_ ?_
     ·refine step_slice1 (E := EI) rfl _ rfl (r.2.1.length : Nat) rfl ?_
      intro ysn Zbq hys hx
      have Z1 := Lib.hid (Off.behind (w0 := Zdd) hys.slice (fun k hk => (hys.block k hk).1) Zbh.out.blk.lt Zbh.out.lt)
      have Z2 := Lib.hid (Zch.out.step (MkStep.of_below hx))
      have Z3 := Lib.hid (Zcg.out.step (MkStep.of_below hx))
      have Zu := Lib.hid (Zca.out.below hx)
      have Zm := Lib.hid (Zbh.out.below hx)
      have Z6 := Lib.hid (belowThen Zco.out (Nat.le_refl _) hx)
      clear hys hx
      refine ⟨Zu.out, ?_⟩
      try simp only [Act.put, List.setIfInBounds_toArray, List.set_cons_succ, List.set_cons_zero]
      refine held_one 6 rfl (by kernel_rfl) ?_
      refine step_call rfl 32 _ _ rfl #[.pointer (some ⟨g, 0, none⟩), ysa] (by simp only [List.map_toArray, List.map_cons, List.map_nil]; rfl) (fun W => HET.out _ W) ?_
      refine (text_any g (.slice none 0 0) ysa sva (r.1) [] _ (by simp) (by omega) Z3.out Z2.out Zm.out).mono ?_
      rintro x Zbg ⟨rfl, vr_6, hm, hs⟩
      have Zb := Lib.hid hm
      have Zt := Lib.hid (Z1.out.step hs)
      have Zf := Lib.hid (mk_keeps Zm.out Zu.out (by decide) hs HNG0.out)
      have Zv := Lib.hid (Z6.out.trans ((Zm.out.stepBelow hs).mono HG.out))
      clear hm hs
      refine ⟨_, rfl, ?_⟩
      refine ⟨Zf.out, ?_⟩
      try simp only [Act.put, List.setIfInBounds_toArray, List.set_cons_succ, List.set_cons_zero]
      refine held_one 11 rfl (by kernel_rfl) ?_
      refine step_call rfl 33 _ _ rfl #[.pointer (some ⟨g, 0, none⟩), ysn] (by simp only [List.map_toArray, List.map_cons, List.map_nil]; rfl) (fun W => HEN.out _ W) ?_
      refine (num_any g vr_6 ysn [r.2.1.length] ([] ++ (encN (r.1).length ++ r.1)) _ (by intro n hn; simp only [List.mem_cons, List.not_mem_nil, or_false] at hn; omega) (by simp) (by simp only [List.length_append, List.length_nil]; omega) Zt.out Zb.out).mono ?_
      rintro x Zba ⟨rfl, vr_11, hm, hs⟩
      have Zr := Lib.hid hm
      have Zd := Lib.hid (mk_keeps Zb.out Zf.out (by decide) hs HNG0.out)
      have Zq := Lib.hid (Zv.out.trans ((Zb.out.stepBelow hs).mono HG.out))
      clear hm hs
      refine ⟨_, rfl, ?_⟩
      refine ⟨Zd.out, ?_⟩
      try simp only [Act.put, List.setIfInBounds_toArray, List.set_cons_succ, List.set_cons_zero]
      refine held_take 12 (.pointer (some ⟨g, 0, none⟩)) rfl (by kernel_rfl) (fun _ _ _ h => h) rfl (fun W _ => by kernel_rfl) (by assumption) ?_
      try simp only [Act.put, List.setIfInBounds_toArray, List.set_cons_succ, List.set_cons_zero]
      refine held_end (by kernel_rfl) ?_
      refine ⟨g, _, (by have := Zr.out; simpa [putHd] using this), Zd.out, Zq.out, HG.out, HNG0.out, ?_⟩
      simp only [ExPut, Act.put, List.setIfInBounds_toArray, List.set_cons_succ, List.set_cons_zero]
      exact ⟨_, _, _, _, _, _, _, _, _, _, _, _, rfl⟩
     exact AllReadyH.nil
    refine held_cons rfl ?_ ?_
    ·refine step_slice1 (E := EI) rfl _ rfl (r.2.1.length : Nat) rfl ?_
     intro ysn Zbi hys hx
     have Zcx := Lib.hid hys.slice
     have Zct := Lib.hid (SliceOf.below Zd0.out hx)
     have Zcu := Lib.hid (SliceOf.below Zd5.out hx)
     have Zb8 := Lib.hid (Zds.out.below hx)
     have Zcj := Lib.hid (belowThen Zdz.out (Nat.le_refl _) hx)
     clear hys hx
     refine ⟨Zb8.out, ?_⟩
     try simp only [Act.put, List.setIfInBounds_toArray, List.set_cons_succ, List.set_cons_zero]
     refine held_one 1 rfl (by kernel_rfl) ?_
     refine Agg.step_box rfl 85 _ rfl (mkC (.slice none 0 0)) rfl ?_
     intro g Zbq hb hx hg
     have Zm := Lib.hid (⟨hb, Agg.Own.nil _ _ _⟩ : MkV g Zbq (.slice none 0 0) [])
     have Z2 := Lib.hid (Off.before (v := .slice none 0 0) (w0 := Zbi) (Zct.out : SliceOf EB Zbi _ _) hx hg (fun k hk => by simp [Value.ownBlock] at hk))
     have Z3 := Lib.hid (Off.before (v := .slice none 0 0) (w0 := Zbi) (Zcu.out : SliceOf EBB Zbi _ _) hx hg (fun k hk => by simp [Value.ownBlock] at hk))
     have Z1 := Lib.hid (Off.before (v := .slice none 0 0) (w0 := Zbi) (Zcx.out : SliceOf EI Zbi _ _) hx hg (fun k hk => by simp [Value.ownBlock] at hk))
     have Zu := Lib.hid (Zb8.out.below hx)
     have Z6 := Lib.hid (belowThen Zcj.out (Nat.le_refl _) hx)
     have HG := Lib.hid (Nat.le_trans Zcj.out.size hg)
     have HNG0 := Lib.hid (show g1 ≠ g from fun e => (by have := Zb8.out.lt; omega))
     clear hb hx hg
     refine ⟨Zu.out, ?_⟩
     try simp only [Act.put, List.setIfInBounds_toArray, List.set_cons_succ, List.set_cons_zero]
     refine held_one 6 rfl (by kernel_rfl) ?_
     refine step_call rfl 32 _ _ rfl #[.pointer (some ⟨g, 0, none⟩), ysa] (by simp only [List.map_toArray, List.map_cons, List.map_nil]; rfl) (fun W => HET.out _ W) ?_
     refine (text_any g (.slice none 0 0) ysa sva (r.1) [] _ (by simp) (by omega) Z3.out Z2.out Zm.out).mono ?_
     rintro x Zbg ⟨rfl, vr_6, hm, hs⟩
     have Zb := Lib.hid hm
     have Zt := Lib.hid (Z1.out.step hs)
     have Zf := Lib.hid (mk_keeps Zm.out Zu.out (by decide) hs HNG0.out)
     have Zv := Lib.hid (Z6.out.trans ((Zm.out.stepBelow hs).mono HG.out))
     clear hm hs
     refine ⟨_, rfl, ?_⟩
     refine ⟨Zf.out, ?_⟩
     try simp only [Act.put, List.setIfInBounds_toArray, List.set_cons_succ, List.set_cons_zero]
     refine held_one 11 rfl (by kernel_rfl) ?_
     refine step_call rfl 33 _ _ rfl #[.pointer (some ⟨g, 0, none⟩), ysn] (by simp only [List.map_toArray, List.map_cons, List.map_nil]; rfl) (fun W => HEN.out _ W) ?_
     refine (num_any g vr_6 ysn [r.2.1.length] ([] ++ (encN (r.1).length ++ r.1)) _ (by intro n hn; simp only [List.mem_cons, List.not_mem_nil, or_false] at hn; omega) (by simp) (by simp only [List.length_append, List.length_nil]; omega) Zt.out Zb.out).mono ?_
     rintro x Zba ⟨rfl, vr_11, hm, hs⟩
     have Zr := Lib.hid hm
     have Zd := Lib.hid (mk_keeps Zb.out Zf.out (by decide) hs HNG0.out)
     have Zq := Lib.hid (Zv.out.trans ((Zb.out.stepBelow hs).mono HG.out))
     clear hm hs
     refine ⟨_, rfl, ?_⟩
     refine ⟨Zd.out, ?_⟩
     try simp only [Act.put, List.setIfInBounds_toArray, List.set_cons_succ, List.set_cons_zero]
     refine held_take 12 (.pointer (some ⟨g, 0, none⟩)) rfl (by kernel_rfl) (fun _ _ _ h => h) rfl (fun W _ => by kernel_rfl) (by assumption) ?_
     try simp only [Act.put, List.setIfInBounds_toArray, List.set_cons_succ, List.set_cons_zero]
     refine held_end (by kernel_rfl) ?_
     refine ⟨g, _, (by have := Zr.out; simpa [putHd] using this), Zd.out, Zq.out, HG.out, HNG0.out, ?_⟩
     simp only [ExPut, Act.put, List.setIfInBounds_toArray, List.set_cons_succ, List.set_cons_zero]
     exact ⟨_, _, _, _, _, _, _, _, _, _, _, _, rfl⟩
    exact AllReadyH.nil
   refine held_cons rfl ?_ ?_
   ·refine step_slice1 (E := EI) rfl _ rfl (r.2.1.length : Nat) rfl ?_
    intro ysn Zcz hys hx
    have Zc9 := Lib.hid hys.slice
    have Zc7 := Lib.hid (SliceOf.below HSOar_4.out hx)
    have Zcp := Lib.hid (HRr_4.out.below hx)
    have Zc3 := Lib.hid (belowThen HXr_4.out (Nat.le_refl _) hx)
    clear hys hx
    refine ⟨Zcp.out, ?_⟩
    try simp only [Act.put, List.setIfInBounds_toArray, List.set_cons_succ, List.set_cons_zero]
    refine held_ready [1, 5] (by kernel_rfl) (by simp) ?_
    refine held_cons rfl ?_ ?_
    ·refine Agg.step_box rfl 85 _ rfl (mkC (.slice none 0 0)) rfl ?_
     intro g Zb5 hb hx hg
     have Z9 := Lib.hid (⟨hb, Agg.Own.nil _ _ _⟩ : MkV g Zb5 (.slice none 0 0) [])
     have Zbu := Lib.hid (Off.before (v := .slice none 0 0) (w0 := Zcz) (Zc7.out : SliceOf EB Zcz _ _) hx hg (fun k hk => by simp [Value.ownBlock] at hk))
     have Zbx := Lib.hid (Off.before (v := .slice none 0 0) (w0 := Zcz) (Zc9.out : SliceOf EI Zcz _ _) hx hg (fun k hk => by simp [Value.ownBlock] at hk))
     have Zbm := Lib.hid (Zcp.out.below hx)
     have Zb6 := Lib.hid (belowThen Zc3.out (Nat.le_refl _) hx)
     have HG := Lib.hid (Nat.le_trans Zc3.out.size hg)
     have HNG0 := Lib.hid (show g1 ≠ g from fun e => (by have := Zcp.out.lt; omega))
     clear hb hx hg
     refine ⟨Zbm.out, ?_⟩
     try simp only [Act.put, List.setIfInBounds_toArray, List.set_cons_succ, List.set_cons_zero]
     refine held_one 5 rfl (by kernel_rfl) ?_
     refine step_slice1 (E := EBB) rfl _ rfl sva rfl ?_
     intro ysa Zbq hys hx
     have Z3 := Lib.hid (Off.behind (w0 := Zb5) hys.slice (fun k hk => (hys.block k hk).1) Z9.out.blk.lt Z9.out.lt)
     have Z2 := Lib.hid (Zbu.out.step (MkStep.of_below hx))
     have Z1 := Lib.hid (Zbx.out.step (MkStep.of_below hx))
     have Zu := Lib.hid (Zbm.out.below hx)
     have Zm := Lib.hid (Z9.out.below hx)
     have Z6 := Lib.hid (belowThen Zb6.out (Nat.le_refl _) hx)
     clear hys hx
     refine ⟨Zu.out, ?_⟩
     try simp only [Act.put, List.setIfInBounds_toArray, List.set_cons_succ, List.set_cons_zero]
     refine held_one 6 rfl (by kernel_rfl) ?_
     refine step_call rfl 32 _ _ rfl #[.pointer (some ⟨g, 0, none⟩), ysa] (by simp only [List.map_toArray, List.map_cons, List.map_nil]; rfl) (fun W => HET.out _ W) ?_
     refine (text_any g (.slice none 0 0) ysa sva (r.1) [] _ (by simp) (by omega) Z3.out Z2.out Zm.out).mono ?_
     rintro x Zbg ⟨rfl, vr_6, hm, hs⟩
     have Zb := Lib.hid hm
     have Zt := Lib.hid (Z1.out.step hs)
     have Zf := Lib.hid (mk_keeps Zm.out Zu.out (by decide) hs HNG0.out)
     have Zv := Lib.hid (Z6.out.trans ((Zm.out.stepBelow hs).mono HG.out))
     clear hm hs
     refine ⟨_, rfl, ?_⟩
     refine ⟨Zf.out, ?_⟩
     try simp only [Act.put, List.setIfInBounds_toArray, List.set_cons_succ, List.set_cons_zero]
     refine held_one 11 rfl (by kernel_rfl) ?_
     refine step_call rfl 33 _ _ rfl #[.pointer (some ⟨g, 0, none⟩), ysn] (by simp only [List.map_toArray, List.map_cons, List.map_nil]; rfl) (fun W => HEN.out _ W) ?_
     refine (num_any g vr_6 ysn [r.2.1.length] ([] ++ (encN (r.1).length ++ r.1)) _ (by intro n hn; simp only [List.mem_cons, List.not_mem_nil, or_false] at hn; omega) (by simp) (by simp only [List.length_append, List.length_nil]; omega) Zt.out Zb.out).mono ?_
     rintro x Zba ⟨rfl, vr_11, hm, hs⟩
     have Zr := Lib.hid hm
     have Zd := Lib.hid (mk_keeps Zb.out Zf.out (by decide) hs HNG0.out)
     have Zq := Lib.hid (Zv.out.trans ((Zb.out.stepBelow hs).mono HG.out))
     clear hm hs
     refine ⟨_, rfl, ?_⟩
     refine ⟨Zd.out, ?_⟩
     try simp only [Act.put, List.setIfInBounds_toArray, List.set_cons_succ, List.set_cons_zero]
     refine held_take 12 (.pointer (some ⟨g, 0, none⟩)) rfl (by kernel_rfl) (fun _ _ _ h => h) rfl (fun W _ => by kernel_rfl) (by assumption) ?_
     try simp only [Act.put, List.setIfInBounds_toArray, List.set_cons_succ, List.set_cons_zero]
     refine held_end (by kernel_rfl) ?_
     refine ⟨g, _, (by have := Zr.out; simpa [putHd] using this), Zd.out, Zq.out, HG.out, HNG0.out, ?_⟩
     simp only [ExPut, Act.put, List.setIfInBounds_toArray, List.set_cons_succ, List.set_cons_zero]
     exact ⟨_, _, _, _, _, _, _, _, _, _, _, _, rfl⟩
    refine held_cons rfl ?_ ?_
    ·refine step_slice1 (E := EBB) rfl _ rfl sva rfl ?_
     intro ysa Zbi hys hx
     have Zcu := Lib.hid hys.slice
     have Zct := Lib.hid (SliceOf.below Zc7.out hx)
     have Zcx := Lib.hid (SliceOf.below Zc9.out hx)
     have Zb8 := Lib.hid (Zcp.out.below hx)
     have Zcj := Lib.hid (belowThen Zc3.out (Nat.le_refl _) hx)
     clear hys hx
     refine ⟨Zb8.out, ?_⟩
     try simp only [Act.put, List.setIfInBounds_toArray, List.set_cons_succ, List.set_cons_zero]
     refine held_one 1 rfl (by kernel_rfl) ?_
     refine Agg.step_box rfl 85 _ rfl (mkC (.slice none 0 0)) rfl ?_
     intro g Zbq hb hx hg
     have Zm := Lib.hid (⟨hb, Agg.Own.nil _ _ _⟩ : MkV g Zbq (.slice none 0 0) [])
     have Z2 := Lib.hid (Off.before (v := .slice none 0 0) (w0 := Zbi) (Zct.out : SliceOf EB Zbi _ _) hx hg (fun k hk => by simp [Value.ownBlock] at hk))
     have Z3 := Lib.hid (Off.before (v := .slice none 0 0) (w0 := Zbi) (Zcu.out : SliceOf EBB Zbi _ _) hx hg (fun k hk => by simp [Value.ownBlock] at hk))
     have Z1 := Lib.hid (Off.before (v := .slice none 0 0) (w0 := Zbi) (Zcx.out : SliceOf EI Zbi _ _) hx hg (fun k hk => by simp [Value.ownBlock] at hk))
     have Zu := Lib.hid (Zb8.out.below hx)
     have Z6 := Lib.hid (belowThen Zcj.out (Nat.le_refl _) hx)
     have HG := Lib.hid (Nat.le_trans Zcj.out.size hg)
     have HNG0 := Lib.hid (show g1 ≠ g from fun e => (by have := Zb8.out.lt; omega))
     clear hb hx hg
     refine ⟨Zu.out, ?_⟩
     try simp only [Act.put, List.setIfInBounds_toArray, List.set_cons_succ, List.set_cons_zero]
     refine held_one 6 rfl (by kernel_rfl) ?_
     refine step_call rfl 32 _ _ rfl #[.pointer (some ⟨g, 0, none⟩), ysa] (by simp only [List.map_toArray, List.map_cons, List.map_nil]; rfl) (fun W => HET.out _ W) ?_
     refine (text_any g (.slice none 0 0) ysa sva (r.1) [] _ (by simp) (by omega) Z3.out Z2.out Zm.out).mono ?_
     rintro x Zbg ⟨rfl, vr_6, hm, hs⟩
     have Zb := Lib.hid hm
     have Zt := Lib.hid (Z1.out.step hs)
     have Zf := Lib.hid (mk_keeps Zm.out Zu.out (by decide) hs HNG0.out)
     have Zv := Lib.hid (Z6.out.trans ((Zm.out.stepBelow hs).mono HG.out))
     clear hm hs
     refine ⟨_, rfl, ?_⟩
     refine ⟨Zf.out, ?_⟩
     try simp only [Act.put, List.setIfInBounds_toArray, List.set_cons_succ, List.set_cons_zero]
     refine held_one 11 rfl (by kernel_rfl) ?_
     refine step_call rfl 33 _ _ rfl #[.pointer (some ⟨g, 0, none⟩), ysn] (by simp only [List.map_toArray, List.map_cons, List.map_nil]; rfl) (fun W => HEN.out _ W) ?_
     refine (num_any g vr_6 ysn [r.2.1.length] ([] ++ (encN (r.1).length ++ r.1)) _ (by intro n hn; simp only [List.mem_cons, List.not_mem_nil, or_false] at hn; omega) (by simp) (by simp only [List.length_append, List.length_nil]; omega) Zt.out Zb.out).mono ?_
     rintro x Zba ⟨rfl, vr_11, hm, hs⟩
     have Zr := Lib.hid hm
     have Zd := Lib.hid (mk_keeps Zb.out Zf.out (by decide) hs HNG0.out)
     have Zq := Lib.hid (Zv.out.trans ((Zb.out.stepBelow hs).mono HG.out))
     clear hm hs
     refine ⟨_, rfl, ?_⟩
     refine ⟨Zd.out, ?_⟩
     try simp only [Act.put, List.setIfInBounds_toArray, List.set_cons_succ, List.set_cons_zero]
     refine held_take 12 (.pointer (some ⟨g, 0, none⟩)) rfl (by kernel_rfl) (fun _ _ _ h => h) rfl (fun W _ => by kernel_rfl) (by assumption) ?_
     try simp only [Act.put, List.setIfInBounds_toArray, List.set_cons_succ, List.set_cons_zero]
     refine held_end (by kernel_rfl) ?_
     refine ⟨g, _, (by have := Zr.out; simpa [putHd] using this), Zd.out, Zq.out, HG.out, HNG0.out, ?_⟩
     simp only [ExPut, Act.put, List.setIfInBounds_toArray, List.set_cons_succ, List.set_cons_zero]
     exact ⟨_, _, _, _, _, _, _, _, _, _, _, _, rfl⟩
    exact AllReadyH.nil
   exact AllReadyH.nil
  refine held_cons rfl ?_ ?_
  ·refine step_slice1 (E := EI) rfl _ rfl (r.2.1.length : Nat) rfl ?_
   intro ysn wr_10 hys hx
   have HYOnr_10 := Lib.hid hys.slice
   have HRr_10 := Lib.hid (HRr0.out.below hx)
   have HXr_10 := Lib.hid (belowThen HXr0.out (Nat.le_refl _) hx)
   clear hys hx
   refine ⟨HRr_10.out, ?_⟩
   try simp only [Act.put, List.setIfInBounds_toArray, List.set_cons_succ, List.set_cons_zero]
   refine held_ready [1, 4] (by kernel_rfl) (by simp) ?_
   refine held_cons rfl ?_ ?_
   ·refine Agg.step_box rfl 85 _ rfl (mkC (.slice none 0 0)) rfl ?_
    intro g Zdt hb hx hg
    have Zc4 := Lib.hid (⟨hb, Agg.Own.nil _ _ _⟩ : MkV g Zdt (.slice none 0 0) [])
    have Zdq := Lib.hid (Off.before (v := .slice none 0 0) (w0 := wr_10) (HYOnr_10.out : SliceOf EI wr_10 _ _) hx hg (fun k hk => by simp [Value.ownBlock] at hk))
    have Zdj := Lib.hid (HRr_10.out.below hx)
    have Zdv := Lib.hid (belowThen HXr_10.out (Nat.le_refl _) hx)
    have HG := Lib.hid (Nat.le_trans HXr_10.out.size hg)
    have HNG0 := Lib.hid (show g1 ≠ g from fun e => (by have := HRr_10.out.lt; omega))
    clear hb hx hg
    refine ⟨Zdj.out, ?_⟩
    try simp only [Act.put, List.setIfInBounds_toArray, List.set_cons_succ, List.set_cons_zero]
    refine held_one 4 rfl (by kernel_rfl) ?_
    refine step_toBytes rfl _ rfl (r.1) rfl ?_
    intro vr4 Zb5 hn hx
    obtain ⟨sva, rfl⟩ := bytes_svB hn.slice
    have Zbu := Lib.hid (Off.behind (w0 := Zdt) hn.slice (fun k hk => newBytes_ownB hn k hk) Zc4.out.blk.lt Zc4.out.lt)
    have Zbx := Lib.hid (Zdq.out.step (MkStep.of_below hx))
    have Zbm := Lib.hid (Zdj.out.below hx)
    have Z9 := Lib.hid (Zc4.out.below hx)
    have Zb6 := Lib.hid (belowThen Zdv.out (Nat.le_refl _) hx)
    clear hn hx
    refine ⟨Zbm.out, ?_⟩
    try simp only [Act.put, List.setIfInBounds_toArray, List.set_cons_succ, List.set_cons_zero]
    refine held_one 5 rfl (by kernel_rfl) ?_
    refine step_slice1 (E := EBB) rfl _ rfl sva rfl ?_
    intro ysa Zbq hys hx
    have Z3 := Lib.hid (Off.behind (w0 := Zb5) hys.slice (fun k hk => (hys.block k hk).1) Z9.out.blk.lt Z9.out.lt)
    have Z2 := Lib.hid (Zbu.out.step (MkStep.of_below hx))
    have Z1 := Lib.hid (Zbx.out.step (MkStep.of_below hx))
    have Zu := Lib.hid (Zbm.out.below hx)
    have Zm := Lib.hid (Z9.out.below hx)
    have Z6 := Lib.hid (belowThen Zb6.out (Nat.le_refl _) hx)
    clear hys hx
    refine ⟨Zu.out, ?_⟩
    try simp only [Act.put, List.setIfInBounds_toArray, List.set_cons_succ, List.set_cons_zero]
    refine held_one 6 rfl (by kernel_rfl) ?_
    refine step_call rfl 32 _ _ rfl #[.pointer (some ⟨g, 0, none⟩), ysa] (by simp only [List.map_toArray, List.map_cons, List.map_nil]; rfl) (fun W => HET.out _ W) ?_
    refine (text_any g (.slice none 0 0) ysa sva (r.1) [] _ (by simp) (by omega) Z3.out Z2.out Zm.out).mono ?_
    rintro x Zbg ⟨rfl, vr_6, hm, hs⟩
    have Zb := Lib.hid hm
    have Zt := Lib.hid (Z1.out.step hs)
    have Zf := Lib.hid (mk_keeps Zm.out Zu.out (by decide) hs HNG0.out)
    have Zv := Lib.hid (Z6.out.trans ((Zm.out.stepBelow hs).mono HG.out))
    clear hm hs
    refine ⟨_, rfl, ?_⟩
    refine ⟨Zf.out, ?_⟩
    try simp only [Act.put, List.setIfInBounds_toArray, List.set_cons_succ, List.set_cons_zero]
    refine held_one 11 rfl (by kernel_rfl) ?_
    refine step_call rfl 33 _ _ rfl #[.pointer (some ⟨g, 0, none⟩), ysn] (by simp only [List.map_toArray, List.map_cons, List.map_nil]; rfl) (fun W => HEN.out _ W) ?_
    refine (num_any g vr_6 ysn [r.2.1.length] ([] ++ (encN (r.1).length ++ r.1)) _ (by intro n hn; simp only [List.mem_cons, List.not_mem_nil, or_false] at hn; omega) (by simp) (by simp only [List.length_append, List.length_nil]; omega) Zt.out Zb.out).mono ?_
    rintro x Zba ⟨rfl, vr_11, hm, hs⟩
    have Zr := Lib.hid hm
    have Zd := Lib.hid (mk_keeps Zb.out Zf.out (by decide) hs HNG0.out)
    have Zq := Lib.hid (Zv.out.trans ((Zb.out.stepBelow hs).mono HG.out))
    clear hm hs
    refine ⟨_, rfl, ?_⟩
    refine ⟨Zd.out, ?_⟩
    try simp only [Act.put, List.setIfInBounds_toArray, List.set_cons_succ, List.set_cons_zero]
    refine held_take 12 (.pointer (some ⟨g, 0, none⟩)) rfl (by kernel_rfl) (fun _ _ _ h => h) rfl (fun W _ => by kernel_rfl) (by assumption) ?_
    try simp only [Act.put, List.setIfInBounds_toArray, List.set_cons_succ, List.set_cons_zero]
    refine held_end (by kernel_rfl) ?_
    refine ⟨g, _, (by have := Zr.out; simpa [putHd] using this), Zd.out, Zq.out, HG.out, HNG0.out, ?_⟩
    simp only [ExPut, Act.put, List.setIfInBounds_toArray, List.set_cons_succ, List.set_cons_zero]
    exact ⟨_, _, _, _, _, _, _, _, _, _, _, _, rfl⟩
   refine held_cons rfl ?_ ?_
   ·refine step_toBytes rfl _ rfl (r.1) rfl ?_
    intro vr4 Zcz hn hx
    obtain ⟨sva, rfl⟩ := bytes_svB hn.slice
    have Zc7 := Lib.hid hn.slice
    have Zc9 := Lib.hid (SliceOf.below HYOnr_10.out hx)
    have Zcp := Lib.hid (HRr_10.out.below hx)
    have Zc3 := Lib.hid (belowThen HXr_10.out (Nat.le_refl _) hx)
    clear hn hx
    refine ⟨Zcp.out, ?_⟩
    try simp only [Act.put, List.setIfInBounds_toArray, List.set_cons_succ, List.set_cons_zero]
    refine held_ready [1, 5] (by kernel_rfl) (by simp) ?_
    refine held_cons rfl ?_ ?_
    ·refine Agg.step_box rfl 85 _ rfl (mkC (.slice none 0 0)) rfl ?_
     intro g Zb5 hb hx hg
     have Z9 := Lib.hid (⟨hb, Agg.Own.nil _ _ _⟩ : MkV g Zb5 (.slice none 0 0) [])
     have Zbu := Lib.hid (Off.before (v := .slice none 0 0) (w0 := Zcz) (Zc7.out : SliceOf EB Zcz _ _) hx hg (fun k hk => by simp [Value.ownBlock] at hk))
     have Zbx := Lib.hid (Off.before (v := .slice none 0 0) (w0 := Zcz) (Zc9.out : SliceOf EI Zcz _ _) hx hg (fun k hk => by simp [Value.ownBlock] at hk))
     have Zbm := Lib.hid (Zcp.out.below hx)
     have Zb6 := Lib.hid (belowThen Zc3.out (Nat.le_refl _) hx)
     have HG := Lib.hid (Nat.le_trans Zc3.out.size hg)
     have HNG0 := Lib.hid (show g1 ≠ g from fun e => (by have := Zcp.out.lt; omega))
     clear hb hx hg
     refine ⟨Zbm.out, ?_⟩
     try simp only [Act.put, List.setIfInBounds_toArray, List.set_cons_succ, List.set_cons_zero]
     refine held_one 5 rfl (by kernel_rfl) ?_
     refine step_slice1 (E := EBB) rfl _ rfl sva rfl ?_
     intro ysa Zbq hys hx
     have Z3 := Lib.hid (Off.behind (w0 := Zb5) hys.slice (fun k hk => (hys.block k hk).1) Z9.out.blk.lt Z9.out.lt)
     have Z2 := Lib.hid (Zbu.out.step (MkStep.of_below hx))
     have Z1 := Lib.hid (Zbx.out.step (MkStep.of_below hx))
     have Zu := Lib.hid (Zbm.out.below hx)
     have Zm := Lib.hid (Z9.out.below hx)
     have Z6 := Lib.hid (belowThen Zb6.out (Nat.le_refl _) hx)
     clear hys hx
     refine ⟨Zu.out, ?_⟩
     try simp only [Act.put, List.setIfInBounds_toArray, List.set_cons_succ, List.set_cons_zero]
     refine held_one 6 rfl (by kernel_rfl) ?_
     refine step_call rfl 32 _ _ rfl #[.pointer (some ⟨g, 0, none⟩), ysa] (by simp only [List.map_toArray, List.map_cons, List.map_nil]; rfl) (fun W => HET.out _ W) ?_
     refine (text_any g (.slice none 0 0) ysa sva (r.1) [] _ (by simp) (by omega) Z3.out Z2.out Zm.out).mono ?_
     rintro x Zbg ⟨rfl, vr_6, hm, hs⟩
     have Zb := Lib.hid hm
     have Zt := Lib.hid (Z1.out.step hs)
     have Zf := Lib.hid (mk_keeps Zm.out Zu.out (by decide) hs HNG0.out)
     have Zv := Lib.hid (Z6.out.trans ((Zm.out.stepBelow hs).mono HG.out))
     clear hm hs
     refine ⟨_, rfl, ?_⟩
     refine ⟨Zf.out, ?_⟩
     try simp only [Act.put, List.setIfInBounds_toArray, List.set_cons_succ, List.set_cons_zero]
     refine held_one 11 rfl (by kernel_rfl) ?_
     refine step_call rfl 33 _ _ rfl #[.pointer (some ⟨g, 0, none⟩), ysn] (by simp only [List.map_toArray, List.map_cons, List.map_nil]; rfl) (fun W => HEN.out _ W) ?_
     refine (num_any g vr_6 ysn [r.2.1.length] ([] ++ (encN (r.1).length ++ r.1)) _ (by intro n hn; simp only [List.mem_cons, List.not_mem_nil, or_false] at hn; omega) (by simp) (by simp only [List.length_append, List.length_nil]; omega) Zt.out Zb.out).mono ?_
     rintro x Zba ⟨rfl, vr_11, hm, hs⟩
     have Zr := Lib.hid hm
     have Zd := Lib.hid (mk_keeps Zb.out Zf.out (by decide) hs HNG0.out)
     have Zq := Lib.hid (Zv.out.trans ((Zb.out.stepBelow hs).mono HG.out))
     clear hm hs
     refine ⟨_, rfl, ?_⟩
     refine ⟨Zd.out, ?_⟩
     try simp only [Act.put, List.setIfInBounds_toArray, List.set_cons_succ, List.set_cons_zero]
     refine held_take 12 (.pointer (some ⟨g, 0, none⟩)) rfl (by kernel_rfl) (fun _ _ _ h => h) rfl (fun W _ => by kernel_rfl) (by assumption) ?_
     try simp only [Act.put, List.setIfInBounds_toArray, List.set_cons_succ, List.set_cons_zero]
     refine held_end (by kernel_rfl) ?_
     refine ⟨g, _, (by have := Zr.out; simpa [putHd] using this), Zd.out, Zq.out, HG.out, HNG0.out, ?_⟩
     simp only [ExPut, Act.put, List.setIfInBounds_toArray, List.set_cons_succ, List.set_cons_zero]
     exact ⟨_, _, _, _, _, _, _, _, _, _, _, _, rfl⟩
    refine held_cons rfl ?_ ?_
    ·refine step_slice1 (E := EBB) rfl _ rfl sva rfl ?_
     intro ysa Zbi hys hx
     have Zcu := Lib.hid hys.slice
     have Zct := Lib.hid (SliceOf.below Zc7.out hx)
     have Zcx := Lib.hid (SliceOf.below Zc9.out hx)
     have Zb8 := Lib.hid (Zcp.out.below hx)
     have Zcj := Lib.hid (belowThen Zc3.out (Nat.le_refl _) hx)
     clear hys hx
     refine ⟨Zb8.out, ?_⟩
     try simp only [Act.put, List.setIfInBounds_toArray, List.set_cons_succ, List.set_cons_zero]
     refine held_one 1 rfl (by kernel_rfl) ?_
     refine Agg.step_box rfl 85 _ rfl (mkC (.slice none 0 0)) rfl ?_
     intro g Zbq hb hx hg
     have Zm := Lib.hid (⟨hb, Agg.Own.nil _ _ _⟩ : MkV g Zbq (.slice none 0 0) [])
     have Z2 := Lib.hid (Off.before (v := .slice none 0 0) (w0 := Zbi) (Zct.out : SliceOf EB Zbi _ _) hx hg (fun k hk => by simp [Value.ownBlock] at hk))
     have Z3 := Lib.hid (Off.before (v := .slice none 0 0) (w0 := Zbi) (Zcu.out : SliceOf EBB Zbi _ _) hx hg (fun k hk => by simp [Value.ownBlock] at hk))
     have Z1 := Lib.hid (Off.before (v := .slice none 0 0) (w0 := Zbi) (Zcx.out : SliceOf EI Zbi _ _) hx hg (fun k hk => by simp [Value.ownBlock] at hk))
     have Zu := Lib.hid (Zb8.out.below hx)
     have Z6 := Lib.hid (belowThen Zcj.out (Nat.le_refl _) hx)
     have HG := Lib.hid (Nat.le_trans Zcj.out.size hg)
     have HNG0 := Lib.hid (show g1 ≠ g from fun e => (by have := Zb8.out.lt; omega))
     clear hb hx hg
     refine ⟨Zu.out, ?_⟩
     try simp only [Act.put, List.setIfInBounds_toArray, List.set_cons_succ, List.set_cons_zero]
     refine held_one 6 rfl (by kernel_rfl) ?_
     refine step_call rfl 32 _ _ rfl #[.pointer (some ⟨g, 0, none⟩), ysa] (by simp only [List.map_toArray, List.map_cons, List.map_nil]; rfl) (fun W => HET.out _ W) ?_
     refine (text_any g (.slice none 0 0) ysa sva (r.1) [] _ (by simp) (by omega) Z3.out Z2.out Zm.out).mono ?_
     rintro x Zbg ⟨rfl, vr_6, hm, hs⟩
     have Zb := Lib.hid hm
     have Zt := Lib.hid (Z1.out.step hs)
     have Zf := Lib.hid (mk_keeps Zm.out Zu.out (by decide) hs HNG0.out)
     have Zv := Lib.hid (Z6.out.trans ((Zm.out.stepBelow hs).mono HG.out))
     clear hm hs
     refine ⟨_, rfl, ?_⟩
     refine ⟨Zf.out, ?_⟩
     try simp only [Act.put, List.setIfInBounds_toArray, List.set_cons_succ, List.set_cons_zero]
     refine held_one 11 rfl (by kernel_rfl) ?_
     refine step_call rfl 33 _ _ rfl #[.pointer (some ⟨g, 0, none⟩), ysn] (by simp only [List.map_toArray, List.map_cons, List.map_nil]; rfl) (fun W => HEN.out _ W) ?_
     refine (num_any g vr_6 ysn [r.2.1.length] ([] ++ (encN (r.1).length ++ r.1)) _ (by intro n hn; simp only [List.mem_cons, List.not_mem_nil, or_false] at hn; omega) (by simp) (by simp only [List.length_append, List.length_nil]; omega) Zt.out Zb.out).mono ?_
     rintro x Zba ⟨rfl, vr_11, hm, hs⟩
     have Zr := Lib.hid hm
     have Zd := Lib.hid (mk_keeps Zb.out Zf.out (by decide) hs HNG0.out)
     have Zq := Lib.hid (Zv.out.trans ((Zb.out.stepBelow hs).mono HG.out))
     clear hm hs
     refine ⟨_, rfl, ?_⟩
     refine ⟨Zd.out, ?_⟩
     try simp only [Act.put, List.setIfInBounds_toArray, List.set_cons_succ, List.set_cons_zero]
     refine held_take 12 (.pointer (some ⟨g, 0, none⟩)) rfl (by kernel_rfl) (fun _ _ _ h => h) rfl (fun W _ => by kernel_rfl) (by assumption) ?_
     try simp only [Act.put, List.setIfInBounds_toArray, List.set_cons_succ, List.set_cons_zero]
     refine held_end (by kernel_rfl) ?_
     refine ⟨g, _, (by have := Zr.out; simpa [putHd] using this), Zd.out, Zq.out, HG.out, HNG0.out, ?_⟩
     simp only [ExPut, Act.put, List.setIfInBounds_toArray, List.set_cons_succ, List.set_cons_zero]
     exact ⟨_, _, _, _, _, _, _, _, _, _, _, _, rfl⟩
    exact AllReadyH.nil
   exact AllReadyH.nil
  exact AllReadyH.nil
 rintro a' w3 ⟨g, vb0, hm, hr, hx, hg, hne1, hput⟩
 simp only [ExPut] at hput
 obtain ⟨x10, x11, x12, x13, x14, x15, x16, x17, x18, x19, x20, x21, rfl⟩ := hput
 simp only [Act.put, List.setIfInBounds_toArray, List.set_cons_succ, List.set_cons_zero]
 have HM3 := Lib.hid hm
 have HR3 := Lib.hid hr
 have HX3 := Lib.hid hx
 have HG := Lib.hid hg
 have HNG := Lib.hid hne1
 have HL3 := Lib.hid (RvB.of_blk hr)
 clear hm hr hx hg hne1
 go_wp2_with (first | (with_reducible refine wpList_loadL HL3.out.inp rfl _ rfl rfl ?_))
 go_loopw [25] (fun i wr => ∃ (k : Nat) (vb : Value), k ≤ r.2.1.length ∧ i = .int .i64 (k : Int) ∧ MkV g wr vb (putHd r k) ∧ Blk wr g1 25 (#[.string ⟨r.1.toArray⟩, vi, vr]) ∧ Below w.heap.size w wr) (fun i _ => r.2.1.length - (intOf i).toNat)
 case atStart => exact ⟨0, _, by omega, rfl, HM3.out, HR3.out, HX3.out⟩
 case round =>
  obtain ⟨wr1, rfl⟩ : ∃ y : World, y = wr := ⟨_, rfl⟩
  obtain ⟨k, vb, hk, rfl, hm, hr, hw⟩ := hrel
  have hbl := putHd_len HCN.out k
  have HM := Lib.hid hm
  have HR := Lib.hid hr
  have HX := Lib.hid hw
  clear hm hr hw
  by_cases hlt : k < r.2.1.length
  ·have hd1 : decide ((k : Int) < (r.2.1.length : Int)) = true := by simp; omega
   obtain ⟨x, hxk⟩ : ∃ x, r.2.1[k]? = some x := ⟨_, List.getElem?_eq_getElem hlt⟩
   obtain ⟨p, hadr, hld, _⟩ := ri_at (HV.out.1.below HX.out) k x hxk
   have HLD := Lib.hid hld
   have HTK := Lib.hid (putHd_succ hxk)
   have hxl := HP.out.ins x (List.mem_of_getElem? hxk)
   obtain ⟨hx1, hx2⟩ := hxl
   have hxh := x.2.2
   have he1 := encN_len (n := x.1.length) (by omega)
   have he2 := encN_len (n := x.2.1.2.length) (by omega)
   obtain ⟨b, hbb⟩ : ∃ b, putHd r k = b := ⟨_, rfl⟩
   have HBB := Lib.hid hbb
   rw [hbb] at HM hbl
   rw [hbb] at HTK
   clear hld hxk hbb
   go_wp2_with (first | (with_reducible refine wpList_loadL HLD.out rfl _ rfl rfl ?_) | (refine wpList_new rfl rfl rfl 77 6 28 rfl rfl rfl (by decide) (riC zR) (riC x) riC_zero (by rw [riC_size, riC_size]) (riC_info x) (riC_one x) rfl (by simp [Act.put]) ?_; intro g6 w6 hb6 hx6 hg6; have HI6 := Lib.hid hb6; have HN6 := Lib.hid (show g6 ≠ g from fun e => by have := HM.out.blk.lt; omega); have HM6 := Lib.hid (HM.out.below hx6); have HR6 := Lib.hid (HR.out.below hx6); have HX6 := Lib.hid (belowThen HX.out (Nat.le_refl _) hx6); clear hb6 hx6 hg6))
   try simp only [Act.put, List.setIfInBounds_toArray, List.set_cons_succ, List.set_cons_zero]
   obtain ⟨wy, hw0⟩ : ∃ W, W = w6.drew := ⟨_, rfl⟩
   have hd : Below w6.heap.size w6 wy := by rw [hw0]; exact (Below.refl _ _).drew
   have HIq0 := Lib.hid (HI6.out.below hd)
   have HRq0 := Lib.hid (HR6.out.below hd)
   have HMq0 := Lib.hid (HM6.out.below hd)
   have HXq0 := Lib.hid (belowThen HX6.out (Nat.le_refl _) hd)
   refine wp_region_held_drew (S := fun W => Blk W g6 77 (riC x)) (by kernel_rfl) (by rw [← hw0]; exact HIq0.out) (fun hHeld => ?_)
   rw [← hw0] at hHeld ⊢
   clear hw0 hd
   refine held_take 0 (.pointer (some ⟨g, 0, none⟩)) rfl (by kernel_rfl) (fun _ _ _ h => h) rfl (fun W _ => by kernel_rfl) (by assumption) ?_
   try simp only [Act.put, List.setIfInBounds_toArray, List.set_cons_succ, List.set_cons_zero]
   refine held_take 1 (.pointer (some ⟨g6, 0, none⟩)) rfl (by kernel_rfl) (fun _ _ _ h => h) rfl (fun W _ => by kernel_rfl) (by assumption) ?_
   try simp only [Act.put, List.setIfInBounds_toArray, List.set_cons_succ, List.set_cons_zero]
   refine held_take 2 (.string ⟨x.1.toArray⟩) rfl (by kernel_rfl) (fun _ _ _ h => h) rfl (fun W hS => exec_loadC rfl rfl (hS.one (ty := 9) 0 (riC_name x) Tryz.underlying9 rfl).now) (by assumption) ?_
   try simp only [Act.put, List.setIfInBounds_toArray, List.set_cons_succ, List.set_cons_zero]
   refine held_take 6 (.pointer (some ⟨g6, 1, none⟩)) rfl (by kernel_rfl) (fun _ _ _ h => h) rfl (fun W _ => by kernel_rfl) (by assumption) ?_
   try simp only [Act.put, List.setIfInBounds_toArray, List.set_cons_succ, List.set_cons_zero]
   refine held_take 7 (.pointer (some ⟨g6, 1, none⟩)) rfl (by kernel_rfl) (fun _ _ _ h => h) rfl (fun W _ => by kernel_rfl) (by assumption) ?_
   try simp only [Act.put, List.setIfInBounds_toArray, List.set_cons_succ, List.set_cons_zero]
   refine held_take 8 (.slice (some ⟨g6, 1, none⟩) 20 20) rfl (by kernel_rfl) (fun _ _ _ h => h) rfl (fun W _ => by kernel_rfl) (by assumption) ?_
   try simp only [Act.put, List.setIfInBounds_toArray, List.set_cons_succ, List.set_cons_zero]
   refine held_take 10 (.pointer (some ⟨g6, 1, none⟩)) rfl (by kernel_rfl) (fun _ _ _ h => h) rfl (fun W _ => by kernel_rfl) (by assumption) ?_
   try simp only [Act.put, List.setIfInBounds_toArray, List.set_cons_succ, List.set_cons_zero]
   refine held_take 11 (.pointer (some ⟨g6, 21, none⟩)) rfl (by kernel_rfl) (fun _ _ _ h => h) rfl (fun W _ => by kernel_rfl) (by assumption) ?_
   try simp only [Act.put, List.setIfInBounds_toArray, List.set_cons_succ, List.set_cons_zero]
   refine held_take 12 (.string ⟨x.2.1.2.toArray⟩) rfl (by kernel_rfl) (fun _ _ _ h => h) rfl (fun W hS => exec_loadC rfl rfl (hS.one (ty := 9) 21 (riC_path x 20 _ (pC_name _ _ x.2.2)) Tryz.underlying9 rfl).now) (by assumption) ?_
   try simp only [Act.put, List.setIfInBounds_toArray, List.set_cons_succ, List.set_cons_zero]
   refine held_ready [3, 13] (by kernel_rfl) (by simp) ?_
   refine held_cons rfl ?_ ?_
   ·refine step_toBytes rfl _ rfl (x.1) rfl ?_
    intro vq3 wq_3 hn hx
    obtain ⟨sva, rfl⟩ := bytes_svB hn.slice
    have HSOaq_3 := Lib.hid (Off.behind (w0 := wy) hn.slice (fun k hk => newBytes_ownB hn k hk) HMq0.out.blk.lt HMq0.out.lt)
    have HIq_3 := Lib.hid (HIq0.out.below hx)
    have HRq_3 := Lib.hid (HRq0.out.below hx)
    have HMq_3 := Lib.hid (HMq0.out.below hx)
    have HXq_3 := Lib.hid (belowThen HXq0.out (Nat.le_refl _) hx)
    clear hn hx
    refine ⟨HIq_3.out, ?_⟩
    try simp only [Act.put, List.setIfInBounds_toArray, List.set_cons_succ, List.set_cons_zero]
    refine held_ready [4, 13] (by kernel_rfl) (by simp) ?_
    refine held_cons rfl ?_ ?_
    ·refine step_slice1 (E := EBB) rfl _ rfl sva rfl ?_
     intro ysa Zei hys hx
     have Zd1 := Lib.hid (Off.behind (w0 := wq_3) hys.slice (fun k hk => (hys.block k hk).1) HMq_3.out.blk.lt HMq_3.out.lt)
     have Zd2 := Lib.hid (HSOaq_3.out.step (MkStep.of_below hx))
     have Zdy := Lib.hid (HIq_3.out.below hx)
     have Zec := Lib.hid (HRq_3.out.below hx)
     have Zde := Lib.hid (HMq_3.out.below hx)
     have Zeb := Lib.hid (belowThen HXq_3.out (Nat.le_refl _) hx)
     clear hys hx
     refine ⟨Zdy.out, ?_⟩
     try simp only [Act.put, List.setIfInBounds_toArray, List.set_cons_succ, List.set_cons_zero]
     refine held_ready [5, 13] (by kernel_rfl) (by simp) ?_
     refine held_cons rfl ?_ ?_
     ·refine step_call rfl 32 _ _ rfl #[.pointer (some ⟨g, 0, none⟩), ysa] (by simp only [List.map_toArray, List.map_cons, List.map_nil]; rfl) (fun W => HET.out _ W) ?_
      refine (text_any g vb ysa sva (x.1) b _ (by omega) (by omega) Zd1.out Zd2.out Zde.out).mono ?_
      rintro x Zeh ⟨rfl, vq_5, hm, hs⟩
      have Zcv := Lib.hid hm
      have Zdk := Lib.hid (mk_keeps Zde.out Zdy.out (by decide) hs HN6.out)
      have Zd3 := Lib.hid (mk_keeps Zde.out Zec.out (by decide) hs HNG.out)
      have Zd6 := Lib.hid (Zeb.out.trans ((Zde.out.stepBelow hs).mono HG.out))
      clear hm hs
      refine ⟨_, rfl, ?_⟩
      refine ⟨Zdk.out, ?_⟩
      try simp only [Act.put, List.setIfInBounds_toArray, List.set_cons_succ, List.set_cons_zero]
      refine held_ready [9, 13] (by kernel_rfl) (by simp) ?_
      refine held_cons rfl ?_ ?_
      ·refine step_call rfl 34 _ _ rfl #[.pointer (some ⟨g, 0, none⟩), .slice (some ⟨g6, 1, none⟩) 20 20] (by simp only [List.map_toArray, List.map_cons, List.map_nil]; rfl) (fun W => HER.out _ W) ?_
       refine (raw_any g vq_5 _ (x.2.1.1) (b ++ (encN (x.1).length ++ x.1)) _ (by simp only [List.length_append]; omega) (by omega) (hash_slice Zdk.out x.2.2 (riC_hash x)) Zcv.out).mono ?_
       rintro x Zed ⟨rfl, vq_9, hm, hs⟩
       have Zdm := Lib.hid hm
       have Zdu := Lib.hid (mk_keeps Zcv.out Zdk.out (by decide) hs HN6.out)
       have Zea := Lib.hid (mk_keeps Zcv.out Zd3.out (by decide) hs HNG.out)
       have Zd8 := Lib.hid (Zd6.out.trans ((Zcv.out.stepBelow hs).mono HG.out))
       clear hm hs
       refine ⟨_, rfl, ?_⟩
       refine ⟨Zdu.out, ?_⟩
       try simp only [Act.put, List.setIfInBounds_toArray, List.set_cons_succ, List.set_cons_zero]
       refine held_one 13 rfl (by kernel_rfl) ?_
       refine step_toBytes rfl _ rfl (x.2.1.2) rfl ?_
       intro vq13 Zb4 hn hx
       obtain ⟨svb, rfl⟩ := bytes_svB hn.slice
       have Zbr := Lib.hid (Off.behind (w0 := Zed) hn.slice (fun k hk => newBytes_ownB hn k hk) Zdm.out.blk.lt Zdm.out.lt)
       have Zbf := Lib.hid (Zdu.out.below hx)
       have Zb1 := Lib.hid (Zea.out.below hx)
       have Z8 := Lib.hid (Zdm.out.below hx)
       have Zbz := Lib.hid (belowThen Zd8.out (Nat.le_refl _) hx)
       clear hn hx
       refine ⟨Zbf.out, ?_⟩
       try simp only [Act.put, List.setIfInBounds_toArray, List.set_cons_succ, List.set_cons_zero]
       refine held_one 14 rfl (by kernel_rfl) ?_
       refine step_slice1 (E := EBB) rfl _ rfl svb rfl ?_
       intro ysb Zbd hys hx
       have Zn := Lib.hid (Off.behind (w0 := Zb4) hys.slice (fun k hk => (hys.block k hk).1) Z8.out.blk.lt Z8.out.lt)
       have Zo := Lib.hid (Zbr.out.step (MkStep.of_below hx))
       have Zc := Lib.hid (Zbf.out.below hx)
       have Zs := Lib.hid (Zb1.out.below hx)
       have Za := Lib.hid (Z8.out.below hx)
       have Zp := Lib.hid (belowThen Zbz.out (Nat.le_refl _) hx)
       clear hys hx
       refine ⟨Zc.out, ?_⟩
       try simp only [Act.put, List.setIfInBounds_toArray, List.set_cons_succ, List.set_cons_zero]
       refine held_one 15 rfl (by kernel_rfl) ?_
       refine step_call rfl 32 _ _ rfl #[.pointer (some ⟨g, 0, none⟩), ysb] (by simp only [List.map_toArray, List.map_cons, List.map_nil]; rfl) (fun W => HET.out _ W) ?_
       refine (text_any g vq_9 ysb svb (x.2.1.2) ((b ++ (encN (x.1).length ++ x.1)) ++ x.2.1.1) _ (by simp only [List.length_append]; omega) (by omega) Zn.out Zo.out Za.out).mono ?_
       rintro x Z7 ⟨rfl, vq_15, hm, hs⟩
       have Zk := Lib.hid hm
       have Zj := Lib.hid (mk_keeps Za.out Zc.out (by decide) hs HN6.out)
       have Zi := Lib.hid (mk_keeps Za.out Zs.out (by decide) hs HNG.out)
       have Zg := Lib.hid (Zp.out.trans ((Za.out.stepBelow hs).mono HG.out))
       clear hm hs
       refine ⟨_, rfl, ?_⟩
       refine ⟨Zj.out, ?_⟩
       try simp only [Act.put, List.setIfInBounds_toArray, List.set_cons_succ, List.set_cons_zero]
       refine held_end (by kernel_rfl) ?_
       go_wp2_with fail
       go_roundw
       case rel => exact ⟨k + 1, _, by omega, by go_num, by rw [HTK.out]; exact Zk.out, Zi.out, Zg.out⟩
       case measure => simp [intOf]; omega
      refine held_cons rfl ?_ ?_
      ·refine step_toBytes rfl _ rfl (x.2.1.2) rfl ?_
       intro vq13 Zcn hn hx
       obtain ⟨svb, rfl⟩ := bytes_svB hn.slice
       have Zbp := Lib.hid (Off.behind (w0 := Zeh) hn.slice (fun k hk => newBytes_ownB hn k hk) Zcv.out.blk.lt Zcv.out.lt)
       have Zbc := Lib.hid (Zdk.out.below hx)
       have Zbv := Lib.hid (Zd3.out.below hx)
       have Zy := Lib.hid (Zcv.out.below hx)
       have Zby := Lib.hid (belowThen Zd6.out (Nat.le_refl _) hx)
       clear hn hx
       refine ⟨Zbc.out, ?_⟩
       try simp only [Act.put, List.setIfInBounds_toArray, List.set_cons_succ, List.set_cons_zero]
       refine held_ready [9, 14] (by kernel_rfl) (by simp) ?_
       refine held_cons rfl ?_ ?_
       ·refine step_call rfl 34 _ _ rfl #[.pointer (some ⟨g, 0, none⟩), .slice (some ⟨g6, 1, none⟩) 20 20] (by simp only [List.map_toArray, List.map_cons, List.map_nil]; rfl) (fun W => HER.out _ W) ?_
        refine (raw_any g vq_5 _ (x.2.1.1) (b ++ (encN (x.1).length ++ x.1)) _ (by simp only [List.length_append]; omega) (by omega) (hash_slice Zbc.out x.2.2 (riC_hash x)) Zy.out).mono ?_
        rintro x Zb4 ⟨rfl, vq_9, hm, hs⟩
        have Z8 := Lib.hid hm
        have Zbr := Lib.hid (Zbp.out.step hs)
        have Zbf := Lib.hid (mk_keeps Zy.out Zbc.out (by decide) hs HN6.out)
        have Zb1 := Lib.hid (mk_keeps Zy.out Zbv.out (by decide) hs HNG.out)
        have Zbz := Lib.hid (Zby.out.trans ((Zy.out.stepBelow hs).mono HG.out))
        clear hm hs
        refine ⟨_, rfl, ?_⟩
        refine ⟨Zbf.out, ?_⟩
        try simp only [Act.put, List.setIfInBounds_toArray, List.set_cons_succ, List.set_cons_zero]
        refine held_one 14 rfl (by kernel_rfl) ?_
        refine step_slice1 (E := EBB) rfl _ rfl svb rfl ?_
        intro ysb Zbd hys hx
        have Zn := Lib.hid (Off.behind (w0 := Zb4) hys.slice (fun k hk => (hys.block k hk).1) Z8.out.blk.lt Z8.out.lt)
        have Zo := Lib.hid (Zbr.out.step (MkStep.of_below hx))
        have Zc := Lib.hid (Zbf.out.below hx)
        have Zs := Lib.hid (Zb1.out.below hx)
        have Za := Lib.hid (Z8.out.below hx)
        have Zp := Lib.hid (belowThen Zbz.out (Nat.le_refl _) hx)
        clear hys hx
        refine ⟨Zc.out, ?_⟩
        try simp only [Act.put, List.setIfInBounds_toArray, List.set_cons_succ, List.set_cons_zero]
        refine held_one 15 rfl (by kernel_rfl) ?_
        refine step_call rfl 32 _ _ rfl #[.pointer (some ⟨g, 0, none⟩), ysb] (by simp only [List.map_toArray, List.map_cons, List.map_nil]; rfl) (fun W => HET.out _ W) ?_
        refine (text_any g vq_9 ysb svb (x.2.1.2) ((b ++ (encN (x.1).length ++ x.1)) ++ x.2.1.1) _ (by simp only [List.length_append]; omega) (by omega) Zn.out Zo.out Za.out).mono ?_
        rintro x Z7 ⟨rfl, vq_15, hm, hs⟩
        have Zk := Lib.hid hm
        have Zj := Lib.hid (mk_keeps Za.out Zc.out (by decide) hs HN6.out)
        have Zi := Lib.hid (mk_keeps Za.out Zs.out (by decide) hs HNG.out)
        have Zg := Lib.hid (Zp.out.trans ((Za.out.stepBelow hs).mono HG.out))
        clear hm hs
        refine ⟨_, rfl, ?_⟩
        refine ⟨Zj.out, ?_⟩
        try simp only [Act.put, List.setIfInBounds_toArray, List.set_cons_succ, List.set_cons_zero]
        refine held_end (by kernel_rfl) ?_
        go_wp2_with fail
        go_roundw
        case rel => exact ⟨k + 1, _, by omega, by go_num, by rw [HTK.out]; exact Zk.out, Zi.out, Zg.out⟩
        case measure => simp [intOf]; omega
       refine held_cons rfl ?_ ?_
       ·refine step_slice1 (E := EBB) rfl _ rfl svb rfl ?_
        intro ysb Zb0 hys hx
        have Zz := Lib.hid (Off.behind (w0 := Zcn) hys.slice (fun k hk => (hys.block k hk).1) Zy.out.blk.lt Zy.out.lt)
        have Z0 := Lib.hid (Zbp.out.step (MkStep.of_below hx))
        have Zh := Lib.hid (Zbc.out.below hx)
        have Z4 := Lib.hid (Zbv.out.below hx)
        have Ze := Lib.hid (Zy.out.below hx)
        have Z5 := Lib.hid (belowThen Zby.out (Nat.le_refl _) hx)
        clear hys hx
        refine ⟨Zh.out, ?_⟩
        try simp only [Act.put, List.setIfInBounds_toArray, List.set_cons_succ, List.set_cons_zero]
        refine held_one 9 rfl (by kernel_rfl) ?_
        refine step_call rfl 34 _ _ rfl #[.pointer (some ⟨g, 0, none⟩), .slice (some ⟨g6, 1, none⟩) 20 20] (by simp only [List.map_toArray, List.map_cons, List.map_nil]; rfl) (fun W => HER.out _ W) ?_
        refine (raw_any g vq_5 _ (x.2.1.1) (b ++ (encN (x.1).length ++ x.1)) _ (by simp only [List.length_append]; omega) (by omega) (hash_slice Zh.out x.2.2 (riC_hash x)) Ze.out).mono ?_
        rintro x Zbd ⟨rfl, vq_9, hm, hs⟩
        have Za := Lib.hid hm
        have Zo := Lib.hid (Z0.out.step hs)
        have Zn := Lib.hid (Zz.out.step hs)
        have Zc := Lib.hid (mk_keeps Ze.out Zh.out (by decide) hs HN6.out)
        have Zs := Lib.hid (mk_keeps Ze.out Z4.out (by decide) hs HNG.out)
        have Zp := Lib.hid (Z5.out.trans ((Ze.out.stepBelow hs).mono HG.out))
        clear hm hs
        refine ⟨_, rfl, ?_⟩
        refine ⟨Zc.out, ?_⟩
        try simp only [Act.put, List.setIfInBounds_toArray, List.set_cons_succ, List.set_cons_zero]
        refine held_one 15 rfl (by kernel_rfl) ?_
        refine step_call rfl 32 _ _ rfl #[.pointer (some ⟨g, 0, none⟩), ysb] (by simp only [List.map_toArray, List.map_cons, List.map_nil]; rfl) (fun W => HET.out _ W) ?_
        refine (text_any g vq_9 ysb svb (x.2.1.2) ((b ++ (encN (x.1).length ++ x.1)) ++ x.2.1.1) _ (by simp only [List.length_append]; omega) (by omega) Zn.out Zo.out Za.out).mono ?_
        rintro x Z7 ⟨rfl, vq_15, hm, hs⟩
        have Zk := Lib.hid hm
        have Zj := Lib.hid (mk_keeps Za.out Zc.out (by decide) hs HN6.out)
        have Zi := Lib.hid (mk_keeps Za.out Zs.out (by decide) hs HNG.out)
        have Zg := Lib.hid (Zp.out.trans ((Za.out.stepBelow hs).mono HG.out))
        clear hm hs
        refine ⟨_, rfl, ?_⟩
        refine ⟨Zj.out, ?_⟩
        try simp only [Act.put, List.setIfInBounds_toArray, List.set_cons_succ, List.set_cons_zero]
        refine held_end (by kernel_rfl) ?_
        go_wp2_with fail
        go_roundw
        case rel => exact ⟨k + 1, _, by omega, by go_num, by rw [HTK.out]; exact Zk.out, Zi.out, Zg.out⟩
        case measure => simp [intOf]; omega
       exact AllReadyH.nil
      exact AllReadyH.nil
     refine held_cons rfl ?_ ?_
     ·refine step_toBytes rfl _ rfl (x.2.1.2) rfl ?_
      intro vq13 Zdf hn hx
      obtain ⟨svb, rfl⟩ := bytes_svB hn.slice
      have Zcc := Lib.hid (Off.behind (w0 := Zei) hn.slice (fun k hk => newBytes_ownB hn k hk) Zde.out.blk.lt Zde.out.lt)
      have Zcd := Lib.hid (Zd2.out.step (MkStep.of_below hx))
      have Zcb := Lib.hid (Zd1.out.step (MkStep.of_below hx))
      have Zb7 := Lib.hid (Zdy.out.below hx)
      have Zcm := Lib.hid (Zec.out.below hx)
      have Zbb := Lib.hid (Zde.out.below hx)
      have Zck := Lib.hid (belowThen Zeb.out (Nat.le_refl _) hx)
      clear hn hx
      refine ⟨Zb7.out, ?_⟩
      try simp only [Act.put, List.setIfInBounds_toArray, List.set_cons_succ, List.set_cons_zero]
      refine held_ready [5, 14] (by kernel_rfl) (by simp) ?_
      refine held_cons rfl ?_ ?_
      ·refine step_call rfl 32 _ _ rfl #[.pointer (some ⟨g, 0, none⟩), ysa] (by simp only [List.map_toArray, List.map_cons, List.map_nil]; rfl) (fun W => HET.out _ W) ?_
       refine (text_any g vb ysa sva (x.1) b _ (by omega) (by omega) Zcb.out Zcd.out Zbb.out).mono ?_
       rintro x Zcn ⟨rfl, vq_5, hm, hs⟩
       have Zy := Lib.hid hm
       have Zbp := Lib.hid (Zcc.out.step hs)
       have Zbc := Lib.hid (mk_keeps Zbb.out Zb7.out (by decide) hs HN6.out)
       have Zbv := Lib.hid (mk_keeps Zbb.out Zcm.out (by decide) hs HNG.out)
       have Zby := Lib.hid (Zck.out.trans ((Zbb.out.stepBelow hs).mono HG.out))
       clear hm hs
       refine ⟨_, rfl, ?_⟩
       refine ⟨Zbc.out, ?_⟩
       try simp only [Act.put, List.setIfInBounds_toArray, List.set_cons_succ, List.set_cons_zero]
       refine held_ready [9, 14] (by kernel_rfl) (by simp) ?_
       refine held_cons rfl ?_ ?_
       ·refine step_call rfl 34 _ _ rfl #[.pointer (some ⟨g, 0, none⟩), .slice (some ⟨g6, 1, none⟩) 20 20] (by simp only [List.map_toArray, List.map_cons, List.map_nil]; rfl) (fun W => HER.out _ W) ?_
        refine (raw_any g vq_5 _ (x.2.1.1) (b ++ (encN (x.1).length ++ x.1)) _ (by simp only [List.length_append]; omega) (by omega) (hash_slice Zbc.out x.2.2 (riC_hash x)) Zy.out).mono ?_
        rintro x Zb4 ⟨rfl, vq_9, hm, hs⟩
        have Z8 := Lib.hid hm
        have Zbr := Lib.hid (Zbp.out.step hs)
        have Zbf := Lib.hid (mk_keeps Zy.out Zbc.out (by decide) hs HN6.out)
        have Zb1 := Lib.hid (mk_keeps Zy.out Zbv.out (by decide) hs HNG.out)
        have Zbz := Lib.hid (Zby.out.trans ((Zy.out.stepBelow hs).mono HG.out))
        clear hm hs
        refine ⟨_, rfl, ?_⟩
        refine ⟨Zbf.out, ?_⟩
        try simp only [Act.put, List.setIfInBounds_toArray, List.set_cons_succ, List.set_cons_zero]
        refine held_one 14 rfl (by kernel_rfl) ?_
        refine step_slice1 (E := EBB) rfl _ rfl svb rfl ?_
        intro ysb Zbd hys hx
        have Zn := Lib.hid (Off.behind (w0 := Zb4) hys.slice (fun k hk => (hys.block k hk).1) Z8.out.blk.lt Z8.out.lt)
        have Zo := Lib.hid (Zbr.out.step (MkStep.of_below hx))
        have Zc := Lib.hid (Zbf.out.below hx)
        have Zs := Lib.hid (Zb1.out.below hx)
        have Za := Lib.hid (Z8.out.below hx)
        have Zp := Lib.hid (belowThen Zbz.out (Nat.le_refl _) hx)
        clear hys hx
        refine ⟨Zc.out, ?_⟩
        try simp only [Act.put, List.setIfInBounds_toArray, List.set_cons_succ, List.set_cons_zero]
        refine held_one 15 rfl (by kernel_rfl) ?_
        refine step_call rfl 32 _ _ rfl #[.pointer (some ⟨g, 0, none⟩), ysb] (by simp only [List.map_toArray, List.map_cons, List.map_nil]; rfl) (fun W => HET.out _ W) ?_
        refine (text_any g vq_9 ysb svb (x.2.1.2) ((b ++ (encN (x.1).length ++ x.1)) ++ x.2.1.1) _ (by simp only [List.length_append]; omega) (by omega) Zn.out Zo.out Za.out).mono ?_
        rintro x Z7 ⟨rfl, vq_15, hm, hs⟩
        have Zk := Lib.hid hm
        have Zj := Lib.hid (mk_keeps Za.out Zc.out (by decide) hs HN6.out)
        have Zi := Lib.hid (mk_keeps Za.out Zs.out (by decide) hs HNG.out)
        have Zg := Lib.hid (Zp.out.trans ((Za.out.stepBelow hs).mono HG.out))
        clear hm hs
        refine ⟨_, rfl, ?_⟩
        refine ⟨Zj.out, ?_⟩
        try simp only [Act.put, List.setIfInBounds_toArray, List.set_cons_succ, List.set_cons_zero]
        refine held_end (by kernel_rfl) ?_
        go_wp2_with fail
        go_roundw
        case rel => exact ⟨k + 1, _, by omega, by go_num, by rw [HTK.out]; exact Zk.out, Zi.out, Zg.out⟩
        case measure => simp [intOf]; omega
       refine held_cons rfl ?_ ?_
       ·refine step_slice1 (E := EBB) rfl _ rfl svb rfl ?_
        intro ysb Zb0 hys hx
        have Zz := Lib.hid (Off.behind (w0 := Zcn) hys.slice (fun k hk => (hys.block k hk).1) Zy.out.blk.lt Zy.out.lt)
        have Z0 := Lib.hid (Zbp.out.step (MkStep.of_below hx))
        have Zh := Lib.hid (Zbc.out.below hx)
        have Z4 := Lib.hid (Zbv.out.below hx)
        have Ze := Lib.hid (Zy.out.below hx)
        have Z5 := Lib.hid (belowThen Zby.out (Nat.le_refl _) hx)
        clear hys hx
        refine ⟨Zh.out, ?_⟩
        try simp only [Act.put, List.setIfInBounds_toArray, List.set_cons_succ, List.set_cons_zero]
        refine held_one 9 rfl (by kernel_rfl) ?_
        refine step_call rfl 34 _ _ rfl #[.pointer (some ⟨g, 0, none⟩), .slice (some ⟨g6, 1, none⟩) 20 20] (by simp only [List.map_toArray, List.map_cons, List.map_nil]; rfl) (fun W => HER.out _ W) ?_
        refine (raw_any g vq_5 _ (x.2.1.1) (b ++ (encN (x.1).length ++ x.1)) _ (by simp only [List.length_append]; omega) (by omega) (hash_slice Zh.out x.2.2 (riC_hash x)) Ze.out).mono ?_
        rintro x Zbd ⟨rfl, vq_9, hm, hs⟩
        have Za := Lib.hid hm
        have Zo := Lib.hid (Z0.out.step hs)
        have Zn := Lib.hid (Zz.out.step hs)
        have Zc := Lib.hid (mk_keeps Ze.out Zh.out (by decide) hs HN6.out)
        have Zs := Lib.hid (mk_keeps Ze.out Z4.out (by decide) hs HNG.out)
        have Zp := Lib.hid (Z5.out.trans ((Ze.out.stepBelow hs).mono HG.out))
        clear hm hs
        refine ⟨_, rfl, ?_⟩
        refine ⟨Zc.out, ?_⟩
        try simp only [Act.put, List.setIfInBounds_toArray, List.set_cons_succ, List.set_cons_zero]
        refine held_one 15 rfl (by kernel_rfl) ?_
        refine step_call rfl 32 _ _ rfl #[.pointer (some ⟨g, 0, none⟩), ysb] (by simp only [List.map_toArray, List.map_cons, List.map_nil]; rfl) (fun W => HET.out _ W) ?_
        refine (text_any g vq_9 ysb svb (x.2.1.2) ((b ++ (encN (x.1).length ++ x.1)) ++ x.2.1.1) _ (by simp only [List.length_append]; omega) (by omega) Zn.out Zo.out Za.out).mono ?_
        rintro x Z7 ⟨rfl, vq_15, hm, hs⟩
        have Zk := Lib.hid hm
        have Zj := Lib.hid (mk_keeps Za.out Zc.out (by decide) hs HN6.out)
        have Zi := Lib.hid (mk_keeps Za.out Zs.out (by decide) hs HNG.out)
        have Zg := Lib.hid (Zp.out.trans ((Za.out.stepBelow hs).mono HG.out))
        clear hm hs
        refine ⟨_, rfl, ?_⟩
        refine ⟨Zj.out, ?_⟩
        try simp only [Act.put, List.setIfInBounds_toArray, List.set_cons_succ, List.set_cons_zero]
        refine held_end (by kernel_rfl) ?_
        go_wp2_with fail
        go_roundw
        case rel => exact ⟨k + 1, _, by omega, by go_num, by rw [HTK.out]; exact Zk.out, Zi.out, Zg.out⟩
        case measure => simp [intOf]; omega
       exact AllReadyH.nil
      refine held_cons rfl ?_ ?_
      ·refine step_slice1 (E := EBB) rfl _ rfl svb rfl ?_
       intro ysb Zcy hys hx
       have Zbo := Lib.hid (Off.behind (w0 := Zdf) hys.slice (fun k hk => (hys.block k hk).1) Zbb.out.blk.lt Zbb.out.lt)
       have Zbj := Lib.hid (Zcd.out.step (MkStep.of_below hx))
       have Zbk := Lib.hid (Zcb.out.step (MkStep.of_below hx))
       have Zbn := Lib.hid (Zcc.out.step (MkStep.of_below hx))
       have Zbe := Lib.hid (Zb7.out.below hx)
       have Zbt := Lib.hid (Zcm.out.below hx)
       have Zx := Lib.hid (Zbb.out.below hx)
       have Zbs := Lib.hid (belowThen Zck.out (Nat.le_refl _) hx)
       clear hys hx
       refine ⟨Zbe.out, ?_⟩
       try simp only [Act.put, List.setIfInBounds_toArray, List.set_cons_succ, List.set_cons_zero]
       refine held_one 5 rfl (by kernel_rfl) ?_
       refine step_call rfl 32 _ _ rfl #[.pointer (some ⟨g, 0, none⟩), ysa] (by simp only [List.map_toArray, List.map_cons, List.map_nil]; rfl) (fun W => HET.out _ W) ?_
       refine (text_any g vb ysa sva (x.1) b _ (by omega) (by omega) Zbk.out Zbj.out Zx.out).mono ?_
       rintro x Zb0 ⟨rfl, vq_5, hm, hs⟩
       have Ze := Lib.hid hm
       have Z0 := Lib.hid (Zbn.out.step hs)
       have Zz := Lib.hid (Zbo.out.step hs)
       have Zh := Lib.hid (mk_keeps Zx.out Zbe.out (by decide) hs HN6.out)
       have Z4 := Lib.hid (mk_keeps Zx.out Zbt.out (by decide) hs HNG.out)
       have Z5 := Lib.hid (Zbs.out.trans ((Zx.out.stepBelow hs).mono HG.out))
       clear hm hs
       refine ⟨_, rfl, ?_⟩
       refine ⟨Zh.out, ?_⟩
       try simp only [Act.put, List.setIfInBounds_toArray, List.set_cons_succ, List.set_cons_zero]
       refine held_one 9 rfl (by kernel_rfl) ?_
       refine step_call rfl 34 _ _ rfl #[.pointer (some ⟨g, 0, none⟩), .slice (some ⟨g6, 1, none⟩) 20 20] (by simp only [List.map_toArray, List.map_cons, List.map_nil]; rfl) (fun W => HER.out _ W) ?_
       refine (raw_any g vq_5 _ (x.2.1.1) (b ++ (encN (x.1).length ++ x.1)) _ (by simp only [List.length_append]; omega) (by omega) (hash_slice Zh.out x.2.2 (riC_hash x)) Ze.out).mono ?_
       rintro x Zbd ⟨rfl, vq_9, hm, hs⟩
       have Za := Lib.hid hm
       have Zo := Lib.hid (Z0.out.step hs)
       have Zn := Lib.hid (Zz.out.step hs)
       have Zc := Lib.hid (mk_keeps Ze.out Zh.out (by decide) hs HN6.out)
       have Zs := Lib.hid (mk_keeps Ze.out Z4.out (by decide) hs HNG.out)
       have Zp := Lib.hid (Z5.out.trans ((Ze.out.stepBelow hs).mono HG.out))
       clear hm hs
       refine ⟨_, rfl, ?_⟩
       refine ⟨Zc.out, ?_⟩
       try simp only [Act.put, List.setIfInBounds_toArray, List.set_cons_succ, List.set_cons_zero]
       refine held_one 15 rfl (by kernel_rfl) ?_
       refine step_call rfl 32 _ _ rfl #[.pointer (some ⟨g, 0, none⟩), ysb] (by simp only [List.map_toArray, List.map_cons, List.map_nil]; rfl) (fun W => HET.out _ W) ?_
       refine (text_any g vq_9 ysb svb (x.2.1.2) ((b ++ (encN (x.1).length ++ x.1)) ++ x.2.1.1) _ (by simp only [List.length_append]; omega) (by omega) Zn.out Zo.out Za.out).mono ?_
       rintro x Z7 ⟨rfl, vq_15, hm, hs⟩
       have Zk := Lib.hid hm
       have Zj := Lib.hid (mk_keeps Za.out Zc.out (by decide) hs HN6.out)
       have Zi := Lib.hid (mk_keeps Za.out Zs.out (by decide) hs HNG.out)
       have Zg := Lib.hid (Zp.out.trans ((Za.out.stepBelow hs).mono HG.out))
       clear hm hs
       refine ⟨_, rfl, ?_⟩
       refine ⟨Zj.out, ?_⟩
       try simp only [Act.put, List.setIfInBounds_toArray, List.set_cons_succ, List.set_cons_zero]
       refine held_end (by kernel_rfl) ?_
       go_wp2_with fail
       go_roundw
       case rel => exact ⟨k + 1, _, by omega, by go_num, by rw [HTK.out]; exact Zk.out, Zi.out, Zg.out⟩
       case measure => simp [intOf]; omega
      exact AllReadyH.nil
     exact AllReadyH.nil
    refine held_cons rfl ?_ ?_
    ·refine step_toBytes rfl _ rfl (x.2.1.2) rfl ?_
     intro vq13 Zdn hn hx
     obtain ⟨svb, rfl⟩ := bytes_svB hn.slice
     have Zc6 := Lib.hid (Off.behind (w0 := wq_3) hn.slice (fun k hk => newBytes_ownB hn k hk) HMq_3.out.blk.lt HMq_3.out.lt)
     have Zc8 := Lib.hid (HSOaq_3.out.step (MkStep.of_below hx))
     have Zc5 := Lib.hid (HIq_3.out.below hx)
     have Zdh := Lib.hid (HRq_3.out.below hx)
     have Zb9 := Lib.hid (HMq_3.out.below hx)
     have Zdi := Lib.hid (belowThen HXq_3.out (Nat.le_refl _) hx)
     clear hn hx
     refine ⟨Zc5.out, ?_⟩
     try simp only [Act.put, List.setIfInBounds_toArray, List.set_cons_succ, List.set_cons_zero]
     refine held_ready [4, 14] (by kernel_rfl) (by simp) ?_
     refine held_cons rfl ?_ ?_
     ·refine step_slice1 (E := EBB) rfl _ rfl sva rfl ?_
      intro ysa Zdf hys hx
      have Zcb := Lib.hid (Off.behind (w0 := Zdn) hys.slice (fun k hk => (hys.block k hk).1) Zb9.out.blk.lt Zb9.out.lt)
      have Zcd := Lib.hid (Zc8.out.step (MkStep.of_below hx))
      have Zcc := Lib.hid (Zc6.out.step (MkStep.of_below hx))
      have Zb7 := Lib.hid (Zc5.out.below hx)
      have Zcm := Lib.hid (Zdh.out.below hx)
      have Zbb := Lib.hid (Zb9.out.below hx)
      have Zck := Lib.hid (belowThen Zdi.out (Nat.le_refl _) hx)
      clear hys hx
      refine ⟨Zb7.out, ?_⟩
      try simp only [Act.put, List.setIfInBounds_toArray, List.set_cons_succ, List.set_cons_zero]
      refine held_ready [5, 14] (by kernel_rfl) (by simp) ?_
      refine held_cons rfl ?_ ?_
      ·refine step_call rfl 32 _ _ rfl #[.pointer (some ⟨g, 0, none⟩), ysa] (by simp only [List.map_toArray, List.map_cons, List.map_nil]; rfl) (fun W => HET.out _ W) ?_
       refine (text_any g vb ysa sva (x.1) b _ (by omega) (by omega) Zcb.out Zcd.out Zbb.out).mono ?_
       rintro x Zcn ⟨rfl, vq_5, hm, hs⟩
       have Zy := Lib.hid hm
       have Zbp := Lib.hid (Zcc.out.step hs)
       have Zbc := Lib.hid (mk_keeps Zbb.out Zb7.out (by decide) hs HN6.out)
       have Zbv := Lib.hid (mk_keeps Zbb.out Zcm.out (by decide) hs HNG.out)
       have Zby := Lib.hid (Zck.out.trans ((Zbb.out.stepBelow hs).mono HG.out))
       clear hm hs
       refine ⟨_, rfl, ?_⟩
       refine ⟨Zbc.out, ?_⟩
       try simp only [Act.put, List.setIfInBounds_toArray, List.set_cons_succ, List.set_cons_zero]
       refine held_ready [9, 14] (by kernel_rfl) (by simp) ?_
       refine held_cons rfl ?_ ?_
       ·refine step_call rfl 34 _ _ rfl #[.pointer (some ⟨g, 0, none⟩), .slice (some ⟨g6, 1, none⟩) 20 20] (by simp only [List.map_toArray, List.map_cons, List.map_nil]; rfl) (fun W => HER.out _ W) ?_
        refine (raw_any g vq_5 _ (x.2.1.1) (b ++ (encN (x.1).length ++ x.1)) _ (by simp only [List.length_append]; omega) (by omega) (hash_slice Zbc.out x.2.2 (riC_hash x)) Zy.out).mono ?_
        rintro x Zb4 ⟨rfl, vq_9, hm, hs⟩
        have Z8 := Lib.hid hm
        have Zbr := Lib.hid (Zbp.out.step hs)
        have Zbf := Lib.hid (mk_keeps Zy.out Zbc.out (by decide) hs HN6.out)
        have Zb1 := Lib.hid (mk_keeps Zy.out Zbv.out (by decide) hs HNG.out)
        have Zbz := Lib.hid (Zby.out.trans ((Zy.out.stepBelow hs).mono HG.out))
        clear hm hs
        refine ⟨_, rfl, ?_⟩
        refine ⟨Zbf.out, ?_⟩
        try simp only [Act.put, List.setIfInBounds_toArray, List.set_cons_succ, List.set_cons_zero]
        refine held_one 14 rfl (by kernel_rfl) ?_
        refine step_slice1 (E := EBB) rfl _ rfl svb rfl ?_
        intro ysb Zbd hys hx
        have Zn := Lib.hid (Off.behind (w0 := Zb4) hys.slice (fun k hk => (hys.block k hk).1) Z8.out.blk.lt Z8.out.lt)
        have Zo := Lib.hid (Zbr.out.step (MkStep.of_below hx))
        have Zc := Lib.hid (Zbf.out.below hx)
        have Zs := Lib.hid (Zb1.out.below hx)
        have Za := Lib.hid (Z8.out.below hx)
        have Zp := Lib.hid (belowThen Zbz.out (Nat.le_refl _) hx)
        clear hys hx
        refine ⟨Zc.out, ?_⟩
        try simp only [Act.put, List.setIfInBounds_toArray, List.set_cons_succ, List.set_cons_zero]
        refine held_one 15 rfl (by kernel_rfl) ?_
        refine step_call rfl 32 _ _ rfl #[.pointer (some ⟨g, 0, none⟩), ysb] (by simp only [List.map_toArray, List.map_cons, List.map_nil]; rfl) (fun W => HET.out _ W) ?_
        refine (text_any g vq_9 ysb svb (x.2.1.2) ((b ++ (encN (x.1).length ++ x.1)) ++ x.2.1.1) _ (by simp only [List.length_append]; omega) (by omega) Zn.out Zo.out Za.out).mono ?_
        rintro x Z7 ⟨rfl, vq_15, hm, hs⟩
        have Zk := Lib.hid hm
        have Zj := Lib.hid (mk_keeps Za.out Zc.out (by decide) hs HN6.out)
        have Zi := Lib.hid (mk_keeps Za.out Zs.out (by decide) hs HNG.out)
        have Zg := Lib.hid (Zp.out.trans ((Za.out.stepBelow hs).mono HG.out))
        clear hm hs
        refine ⟨_, rfl, ?_⟩
        refine ⟨Zj.out, ?_⟩
        try simp only [Act.put, List.setIfInBounds_toArray, List.set_cons_succ, List.set_cons_zero]
        refine held_end (by kernel_rfl) ?_
        go_wp2_with fail
        go_roundw
        case rel => exact ⟨k + 1, _, by omega, by go_num, by rw [HTK.out]; exact Zk.out, Zi.out, Zg.out⟩
        case measure => simp [intOf]; omega
       refine held_cons rfl ?_ ?_
       ·refine step_slice1 (E := EBB) rfl _ rfl svb rfl ?_
        intro ysb Zb0 hys hx
        have Zz := Lib.hid (Off.behind (w0 := Zcn) hys.slice (fun k hk => (hys.block k hk).1) Zy.out.blk.lt Zy.out.lt)
        have Z0 := Lib.hid (Zbp.out.step (MkStep.of_below hx))
        have Zh := Lib.hid (Zbc.out.below hx)
        have Z4 := Lib.hid (Zbv.out.below hx)
        have Ze := Lib.hid (Zy.out.below hx)
        have Z5 := Lib.hid (belowThen Zby.out (Nat.le_refl _) hx)
        clear hys hx
        refine ⟨Zh.out, ?_⟩
        try simp only [Act.put, List.setIfInBounds_toArray, List.set_cons_succ, List.set_cons_zero]
        refine held_one 9 rfl (by kernel_rfl) ?_
        refine step_call rfl 34 _ _ rfl #[.pointer (some ⟨g, 0, none⟩), .slice (some ⟨g6, 1, none⟩) 20 20] (by simp only [List.map_toArray, List.map_cons, List.map_nil]; rfl) (fun W => HER.out _ W) ?_
        refine (raw_any g vq_5 _ (x.2.1.1) (b ++ (encN (x.1).length ++ x.1)) _ (by simp only [List.length_append]; omega) (by omega) (hash_slice Zh.out x.2.2 (riC_hash x)) Ze.out).mono ?_
        rintro x Zbd ⟨rfl, vq_9, hm, hs⟩
        have Za := Lib.hid hm
        have Zo := Lib.hid (Z0.out.step hs)
        have Zn := Lib.hid (Zz.out.step hs)
        have Zc := Lib.hid (mk_keeps Ze.out Zh.out (by decide) hs HN6.out)
        have Zs := Lib.hid (mk_keeps Ze.out Z4.out (by decide) hs HNG.out)
        have Zp := Lib.hid (Z5.out.trans ((Ze.out.stepBelow hs).mono HG.out))
        clear hm hs
        refine ⟨_, rfl, ?_⟩
        refine ⟨Zc.out, ?_⟩
        try simp only [Act.put, List.setIfInBounds_toArray, List.set_cons_succ, List.set_cons_zero]
        refine held_one 15 rfl (by kernel_rfl) ?_
        refine step_call rfl 32 _ _ rfl #[.pointer (some ⟨g, 0, none⟩), ysb] (by simp only [List.map_toArray, List.map_cons, List.map_nil]; rfl) (fun W => HET.out _ W) ?_
        refine (text_any g vq_9 ysb svb (x.2.1.2) ((b ++ (encN (x.1).length ++ x.1)) ++ x.2.1.1) _ (by simp only [List.length_append]; omega) (by omega) Zn.out Zo.out Za.out).mono ?_
        rintro x Z7 ⟨rfl, vq_15, hm, hs⟩
        have Zk := Lib.hid hm
        have Zj := Lib.hid (mk_keeps Za.out Zc.out (by decide) hs HN6.out)
        have Zi := Lib.hid (mk_keeps Za.out Zs.out (by decide) hs HNG.out)
        have Zg := Lib.hid (Zp.out.trans ((Za.out.stepBelow hs).mono HG.out))
        clear hm hs
        refine ⟨_, rfl, ?_⟩
        refine ⟨Zj.out, ?_⟩
        try simp only [Act.put, List.setIfInBounds_toArray, List.set_cons_succ, List.set_cons_zero]
        refine held_end (by kernel_rfl) ?_
        go_wp2_with fail
        go_roundw
        case rel => exact ⟨k + 1, _, by omega, by go_num, by rw [HTK.out]; exact Zk.out, Zi.out, Zg.out⟩
        case measure => simp [intOf]; omega
       exact AllReadyH.nil
      refine held_cons rfl ?_ ?_
      ·refine step_slice1 (E := EBB) rfl _ rfl svb rfl ?_
       intro ysb Zcy hys hx
       have Zbo := Lib.hid (Off.behind (w0 := Zdf) hys.slice (fun k hk => (hys.block k hk).1) Zbb.out.blk.lt Zbb.out.lt)
       have Zbj := Lib.hid (Zcd.out.step (MkStep.of_below hx))
       have Zbk := Lib.hid (Zcb.out.step (MkStep.of_below hx))
       have Zbn := Lib.hid (Zcc.out.step (MkStep.of_below hx))
       have Zbe := Lib.hid (Zb7.out.below hx)
       have Zbt := Lib.hid (Zcm.out.below hx)
       have Zx := Lib.hid (Zbb.out.below hx)
       have Zbs := Lib.hid (belowThen Zck.out (Nat.le_refl _) hx)
       clear hys hx
       refine ⟨Zbe.out, ?_⟩
       try simp only [Act.put, List.setIfInBounds_toArray, List.set_cons_succ, List.set_cons_zero]
       refine held_one 5 rfl (by kernel_rfl) ?_
       refine step_call rfl 32 _ _ rfl #[.pointer (some ⟨g, 0, none⟩), ysa] (by simp only [List.map_toArray, List.map_cons, List.map_nil]; rfl) (fun W => HET.out _ W) ?_
       refine (text_any g vb ysa sva (x.1) b _ (by omega) (by omega) Zbk.out Zbj.out Zx.out).mono ?_
       rintro x Zb0 ⟨rfl, vq_5, hm, hs⟩
       have Ze := Lib.hid hm
       have Z0 := Lib.hid (Zbn.out.step hs)
       have Zz := Lib.hid (Zbo.out.step hs)
       have Zh := Lib.hid (mk_keeps Zx.out Zbe.out (by decide) hs HN6.out)
       have Z4 := Lib.hid (mk_keeps Zx.out Zbt.out (by decide) hs HNG.out)
       have Z5 := Lib.hid (Zbs.out.trans ((Zx.out.stepBelow hs).mono HG.out))
       clear hm hs
       refine ⟨_, rfl, ?_⟩
       refine ⟨Zh.out, ?_⟩
       try simp only [Act.put, List.setIfInBounds_toArray, List.set_cons_succ, List.set_cons_zero]
       refine held_one 9 rfl (by kernel_rfl) ?_
       refine step_call rfl 34 _ _ rfl #[.pointer (some ⟨g, 0, none⟩), .slice (some ⟨g6, 1, none⟩) 20 20] (by simp only [List.map_toArray, List.map_cons, List.map_nil]; rfl) (fun W => HER.out _ W) ?_
       refine (raw_any g vq_5 _ (x.2.1.1) (b ++ (encN (x.1).length ++ x.1)) _ (by simp only [List.length_append]; omega) (by omega) (hash_slice Zh.out x.2.2 (riC_hash x)) Ze.out).mono ?_
       rintro x Zbd ⟨rfl, vq_9, hm, hs⟩
       have Za := Lib.hid hm
       have Zo := Lib.hid (Z0.out.step hs)
       have Zn := Lib.hid (Zz.out.step hs)
       have Zc := Lib.hid (mk_keeps Ze.out Zh.out (by decide) hs HN6.out)
       have Zs := Lib.hid (mk_keeps Ze.out Z4.out (by decide) hs HNG.out)
       have Zp := Lib.hid (Z5.out.trans ((Ze.out.stepBelow hs).mono HG.out))
       clear hm hs
       refine ⟨_, rfl, ?_⟩
       refine ⟨Zc.out, ?_⟩
       try simp only [Act.put, List.setIfInBounds_toArray, List.set_cons_succ, List.set_cons_zero]
       refine held_one 15 rfl (by kernel_rfl) ?_
       refine step_call rfl 32 _ _ rfl #[.pointer (some ⟨g, 0, none⟩), ysb] (by simp only [List.map_toArray, List.map_cons, List.map_nil]; rfl) (fun W => HET.out _ W) ?_
       refine (text_any g vq_9 ysb svb (x.2.1.2) ((b ++ (encN (x.1).length ++ x.1)) ++ x.2.1.1) _ (by simp only [List.length_append]; omega) (by omega) Zn.out Zo.out Za.out).mono ?_
       rintro x Z7 ⟨rfl, vq_15, hm, hs⟩
       have Zk := Lib.hid hm
       have Zj := Lib.hid (mk_keeps Za.out Zc.out (by decide) hs HN6.out)
       have Zi := Lib.hid (mk_keeps Za.out Zs.out (by decide) hs HNG.out)
       have Zg := Lib.hid (Zp.out.trans ((Za.out.stepBelow hs).mono HG.out))
       clear hm hs
       refine ⟨_, rfl, ?_⟩
       refine ⟨Zj.out, ?_⟩
       try simp only [Act.put, List.setIfInBounds_toArray, List.set_cons_succ, List.set_cons_zero]
       refine held_end (by kernel_rfl) ?_
       go_wp2_with fail
       go_roundw
       case rel => exact ⟨k + 1, _, by omega, by go_num, by rw [HTK.out]; exact Zk.out, Zi.out, Zg.out⟩
       case measure => simp [intOf]; omega
      exact AllReadyH.nil
     refine held_cons rfl ?_ ?_
     ·refine step_slice1 (E := EBB) rfl _ rfl svb rfl ?_
      intro ysb Zdb hys hx
      have Zcs := Lib.hid (Off.behind (w0 := Zdn) hys.slice (fun k hk => (hys.block k hk).1) Zb9.out.blk.lt Zb9.out.lt)
      have Zcq := Lib.hid (Zc8.out.step (MkStep.of_below hx))
      have Zcr := Lib.hid (Zc6.out.step (MkStep.of_below hx))
      have Zce := Lib.hid (Zc5.out.below hx)
      have Zc2 := Lib.hid (Zdh.out.below hx)
      have Zb3 := Lib.hid (Zb9.out.below hx)
      have Zc1 := Lib.hid (belowThen Zdi.out (Nat.le_refl _) hx)
      clear hys hx
      refine ⟨Zce.out, ?_⟩
      try simp only [Act.put, List.setIfInBounds_toArray, List.set_cons_succ, List.set_cons_zero]
      refine held_one 4 rfl (by kernel_rfl) ?_
      refine step_slice1 (E := EBB) rfl _ rfl sva rfl ?_
      intro ysa Zcy hys hx
      have Zbk := Lib.hid (Off.behind (w0 := Zdb) hys.slice (fun k hk => (hys.block k hk).1) Zb3.out.blk.lt Zb3.out.lt)
      have Zbj := Lib.hid (Zcq.out.step (MkStep.of_below hx))
      have Zbn := Lib.hid (Zcr.out.step (MkStep.of_below hx))
      have Zbo := Lib.hid (Zcs.out.step (MkStep.of_below hx))
      have Zbe := Lib.hid (Zce.out.below hx)
      have Zbt := Lib.hid (Zc2.out.below hx)
      have Zx := Lib.hid (Zb3.out.below hx)
      have Zbs := Lib.hid (belowThen Zc1.out (Nat.le_refl _) hx)
      clear hys hx
      refine ⟨Zbe.out, ?_⟩
      try simp only [Act.put, List.setIfInBounds_toArray, List.set_cons_succ, List.set_cons_zero]
      refine held_one 5 rfl (by kernel_rfl) ?_
      refine step_call rfl 32 _ _ rfl #[.pointer (some ⟨g, 0, none⟩), ysa] (by simp only [List.map_toArray, List.map_cons, List.map_nil]; rfl) (fun W => HET.out _ W) ?_
      refine (text_any g vb ysa sva (x.1) b _ (by omega) (by omega) Zbk.out Zbj.out Zx.out).mono ?_
      rintro x Zb0 ⟨rfl, vq_5, hm, hs⟩
      have Ze := Lib.hid hm
      have Z0 := Lib.hid (Zbn.out.step hs)
      have Zz := Lib.hid (Zbo.out.step hs)
      have Zh := Lib.hid (mk_keeps Zx.out Zbe.out (by decide) hs HN6.out)
      have Z4 := Lib.hid (mk_keeps Zx.out Zbt.out (by decide) hs HNG.out)
      have Z5 := Lib.hid (Zbs.out.trans ((Zx.out.stepBelow hs).mono HG.out))
      clear hm hs
      refine ⟨_, rfl, ?_⟩
      refine ⟨Zh.out, ?_⟩
      try simp only [Act.put, List.setIfInBounds_toArray, List.set_cons_succ, List.set_cons_zero]
      refine held_one 9 rfl (by kernel_rfl) ?_
      refine step_call rfl 34 _ _ rfl #[.pointer (some ⟨g, 0, none⟩), .slice (some ⟨g6, 1, none⟩) 20 20] (by simp only [List.map_toArray, List.map_cons, List.map_nil]; rfl) (fun W => HER.out _ W) ?_
      refine (raw_any g vq_5 _ (x.2.1.1) (b ++ (encN (x.1).length ++ x.1)) _ (by simp only [List.length_append]; omega) (by omega) (hash_slice Zh.out x.2.2 (riC_hash x)) Ze.out).mono ?_
      rintro x Zbd ⟨rfl, vq_9, hm, hs⟩
      have Za := Lib.hid hm
      have Zo := Lib.hid (Z0.out.step hs)
      have Zn := Lib.hid (Zz.out.step hs)
      have Zc := Lib.hid (mk_keeps Ze.out Zh.out (by decide) hs HN6.out)
      have Zs := Lib.hid (mk_keeps Ze.out Z4.out (by decide) hs HNG.out)
      have Zp := Lib.hid (Z5.out.trans ((Ze.out.stepBelow hs).mono HG.out))
      clear hm hs
      refine ⟨_, rfl, ?_⟩
      refine ⟨Zc.out, ?_⟩
      try simp only [Act.put, List.setIfInBounds_toArray, List.set_cons_succ, List.set_cons_zero]
      refine held_one 15 rfl (by kernel_rfl) ?_
      refine step_call rfl 32 _ _ rfl #[.pointer (some ⟨g, 0, none⟩), ysb] (by simp only [List.map_toArray, List.map_cons, List.map_nil]; rfl) (fun W => HET.out _ W) ?_
      refine (text_any g vq_9 ysb svb (x.2.1.2) ((b ++ (encN (x.1).length ++ x.1)) ++ x.2.1.1) _ (by simp only [List.length_append]; omega) (by omega) Zn.out Zo.out Za.out).mono ?_
      rintro x Z7 ⟨rfl, vq_15, hm, hs⟩
      have Zk := Lib.hid hm
      have Zj := Lib.hid (mk_keeps Za.out Zc.out (by decide) hs HN6.out)
      have Zi := Lib.hid (mk_keeps Za.out Zs.out (by decide) hs HNG.out)
      have Zg := Lib.hid (Zp.out.trans ((Za.out.stepBelow hs).mono HG.out))
      clear hm hs
      refine ⟨_, rfl, ?_⟩
      refine ⟨Zj.out, ?_⟩
      try simp only [Act.put, List.setIfInBounds_toArray, List.set_cons_succ, List.set_cons_zero]
      refine held_end (by kernel_rfl) ?_
      go_wp2_with fail
      go_roundw
      case rel => exact ⟨k + 1, _, by omega, by go_num, by rw [HTK.out]; exact Zk.out, Zi.out, Zg.out⟩
      case measure => simp [intOf]; omega
     exact AllReadyH.nil
    exact AllReadyH.nil
   refine held_cons rfl ?_ ?_
   ·refine step_toBytes rfl _ rfl (x.2.1.2) rfl ?_
    intro vq13 wq_13 hn hx
    obtain ⟨svb, rfl⟩ := bytes_svB hn.slice
    have HSObq_13 := Lib.hid (Off.behind (w0 := wy) hn.slice (fun k hk => newBytes_ownB hn k hk) HMq0.out.blk.lt HMq0.out.lt)
    have HIq_13 := Lib.hid (HIq0.out.below hx)
    have HRq_13 := Lib.hid (HRq0.out.below hx)
    have HMq_13 := Lib.hid (HMq0.out.below hx)
    have HXq_13 := Lib.hid (belowThen HXq0.out (Nat.le_refl _) hx)
    clear hn hx
    refine ⟨HIq_13.out, ?_⟩
    try simp only [Act.put, List.setIfInBounds_toArray, List.set_cons_succ, List.set_cons_zero]
    refine held_ready [3, 14] (by kernel_rfl) (by simp) ?_
    refine held_cons rfl ?_ ?_
    ·refine step_toBytes rfl _ rfl (x.1) rfl ?_
     intro vq3 Zdn hn hx
     obtain ⟨sva, rfl⟩ := bytes_svB hn.slice
     have Zc8 := Lib.hid (Off.behind (w0 := wq_13) hn.slice (fun k hk => newBytes_ownB hn k hk) HMq_13.out.blk.lt HMq_13.out.lt)
     have Zc6 := Lib.hid (HSObq_13.out.step (MkStep.of_below hx))
     have Zc5 := Lib.hid (HIq_13.out.below hx)
     have Zdh := Lib.hid (HRq_13.out.below hx)
     have Zb9 := Lib.hid (HMq_13.out.below hx)
     have Zdi := Lib.hid (belowThen HXq_13.out (Nat.le_refl _) hx)
     clear hn hx
     refine ⟨Zc5.out, ?_⟩
     try simp only [Act.put, List.setIfInBounds_toArray, List.set_cons_succ, List.set_cons_zero]
     refine held_ready [4, 14] (by kernel_rfl) (by simp) ?_
     refine held_cons rfl ?_ ?_
     ·refine step_slice1 (E := EBB) rfl _ rfl sva rfl ?_
      intro ysa Zdf hys hx
      have Zcb := Lib.hid (Off.behind (w0 := Zdn) hys.slice (fun k hk => (hys.block k hk).1) Zb9.out.blk.lt Zb9.out.lt)
      have Zcd := Lib.hid (Zc8.out.step (MkStep.of_below hx))
      have Zcc := Lib.hid (Zc6.out.step (MkStep.of_below hx))
      have Zb7 := Lib.hid (Zc5.out.below hx)
      have Zcm := Lib.hid (Zdh.out.below hx)
      have Zbb := Lib.hid (Zb9.out.below hx)
      have Zck := Lib.hid (belowThen Zdi.out (Nat.le_refl _) hx)
      clear hys hx
      refine ⟨Zb7.out, ?_⟩
      try simp only [Act.put, List.setIfInBounds_toArray, List.set_cons_succ, List.set_cons_zero]
      refine held_ready [5, 14] (by kernel_rfl) (by simp) ?_
      refine held_cons rfl ?_ ?_
      ·refine step_call rfl 32 _ _ rfl #[.pointer (some ⟨g, 0, none⟩), ysa] (by simp only [List.map_toArray, List.map_cons, List.map_nil]; rfl) (fun W => HET.out _ W) ?_
       refine (text_any g vb ysa sva (x.1) b _ (by omega) (by omega) Zcb.out Zcd.out Zbb.out).mono ?_
       rintro x Zcn ⟨rfl, vq_5, hm, hs⟩
       have Zy := Lib.hid hm
       have Zbp := Lib.hid (Zcc.out.step hs)
       have Zbc := Lib.hid (mk_keeps Zbb.out Zb7.out (by decide) hs HN6.out)
       have Zbv := Lib.hid (mk_keeps Zbb.out Zcm.out (by decide) hs HNG.out)
       have Zby := Lib.hid (Zck.out.trans ((Zbb.out.stepBelow hs).mono HG.out))
       clear hm hs
       refine ⟨_, rfl, ?_⟩
       refine ⟨Zbc.out, ?_⟩
       try simp only [Act.put, List.setIfInBounds_toArray, List.set_cons_succ, List.set_cons_zero]
       refine held_ready [9, 14] (by kernel_rfl) (by simp) ?_
       refine held_cons rfl ?_ ?_
       ·refine step_call rfl 34 _ _ rfl #[.pointer (some ⟨g, 0, none⟩), .slice (some ⟨g6, 1, none⟩) 20 20] (by simp only [List.map_toArray, List.map_cons, List.map_nil]; rfl) (fun W => HER.out _ W) ?_
        refine (raw_any g vq_5 _ (x.2.1.1) (b ++ (encN (x.1).length ++ x.1)) _ (by simp only [List.length_append]; omega) (by omega) (hash_slice Zbc.out x.2.2 (riC_hash x)) Zy.out).mono ?_
        rintro x Zb4 ⟨rfl, vq_9, hm, hs⟩
        have Z8 := Lib.hid hm
        have Zbr := Lib.hid (Zbp.out.step hs)
        have Zbf := Lib.hid (mk_keeps Zy.out Zbc.out (by decide) hs HN6.out)
        have Zb1 := Lib.hid (mk_keeps Zy.out Zbv.out (by decide) hs HNG.out)
        have Zbz := Lib.hid (Zby.out.trans ((Zy.out.stepBelow hs).mono HG.out))
        clear hm hs
        refine ⟨_, rfl, ?_⟩
        refine ⟨Zbf.out, ?_⟩
        try simp only [Act.put, List.setIfInBounds_toArray, List.set_cons_succ, List.set_cons_zero]
        refine held_one 14 rfl (by kernel_rfl) ?_
        refine step_slice1 (E := EBB) rfl _ rfl svb rfl ?_
        intro ysb Zbd hys hx
        have Zn := Lib.hid (Off.behind (w0 := Zb4) hys.slice (fun k hk => (hys.block k hk).1) Z8.out.blk.lt Z8.out.lt)
        have Zo := Lib.hid (Zbr.out.step (MkStep.of_below hx))
        have Zc := Lib.hid (Zbf.out.below hx)
        have Zs := Lib.hid (Zb1.out.below hx)
        have Za := Lib.hid (Z8.out.below hx)
        have Zp := Lib.hid (belowThen Zbz.out (Nat.le_refl _) hx)
        clear hys hx
        refine ⟨Zc.out, ?_⟩
        try simp only [Act.put, List.setIfInBounds_toArray, List.set_cons_succ, List.set_cons_zero]
        refine held_one 15 rfl (by kernel_rfl) ?_
        refine step_call rfl 32 _ _ rfl #[.pointer (some ⟨g, 0, none⟩), ysb] (by simp only [List.map_toArray, List.map_cons, List.map_nil]; rfl) (fun W => HET.out _ W) ?_
        refine (text_any g vq_9 ysb svb (x.2.1.2) ((b ++ (encN (x.1).length ++ x.1)) ++ x.2.1.1) _ (by simp only [List.length_append]; omega) (by omega) Zn.out Zo.out Za.out).mono ?_
        rintro x Z7 ⟨rfl, vq_15, hm, hs⟩
        have Zk := Lib.hid hm
        have Zj := Lib.hid (mk_keeps Za.out Zc.out (by decide) hs HN6.out)
        have Zi := Lib.hid (mk_keeps Za.out Zs.out (by decide) hs HNG.out)
        have Zg := Lib.hid (Zp.out.trans ((Za.out.stepBelow hs).mono HG.out))
        clear hm hs
        refine ⟨_, rfl, ?_⟩
        refine ⟨Zj.out, ?_⟩
        try simp only [Act.put, List.setIfInBounds_toArray, List.set_cons_succ, List.set_cons_zero]
        refine held_end (by kernel_rfl) ?_
        go_wp2_with fail
        go_roundw
        case rel => exact ⟨k + 1, _, by omega, by go_num, by rw [HTK.out]; exact Zk.out, Zi.out, Zg.out⟩
        case measure => simp [intOf]; omega
       refine held_cons rfl ?_ ?_
       ·refine step_slice1 (E := EBB) rfl _ rfl svb rfl ?_
        intro ysb Zb0 hys hx
        have Zz := Lib.hid (Off.behind (w0 := Zcn) hys.slice (fun k hk => (hys.block k hk).1) Zy.out.blk.lt Zy.out.lt)
        have Z0 := Lib.hid (Zbp.out.step (MkStep.of_below hx))
        have Zh := Lib.hid (Zbc.out.below hx)
        have Z4 := Lib.hid (Zbv.out.below hx)
        have Ze := Lib.hid (Zy.out.below hx)
        have Z5 := Lib.hid (belowThen Zby.out (Nat.le_refl _) hx)
        clear hys hx
        refine ⟨Zh.out, ?_⟩
        try simp only [Act.put, List.setIfInBounds_toArray, List.set_cons_succ, List.set_cons_zero]
        refine held_one 9 rfl (by kernel_rfl) ?_
        refine step_call rfl 34 _ _ rfl #[.pointer (some ⟨g, 0, none⟩), .slice (some ⟨g6, 1, none⟩) 20 20] (by simp only [List.map_toArray, List.map_cons, List.map_nil]; rfl) (fun W => HER.out _ W) ?_
        refine (raw_any g vq_5 _ (x.2.1.1) (b ++ (encN (x.1).length ++ x.1)) _ (by simp only [List.length_append]; omega) (by omega) (hash_slice Zh.out x.2.2 (riC_hash x)) Ze.out).mono ?_
        rintro x Zbd ⟨rfl, vq_9, hm, hs⟩
        have Za := Lib.hid hm
        have Zo := Lib.hid (Z0.out.step hs)
        have Zn := Lib.hid (Zz.out.step hs)
        have Zc := Lib.hid (mk_keeps Ze.out Zh.out (by decide) hs HN6.out)
        have Zs := Lib.hid (mk_keeps Ze.out Z4.out (by decide) hs HNG.out)
        have Zp := Lib.hid (Z5.out.trans ((Ze.out.stepBelow hs).mono HG.out))
        clear hm hs
        refine ⟨_, rfl, ?_⟩
        refine ⟨Zc.out, ?_⟩
        try simp only [Act.put, List.setIfInBounds_toArray, List.set_cons_succ, List.set_cons_zero]
        refine held_one 15 rfl (by kernel_rfl) ?_
        refine step_call rfl 32 _ _ rfl #[.pointer (some ⟨g, 0, none⟩), ysb] (by simp only [List.map_toArray, List.map_cons, List.map_nil]; rfl) (fun W => HET.out _ W) ?_
        refine (text_any g vq_9 ysb svb (x.2.1.2) ((b ++ (encN (x.1).length ++ x.1)) ++ x.2.1.1) _ (by simp only [List.length_append]; omega) (by omega) Zn.out Zo.out Za.out).mono ?_
        rintro x Z7 ⟨rfl, vq_15, hm, hs⟩
        have Zk := Lib.hid hm
        have Zj := Lib.hid (mk_keeps Za.out Zc.out (by decide) hs HN6.out)
        have Zi := Lib.hid (mk_keeps Za.out Zs.out (by decide) hs HNG.out)
        have Zg := Lib.hid (Zp.out.trans ((Za.out.stepBelow hs).mono HG.out))
        clear hm hs
        refine ⟨_, rfl, ?_⟩
        refine ⟨Zj.out, ?_⟩
        try simp only [Act.put, List.setIfInBounds_toArray, List.set_cons_succ, List.set_cons_zero]
        refine held_end (by kernel_rfl) ?_
        go_wp2_with fail
        go_roundw
        case rel => exact ⟨k + 1, _, by omega, by go_num, by rw [HTK.out]; exact Zk.out, Zi.out, Zg.out⟩
        case measure => simp [intOf]; omega
       exact AllReadyH.nil
      refine held_cons rfl ?_ ?_
      ·refine step_slice1 (E := EBB) rfl _ rfl svb rfl ?_
       intro ysb Zcy hys hx
       have Zbo := Lib.hid (Off.behind (w0 := Zdf) hys.slice (fun k hk => (hys.block k hk).1) Zbb.out.blk.lt Zbb.out.lt)
       have Zbj := Lib.hid (Zcd.out.step (MkStep.of_below hx))
       have Zbk := Lib.hid (Zcb.out.step (MkStep.of_below hx))
       have Zbn := Lib.hid (Zcc.out.step (MkStep.of_below hx))
       have Zbe := Lib.hid (Zb7.out.below hx)
       have Zbt := Lib.hid (Zcm.out.below hx)
       have Zx := Lib.hid (Zbb.out.below hx)
       have Zbs := Lib.hid (belowThen Zck.out (Nat.le_refl _) hx)
       clear hys hx
       refine ⟨Zbe.out, ?_⟩
       try simp only [Act.put, List.setIfInBounds_toArray, List.set_cons_succ, List.set_cons_zero]
       refine held_one 5 rfl (by kernel_rfl) ?_
       refine step_call rfl 32 _ _ rfl #[.pointer (some ⟨g, 0, none⟩), ysa] (by simp only [List.map_toArray, List.map_cons, List.map_nil]; rfl) (fun W => HET.out _ W) ?_
       refine (text_any g vb ysa sva (x.1) b _ (by omega) (by omega) Zbk.out Zbj.out Zx.out).mono ?_
       rintro x Zb0 ⟨rfl, vq_5, hm, hs⟩
       have Ze := Lib.hid hm
       have Z0 := Lib.hid (Zbn.out.step hs)
       have Zz := Lib.hid (Zbo.out.step hs)
       have Zh := Lib.hid (mk_keeps Zx.out Zbe.out (by decide) hs HN6.out)
       have Z4 := Lib.hid (mk_keeps Zx.out Zbt.out (by decide) hs HNG.out)
       have Z5 := Lib.hid (Zbs.out.trans ((Zx.out.stepBelow hs).mono HG.out))
       clear hm hs
       refine ⟨_, rfl, ?_⟩
       refine ⟨Zh.out, ?_⟩
       try simp only [Act.put, List.setIfInBounds_toArray, List.set_cons_succ, List.set_cons_zero]
       refine held_one 9 rfl (by kernel_rfl) ?_
       refine step_call rfl 34 _ _ rfl #[.pointer (some ⟨g, 0, none⟩), .slice (some ⟨g6, 1, none⟩) 20 20] (by simp only [List.map_toArray, List.map_cons, List.map_nil]; rfl) (fun W => HER.out _ W) ?_
       refine (raw_any g vq_5 _ (x.2.1.1) (b ++ (encN (x.1).length ++ x.1)) _ (by simp only [List.length_append]; omega) (by omega) (hash_slice Zh.out x.2.2 (riC_hash x)) Ze.out).mono ?_
       rintro x Zbd ⟨rfl, vq_9, hm, hs⟩
       have Za := Lib.hid hm
       have Zo := Lib.hid (Z0.out.step hs)
       have Zn := Lib.hid (Zz.out.step hs)
       have Zc := Lib.hid (mk_keeps Ze.out Zh.out (by decide) hs HN6.out)
       have Zs := Lib.hid (mk_keeps Ze.out Z4.out (by decide) hs HNG.out)
       have Zp := Lib.hid (Z5.out.trans ((Ze.out.stepBelow hs).mono HG.out))
       clear hm hs
       refine ⟨_, rfl, ?_⟩
       refine ⟨Zc.out, ?_⟩
       try simp only [Act.put, List.setIfInBounds_toArray, List.set_cons_succ, List.set_cons_zero]
       refine held_one 15 rfl (by kernel_rfl) ?_
       refine step_call rfl 32 _ _ rfl #[.pointer (some ⟨g, 0, none⟩), ysb] (by simp only [List.map_toArray, List.map_cons, List.map_nil]; rfl) (fun W => HET.out _ W) ?_
       refine (text_any g vq_9 ysb svb (x.2.1.2) ((b ++ (encN (x.1).length ++ x.1)) ++ x.2.1.1) _ (by simp only [List.length_append]; omega) (by omega) Zn.out Zo.out Za.out).mono ?_
       rintro x Z7 ⟨rfl, vq_15, hm, hs⟩
       have Zk := Lib.hid hm
       have Zj := Lib.hid (mk_keeps Za.out Zc.out (by decide) hs HN6.out)
       have Zi := Lib.hid (mk_keeps Za.out Zs.out (by decide) hs HNG.out)
       have Zg := Lib.hid (Zp.out.trans ((Za.out.stepBelow hs).mono HG.out))
       clear hm hs
       refine ⟨_, rfl, ?_⟩
       refine ⟨Zj.out, ?_⟩
       try simp only [Act.put, List.setIfInBounds_toArray, List.set_cons_succ, List.set_cons_zero]
       refine held_end (by kernel_rfl) ?_
       go_wp2_with fail
       go_roundw
       case rel => exact ⟨k + 1, _, by omega, by go_num, by rw [HTK.out]; exact Zk.out, Zi.out, Zg.out⟩
       case measure => simp [intOf]; omega
      exact AllReadyH.nil
     refine held_cons rfl ?_ ?_
     ·refine step_slice1 (E := EBB) rfl _ rfl svb rfl ?_
      intro ysb Zdb hys hx
      have Zcs := Lib.hid (Off.behind (w0 := Zdn) hys.slice (fun k hk => (hys.block k hk).1) Zb9.out.blk.lt Zb9.out.lt)
      have Zcq := Lib.hid (Zc8.out.step (MkStep.of_below hx))
      have Zcr := Lib.hid (Zc6.out.step (MkStep.of_below hx))
      have Zce := Lib.hid (Zc5.out.below hx)
      have Zc2 := Lib.hid (Zdh.out.below hx)
      have Zb3 := Lib.hid (Zb9.out.below hx)
      have Zc1 := Lib.hid (belowThen Zdi.out (Nat.le_refl _) hx)
      clear hys hx
      refine ⟨Zce.out, ?_⟩
      try simp only [Act.put, List.setIfInBounds_toArray, List.set_cons_succ, List.set_cons_zero]
      refine held_one 4 rfl (by kernel_rfl) ?_
      refine step_slice1 (E := EBB) rfl _ rfl sva rfl ?_
      intro ysa Zcy hys hx
      have Zbk := Lib.hid (Off.behind (w0 := Zdb) hys.slice (fun k hk => (hys.block k hk).1) Zb3.out.blk.lt Zb3.out.lt)
      have Zbj := Lib.hid (Zcq.out.step (MkStep.of_below hx))
      have Zbn := Lib.hid (Zcr.out.step (MkStep.of_below hx))
      have Zbo := Lib.hid (Zcs.out.step (MkStep.of_below hx))
      have Zbe := Lib.hid (Zce.out.below hx)
      have Zbt := Lib.hid (Zc2.out.below hx)
      have Zx := Lib.hid (Zb3.out.below hx)
      have Zbs := Lib.hid (belowThen Zc1.out (Nat.le_refl _) hx)
      clear hys hx
      refine ⟨Zbe.out, ?_⟩
      try simp only [Act.put, List.setIfInBounds_toArray, List.set_cons_succ, List.set_cons_zero]
      refine held_one 5 rfl (by kernel_rfl) ?_
      refine step_call rfl 32 _ _ rfl #[.pointer (some ⟨g, 0, none⟩), ysa] (by simp only [List.map_toArray, List.map_cons, List.map_nil]; rfl) (fun W => HET.out _ W) ?_
      refine (text_any g vb ysa sva (x.1) b _ (by omega) (by omega) Zbk.out Zbj.out Zx.out).mono ?_
      rintro x Zb0 ⟨rfl, vq_5, hm, hs⟩
      have Ze := Lib.hid hm
      have Z0 := Lib.hid (Zbn.out.step hs)
      have Zz := Lib.hid (Zbo.out.step hs)
      have Zh := Lib.hid (mk_keeps Zx.out Zbe.out (by decide) hs HN6.out)
      have Z4 := Lib.hid (mk_keeps Zx.out Zbt.out (by decide) hs HNG.out)
      have Z5 := Lib.hid (Zbs.out.trans ((Zx.out.stepBelow hs).mono HG.out))
      clear hm hs
      refine ⟨_, rfl, ?_⟩
      refine ⟨Zh.out, ?_⟩
      try simp only [Act.put, List.setIfInBounds_toArray, List.set_cons_succ, List.set_cons_zero]
      refine held_one 9 rfl (by kernel_rfl) ?_
      refine step_call rfl 34 _ _ rfl #[.pointer (some ⟨g, 0, none⟩), .slice (some ⟨g6, 1, none⟩) 20 20] (by simp only [List.map_toArray, List.map_cons, List.map_nil]; rfl) (fun W => HER.out _ W) ?_
      refine (raw_any g vq_5 _ (x.2.1.1) (b ++ (encN (x.1).length ++ x.1)) _ (by simp only [List.length_append]; omega) (by omega) (hash_slice Zh.out x.2.2 (riC_hash x)) Ze.out).mono ?_
      rintro x Zbd ⟨rfl, vq_9, hm, hs⟩
      have Za := Lib.hid hm
      have Zo := Lib.hid (Z0.out.step hs)
      have Zn := Lib.hid (Zz.out.step hs)
      have Zc := Lib.hid (mk_keeps Ze.out Zh.out (by decide) hs HN6.out)
      have Zs := Lib.hid (mk_keeps Ze.out Z4.out (by decide) hs HNG.out)
      have Zp := Lib.hid (Z5.out.trans ((Ze.out.stepBelow hs).mono HG.out))
      clear hm hs
      refine ⟨_, rfl, ?_⟩
      refine ⟨Zc.out, ?_⟩
      try simp only [Act.put, List.setIfInBounds_toArray, List.set_cons_succ, List.set_cons_zero]
      refine held_one 15 rfl (by kernel_rfl) ?_
      refine step_call rfl 32 _ _ rfl #[.pointer (some ⟨g, 0, none⟩), ysb] (by simp only [List.map_toArray, List.map_cons, List.map_nil]; rfl) (fun W => HET.out _ W) ?_
      refine (text_any g vq_9 ysb svb (x.2.1.2) ((b ++ (encN (x.1).length ++ x.1)) ++ x.2.1.1) _ (by simp only [List.length_append]; omega) (by omega) Zn.out Zo.out Za.out).mono ?_
      rintro x Z7 ⟨rfl, vq_15, hm, hs⟩
      have Zk := Lib.hid hm
      have Zj := Lib.hid (mk_keeps Za.out Zc.out (by decide) hs HN6.out)
      have Zi := Lib.hid (mk_keeps Za.out Zs.out (by decide) hs HNG.out)
      have Zg := Lib.hid (Zp.out.trans ((Za.out.stepBelow hs).mono HG.out))
      clear hm hs
      refine ⟨_, rfl, ?_⟩
      refine ⟨Zj.out, ?_⟩
      try simp only [Act.put, List.setIfInBounds_toArray, List.set_cons_succ, List.set_cons_zero]
      refine held_end (by kernel_rfl) ?_
      go_wp2_with fail
      go_roundw
      case rel => exact ⟨k + 1, _, by omega, by go_num, by rw [HTK.out]; exact Zk.out, Zi.out, Zg.out⟩
      case measure => simp [intOf]; omega
     exact AllReadyH.nil
    refine held_cons rfl ?_ ?_
    ·refine step_slice1 (E := EBB) rfl _ rfl svb rfl ?_
     intro ysb Zeg hys hx
     have Zd9 := Lib.hid (Off.behind (w0 := wq_13) hys.slice (fun k hk => (hys.block k hk).1) HMq_13.out.blk.lt HMq_13.out.lt)
     have Zd7 := Lib.hid (HSObq_13.out.step (MkStep.of_below hx))
     have Zd4 := Lib.hid (HIq_13.out.below hx)
     have Zee := Lib.hid (HRq_13.out.below hx)
     have Zdr := Lib.hid (HMq_13.out.below hx)
     have Zef := Lib.hid (belowThen HXq_13.out (Nat.le_refl _) hx)
     clear hys hx
     refine ⟨Zd4.out, ?_⟩
     try simp only [Act.put, List.setIfInBounds_toArray, List.set_cons_succ, List.set_cons_zero]
     refine held_one 3 rfl (by kernel_rfl) ?_
     refine step_toBytes rfl _ rfl (x.1) rfl ?_
     intro vq3 Zdb hn hx
     obtain ⟨sva, rfl⟩ := bytes_svB hn.slice
     have Zcq := Lib.hid (Off.behind (w0 := Zeg) hn.slice (fun k hk => newBytes_ownB hn k hk) Zdr.out.blk.lt Zdr.out.lt)
     have Zcr := Lib.hid (Zd7.out.step (MkStep.of_below hx))
     have Zcs := Lib.hid (Zd9.out.step (MkStep.of_below hx))
     have Zce := Lib.hid (Zd4.out.below hx)
     have Zc2 := Lib.hid (Zee.out.below hx)
     have Zb3 := Lib.hid (Zdr.out.below hx)
     have Zc1 := Lib.hid (belowThen Zef.out (Nat.le_refl _) hx)
     clear hn hx
     refine ⟨Zce.out, ?_⟩
     try simp only [Act.put, List.setIfInBounds_toArray, List.set_cons_succ, List.set_cons_zero]
     refine held_one 4 rfl (by kernel_rfl) ?_
     refine step_slice1 (E := EBB) rfl _ rfl sva rfl ?_
     intro ysa Zcy hys hx
     have Zbk := Lib.hid (Off.behind (w0 := Zdb) hys.slice (fun k hk => (hys.block k hk).1) Zb3.out.blk.lt Zb3.out.lt)
     have Zbj := Lib.hid (Zcq.out.step (MkStep.of_below hx))
     have Zbn := Lib.hid (Zcr.out.step (MkStep.of_below hx))
     have Zbo := Lib.hid (Zcs.out.step (MkStep.of_below hx))
     have Zbe := Lib.hid (Zce.out.below hx)
     have Zbt := Lib.hid (Zc2.out.below hx)
     have Zx := Lib.hid (Zb3.out.below hx)
     have Zbs := Lib.hid (belowThen Zc1.out (Nat.le_refl _) hx)
     clear hys hx
     refine ⟨Zbe.out, ?_⟩
     try simp only [Act.put, List.setIfInBounds_toArray, List.set_cons_succ, List.set_cons_zero]
     refine held_one 5 rfl (by kernel_rfl) ?_
     refine step_call rfl 32 _ _ rfl #[.pointer (some ⟨g, 0, none⟩), ysa] (by simp only [List.map_toArray, List.map_cons, List.map_nil]; rfl) (fun W => HET.out _ W) ?_
     refine (text_any g vb ysa sva (x.1) b _ (by omega) (by omega) Zbk.out Zbj.out Zx.out).mono ?_
     rintro x Zb0 ⟨rfl, vq_5, hm, hs⟩
     have Ze := Lib.hid hm
     have Z0 := Lib.hid (Zbn.out.step hs)
     have Zz := Lib.hid (Zbo.out.step hs)
     have Zh := Lib.hid (mk_keeps Zx.out Zbe.out (by decide) hs HN6.out)
     have Z4 := Lib.hid (mk_keeps Zx.out Zbt.out (by decide) hs HNG.out)
     have Z5 := Lib.hid (Zbs.out.trans ((Zx.out.stepBelow hs).mono HG.out))
     clear hm hs
     refine ⟨_, rfl, ?_⟩
     refine ⟨Zh.out, ?_⟩
     try simp only [Act.put, List.setIfInBounds_toArray, List.set_cons_succ, List.set_cons_zero]
     refine held_one 9 rfl (by kernel_rfl) ?_
     refine step_call rfl 34 _ _ rfl #[.pointer (some ⟨g, 0, none⟩), .slice (some ⟨g6, 1, none⟩) 20 20] (by simp only [List.map_toArray, List.map_cons, List.map_nil]; rfl) (fun W => HER.out _ W) ?_
     refine (raw_any g vq_5 _ (x.2.1.1) (b ++ (encN (x.1).length ++ x.1)) _ (by simp only [List.length_append]; omega) (by omega) (hash_slice Zh.out x.2.2 (riC_hash x)) Ze.out).mono ?_
     rintro x Zbd ⟨rfl, vq_9, hm, hs⟩
     have Za := Lib.hid hm
     have Zo := Lib.hid (Z0.out.step hs)
     have Zn := Lib.hid (Zz.out.step hs)
     have Zc := Lib.hid (mk_keeps Ze.out Zh.out (by decide) hs HN6.out)
     have Zs := Lib.hid (mk_keeps Ze.out Z4.out (by decide) hs HNG.out)
     have Zp := Lib.hid (Z5.out.trans ((Ze.out.stepBelow hs).mono HG.out))
     clear hm hs
     refine ⟨_, rfl, ?_⟩
     refine ⟨Zc.out, ?_⟩
     try simp only [Act.put, List.setIfInBounds_toArray, List.set_cons_succ, List.set_cons_zero]
     refine held_one 15 rfl (by kernel_rfl) ?_
     refine step_call rfl 32 _ _ rfl #[.pointer (some ⟨g, 0, none⟩), ysb] (by simp only [List.map_toArray, List.map_cons, List.map_nil]; rfl) (fun W => HET.out _ W) ?_
     refine (text_any g vq_9 ysb svb (x.2.1.2) ((b ++ (encN (x.1).length ++ x.1)) ++ x.2.1.1) _ (by simp only [List.length_append]; omega) (by omega) Zn.out Zo.out Za.out).mono ?_
     rintro x Z7 ⟨rfl, vq_15, hm, hs⟩
     have Zk := Lib.hid hm
     have Zj := Lib.hid (mk_keeps Za.out Zc.out (by decide) hs HN6.out)
     have Zi := Lib.hid (mk_keeps Za.out Zs.out (by decide) hs HNG.out)
     have Zg := Lib.hid (Zp.out.trans ((Za.out.stepBelow hs).mono HG.out))
     clear hm hs
     refine ⟨_, rfl, ?_⟩
     refine ⟨Zj.out, ?_⟩
     try simp only [Act.put, List.setIfInBounds_toArray, List.set_cons_succ, List.set_cons_zero]
     refine held_end (by kernel_rfl) ?_
     go_wp2_with fail
     go_roundw
     case rel => exact ⟨k + 1, _, by omega, by go_num, by rw [HTK.out]; exact Zk.out, Zi.out, Zg.out⟩
     case measure => simp [intOf]; omega
    exact AllReadyH.nil
   exact AllReadyH.nil
  ·obtain rfl : k = r.2.1.length := by omega
   have HL9 := Lib.hid (RvB.of_blk HR.out)
   obtain ⟨s9, hs9⟩ := bytes_svB (HV.out.2.below HX.out)
   have HS9 := Lib.hid hs9
   clear hs9
   have HOF := Lib.hid (show Off EB g wr1 vb vr r.2.2 from Off.before HV.out.2 HX.out HG.out (fun k hk => Nat.le_trans HG.out (HM.out.ge k hk)))
   go_wp2_with (first | (with_reducible refine wpList_loadL HL9.out.rcp rfl _ rfl rfl ?_) | (refine wpList_slice1 (E := EBB) (base := wr1.heap.size) rfl _ rfl s9 HS9.out (Nat.le_refl _) ?_; intro ys w9 hys hx9; have HYS := Lib.hid (Off.behind (w0 := wr1) hys.slice (fun k hk => (hys.block k hk).1) HM.out.blk.lt HM.out.lt); have HM9 := Lib.hid (HM.out.below hx9); have HOF9 := Lib.hid (HOF.out.step (MkStep.of_below hx9)); have HX9 := Lib.hid (belowThen HX.out (Nat.le_refl _) hx9); clear hys hx9))
   refine (text_any g vb ys s9 r.2.2 _ w9 (by omega) (by omega) HYS.out (by rw [← HS9.out]; exact HOF9.out) HM9.out).mono ?_
   rintro e wa ⟨rfl, va, hm, hs⟩
   have HMA := Lib.hid hm
   have HXA := Lib.hid (HX9.out.trans ((HM9.out.stepBelow hs).mono HG.out))
   clear hm hs
   rw [putHd_all] at HMA
   have hpl := putRs_len HCN.out
   go_wp2_with fail
   refine (done_any g va _ wa (by omega) HMA.out).mono ?_
   rintro e wb ⟨v', rfl, ho, hx⟩
   have HOB := Lib.hid (ho.lower HXA.out.size)
   have HXB := Lib.hid (belowThen HXA.out (Nat.le_refl _) hx)
   clear ho hx
   go_wp2_with fail
   go_ret2
   exact ⟨v', by rw [HO.out.2]; rfl, by rw [HO.out.1]; exact HOB.out, HXB.out⟩
end Go.Proofs.YtdebbmembkbniaaGreat
