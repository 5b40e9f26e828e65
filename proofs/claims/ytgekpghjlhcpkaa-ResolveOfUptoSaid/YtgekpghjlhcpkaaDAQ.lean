/- resolve.Put. -/
import Derived.Test.YtgekpghjlhcpkaaDAO
import Derived.Test.YtgekpghjlhcpkaaDAP
import Derived.Test.YtgekpghjlhcpkaaDAJ
namespace Go.Proofs.Ytgekpghjlhcpkaa
open Go.RowKit Pl Go.Agg
/-- the bytes ahead of the inputs, and the first k of these -/
def putHd (r : Rv) (k : Nat) : List UInt8 := (([] ++ (encN r.1.length ++ r.1)) ++ ([r.2.1.length] : List Nat).flatMap encN) ++ (r.2.1.take k).flatMap putRi
theorem putHd_succ {r : Rv} {k : Nat} {x : Rin} (h : r.2.1[k]? = some x) : putHd r (k + 1) = ((putHd r k ++ (encN x.1.length ++ x.1)) ++ x.2.1.1) ++ (encN x.2.1.2.length ++ x.2.1.2) := by
  unfold putHd
  rw [List.take_add_one, h]
  simp [List.flatMap_append, putRi, encT, List.append_assoc]
theorem putHd_all (r : Rv) : putHd r r.2.1.length ++ (encN r.2.2.length ++ r.2.2) = putRs r := by
  unfold putHd putRs
  rw [List.take_length]
  simp [encT, List.append_assoc]
theorem putHd_len {r : Rv} (h : canRv r = true) (k : Nat) : (putHd r k).length ≤ 2000 := by
  have P := can_parts h
  have h4 := flat_putRi (l := r.2.1.take k) (fun x hx => P.ins x (List.mem_of_mem_take hx))
  have h1 := P.name
  have h2 := P.inp
  have h5 := encN_len (n := r.1.length) (by omega)
  have h7 := encN_len (n := r.2.1.length) (by omega)
  have h8 : (r.2.1.take k).length ≤ 8 := by rw [List.length_take]; omega
  unfold putHd
  simp only [List.length_append, List.flatMap_cons, List.flatMap_nil, List.length_nil]
  omega
set_option maxRecDepth 100000 in
set_option maxHeartbeats 16000000 in
theorem rput_any (v : Value) (r : Rv) (hil : r.2.1.length ≤ 1048576) (w : World) (h : RvAt w v r) :
    Calls Try.prog 21 #[v] w fun e w' => ∃ v', e = .returned (.tuple #[v', .int .i64 (errRv r : Int)]) ∧ Agg.Own EB w.heap.size w' v' (putRv r) ∧ Below w.heap.size w w' := by
  obtain ⟨vi, vr, rfl, hvi, hvr⟩ := h
  have hli := ris_len hvi
  have HV := Lib.hid (And.intro hvi hvr)
  have HET := Lib.hid (enters_of Try.func46 (by kernel_rfl) rfl : ∀ args w, (callFunc 46 args).run Try.prog w = .ok (.enter 46 args) w)
  have HEN := Lib.hid (enters_of Try.func47 (by kernel_rfl) rfl : ∀ args w, (callFunc 47 args).run Try.prog w = .ok (.enter 47 args) w)
  have HER := Lib.hid (enters_of Try.func48 (by kernel_rfl) rfl : ∀ args w, (callFunc 48 args).run Try.prog w = .ok (.enter 48 args) w)
  clear hvi hvr
  go_enter Try.func21, Try.ntmps21
  go_wp2_with (first | (with_reducible refine Agg.wpList_box rfl 33 _ rfl (#[.string ⟨r.1.toArray⟩, vi, vr]) rfl ?_; intro g1 w1 hb hx1 hg; have HR1 := Lib.hid hb; have HX1 := Lib.hid hx1; have HL1 := Lib.hid (RvB.of_blk hb); clear hb hx1 hg) | (with_reducible refine Agg.wpList_loadL HL1.out.all rfl _ rfl rfl ?_))
  refine (rsCan_any _ r hil w1 ⟨vi, vr, rfl, HV.out.1.below HX1.out, HV.out.2.below HX1.out⟩).mono ?_
  rintro e w2 ⟨rfl, hx2⟩
  have HR2 := Lib.hid (HR1.out.below hx2)
  have HX2 := Lib.hid (Agg.belowThen HX1.out (Nat.le_refl _) hx2)
  clear hx2
  cases hcan : canRv r with
  | false =>
    have HO := Lib.hid (show putRv r = [] ∧ errRv r = 2 by simp [putRv, errRv, hcan])
    clear hcan
    go_wp2_with fail
    go_ret2
    exact ⟨.slice none 0 0, by rw [HO.out.2]; rfl, by rw [HO.out.1]; exact Agg.Own.nil _ _ _, HX2.out⟩
  | true =>
  have HO := Lib.hid (show putRv r = putRs r ∧ errRv r = 0 by simp [putRv, errRv, hcan])
  have HCN := Lib.hid hcan
  have HP := Lib.hid (can_parts hcan)
  have hnl := HP.out.name
  have hi8 := HP.out.inp
  have hrl := HP.out.rcp
  have hne := encN_len (n := r.1.length) (by omega)
  have hni := encN_len (n := r.2.1.length) (by omega)
  have hnr := encN_len (n := r.2.2.length) (by omega)
  clear hcan
  go_wp2_with fail
  refine Agg.wp_cutR (fun a a' w' => ∃ g vb, MkV g w' vb (putHd r 0) ∧ Blk w' g1 33 (#[.string ⟨r.1.toArray⟩, vi, vr]) ∧ Below w.heap.size w w' ∧ w.heap.size ≤ g ∧ g1 ≠ g ∧ ExPut [10, 11, 12, 13, 14, 15, 16, 17, 18, 19, 20, 21] (a.put (some 4) (.pointer (some ⟨g, 0, none⟩))) a') ?_ ?_
  ·
    try simp only [Act.put, List.setIfInBounds_toArray, List.set_cons_succ, List.set_cons_zero]
    obtain ⟨wz, hw0⟩ : ∃ W, W = w2.drew := ⟨_, rfl⟩
    have hd : Below w2.heap.size w2 wz := by rw [hw0]; exact (Below.refl _ _).drew
    have HRr0 := Lib.hid (HR2.out.below hd)
    have HXr0 := Lib.hid (Agg.belowThen HX2.out (Nat.le_refl _) hd)
    refine wp_region_held_drew (S := fun W => Blk W g1 33 #[.string ⟨r.1.toArray⟩, vi, vr]) (by kernel_rfl) (by rw [← hw0]; exact HRr0.out) (fun hHeld => ?_)
    rw [← hw0] at hHeld ⊢
    clear hw0 hd
    refine Agg.held_take 0 (.agg (mkC (.slice none 0 0))) rfl (by kernel_rfl) (fun _ _ _ h => h) rfl (fun W _ => exec_build0C rfl (maker_build W)) (by assumption) ?_
    try simp only [Act.put, List.setIfInBounds_toArray, List.set_cons_succ, List.set_cons_zero]
    refine Agg.held_take 2 (.pointer (some ⟨g1, 0, none⟩)) rfl (by kernel_rfl) (fun _ _ _ h => h) rfl (fun W _ => by kernel_rfl) (by assumption) ?_
    try simp only [Act.put, List.setIfInBounds_toArray, List.set_cons_succ, List.set_cons_zero]
    refine Agg.held_take 3 (.string ⟨r.1.toArray⟩) rfl (by kernel_rfl) (fun _ _ _ h => h) rfl (fun W hS => exec_loadC rfl rfl (hS.one (ty := 9) 0 rfl Try.underlying9 rfl).now) (by assumption) ?_
    try simp only [Act.put, List.setIfInBounds_toArray, List.set_cons_succ, List.set_cons_zero]
    refine Agg.held_take 7 (.pointer (some ⟨g1, 1, none⟩)) rfl (by kernel_rfl) (fun _ _ _ h => h) rfl (fun W _ => by kernel_rfl) (by assumption) ?_
    try simp only [Act.put, List.setIfInBounds_toArray, List.set_cons_succ, List.set_cons_zero]
    refine Agg.held_take 8 (vi) rfl (by kernel_rfl) (fun _ _ _ h => h) rfl (fun W hS => exec_loadC rfl rfl (hS.one (ty := 31) 1 rfl ris_under rfl).now) (by assumption) ?_
    try simp only [Act.put, List.setIfInBounds_toArray, List.set_cons_succ, List.set_cons_zero]
    refine Agg.held_take 9 (.int .i64 (r.2.1.length : Int)) rfl (by kernel_rfl) (fun _ _ _ h => h) rfl (fun W _ => exec_lenC rfl rfl (hli W)) (by assumption) ?_
    try simp only [Act.put, List.setIfInBounds_toArray, List.set_cons_succ, List.set_cons_zero]
    refine Agg.held_ready [1, 4, 10] (by kernel_rfl) (by simp) ?_
    refine Agg.held_cons rfl ?_ ?_
    · refine Agg.step_box rfl 95 _ rfl (mkC (.slice none 0 0)) rfl ?_
      intro g wr_1 hb hx hg
      have HMr_1 := Lib.hid (⟨hb, Agg.Own.nil _ _ _⟩ : MkV g wr_1 (.slice none 0 0) [])
      have HRr_1 := Lib.hid (HRr0.out.below hx)
      have HXr_1 := Lib.hid (Agg.belowThen HXr0.out (Nat.le_refl _) hx)
      have HG := Lib.hid (Nat.le_trans HXr0.out.size hg)
      have HNG0 := Lib.hid (show g1 ≠ g from fun e => (by have := HRr0.out.lt; omega))
      clear hb hx hg
      refine ⟨HRr_1.out, ?_⟩
      try simp only [Act.put, List.setIfInBounds_toArray, List.set_cons_succ, List.set_cons_zero]
      refine Agg.held_ready [4, 10] (by kernel_rfl) (by simp) ?_
      refine Agg.held_cons rfl ?_ ?_
      · refine step_toBytes rfl _ rfl (r.1) rfl ?_
        intro vr4 wr_1_4 hn hx
        obtain ⟨sva, rfl⟩ := bytes_svB hn.slice
        have HSOar_1_4 := Lib.hid (Off.behind (w0 := wr_1) hn.slice (fun k hk => newBytes_ownB hn k hk) HMr_1.out.blk.lt HMr_1.out.lt)
        have HRr_1_4 := Lib.hid (HRr_1.out.below hx)
        have HMr_1_4 := Lib.hid (HMr_1.out.below hx)
        have HXr_1_4 := Lib.hid (Agg.belowThen HXr_1.out (Nat.le_refl _) hx)
        clear hn hx
        refine ⟨HRr_1_4.out, ?_⟩
        try simp only [Act.put, List.setIfInBounds_toArray, List.set_cons_succ, List.set_cons_zero]
        refine Agg.held_ready [5, 10] (by kernel_rfl) (by simp) ?_
        refine Agg.held_cons rfl ?_ ?_
        · refine Agg.step_slice1 (E := EBB) rfl _ rfl sva rfl ?_
          intro ysa wr_1_4_5 hys hx
          have HYOar_1_4_5 := Lib.hid (Off.behind (w0 := wr_1_4) hys.slice (fun k hk => (hys.block k hk).1) HMr_1_4.out.blk.lt HMr_1_4.out.lt)
          have HSOar_1_4_5 := Lib.hid (HSOar_1_4.out.step (MkStep.of_below hx))
          have HRr_1_4_5 := Lib.hid (HRr_1_4.out.below hx)
          have HMr_1_4_5 := Lib.hid (HMr_1_4.out.below hx)
          have HXr_1_4_5 := Lib.hid (Agg.belowThen HXr_1_4.out (Nat.le_refl _) hx)
          clear hys hx
          refine ⟨HRr_1_4_5.out, ?_⟩
          try simp only [Act.put, List.setIfInBounds_toArray, List.set_cons_succ, List.set_cons_zero]
          refine Agg.held_ready [6, 10] (by kernel_rfl) (by simp) ?_
          refine Agg.held_cons rfl ?_ ?_
          · refine Agg.step_call rfl 46 _ _ rfl #[.pointer (some ⟨g, 0, none⟩), ysa] (by simp only [List.map_toArray, List.map_cons, List.map_nil]; rfl) (fun W => HET.out _ W) ?_
            refine (text_any g (.slice none 0 0) ysa sva (r.1) [] _ (by simp) (by omega) HYOar_1_4_5.out HSOar_1_4_5.out HMr_1_4_5.out).mono ?_
            rintro x wr_1_4_5_6 ⟨rfl, vr_6, hm, hs⟩
            have HMr_1_4_5_6 := Lib.hid hm
            have HRr_1_4_5_6 := Lib.hid (mk_keeps HMr_1_4_5.out HRr_1_4_5.out (by decide) hs HNG0.out)
            have HXr_1_4_5_6 := Lib.hid (HXr_1_4_5.out.trans ((HMr_1_4_5.out.stepBelow hs).mono HG.out))
            clear hm hs
            refine ⟨_, rfl, ?_⟩
            refine ⟨HRr_1_4_5_6.out, ?_⟩
            try simp only [Act.put, List.setIfInBounds_toArray, List.set_cons_succ, List.set_cons_zero]
            refine Agg.held_ready [10] (by kernel_rfl) (by simp) ?_
            refine Agg.held_cons rfl ?_ ?_
            · refine Agg.step_slice1 (E := EI) rfl _ rfl (r.2.1.length : Nat) rfl ?_
              intro ysn wr_1_4_5_6_10 hys hx
              have HYOnr_1_4_5_6_10 := Lib.hid (Off.behind (w0 := wr_1_4_5_6) hys.slice (fun k hk => (hys.block k hk).1) HMr_1_4_5_6.out.blk.lt HMr_1_4_5_6.out.lt)
              have HRr_1_4_5_6_10 := Lib.hid (HRr_1_4_5_6.out.below hx)
              have HMr_1_4_5_6_10 := Lib.hid (HMr_1_4_5_6.out.below hx)
              have HXr_1_4_5_6_10 := Lib.hid (Agg.belowThen HXr_1_4_5_6.out (Nat.le_refl _) hx)
              clear hys hx
              refine ⟨HRr_1_4_5_6_10.out, ?_⟩
              try simp only [Act.put, List.setIfInBounds_toArray, List.set_cons_succ, List.set_cons_zero]
              refine Agg.held_ready [11] (by kernel_rfl) (by simp) ?_
              refine Agg.held_cons rfl ?_ ?_
              · refine Agg.step_call rfl 47 _ _ rfl #[.pointer (some ⟨g, 0, none⟩), ysn] (by simp only [List.map_toArray, List.map_cons, List.map_nil]; rfl) (fun W => HEN.out _ W) ?_
                refine (num_any g vr_6 ysn [r.2.1.length] ([] ++ (encN (r.1).length ++ r.1)) _ (by intro n hn; simp only [List.mem_cons, List.not_mem_nil, or_false] at hn; omega) (by simp) (by simp only [List.length_append, List.length_nil]; omega) HYOnr_1_4_5_6_10.out HMr_1_4_5_6_10.out).mono ?_
                rintro x wr_1_4_5_6_10_11 ⟨rfl, vr_11, hm, hs⟩
                have HMr_1_4_5_6_10_11 := Lib.hid hm
                have HRr_1_4_5_6_10_11 := Lib.hid (mk_keeps HMr_1_4_5_6_10.out HRr_1_4_5_6_10.out (by decide) hs HNG0.out)
                have HXr_1_4_5_6_10_11 := Lib.hid (HXr_1_4_5_6_10.out.trans ((HMr_1_4_5_6_10.out.stepBelow hs).mono HG.out))
                clear hm hs
                refine ⟨_, rfl, ?_⟩
                refine ⟨HRr_1_4_5_6_10_11.out, ?_⟩
                try simp only [Act.put, List.setIfInBounds_toArray, List.set_cons_succ, List.set_cons_zero]
                refine Agg.held_take 12 (.pointer (some ⟨g, 0, none⟩)) rfl (by kernel_rfl) (fun _ _ _ h => h) rfl (fun W _ => by kernel_rfl) (by assumption) ?_
                try simp only [Act.put, List.setIfInBounds_toArray, List.set_cons_succ, List.set_cons_zero]
                refine Agg.held_end (by kernel_rfl) ?_
                refine ⟨g, _, (by have := HMr_1_4_5_6_10_11.out; simpa [putHd] using this), HRr_1_4_5_6_10_11.out, HXr_1_4_5_6_10_11.out, HG.out, HNG0.out, ?_⟩
                simp only [Agg.ExPut, Act.put, List.setIfInBounds_toArray, List.set_cons_succ, List.set_cons_zero]
                exact ⟨_, _, _, _, _, _, _, _, _, _, _, _, rfl⟩
              exact AllReadyH.nil
            exact AllReadyH.nil
          refine Agg.held_cons rfl ?_ ?_
          · refine Agg.step_slice1 (E := EI) rfl _ rfl (r.2.1.length : Nat) rfl ?_
            intro ysn wr_1_4_5_10 hys hx
            have HYOnr_1_4_5_10 := Lib.hid (Off.behind (w0 := wr_1_4_5) hys.slice (fun k hk => (hys.block k hk).1) HMr_1_4_5.out.blk.lt HMr_1_4_5.out.lt)
            have HSOar_1_4_5_10 := Lib.hid (HSOar_1_4_5.out.step (MkStep.of_below hx))
            have HYOar_1_4_5_10 := Lib.hid (HYOar_1_4_5.out.step (MkStep.of_below hx))
            have HRr_1_4_5_10 := Lib.hid (HRr_1_4_5.out.below hx)
            have HMr_1_4_5_10 := Lib.hid (HMr_1_4_5.out.below hx)
            have HXr_1_4_5_10 := Lib.hid (Agg.belowThen HXr_1_4_5.out (Nat.le_refl _) hx)
            clear hys hx
            refine ⟨HRr_1_4_5_10.out, ?_⟩
            try simp only [Act.put, List.setIfInBounds_toArray, List.set_cons_succ, List.set_cons_zero]
            refine Agg.held_ready [6] (by kernel_rfl) (by simp) ?_
            refine Agg.held_cons rfl ?_ ?_
            · refine Agg.step_call rfl 46 _ _ rfl #[.pointer (some ⟨g, 0, none⟩), ysa] (by simp only [List.map_toArray, List.map_cons, List.map_nil]; rfl) (fun W => HET.out _ W) ?_
              refine (text_any g (.slice none 0 0) ysa sva (r.1) [] _ (by simp) (by omega) HYOar_1_4_5_10.out HSOar_1_4_5_10.out HMr_1_4_5_10.out).mono ?_
              rintro x wr_1_4_5_6_10 ⟨rfl, vr_6, hm, hs⟩
              have HMr_1_4_5_6_10 := Lib.hid hm
              have HYOnr_1_4_5_6_10 := Lib.hid (HYOnr_1_4_5_10.out.step hs)
              have HRr_1_4_5_6_10 := Lib.hid (mk_keeps HMr_1_4_5_10.out HRr_1_4_5_10.out (by decide) hs HNG0.out)
              have HXr_1_4_5_6_10 := Lib.hid (HXr_1_4_5_10.out.trans ((HMr_1_4_5_10.out.stepBelow hs).mono HG.out))
              clear hm hs
              refine ⟨_, rfl, ?_⟩
              refine ⟨HRr_1_4_5_6_10.out, ?_⟩
              try simp only [Act.put, List.setIfInBounds_toArray, List.set_cons_succ, List.set_cons_zero]
              refine Agg.held_ready [11] (by kernel_rfl) (by simp) ?_
              refine Agg.held_cons rfl ?_ ?_
              · refine Agg.step_call rfl 47 _ _ rfl #[.pointer (some ⟨g, 0, none⟩), ysn] (by simp only [List.map_toArray, List.map_cons, List.map_nil]; rfl) (fun W => HEN.out _ W) ?_
                refine (num_any g vr_6 ysn [r.2.1.length] ([] ++ (encN (r.1).length ++ r.1)) _ (by intro n hn; simp only [List.mem_cons, List.not_mem_nil, or_false] at hn; omega) (by simp) (by simp only [List.length_append, List.length_nil]; omega) HYOnr_1_4_5_6_10.out HMr_1_4_5_6_10.out).mono ?_
                rintro x wr_1_4_5_6_10_11 ⟨rfl, vr_11, hm, hs⟩
                have HMr_1_4_5_6_10_11 := Lib.hid hm
                have HRr_1_4_5_6_10_11 := Lib.hid (mk_keeps HMr_1_4_5_6_10.out HRr_1_4_5_6_10.out (by decide) hs HNG0.out)
                have HXr_1_4_5_6_10_11 := Lib.hid (HXr_1_4_5_6_10.out.trans ((HMr_1_4_5_6_10.out.stepBelow hs).mono HG.out))
                clear hm hs
                refine ⟨_, rfl, ?_⟩
                refine ⟨HRr_1_4_5_6_10_11.out, ?_⟩
                try simp only [Act.put, List.setIfInBounds_toArray, List.set_cons_succ, List.set_cons_zero]
                refine Agg.held_take 12 (.pointer (some ⟨g, 0, none⟩)) rfl (by kernel_rfl) (fun _ _ _ h => h) rfl (fun W _ => by kernel_rfl) (by assumption) ?_
                try simp only [Act.put, List.setIfInBounds_toArray, List.set_cons_succ, List.set_cons_zero]
                refine Agg.held_end (by kernel_rfl) ?_
                refine ⟨g, _, (by have := HMr_1_4_5_6_10_11.out; simpa [putHd] using this), HRr_1_4_5_6_10_11.out, HXr_1_4_5_6_10_11.out, HG.out, HNG0.out, ?_⟩
                simp only [Agg.ExPut, Act.put, List.setIfInBounds_toArray, List.set_cons_succ, List.set_cons_zero]
                exact ⟨_, _, _, _, _, _, _, _, _, _, _, _, rfl⟩
              exact AllReadyH.nil
            exact AllReadyH.nil
          exact AllReadyH.nil
        refine Agg.held_cons rfl ?_ ?_
        · refine Agg.step_slice1 (E := EI) rfl _ rfl (r.2.1.length : Nat) rfl ?_
          intro ysn wr_1_4_10 hys hx
          have HYOnr_1_4_10 := Lib.hid (Off.behind (w0 := wr_1_4) hys.slice (fun k hk => (hys.block k hk).1) HMr_1_4.out.blk.lt HMr_1_4.out.lt)
          have HSOar_1_4_10 := Lib.hid (HSOar_1_4.out.step (MkStep.of_below hx))
          have HRr_1_4_10 := Lib.hid (HRr_1_4.out.below hx)
          have HMr_1_4_10 := Lib.hid (HMr_1_4.out.below hx)
          have HXr_1_4_10 := Lib.hid (Agg.belowThen HXr_1_4.out (Nat.le_refl _) hx)
          clear hys hx
          refine ⟨HRr_1_4_10.out, ?_⟩
          try simp only [Act.put, List.setIfInBounds_toArray, List.set_cons_succ, List.set_cons_zero]
          refine Agg.held_ready [5] (by kernel_rfl) (by simp) ?_
          refine Agg.held_cons rfl ?_ ?_
          · refine Agg.step_slice1 (E := EBB) rfl _ rfl sva rfl ?_
            intro ysa wr_1_4_5_10 hys hx
            have HYOar_1_4_5_10 := Lib.hid (Off.behind (w0 := wr_1_4_10) hys.slice (fun k hk => (hys.block k hk).1) HMr_1_4_10.out.blk.lt HMr_1_4_10.out.lt)
            have HSOar_1_4_5_10 := Lib.hid (HSOar_1_4_10.out.step (MkStep.of_below hx))
            have HYOnr_1_4_5_10 := Lib.hid (HYOnr_1_4_10.out.step (MkStep.of_below hx))
            have HRr_1_4_5_10 := Lib.hid (HRr_1_4_10.out.below hx)
            have HMr_1_4_5_10 := Lib.hid (HMr_1_4_10.out.below hx)
            have HXr_1_4_5_10 := Lib.hid (Agg.belowThen HXr_1_4_10.out (Nat.le_refl _) hx)
            clear hys hx
            refine ⟨HRr_1_4_5_10.out, ?_⟩
            try simp only [Act.put, List.setIfInBounds_toArray, List.set_cons_succ, List.set_cons_zero]
            refine Agg.held_ready [6] (by kernel_rfl) (by simp) ?_
            refine Agg.held_cons rfl ?_ ?_
            · refine Agg.step_call rfl 46 _ _ rfl #[.pointer (some ⟨g, 0, none⟩), ysa] (by simp only [List.map_toArray, List.map_cons, List.map_nil]; rfl) (fun W => HET.out _ W) ?_
              refine (text_any g (.slice none 0 0) ysa sva (r.1) [] _ (by simp) (by omega) HYOar_1_4_5_10.out HSOar_1_4_5_10.out HMr_1_4_5_10.out).mono ?_
              rintro x wr_1_4_5_6_10 ⟨rfl, vr_6, hm, hs⟩
              have HMr_1_4_5_6_10 := Lib.hid hm
              have HYOnr_1_4_5_6_10 := Lib.hid (HYOnr_1_4_5_10.out.step hs)
              have HRr_1_4_5_6_10 := Lib.hid (mk_keeps HMr_1_4_5_10.out HRr_1_4_5_10.out (by decide) hs HNG0.out)
              have HXr_1_4_5_6_10 := Lib.hid (HXr_1_4_5_10.out.trans ((HMr_1_4_5_10.out.stepBelow hs).mono HG.out))
              clear hm hs
              refine ⟨_, rfl, ?_⟩
              refine ⟨HRr_1_4_5_6_10.out, ?_⟩
              try simp only [Act.put, List.setIfInBounds_toArray, List.set_cons_succ, List.set_cons_zero]
              refine Agg.held_ready [11] (by kernel_rfl) (by simp) ?_
              refine Agg.held_cons rfl ?_ ?_
              · refine Agg.step_call rfl 47 _ _ rfl #[.pointer (some ⟨g, 0, none⟩), ysn] (by simp only [List.map_toArray, List.map_cons, List.map_nil]; rfl) (fun W => HEN.out _ W) ?_
                refine (num_any g vr_6 ysn [r.2.1.length] ([] ++ (encN (r.1).length ++ r.1)) _ (by intro n hn; simp only [List.mem_cons, List.not_mem_nil, or_false] at hn; omega) (by simp) (by simp only [List.length_append, List.length_nil]; omega) HYOnr_1_4_5_6_10.out HMr_1_4_5_6_10.out).mono ?_
                rintro x wr_1_4_5_6_10_11 ⟨rfl, vr_11, hm, hs⟩
                have HMr_1_4_5_6_10_11 := Lib.hid hm
                have HRr_1_4_5_6_10_11 := Lib.hid (mk_keeps HMr_1_4_5_6_10.out HRr_1_4_5_6_10.out (by decide) hs HNG0.out)
                have HXr_1_4_5_6_10_11 := Lib.hid (HXr_1_4_5_6_10.out.trans ((HMr_1_4_5_6_10.out.stepBelow hs).mono HG.out))
                clear hm hs
                refine ⟨_, rfl, ?_⟩
                refine ⟨HRr_1_4_5_6_10_11.out, ?_⟩
                try simp only [Act.put, List.setIfInBounds_toArray, List.set_cons_succ, List.set_cons_zero]
                refine Agg.held_take 12 (.pointer (some ⟨g, 0, none⟩)) rfl (by kernel_rfl) (fun _ _ _ h => h) rfl (fun W _ => by kernel_rfl) (by assumption) ?_
                try simp only [Act.put, List.setIfInBounds_toArray, List.set_cons_succ, List.set_cons_zero]
                refine Agg.held_end (by kernel_rfl) ?_
                refine ⟨g, _, (by have := HMr_1_4_5_6_10_11.out; simpa [putHd] using this), HRr_1_4_5_6_10_11.out, HXr_1_4_5_6_10_11.out, HG.out, HNG0.out, ?_⟩
                simp only [Agg.ExPut, Act.put, List.setIfInBounds_toArray, List.set_cons_succ, List.set_cons_zero]
                exact ⟨_, _, _, _, _, _, _, _, _, _, _, _, rfl⟩
              exact AllReadyH.nil
            exact AllReadyH.nil
          exact AllReadyH.nil
        exact AllReadyH.nil
      refine Agg.held_cons rfl ?_ ?_
      · refine Agg.step_slice1 (E := EI) rfl _ rfl (r.2.1.length : Nat) rfl ?_
        intro ysn wr_1_10 hys hx
        have HYOnr_1_10 := Lib.hid (Off.behind (w0 := wr_1) hys.slice (fun k hk => (hys.block k hk).1) HMr_1.out.blk.lt HMr_1.out.lt)
        have HRr_1_10 := Lib.hid (HRr_1.out.below hx)
        have HMr_1_10 := Lib.hid (HMr_1.out.below hx)
        have HXr_1_10 := Lib.hid (Agg.belowThen HXr_1.out (Nat.le_refl _) hx)
        clear hys hx
        refine ⟨HRr_1_10.out, ?_⟩
        try simp only [Act.put, List.setIfInBounds_toArray, List.set_cons_succ, List.set_cons_zero]
        refine Agg.held_ready [4] (by kernel_rfl) (by simp) ?_
        refine Agg.held_cons rfl ?_ ?_
        · refine step_toBytes rfl _ rfl (r.1) rfl ?_
          intro vr4 wr_1_4_10 hn hx
          obtain ⟨sva, rfl⟩ := bytes_svB hn.slice
          have HSOar_1_4_10 := Lib.hid (Off.behind (w0 := wr_1_10) hn.slice (fun k hk => newBytes_ownB hn k hk) HMr_1_10.out.blk.lt HMr_1_10.out.lt)
          have HYOnr_1_4_10 := Lib.hid (HYOnr_1_10.out.step (MkStep.of_below hx))
          have HRr_1_4_10 := Lib.hid (HRr_1_10.out.below hx)
          have HMr_1_4_10 := Lib.hid (HMr_1_10.out.below hx)
          have HXr_1_4_10 := Lib.hid (Agg.belowThen HXr_1_10.out (Nat.le_refl _) hx)
          clear hn hx
          refine ⟨HRr_1_4_10.out, ?_⟩
          try simp only [Act.put, List.setIfInBounds_toArray, List.set_cons_succ, List.set_cons_zero]
          refine Agg.held_ready [5] (by kernel_rfl) (by simp) ?_
          refine Agg.held_cons rfl ?_ ?_
          · refine Agg.step_slice1 (E := EBB) rfl _ rfl sva rfl ?_
            intro ysa wr_1_4_5_10 hys hx
            have HYOar_1_4_5_10 := Lib.hid (Off.behind (w0 := wr_1_4_10) hys.slice (fun k hk => (hys.block k hk).1) HMr_1_4_10.out.blk.lt HMr_1_4_10.out.lt)
            have HSOar_1_4_5_10 := Lib.hid (HSOar_1_4_10.out.step (MkStep.of_below hx))
            have HYOnr_1_4_5_10 := Lib.hid (HYOnr_1_4_10.out.step (MkStep.of_below hx))
            have HRr_1_4_5_10 := Lib.hid (HRr_1_4_10.out.below hx)
            have HMr_1_4_5_10 := Lib.hid (HMr_1_4_10.out.below hx)
            have HXr_1_4_5_10 := Lib.hid (Agg.belowThen HXr_1_4_10.out (Nat.le_refl _) hx)
            clear hys hx
            refine ⟨HRr_1_4_5_10.out, ?_⟩
            try simp only [Act.put, List.setIfInBounds_toArray, List.set_cons_succ, List.set_cons_zero]
            refine Agg.held_ready [6] (by kernel_rfl) (by simp) ?_
            refine Agg.held_cons rfl ?_ ?_
            · refine Agg.step_call rfl 46 _ _ rfl #[.pointer (some ⟨g, 0, none⟩), ysa] (by simp only [List.map_toArray, List.map_cons, List.map_nil]; rfl) (fun W => HET.out _ W) ?_
              refine (text_any g (.slice none 0 0) ysa sva (r.1) [] _ (by simp) (by omega) HYOar_1_4_5_10.out HSOar_1_4_5_10.out HMr_1_4_5_10.out).mono ?_
              rintro x wr_1_4_5_6_10 ⟨rfl, vr_6, hm, hs⟩
              have HMr_1_4_5_6_10 := Lib.hid hm
              have HYOnr_1_4_5_6_10 := Lib.hid (HYOnr_1_4_5_10.out.step hs)
              have HRr_1_4_5_6_10 := Lib.hid (mk_keeps HMr_1_4_5_10.out HRr_1_4_5_10.out (by decide) hs HNG0.out)
              have HXr_1_4_5_6_10 := Lib.hid (HXr_1_4_5_10.out.trans ((HMr_1_4_5_10.out.stepBelow hs).mono HG.out))
              clear hm hs
              refine ⟨_, rfl, ?_⟩
              refine ⟨HRr_1_4_5_6_10.out, ?_⟩
              try simp only [Act.put, List.setIfInBounds_toArray, List.set_cons_succ, List.set_cons_zero]
              refine Agg.held_ready [11] (by kernel_rfl) (by simp) ?_
              refine Agg.held_cons rfl ?_ ?_
              · refine Agg.step_call rfl 47 _ _ rfl #[.pointer (some ⟨g, 0, none⟩), ysn] (by simp only [List.map_toArray, List.map_cons, List.map_nil]; rfl) (fun W => HEN.out _ W) ?_
                refine (num_any g vr_6 ysn [r.2.1.length] ([] ++ (encN (r.1).length ++ r.1)) _ (by intro n hn; simp only [List.mem_cons, List.not_mem_nil, or_false] at hn; omega) (by simp) (by simp only [List.length_append, List.length_nil]; omega) HYOnr_1_4_5_6_10.out HMr_1_4_5_6_10.out).mono ?_
                rintro x wr_1_4_5_6_10_11 ⟨rfl, vr_11, hm, hs⟩
                have HMr_1_4_5_6_10_11 := Lib.hid hm
                have HRr_1_4_5_6_10_11 := Lib.hid (mk_keeps HMr_1_4_5_6_10.out HRr_1_4_5_6_10.out (by decide) hs HNG0.out)
                have HXr_1_4_5_6_10_11 := Lib.hid (HXr_1_4_5_6_10.out.trans ((HMr_1_4_5_6_10.out.stepBelow hs).mono HG.out))
                clear hm hs
                refine ⟨_, rfl, ?_⟩
                refine ⟨HRr_1_4_5_6_10_11.out, ?_⟩
                try simp only [Act.put, List.setIfInBounds_toArray, List.set_cons_succ, List.set_cons_zero]
                refine Agg.held_take 12 (.pointer (some ⟨g, 0, none⟩)) rfl (by kernel_rfl) (fun _ _ _ h => h) rfl (fun W _ => by kernel_rfl) (by assumption) ?_
                try simp only [Act.put, List.setIfInBounds_toArray, List.set_cons_succ, List.set_cons_zero]
                refine Agg.held_end (by kernel_rfl) ?_
                refine ⟨g, _, (by have := HMr_1_4_5_6_10_11.out; simpa [putHd] using this), HRr_1_4_5_6_10_11.out, HXr_1_4_5_6_10_11.out, HG.out, HNG0.out, ?_⟩
                simp only [Agg.ExPut, Act.put, List.setIfInBounds_toArray, List.set_cons_succ, List.set_cons_zero]
                exact ⟨_, _, _, _, _, _, _, _, _, _, _, _, rfl⟩
              exact AllReadyH.nil
            exact AllReadyH.nil
          exact AllReadyH.nil
        exact AllReadyH.nil
      exact AllReadyH.nil
    refine Agg.held_cons rfl ?_ ?_
    · refine step_toBytes rfl _ rfl (r.1) rfl ?_
      intro vr4 wr_4 hn hx
      obtain ⟨sva, rfl⟩ := bytes_svB hn.slice
      have HSOar_4 := Lib.hid hn.slice
      have HRr_4 := Lib.hid (HRr0.out.below hx)
      have HXr_4 := Lib.hid (Agg.belowThen HXr0.out (Nat.le_refl _) hx)
      clear hn hx
      refine ⟨HRr_4.out, ?_⟩
      try simp only [Act.put, List.setIfInBounds_toArray, List.set_cons_succ, List.set_cons_zero]
      refine Agg.held_ready [1, 5, 10] (by kernel_rfl) (by simp) ?_
      refine Agg.held_cons rfl ?_ ?_
      · refine Agg.step_box rfl 95 _ rfl (mkC (.slice none 0 0)) rfl ?_
        intro g wr_1_4 hb hx hg
        have HMr_1_4 := Lib.hid (⟨hb, Agg.Own.nil _ _ _⟩ : MkV g wr_1_4 (.slice none 0 0) [])
        have HSOar_1_4 := Lib.hid (Off.before (v := .slice none 0 0) (w0 := wr_4) (HSOar_4.out : SliceOf EB wr_4 _ _) hx hg (fun k hk => by simp [Value.ownBlock] at hk))
        have HRr_1_4 := Lib.hid (HRr_4.out.below hx)
        have HXr_1_4 := Lib.hid (Agg.belowThen HXr_4.out (Nat.le_refl _) hx)
        have HG := Lib.hid (Nat.le_trans HXr_4.out.size hg)
        have HNG0 := Lib.hid (show g1 ≠ g from fun e => (by have := HRr_4.out.lt; omega))
        clear hb hx hg
        refine ⟨HRr_1_4.out, ?_⟩
        try simp only [Act.put, List.setIfInBounds_toArray, List.set_cons_succ, List.set_cons_zero]
        refine Agg.held_ready [5, 10] (by kernel_rfl) (by simp) ?_
        refine Agg.held_cons rfl ?_ ?_
        · refine Agg.step_slice1 (E := EBB) rfl _ rfl sva rfl ?_
          intro ysa wr_1_4_5 hys hx
          have HYOar_1_4_5 := Lib.hid (Off.behind (w0 := wr_1_4) hys.slice (fun k hk => (hys.block k hk).1) HMr_1_4.out.blk.lt HMr_1_4.out.lt)
          have HSOar_1_4_5 := Lib.hid (HSOar_1_4.out.step (MkStep.of_below hx))
          have HRr_1_4_5 := Lib.hid (HRr_1_4.out.below hx)
          have HMr_1_4_5 := Lib.hid (HMr_1_4.out.below hx)
          have HXr_1_4_5 := Lib.hid (Agg.belowThen HXr_1_4.out (Nat.le_refl _) hx)
          clear hys hx
          refine ⟨HRr_1_4_5.out, ?_⟩
          try simp only [Act.put, List.setIfInBounds_toArray, List.set_cons_succ, List.set_cons_zero]
          refine Agg.held_ready [6, 10] (by kernel_rfl) (by simp) ?_
          refine Agg.held_cons rfl ?_ ?_
          · refine Agg.step_call rfl 46 _ _ rfl #[.pointer (some ⟨g, 0, none⟩), ysa] (by simp only [List.map_toArray, List.map_cons, List.map_nil]; rfl) (fun W => HET.out _ W) ?_
            refine (text_any g (.slice none 0 0) ysa sva (r.1) [] _ (by simp) (by omega) HYOar_1_4_5.out HSOar_1_4_5.out HMr_1_4_5.out).mono ?_
            rintro x wr_1_4_5_6 ⟨rfl, vr_6, hm, hs⟩
            have HMr_1_4_5_6 := Lib.hid hm
            have HRr_1_4_5_6 := Lib.hid (mk_keeps HMr_1_4_5.out HRr_1_4_5.out (by decide) hs HNG0.out)
            have HXr_1_4_5_6 := Lib.hid (HXr_1_4_5.out.trans ((HMr_1_4_5.out.stepBelow hs).mono HG.out))
            clear hm hs
            refine ⟨_, rfl, ?_⟩
            refine ⟨HRr_1_4_5_6.out, ?_⟩
            try simp only [Act.put, List.setIfInBounds_toArray, List.set_cons_succ, List.set_cons_zero]
            refine Agg.held_ready [10] (by kernel_rfl) (by simp) ?_
            refine Agg.held_cons rfl ?_ ?_
            · refine Agg.step_slice1 (E := EI) rfl _ rfl (r.2.1.length : Nat) rfl ?_
              intro ysn wr_1_4_5_6_10 hys hx
              have HYOnr_1_4_5_6_10 := Lib.hid (Off.behind (w0 := wr_1_4_5_6) hys.slice (fun k hk => (hys.block k hk).1) HMr_1_4_5_6.out.blk.lt HMr_1_4_5_6.out.lt)
              have HRr_1_4_5_6_10 := Lib.hid (HRr_1_4_5_6.out.below hx)
              have HMr_1_4_5_6_10 := Lib.hid (HMr_1_4_5_6.out.below hx)
              have HXr_1_4_5_6_10 := Lib.hid (Agg.belowThen HXr_1_4_5_6.out (Nat.le_refl _) hx)
              clear hys hx
              refine ⟨HRr_1_4_5_6_10.out, ?_⟩
              try simp only [Act.put, List.setIfInBounds_toArray, List.set_cons_succ, List.set_cons_zero]
              refine Agg.held_ready [11] (by kernel_rfl) (by simp) ?_
              refine Agg.held_cons rfl ?_ ?_
              · refine Agg.step_call rfl 47 _ _ rfl #[.pointer (some ⟨g, 0, none⟩), ysn] (by simp only [List.map_toArray, List.map_cons, List.map_nil]; rfl) (fun W => HEN.out _ W) ?_
                refine (num_any g vr_6 ysn [r.2.1.length] ([] ++ (encN (r.1).length ++ r.1)) _ (by intro n hn; simp only [List.mem_cons, List.not_mem_nil, or_false] at hn; omega) (by simp) (by simp only [List.length_append, List.length_nil]; omega) HYOnr_1_4_5_6_10.out HMr_1_4_5_6_10.out).mono ?_
                rintro x wr_1_4_5_6_10_11 ⟨rfl, vr_11, hm, hs⟩
                have HMr_1_4_5_6_10_11 := Lib.hid hm
                have HRr_1_4_5_6_10_11 := Lib.hid (mk_keeps HMr_1_4_5_6_10.out HRr_1_4_5_6_10.out (by decide) hs HNG0.out)
                have HXr_1_4_5_6_10_11 := Lib.hid (HXr_1_4_5_6_10.out.trans ((HMr_1_4_5_6_10.out.stepBelow hs).mono HG.out))
                clear hm hs
                refine ⟨_, rfl, ?_⟩
                refine ⟨HRr_1_4_5_6_10_11.out, ?_⟩
                try simp only [Act.put, List.setIfInBounds_toArray, List.set_cons_succ, List.set_cons_zero]
                refine Agg.held_take 12 (.pointer (some ⟨g, 0, none⟩)) rfl (by kernel_rfl) (fun _ _ _ h => h) rfl (fun W _ => by kernel_rfl) (by assumption) ?_
                try simp only [Act.put, List.setIfInBounds_toArray, List.set_cons_succ, List.set_cons_zero]
                refine Agg.held_end (by kernel_rfl) ?_
                refine ⟨g, _, (by have := HMr_1_4_5_6_10_11.out; simpa [putHd] using this), HRr_1_4_5_6_10_11.out, HXr_1_4_5_6_10_11.out, HG.out, HNG0.out, ?_⟩
                simp only [Agg.ExPut, Act.put, List.setIfInBounds_toArray, List.set_cons_succ, List.set_cons_zero]
                exact ⟨_, _, _, _, _, _, _, _, _, _, _, _, rfl⟩
              exact AllReadyH.nil
            exact AllReadyH.nil
          refine Agg.held_cons rfl ?_ ?_
          · refine Agg.step_slice1 (E := EI) rfl _ rfl (r.2.1.length : Nat) rfl ?_
            intro ysn wr_1_4_5_10 hys hx
            have HYOnr_1_4_5_10 := Lib.hid (Off.behind (w0 := wr_1_4_5) hys.slice (fun k hk => (hys.block k hk).1) HMr_1_4_5.out.blk.lt HMr_1_4_5.out.lt)
            have HSOar_1_4_5_10 := Lib.hid (HSOar_1_4_5.out.step (MkStep.of_below hx))
            have HYOar_1_4_5_10 := Lib.hid (HYOar_1_4_5.out.step (MkStep.of_below hx))
            have HRr_1_4_5_10 := Lib.hid (HRr_1_4_5.out.below hx)
            have HMr_1_4_5_10 := Lib.hid (HMr_1_4_5.out.below hx)
            have HXr_1_4_5_10 := Lib.hid (Agg.belowThen HXr_1_4_5.out (Nat.le_refl _) hx)
            clear hys hx
            refine ⟨HRr_1_4_5_10.out, ?_⟩
            try simp only [Act.put, List.setIfInBounds_toArray, List.set_cons_succ, List.set_cons_zero]
            refine Agg.held_ready [6] (by kernel_rfl) (by simp) ?_
            refine Agg.held_cons rfl ?_ ?_
            · refine Agg.step_call rfl 46 _ _ rfl #[.pointer (some ⟨g, 0, none⟩), ysa] (by simp only [List.map_toArray, List.map_cons, List.map_nil]; rfl) (fun W => HET.out _ W) ?_
              refine (text_any g (.slice none 0 0) ysa sva (r.1) [] _ (by simp) (by omega) HYOar_1_4_5_10.out HSOar_1_4_5_10.out HMr_1_4_5_10.out).mono ?_
              rintro x wr_1_4_5_6_10 ⟨rfl, vr_6, hm, hs⟩
              have HMr_1_4_5_6_10 := Lib.hid hm
              have HYOnr_1_4_5_6_10 := Lib.hid (HYOnr_1_4_5_10.out.step hs)
              have HRr_1_4_5_6_10 := Lib.hid (mk_keeps HMr_1_4_5_10.out HRr_1_4_5_10.out (by decide) hs HNG0.out)
              have HXr_1_4_5_6_10 := Lib.hid (HXr_1_4_5_10.out.trans ((HMr_1_4_5_10.out.stepBelow hs).mono HG.out))
              clear hm hs
              refine ⟨_, rfl, ?_⟩
              refine ⟨HRr_1_4_5_6_10.out, ?_⟩
              try simp only [Act.put, List.setIfInBounds_toArray, List.set_cons_succ, List.set_cons_zero]
              refine Agg.held_ready [11] (by kernel_rfl) (by simp) ?_
              refine Agg.held_cons rfl ?_ ?_
              · refine Agg.step_call rfl 47 _ _ rfl #[.pointer (some ⟨g, 0, none⟩), ysn] (by simp only [List.map_toArray, List.map_cons, List.map_nil]; rfl) (fun W => HEN.out _ W) ?_
                refine (num_any g vr_6 ysn [r.2.1.length] ([] ++ (encN (r.1).length ++ r.1)) _ (by intro n hn; simp only [List.mem_cons, List.not_mem_nil, or_false] at hn; omega) (by simp) (by simp only [List.length_append, List.length_nil]; omega) HYOnr_1_4_5_6_10.out HMr_1_4_5_6_10.out).mono ?_
                rintro x wr_1_4_5_6_10_11 ⟨rfl, vr_11, hm, hs⟩
                have HMr_1_4_5_6_10_11 := Lib.hid hm
                have HRr_1_4_5_6_10_11 := Lib.hid (mk_keeps HMr_1_4_5_6_10.out HRr_1_4_5_6_10.out (by decide) hs HNG0.out)
                have HXr_1_4_5_6_10_11 := Lib.hid (HXr_1_4_5_6_10.out.trans ((HMr_1_4_5_6_10.out.stepBelow hs).mono HG.out))
                clear hm hs
                refine ⟨_, rfl, ?_⟩
                refine ⟨HRr_1_4_5_6_10_11.out, ?_⟩
                try simp only [Act.put, List.setIfInBounds_toArray, List.set_cons_succ, List.set_cons_zero]
                refine Agg.held_take 12 (.pointer (some ⟨g, 0, none⟩)) rfl (by kernel_rfl) (fun _ _ _ h => h) rfl (fun W _ => by kernel_rfl) (by assumption) ?_
                try simp only [Act.put, List.setIfInBounds_toArray, List.set_cons_succ, List.set_cons_zero]
                refine Agg.held_end (by kernel_rfl) ?_
                refine ⟨g, _, (by have := HMr_1_4_5_6_10_11.out; simpa [putHd] using this), HRr_1_4_5_6_10_11.out, HXr_1_4_5_6_10_11.out, HG.out, HNG0.out, ?_⟩
                simp only [Agg.ExPut, Act.put, List.setIfInBounds_toArray, List.set_cons_succ, List.set_cons_zero]
                exact ⟨_, _, _, _, _, _, _, _, _, _, _, _, rfl⟩
              exact AllReadyH.nil
            exact AllReadyH.nil
          exact AllReadyH.nil
        refine Agg.held_cons rfl ?_ ?_
        · refine Agg.step_slice1 (E := EI) rfl _ rfl (r.2.1.length : Nat) rfl ?_
          intro ysn wr_1_4_10 hys hx
          have HYOnr_1_4_10 := Lib.hid (Off.behind (w0 := wr_1_4) hys.slice (fun k hk => (hys.block k hk).1) HMr_1_4.out.blk.lt HMr_1_4.out.lt)
          have HSOar_1_4_10 := Lib.hid (HSOar_1_4.out.step (MkStep.of_below hx))
          have HRr_1_4_10 := Lib.hid (HRr_1_4.out.below hx)
          have HMr_1_4_10 := Lib.hid (HMr_1_4.out.below hx)
          have HXr_1_4_10 := Lib.hid (Agg.belowThen HXr_1_4.out (Nat.le_refl _) hx)
          clear hys hx
          refine ⟨HRr_1_4_10.out, ?_⟩
          try simp only [Act.put, List.setIfInBounds_toArray, List.set_cons_succ, List.set_cons_zero]
          refine Agg.held_ready [5] (by kernel_rfl) (by simp) ?_
          refine Agg.held_cons rfl ?_ ?_
          · refine Agg.step_slice1 (E := EBB) rfl _ rfl sva rfl ?_
            intro ysa wr_1_4_5_10 hys hx
            have HYOar_1_4_5_10 := Lib.hid (Off.behind (w0 := wr_1_4_10) hys.slice (fun k hk => (hys.block k hk).1) HMr_1_4_10.out.blk.lt HMr_1_4_10.out.lt)
            have HSOar_1_4_5_10 := Lib.hid (HSOar_1_4_10.out.step (MkStep.of_below hx))
            have HYOnr_1_4_5_10 := Lib.hid (HYOnr_1_4_10.out.step (MkStep.of_below hx))
            have HRr_1_4_5_10 := Lib.hid (HRr_1_4_10.out.below hx)
            have HMr_1_4_5_10 := Lib.hid (HMr_1_4_10.out.below hx)
            have HXr_1_4_5_10 := Lib.hid (Agg.belowThen HXr_1_4_10.out (Nat.le_refl _) hx)
            clear hys hx
            refine ⟨HRr_1_4_5_10.out, ?_⟩
            try simp only [Act.put, List.setIfInBounds_toArray, List.set_cons_succ, List.set_cons_zero]
            refine Agg.held_ready [6] (by kernel_rfl) (by simp) ?_
            refine Agg.held_cons rfl ?_ ?_
            · refine Agg.step_call rfl 46 _ _ rfl #[.pointer (some ⟨g, 0, none⟩), ysa] (by simp only [List.map_toArray, List.map_cons, List.map_nil]; rfl) (fun W => HET.out _ W) ?_
              refine (text_any g (.slice none 0 0) ysa sva (r.1) [] _ (by simp) (by omega) HYOar_1_4_5_10.out HSOar_1_4_5_10.out HMr_1_4_5_10.out).mono ?_
              rintro x wr_1_4_5_6_10 ⟨rfl, vr_6, hm, hs⟩
              have HMr_1_4_5_6_10 := Lib.hid hm
              have HYOnr_1_4_5_6_10 := Lib.hid (HYOnr_1_4_5_10.out.step hs)
              have HRr_1_4_5_6_10 := Lib.hid (mk_keeps HMr_1_4_5_10.out HRr_1_4_5_10.out (by decide) hs HNG0.out)
              have HXr_1_4_5_6_10 := Lib.hid (HXr_1_4_5_10.out.trans ((HMr_1_4_5_10.out.stepBelow hs).mono HG.out))
              clear hm hs
              refine ⟨_, rfl, ?_⟩
              refine ⟨HRr_1_4_5_6_10.out, ?_⟩
              try simp only [Act.put, List.setIfInBounds_toArray, List.set_cons_succ, List.set_cons_zero]
              refine Agg.held_ready [11] (by kernel_rfl) (by simp) ?_
              refine Agg.held_cons rfl ?_ ?_
              · refine Agg.step_call rfl 47 _ _ rfl #[.pointer (some ⟨g, 0, none⟩), ysn] (by simp only [List.map_toArray, List.map_cons, List.map_nil]; rfl) (fun W => HEN.out _ W) ?_
                refine (num_any g vr_6 ysn [r.2.1.length] ([] ++ (encN (r.1).length ++ r.1)) _ (by intro n hn; simp only [List.mem_cons, List.not_mem_nil, or_false] at hn; omega) (by simp) (by simp only [List.length_append, List.length_nil]; omega) HYOnr_1_4_5_6_10.out HMr_1_4_5_6_10.out).mono ?_
                rintro x wr_1_4_5_6_10_11 ⟨rfl, vr_11, hm, hs⟩
                have HMr_1_4_5_6_10_11 := Lib.hid hm
                have HRr_1_4_5_6_10_11 := Lib.hid (mk_keeps HMr_1_4_5_6_10.out HRr_1_4_5_6_10.out (by decide) hs HNG0.out)
                have HXr_1_4_5_6_10_11 := Lib.hid (HXr_1_4_5_6_10.out.trans ((HMr_1_4_5_6_10.out.stepBelow hs).mono HG.out))
                clear hm hs
                refine ⟨_, rfl, ?_⟩
                refine ⟨HRr_1_4_5_6_10_11.out, ?_⟩
                try simp only [Act.put, List.setIfInBounds_toArray, List.set_cons_succ, List.set_cons_zero]
                refine Agg.held_take 12 (.pointer (some ⟨g, 0, none⟩)) rfl (by kernel_rfl) (fun _ _ _ h => h) rfl (fun W _ => by kernel_rfl) (by assumption) ?_
                try simp only [Act.put, List.setIfInBounds_toArray, List.set_cons_succ, List.set_cons_zero]
                refine Agg.held_end (by kernel_rfl) ?_
                refine ⟨g, _, (by have := HMr_1_4_5_6_10_11.out; simpa [putHd] using this), HRr_1_4_5_6_10_11.out, HXr_1_4_5_6_10_11.out, HG.out, HNG0.out, ?_⟩
                simp only [Agg.ExPut, Act.put, List.setIfInBounds_toArray, List.set_cons_succ, List.set_cons_zero]
                exact ⟨_, _, _, _, _, _, _, _, _, _, _, _, rfl⟩
              exact AllReadyH.nil
            exact AllReadyH.nil
          exact AllReadyH.nil
        exact AllReadyH.nil
      refine Agg.held_cons rfl ?_ ?_
      · refine Agg.step_slice1 (E := EBB) rfl _ rfl sva rfl ?_
        intro ysa wr_4_5 hys hx
        have HYOar_4_5 := Lib.hid hys.slice
        have HSOar_4_5 := Lib.hid (SliceOf.below HSOar_4.out hx)
        have HRr_4_5 := Lib.hid (HRr_4.out.below hx)
        have HXr_4_5 := Lib.hid (Agg.belowThen HXr_4.out (Nat.le_refl _) hx)
        clear hys hx
        refine ⟨HRr_4_5.out, ?_⟩
        try simp only [Act.put, List.setIfInBounds_toArray, List.set_cons_succ, List.set_cons_zero]
        refine Agg.held_ready [1, 10] (by kernel_rfl) (by simp) ?_
        refine Agg.held_cons rfl ?_ ?_
        · refine Agg.step_box rfl 95 _ rfl (mkC (.slice none 0 0)) rfl ?_
          intro g wr_1_4_5 hb hx hg
          have HMr_1_4_5 := Lib.hid (⟨hb, Agg.Own.nil _ _ _⟩ : MkV g wr_1_4_5 (.slice none 0 0) [])
          have HSOar_1_4_5 := Lib.hid (Off.before (v := .slice none 0 0) (w0 := wr_4_5) (HSOar_4_5.out : SliceOf EB wr_4_5 _ _) hx hg (fun k hk => by simp [Value.ownBlock] at hk))
          have HYOar_1_4_5 := Lib.hid (Off.before (v := .slice none 0 0) (w0 := wr_4_5) (HYOar_4_5.out : SliceOf EBB wr_4_5 _ _) hx hg (fun k hk => by simp [Value.ownBlock] at hk))
          have HRr_1_4_5 := Lib.hid (HRr_4_5.out.below hx)
          have HXr_1_4_5 := Lib.hid (Agg.belowThen HXr_4_5.out (Nat.le_refl _) hx)
          have HG := Lib.hid (Nat.le_trans HXr_4_5.out.size hg)
          have HNG0 := Lib.hid (show g1 ≠ g from fun e => (by have := HRr_4_5.out.lt; omega))
          clear hb hx hg
          refine ⟨HRr_1_4_5.out, ?_⟩
          try simp only [Act.put, List.setIfInBounds_toArray, List.set_cons_succ, List.set_cons_zero]
          refine Agg.held_ready [6, 10] (by kernel_rfl) (by simp) ?_
          refine Agg.held_cons rfl ?_ ?_
          · refine Agg.step_call rfl 46 _ _ rfl #[.pointer (some ⟨g, 0, none⟩), ysa] (by simp only [List.map_toArray, List.map_cons, List.map_nil]; rfl) (fun W => HET.out _ W) ?_
            refine (text_any g (.slice none 0 0) ysa sva (r.1) [] _ (by simp) (by omega) HYOar_1_4_5.out HSOar_1_4_5.out HMr_1_4_5.out).mono ?_
            rintro x wr_1_4_5_6 ⟨rfl, vr_6, hm, hs⟩
            have HMr_1_4_5_6 := Lib.hid hm
            have HRr_1_4_5_6 := Lib.hid (mk_keeps HMr_1_4_5.out HRr_1_4_5.out (by decide) hs HNG0.out)
            have HXr_1_4_5_6 := Lib.hid (HXr_1_4_5.out.trans ((HMr_1_4_5.out.stepBelow hs).mono HG.out))
            clear hm hs
            refine ⟨_, rfl, ?_⟩
            refine ⟨HRr_1_4_5_6.out, ?_⟩
            try simp only [Act.put, List.setIfInBounds_toArray, List.set_cons_succ, List.set_cons_zero]
            refine Agg.held_ready [10] (by kernel_rfl) (by simp) ?_
            refine Agg.held_cons rfl ?_ ?_
            · refine Agg.step_slice1 (E := EI) rfl _ rfl (r.2.1.length : Nat) rfl ?_
              intro ysn wr_1_4_5_6_10 hys hx
              have HYOnr_1_4_5_6_10 := Lib.hid (Off.behind (w0 := wr_1_4_5_6) hys.slice (fun k hk => (hys.block k hk).1) HMr_1_4_5_6.out.blk.lt HMr_1_4_5_6.out.lt)
              have HRr_1_4_5_6_10 := Lib.hid (HRr_1_4_5_6.out.below hx)
              have HMr_1_4_5_6_10 := Lib.hid (HMr_1_4_5_6.out.below hx)
              have HXr_1_4_5_6_10 := Lib.hid (Agg.belowThen HXr_1_4_5_6.out (Nat.le_refl _) hx)
              clear hys hx
              refine ⟨HRr_1_4_5_6_10.out, ?_⟩
              try simp only [Act.put, List.setIfInBounds_toArray, List.set_cons_succ, List.set_cons_zero]
              refine Agg.held_ready [11] (by kernel_rfl) (by simp) ?_
              refine Agg.held_cons rfl ?_ ?_
              · refine Agg.step_call rfl 47 _ _ rfl #[.pointer (some ⟨g, 0, none⟩), ysn] (by simp only [List.map_toArray, List.map_cons, List.map_nil]; rfl) (fun W => HEN.out _ W) ?_
                refine (num_any g vr_6 ysn [r.2.1.length] ([] ++ (encN (r.1).length ++ r.1)) _ (by intro n hn; simp only [List.mem_cons, List.not_mem_nil, or_false] at hn; omega) (by simp) (by simp only [List.length_append, List.length_nil]; omega) HYOnr_1_4_5_6_10.out HMr_1_4_5_6_10.out).mono ?_
                rintro x wr_1_4_5_6_10_11 ⟨rfl, vr_11, hm, hs⟩
                have HMr_1_4_5_6_10_11 := Lib.hid hm
                have HRr_1_4_5_6_10_11 := Lib.hid (mk_keeps HMr_1_4_5_6_10.out HRr_1_4_5_6_10.out (by decide) hs HNG0.out)
                have HXr_1_4_5_6_10_11 := Lib.hid (HXr_1_4_5_6_10.out.trans ((HMr_1_4_5_6_10.out.stepBelow hs).mono HG.out))
                clear hm hs
                refine ⟨_, rfl, ?_⟩
                refine ⟨HRr_1_4_5_6_10_11.out, ?_⟩
                try simp only [Act.put, List.setIfInBounds_toArray, List.set_cons_succ, List.set_cons_zero]
                refine Agg.held_take 12 (.pointer (some ⟨g, 0, none⟩)) rfl (by kernel_rfl) (fun _ _ _ h => h) rfl (fun W _ => by kernel_rfl) (by assumption) ?_
                try simp only [Act.put, List.setIfInBounds_toArray, List.set_cons_succ, List.set_cons_zero]
                refine Agg.held_end (by kernel_rfl) ?_
                refine ⟨g, _, (by have := HMr_1_4_5_6_10_11.out; simpa [putHd] using this), HRr_1_4_5_6_10_11.out, HXr_1_4_5_6_10_11.out, HG.out, HNG0.out, ?_⟩
                simp only [Agg.ExPut, Act.put, List.setIfInBounds_toArray, List.set_cons_succ, List.set_cons_zero]
                exact ⟨_, _, _, _, _, _, _, _, _, _, _, _, rfl⟩
              exact AllReadyH.nil
            exact AllReadyH.nil
          refine Agg.held_cons rfl ?_ ?_
          · refine Agg.step_slice1 (E := EI) rfl _ rfl (r.2.1.length : Nat) rfl ?_
            intro ysn wr_1_4_5_10 hys hx
            have HYOnr_1_4_5_10 := Lib.hid (Off.behind (w0 := wr_1_4_5) hys.slice (fun k hk => (hys.block k hk).1) HMr_1_4_5.out.blk.lt HMr_1_4_5.out.lt)
            have HSOar_1_4_5_10 := Lib.hid (HSOar_1_4_5.out.step (MkStep.of_below hx))
            have HYOar_1_4_5_10 := Lib.hid (HYOar_1_4_5.out.step (MkStep.of_below hx))
            have HRr_1_4_5_10 := Lib.hid (HRr_1_4_5.out.below hx)
            have HMr_1_4_5_10 := Lib.hid (HMr_1_4_5.out.below hx)
            have HXr_1_4_5_10 := Lib.hid (Agg.belowThen HXr_1_4_5.out (Nat.le_refl _) hx)
            clear hys hx
            refine ⟨HRr_1_4_5_10.out, ?_⟩
            try simp only [Act.put, List.setIfInBounds_toArray, List.set_cons_succ, List.set_cons_zero]
            refine Agg.held_ready [6] (by kernel_rfl) (by simp) ?_
            refine Agg.held_cons rfl ?_ ?_
            · refine Agg.step_call rfl 46 _ _ rfl #[.pointer (some ⟨g, 0, none⟩), ysa] (by simp only [List.map_toArray, List.map_cons, List.map_nil]; rfl) (fun W => HET.out _ W) ?_
              refine (text_any g (.slice none 0 0) ysa sva (r.1) [] _ (by simp) (by omega) HYOar_1_4_5_10.out HSOar_1_4_5_10.out HMr_1_4_5_10.out).mono ?_
              rintro x wr_1_4_5_6_10 ⟨rfl, vr_6, hm, hs⟩
              have HMr_1_4_5_6_10 := Lib.hid hm
              have HYOnr_1_4_5_6_10 := Lib.hid (HYOnr_1_4_5_10.out.step hs)
              have HRr_1_4_5_6_10 := Lib.hid (mk_keeps HMr_1_4_5_10.out HRr_1_4_5_10.out (by decide) hs HNG0.out)
              have HXr_1_4_5_6_10 := Lib.hid (HXr_1_4_5_10.out.trans ((HMr_1_4_5_10.out.stepBelow hs).mono HG.out))
              clear hm hs
              refine ⟨_, rfl, ?_⟩
              refine ⟨HRr_1_4_5_6_10.out, ?_⟩
              try simp only [Act.put, List.setIfInBounds_toArray, List.set_cons_succ, List.set_cons_zero]
              refine Agg.held_ready [11] (by kernel_rfl) (by simp) ?_
              refine Agg.held_cons rfl ?_ ?_
              · refine Agg.step_call rfl 47 _ _ rfl #[.pointer (some ⟨g, 0, none⟩), ysn] (by simp only [List.map_toArray, List.map_cons, List.map_nil]; rfl) (fun W => HEN.out _ W) ?_
                refine (num_any g vr_6 ysn [r.2.1.length] ([] ++ (encN (r.1).length ++ r.1)) _ (by intro n hn; simp only [List.mem_cons, List.not_mem_nil, or_false] at hn; omega) (by simp) (by simp only [List.length_append, List.length_nil]; omega) HYOnr_1_4_5_6_10.out HMr_1_4_5_6_10.out).mono ?_
                rintro x wr_1_4_5_6_10_11 ⟨rfl, vr_11, hm, hs⟩
                have HMr_1_4_5_6_10_11 := Lib.hid hm
                have HRr_1_4_5_6_10_11 := Lib.hid (mk_keeps HMr_1_4_5_6_10.out HRr_1_4_5_6_10.out (by decide) hs HNG0.out)
                have HXr_1_4_5_6_10_11 := Lib.hid (HXr_1_4_5_6_10.out.trans ((HMr_1_4_5_6_10.out.stepBelow hs).mono HG.out))
                clear hm hs
                refine ⟨_, rfl, ?_⟩
                refine ⟨HRr_1_4_5_6_10_11.out, ?_⟩
                try simp only [Act.put, List.setIfInBounds_toArray, List.set_cons_succ, List.set_cons_zero]
                refine Agg.held_take 12 (.pointer (some ⟨g, 0, none⟩)) rfl (by kernel_rfl) (fun _ _ _ h => h) rfl (fun W _ => by kernel_rfl) (by assumption) ?_
                try simp only [Act.put, List.setIfInBounds_toArray, List.set_cons_succ, List.set_cons_zero]
                refine Agg.held_end (by kernel_rfl) ?_
                refine ⟨g, _, (by have := HMr_1_4_5_6_10_11.out; simpa [putHd] using this), HRr_1_4_5_6_10_11.out, HXr_1_4_5_6_10_11.out, HG.out, HNG0.out, ?_⟩
                simp only [Agg.ExPut, Act.put, List.setIfInBounds_toArray, List.set_cons_succ, List.set_cons_zero]
                exact ⟨_, _, _, _, _, _, _, _, _, _, _, _, rfl⟩
              exact AllReadyH.nil
            exact AllReadyH.nil
          exact AllReadyH.nil
        refine Agg.held_cons rfl ?_ ?_
        · refine Agg.step_slice1 (E := EI) rfl _ rfl (r.2.1.length : Nat) rfl ?_
          intro ysn wr_4_5_10 hys hx
          have HYOnr_4_5_10 := Lib.hid hys.slice
          have HSOar_4_5_10 := Lib.hid (SliceOf.below HSOar_4_5.out hx)
          have HYOar_4_5_10 := Lib.hid (SliceOf.below HYOar_4_5.out hx)
          have HRr_4_5_10 := Lib.hid (HRr_4_5.out.below hx)
          have HXr_4_5_10 := Lib.hid (Agg.belowThen HXr_4_5.out (Nat.le_refl _) hx)
          clear hys hx
          refine ⟨HRr_4_5_10.out, ?_⟩
          try simp only [Act.put, List.setIfInBounds_toArray, List.set_cons_succ, List.set_cons_zero]
          refine Agg.held_ready [1] (by kernel_rfl) (by simp) ?_
          refine Agg.held_cons rfl ?_ ?_
          · refine Agg.step_box rfl 95 _ rfl (mkC (.slice none 0 0)) rfl ?_
            intro g wr_1_4_5_10 hb hx hg
            have HMr_1_4_5_10 := Lib.hid (⟨hb, Agg.Own.nil _ _ _⟩ : MkV g wr_1_4_5_10 (.slice none 0 0) [])
            have HSOar_1_4_5_10 := Lib.hid (Off.before (v := .slice none 0 0) (w0 := wr_4_5_10) (HSOar_4_5_10.out : SliceOf EB wr_4_5_10 _ _) hx hg (fun k hk => by simp [Value.ownBlock] at hk))
            have HYOar_1_4_5_10 := Lib.hid (Off.before (v := .slice none 0 0) (w0 := wr_4_5_10) (HYOar_4_5_10.out : SliceOf EBB wr_4_5_10 _ _) hx hg (fun k hk => by simp [Value.ownBlock] at hk))
            have HYOnr_1_4_5_10 := Lib.hid (Off.before (v := .slice none 0 0) (w0 := wr_4_5_10) (HYOnr_4_5_10.out : SliceOf EI wr_4_5_10 _ _) hx hg (fun k hk => by simp [Value.ownBlock] at hk))
            have HRr_1_4_5_10 := Lib.hid (HRr_4_5_10.out.below hx)
            have HXr_1_4_5_10 := Lib.hid (Agg.belowThen HXr_4_5_10.out (Nat.le_refl _) hx)
            have HG := Lib.hid (Nat.le_trans HXr_4_5_10.out.size hg)
            have HNG0 := Lib.hid (show g1 ≠ g from fun e => (by have := HRr_4_5_10.out.lt; omega))
            clear hb hx hg
            refine ⟨HRr_1_4_5_10.out, ?_⟩
            try simp only [Act.put, List.setIfInBounds_toArray, List.set_cons_succ, List.set_cons_zero]
            refine Agg.held_ready [6] (by kernel_rfl) (by simp) ?_
            refine Agg.held_cons rfl ?_ ?_
            · refine Agg.step_call rfl 46 _ _ rfl #[.pointer (some ⟨g, 0, none⟩), ysa] (by simp only [List.map_toArray, List.map_cons, List.map_nil]; rfl) (fun W => HET.out _ W) ?_
              refine (text_any g (.slice none 0 0) ysa sva (r.1) [] _ (by simp) (by omega) HYOar_1_4_5_10.out HSOar_1_4_5_10.out HMr_1_4_5_10.out).mono ?_
              rintro x wr_1_4_5_6_10 ⟨rfl, vr_6, hm, hs⟩
              have HMr_1_4_5_6_10 := Lib.hid hm
              have HYOnr_1_4_5_6_10 := Lib.hid (HYOnr_1_4_5_10.out.step hs)
              have HRr_1_4_5_6_10 := Lib.hid (mk_keeps HMr_1_4_5_10.out HRr_1_4_5_10.out (by decide) hs HNG0.out)
              have HXr_1_4_5_6_10 := Lib.hid (HXr_1_4_5_10.out.trans ((HMr_1_4_5_10.out.stepBelow hs).mono HG.out))
              clear hm hs
              refine ⟨_, rfl, ?_⟩
              refine ⟨HRr_1_4_5_6_10.out, ?_⟩
              try simp only [Act.put, List.setIfInBounds_toArray, List.set_cons_succ, List.set_cons_zero]
              refine Agg.held_ready [11] (by kernel_rfl) (by simp) ?_
              refine Agg.held_cons rfl ?_ ?_
              · refine Agg.step_call rfl 47 _ _ rfl #[.pointer (some ⟨g, 0, none⟩), ysn] (by simp only [List.map_toArray, List.map_cons, List.map_nil]; rfl) (fun W => HEN.out _ W) ?_
                refine (num_any g vr_6 ysn [r.2.1.length] ([] ++ (encN (r.1).length ++ r.1)) _ (by intro n hn; simp only [List.mem_cons, List.not_mem_nil, or_false] at hn; omega) (by simp) (by simp only [List.length_append, List.length_nil]; omega) HYOnr_1_4_5_6_10.out HMr_1_4_5_6_10.out).mono ?_
                rintro x wr_1_4_5_6_10_11 ⟨rfl, vr_11, hm, hs⟩
                have HMr_1_4_5_6_10_11 := Lib.hid hm
                have HRr_1_4_5_6_10_11 := Lib.hid (mk_keeps HMr_1_4_5_6_10.out HRr_1_4_5_6_10.out (by decide) hs HNG0.out)
                have HXr_1_4_5_6_10_11 := Lib.hid (HXr_1_4_5_6_10.out.trans ((HMr_1_4_5_6_10.out.stepBelow hs).mono HG.out))
                clear hm hs
                refine ⟨_, rfl, ?_⟩
                refine ⟨HRr_1_4_5_6_10_11.out, ?_⟩
                try simp only [Act.put, List.setIfInBounds_toArray, List.set_cons_succ, List.set_cons_zero]
                refine Agg.held_take 12 (.pointer (some ⟨g, 0, none⟩)) rfl (by kernel_rfl) (fun _ _ _ h => h) rfl (fun W _ => by kernel_rfl) (by assumption) ?_
                try simp only [Act.put, List.setIfInBounds_toArray, List.set_cons_succ, List.set_cons_zero]
                refine Agg.held_end (by kernel_rfl) ?_
                refine ⟨g, _, (by have := HMr_1_4_5_6_10_11.out; simpa [putHd] using this), HRr_1_4_5_6_10_11.out, HXr_1_4_5_6_10_11.out, HG.out, HNG0.out, ?_⟩
                simp only [Agg.ExPut, Act.put, List.setIfInBounds_toArray, List.set_cons_succ, List.set_cons_zero]
                exact ⟨_, _, _, _, _, _, _, _, _, _, _, _, rfl⟩
              exact AllReadyH.nil
            exact AllReadyH.nil
          exact AllReadyH.nil
        exact AllReadyH.nil
      refine Agg.held_cons rfl ?_ ?_
      · refine Agg.step_slice1 (E := EI) rfl _ rfl (r.2.1.length : Nat) rfl ?_
        intro ysn wr_4_10 hys hx
        have HYOnr_4_10 := Lib.hid hys.slice
        have HSOar_4_10 := Lib.hid (SliceOf.below HSOar_4.out hx)
        have HRr_4_10 := Lib.hid (HRr_4.out.below hx)
        have HXr_4_10 := Lib.hid (Agg.belowThen HXr_4.out (Nat.le_refl _) hx)
        clear hys hx
        refine ⟨HRr_4_10.out, ?_⟩
        try simp only [Act.put, List.setIfInBounds_toArray, List.set_cons_succ, List.set_cons_zero]
        refine Agg.held_ready [1, 5] (by kernel_rfl) (by simp) ?_
        refine Agg.held_cons rfl ?_ ?_
        · refine Agg.step_box rfl 95 _ rfl (mkC (.slice none 0 0)) rfl ?_
          intro g wr_1_4_10 hb hx hg
          have HMr_1_4_10 := Lib.hid (⟨hb, Agg.Own.nil _ _ _⟩ : MkV g wr_1_4_10 (.slice none 0 0) [])
          have HSOar_1_4_10 := Lib.hid (Off.before (v := .slice none 0 0) (w0 := wr_4_10) (HSOar_4_10.out : SliceOf EB wr_4_10 _ _) hx hg (fun k hk => by simp [Value.ownBlock] at hk))
          have HYOnr_1_4_10 := Lib.hid (Off.before (v := .slice none 0 0) (w0 := wr_4_10) (HYOnr_4_10.out : SliceOf EI wr_4_10 _ _) hx hg (fun k hk => by simp [Value.ownBlock] at hk))
          have HRr_1_4_10 := Lib.hid (HRr_4_10.out.below hx)
          have HXr_1_4_10 := Lib.hid (Agg.belowThen HXr_4_10.out (Nat.le_refl _) hx)
          have HG := Lib.hid (Nat.le_trans HXr_4_10.out.size hg)
          have HNG0 := Lib.hid (show g1 ≠ g from fun e => (by have := HRr_4_10.out.lt; omega))
          clear hb hx hg
          refine ⟨HRr_1_4_10.out, ?_⟩
          try simp only [Act.put, List.setIfInBounds_toArray, List.set_cons_succ, List.set_cons_zero]
          refine Agg.held_ready [5] (by kernel_rfl) (by simp) ?_
          refine Agg.held_cons rfl ?_ ?_
          · refine Agg.step_slice1 (E := EBB) rfl _ rfl sva rfl ?_
            intro ysa wr_1_4_5_10 hys hx
            have HYOar_1_4_5_10 := Lib.hid (Off.behind (w0 := wr_1_4_10) hys.slice (fun k hk => (hys.block k hk).1) HMr_1_4_10.out.blk.lt HMr_1_4_10.out.lt)
            have HSOar_1_4_5_10 := Lib.hid (HSOar_1_4_10.out.step (MkStep.of_below hx))
            have HYOnr_1_4_5_10 := Lib.hid (HYOnr_1_4_10.out.step (MkStep.of_below hx))
            have HRr_1_4_5_10 := Lib.hid (HRr_1_4_10.out.below hx)
            have HMr_1_4_5_10 := Lib.hid (HMr_1_4_10.out.below hx)
            have HXr_1_4_5_10 := Lib.hid (Agg.belowThen HXr_1_4_10.out (Nat.le_refl _) hx)
            clear hys hx
            refine ⟨HRr_1_4_5_10.out, ?_⟩
            try simp only [Act.put, List.setIfInBounds_toArray, List.set_cons_succ, List.set_cons_zero]
            refine Agg.held_ready [6] (by kernel_rfl) (by simp) ?_
            refine Agg.held_cons rfl ?_ ?_
            · refine Agg.step_call rfl 46 _ _ rfl #[.pointer (some ⟨g, 0, none⟩), ysa] (by simp only [List.map_toArray, List.map_cons, List.map_nil]; rfl) (fun W => HET.out _ W) ?_
              refine (text_any g (.slice none 0 0) ysa sva (r.1) [] _ (by simp) (by omega) HYOar_1_4_5_10.out HSOar_1_4_5_10.out HMr_1_4_5_10.out).mono ?_
              rintro x wr_1_4_5_6_10 ⟨rfl, vr_6, hm, hs⟩
              have HMr_1_4_5_6_10 := Lib.hid hm
              have HYOnr_1_4_5_6_10 := Lib.hid (HYOnr_1_4_5_10.out.step hs)
              have HRr_1_4_5_6_10 := Lib.hid (mk_keeps HMr_1_4_5_10.out HRr_1_4_5_10.out (by decide) hs HNG0.out)
              have HXr_1_4_5_6_10 := Lib.hid (HXr_1_4_5_10.out.trans ((HMr_1_4_5_10.out.stepBelow hs).mono HG.out))
              clear hm hs
              refine ⟨_, rfl, ?_⟩
              refine ⟨HRr_1_4_5_6_10.out, ?_⟩
              try simp only [Act.put, List.setIfInBounds_toArray, List.set_cons_succ, List.set_cons_zero]
              refine Agg.held_ready [11] (by kernel_rfl) (by simp) ?_
              refine Agg.held_cons rfl ?_ ?_
              · refine Agg.step_call rfl 47 _ _ rfl #[.pointer (some ⟨g, 0, none⟩), ysn] (by simp only [List.map_toArray, List.map_cons, List.map_nil]; rfl) (fun W => HEN.out _ W) ?_
                refine (num_any g vr_6 ysn [r.2.1.length] ([] ++ (encN (r.1).length ++ r.1)) _ (by intro n hn; simp only [List.mem_cons, List.not_mem_nil, or_false] at hn; omega) (by simp) (by simp only [List.length_append, List.length_nil]; omega) HYOnr_1_4_5_6_10.out HMr_1_4_5_6_10.out).mono ?_
                rintro x wr_1_4_5_6_10_11 ⟨rfl, vr_11, hm, hs⟩
                have HMr_1_4_5_6_10_11 := Lib.hid hm
                have HRr_1_4_5_6_10_11 := Lib.hid (mk_keeps HMr_1_4_5_6_10.out HRr_1_4_5_6_10.out (by decide) hs HNG0.out)
                have HXr_1_4_5_6_10_11 := Lib.hid (HXr_1_4_5_6_10.out.trans ((HMr_1_4_5_6_10.out.stepBelow hs).mono HG.out))
                clear hm hs
                refine ⟨_, rfl, ?_⟩
                refine ⟨HRr_1_4_5_6_10_11.out, ?_⟩
                try simp only [Act.put, List.setIfInBounds_toArray, List.set_cons_succ, List.set_cons_zero]
                refine Agg.held_take 12 (.pointer (some ⟨g, 0, none⟩)) rfl (by kernel_rfl) (fun _ _ _ h => h) rfl (fun W _ => by kernel_rfl) (by assumption) ?_
                try simp only [Act.put, List.setIfInBounds_toArray, List.set_cons_succ, List.set_cons_zero]
                refine Agg.held_end (by kernel_rfl) ?_
                refine ⟨g, _, (by have := HMr_1_4_5_6_10_11.out; simpa [putHd] using this), HRr_1_4_5_6_10_11.out, HXr_1_4_5_6_10_11.out, HG.out, HNG0.out, ?_⟩
                simp only [Agg.ExPut, Act.put, List.setIfInBounds_toArray, List.set_cons_succ, List.set_cons_zero]
                exact ⟨_, _, _, _, _, _, _, _, _, _, _, _, rfl⟩
              exact AllReadyH.nil
            exact AllReadyH.nil
          exact AllReadyH.nil
        refine Agg.held_cons rfl ?_ ?_
        · refine Agg.step_slice1 (E := EBB) rfl _ rfl sva rfl ?_
          intro ysa wr_4_5_10 hys hx
          have HYOar_4_5_10 := Lib.hid hys.slice
          have HSOar_4_5_10 := Lib.hid (SliceOf.below HSOar_4_10.out hx)
          have HYOnr_4_5_10 := Lib.hid (SliceOf.below HYOnr_4_10.out hx)
          have HRr_4_5_10 := Lib.hid (HRr_4_10.out.below hx)
          have HXr_4_5_10 := Lib.hid (Agg.belowThen HXr_4_10.out (Nat.le_refl _) hx)
          clear hys hx
          refine ⟨HRr_4_5_10.out, ?_⟩
          try simp only [Act.put, List.setIfInBounds_toArray, List.set_cons_succ, List.set_cons_zero]
          refine Agg.held_ready [1] (by kernel_rfl) (by simp) ?_
          refine Agg.held_cons rfl ?_ ?_
          · refine Agg.step_box rfl 95 _ rfl (mkC (.slice none 0 0)) rfl ?_
            intro g wr_1_4_5_10 hb hx hg
            have HMr_1_4_5_10 := Lib.hid (⟨hb, Agg.Own.nil _ _ _⟩ : MkV g wr_1_4_5_10 (.slice none 0 0) [])
            have HSOar_1_4_5_10 := Lib.hid (Off.before (v := .slice none 0 0) (w0 := wr_4_5_10) (HSOar_4_5_10.out : SliceOf EB wr_4_5_10 _ _) hx hg (fun k hk => by simp [Value.ownBlock] at hk))
            have HYOar_1_4_5_10 := Lib.hid (Off.before (v := .slice none 0 0) (w0 := wr_4_5_10) (HYOar_4_5_10.out : SliceOf EBB wr_4_5_10 _ _) hx hg (fun k hk => by simp [Value.ownBlock] at hk))
            have HYOnr_1_4_5_10 := Lib.hid (Off.before (v := .slice none 0 0) (w0 := wr_4_5_10) (HYOnr_4_5_10.out : SliceOf EI wr_4_5_10 _ _) hx hg (fun k hk => by simp [Value.ownBlock] at hk))
            have HRr_1_4_5_10 := Lib.hid (HRr_4_5_10.out.below hx)
            have HXr_1_4_5_10 := Lib.hid (Agg.belowThen HXr_4_5_10.out (Nat.le_refl _) hx)
            have HG := Lib.hid (Nat.le_trans HXr_4_5_10.out.size hg)
            have HNG0 := Lib.hid (show g1 ≠ g from fun e => (by have := HRr_4_5_10.out.lt; omega))
            clear hb hx hg
            refine ⟨HRr_1_4_5_10.out, ?_⟩
            try simp only [Act.put, List.setIfInBounds_toArray, List.set_cons_succ, List.set_cons_zero]
            refine Agg.held_ready [6] (by kernel_rfl) (by simp) ?_
            refine Agg.held_cons rfl ?_ ?_
            · refine Agg.step_call rfl 46 _ _ rfl #[.pointer (some ⟨g, 0, none⟩), ysa] (by simp only [List.map_toArray, List.map_cons, List.map_nil]; rfl) (fun W => HET.out _ W) ?_
              refine (text_any g (.slice none 0 0) ysa sva (r.1) [] _ (by simp) (by omega) HYOar_1_4_5_10.out HSOar_1_4_5_10.out HMr_1_4_5_10.out).mono ?_
              rintro x wr_1_4_5_6_10 ⟨rfl, vr_6, hm, hs⟩
              have HMr_1_4_5_6_10 := Lib.hid hm
              have HYOnr_1_4_5_6_10 := Lib.hid (HYOnr_1_4_5_10.out.step hs)
              have HRr_1_4_5_6_10 := Lib.hid (mk_keeps HMr_1_4_5_10.out HRr_1_4_5_10.out (by decide) hs HNG0.out)
              have HXr_1_4_5_6_10 := Lib.hid (HXr_1_4_5_10.out.trans ((HMr_1_4_5_10.out.stepBelow hs).mono HG.out))
              clear hm hs
              refine ⟨_, rfl, ?_⟩
              refine ⟨HRr_1_4_5_6_10.out, ?_⟩
              try simp only [Act.put, List.setIfInBounds_toArray, List.set_cons_succ, List.set_cons_zero]
              refine Agg.held_ready [11] (by kernel_rfl) (by simp) ?_
              refine Agg.held_cons rfl ?_ ?_
              · refine Agg.step_call rfl 47 _ _ rfl #[.pointer (some ⟨g, 0, none⟩), ysn] (by simp only [List.map_toArray, List.map_cons, List.map_nil]; rfl) (fun W => HEN.out _ W) ?_
                refine (num_any g vr_6 ysn [r.2.1.length] ([] ++ (encN (r.1).length ++ r.1)) _ (by intro n hn; simp only [List.mem_cons, List.not_mem_nil, or_false] at hn; omega) (by simp) (by simp only [List.length_append, List.length_nil]; omega) HYOnr_1_4_5_6_10.out HMr_1_4_5_6_10.out).mono ?_
                rintro x wr_1_4_5_6_10_11 ⟨rfl, vr_11, hm, hs⟩
                have HMr_1_4_5_6_10_11 := Lib.hid hm
                have HRr_1_4_5_6_10_11 := Lib.hid (mk_keeps HMr_1_4_5_6_10.out HRr_1_4_5_6_10.out (by decide) hs HNG0.out)
                have HXr_1_4_5_6_10_11 := Lib.hid (HXr_1_4_5_6_10.out.trans ((HMr_1_4_5_6_10.out.stepBelow hs).mono HG.out))
                clear hm hs
                refine ⟨_, rfl, ?_⟩
                refine ⟨HRr_1_4_5_6_10_11.out, ?_⟩
                try simp only [Act.put, List.setIfInBounds_toArray, List.set_cons_succ, List.set_cons_zero]
                refine Agg.held_take 12 (.pointer (some ⟨g, 0, none⟩)) rfl (by kernel_rfl) (fun _ _ _ h => h) rfl (fun W _ => by kernel_rfl) (by assumption) ?_
                try simp only [Act.put, List.setIfInBounds_toArray, List.set_cons_succ, List.set_cons_zero]
                refine Agg.held_end (by kernel_rfl) ?_
                refine ⟨g, _, (by have := HMr_1_4_5_6_10_11.out; simpa [putHd] using this), HRr_1_4_5_6_10_11.out, HXr_1_4_5_6_10_11.out, HG.out, HNG0.out, ?_⟩
                simp only [Agg.ExPut, Act.put, List.setIfInBounds_toArray, List.set_cons_succ, List.set_cons_zero]
                exact ⟨_, _, _, _, _, _, _, _, _, _, _, _, rfl⟩
              exact AllReadyH.nil
            exact AllReadyH.nil
          exact AllReadyH.nil
        exact AllReadyH.nil
      exact AllReadyH.nil
    refine Agg.held_cons rfl ?_ ?_
    · refine Agg.step_slice1 (E := EI) rfl _ rfl (r.2.1.length : Nat) rfl ?_
      intro ysn wr_10 hys hx
      have HYOnr_10 := Lib.hid hys.slice
      have HRr_10 := Lib.hid (HRr0.out.below hx)
      have HXr_10 := Lib.hid (Agg.belowThen HXr0.out (Nat.le_refl _) hx)
      clear hys hx
      refine ⟨HRr_10.out, ?_⟩
      try simp only [Act.put, List.setIfInBounds_toArray, List.set_cons_succ, List.set_cons_zero]
      refine Agg.held_ready [1, 4] (by kernel_rfl) (by simp) ?_
      refine Agg.held_cons rfl ?_ ?_
      · refine Agg.step_box rfl 95 _ rfl (mkC (.slice none 0 0)) rfl ?_
        intro g wr_1_10 hb hx hg
        have HMr_1_10 := Lib.hid (⟨hb, Agg.Own.nil _ _ _⟩ : MkV g wr_1_10 (.slice none 0 0) [])
        have HYOnr_1_10 := Lib.hid (Off.before (v := .slice none 0 0) (w0 := wr_10) (HYOnr_10.out : SliceOf EI wr_10 _ _) hx hg (fun k hk => by simp [Value.ownBlock] at hk))
        have HRr_1_10 := Lib.hid (HRr_10.out.below hx)
        have HXr_1_10 := Lib.hid (Agg.belowThen HXr_10.out (Nat.le_refl _) hx)
        have HG := Lib.hid (Nat.le_trans HXr_10.out.size hg)
        have HNG0 := Lib.hid (show g1 ≠ g from fun e => (by have := HRr_10.out.lt; omega))
        clear hb hx hg
        refine ⟨HRr_1_10.out, ?_⟩
        try simp only [Act.put, List.setIfInBounds_toArray, List.set_cons_succ, List.set_cons_zero]
        refine Agg.held_ready [4] (by kernel_rfl) (by simp) ?_
        refine Agg.held_cons rfl ?_ ?_
        · refine step_toBytes rfl _ rfl (r.1) rfl ?_
          intro vr4 wr_1_4_10 hn hx
          obtain ⟨sva, rfl⟩ := bytes_svB hn.slice
          have HSOar_1_4_10 := Lib.hid (Off.behind (w0 := wr_1_10) hn.slice (fun k hk => newBytes_ownB hn k hk) HMr_1_10.out.blk.lt HMr_1_10.out.lt)
          have HYOnr_1_4_10 := Lib.hid (HYOnr_1_10.out.step (MkStep.of_below hx))
          have HRr_1_4_10 := Lib.hid (HRr_1_10.out.below hx)
          have HMr_1_4_10 := Lib.hid (HMr_1_10.out.below hx)
          have HXr_1_4_10 := Lib.hid (Agg.belowThen HXr_1_10.out (Nat.le_refl _) hx)
          clear hn hx
          refine ⟨HRr_1_4_10.out, ?_⟩
          try simp only [Act.put, List.setIfInBounds_toArray, List.set_cons_succ, List.set_cons_zero]
          refine Agg.held_ready [5] (by kernel_rfl) (by simp) ?_
          refine Agg.held_cons rfl ?_ ?_
          · refine Agg.step_slice1 (E := EBB) rfl _ rfl sva rfl ?_
            intro ysa wr_1_4_5_10 hys hx
            have HYOar_1_4_5_10 := Lib.hid (Off.behind (w0 := wr_1_4_10) hys.slice (fun k hk => (hys.block k hk).1) HMr_1_4_10.out.blk.lt HMr_1_4_10.out.lt)
            have HSOar_1_4_5_10 := Lib.hid (HSOar_1_4_10.out.step (MkStep.of_below hx))
            have HYOnr_1_4_5_10 := Lib.hid (HYOnr_1_4_10.out.step (MkStep.of_below hx))
            have HRr_1_4_5_10 := Lib.hid (HRr_1_4_10.out.below hx)
            have HMr_1_4_5_10 := Lib.hid (HMr_1_4_10.out.below hx)
            have HXr_1_4_5_10 := Lib.hid (Agg.belowThen HXr_1_4_10.out (Nat.le_refl _) hx)
            clear hys hx
            refine ⟨HRr_1_4_5_10.out, ?_⟩
            try simp only [Act.put, List.setIfInBounds_toArray, List.set_cons_succ, List.set_cons_zero]
            refine Agg.held_ready [6] (by kernel_rfl) (by simp) ?_
            refine Agg.held_cons rfl ?_ ?_
            · refine Agg.step_call rfl 46 _ _ rfl #[.pointer (some ⟨g, 0, none⟩), ysa] (by simp only [List.map_toArray, List.map_cons, List.map_nil]; rfl) (fun W => HET.out _ W) ?_
              refine (text_any g (.slice none 0 0) ysa sva (r.1) [] _ (by simp) (by omega) HYOar_1_4_5_10.out HSOar_1_4_5_10.out HMr_1_4_5_10.out).mono ?_
              rintro x wr_1_4_5_6_10 ⟨rfl, vr_6, hm, hs⟩
              have HMr_1_4_5_6_10 := Lib.hid hm
              have HYOnr_1_4_5_6_10 := Lib.hid (HYOnr_1_4_5_10.out.step hs)
              have HRr_1_4_5_6_10 := Lib.hid (mk_keeps HMr_1_4_5_10.out HRr_1_4_5_10.out (by decide) hs HNG0.out)
              have HXr_1_4_5_6_10 := Lib.hid (HXr_1_4_5_10.out.trans ((HMr_1_4_5_10.out.stepBelow hs).mono HG.out))
              clear hm hs
              refine ⟨_, rfl, ?_⟩
              refine ⟨HRr_1_4_5_6_10.out, ?_⟩
              try simp only [Act.put, List.setIfInBounds_toArray, List.set_cons_succ, List.set_cons_zero]
              refine Agg.held_ready [11] (by kernel_rfl) (by simp) ?_
              refine Agg.held_cons rfl ?_ ?_
              · refine Agg.step_call rfl 47 _ _ rfl #[.pointer (some ⟨g, 0, none⟩), ysn] (by simp only [List.map_toArray, List.map_cons, List.map_nil]; rfl) (fun W => HEN.out _ W) ?_
                refine (num_any g vr_6 ysn [r.2.1.length] ([] ++ (encN (r.1).length ++ r.1)) _ (by intro n hn; simp only [List.mem_cons, List.not_mem_nil, or_false] at hn; omega) (by simp) (by simp only [List.length_append, List.length_nil]; omega) HYOnr_1_4_5_6_10.out HMr_1_4_5_6_10.out).mono ?_
                rintro x wr_1_4_5_6_10_11 ⟨rfl, vr_11, hm, hs⟩
                have HMr_1_4_5_6_10_11 := Lib.hid hm
                have HRr_1_4_5_6_10_11 := Lib.hid (mk_keeps HMr_1_4_5_6_10.out HRr_1_4_5_6_10.out (by decide) hs HNG0.out)
                have HXr_1_4_5_6_10_11 := Lib.hid (HXr_1_4_5_6_10.out.trans ((HMr_1_4_5_6_10.out.stepBelow hs).mono HG.out))
                clear hm hs
                refine ⟨_, rfl, ?_⟩
                refine ⟨HRr_1_4_5_6_10_11.out, ?_⟩
                try simp only [Act.put, List.setIfInBounds_toArray, List.set_cons_succ, List.set_cons_zero]
                refine Agg.held_take 12 (.pointer (some ⟨g, 0, none⟩)) rfl (by kernel_rfl) (fun _ _ _ h => h) rfl (fun W _ => by kernel_rfl) (by assumption) ?_
                try simp only [Act.put, List.setIfInBounds_toArray, List.set_cons_succ, List.set_cons_zero]
                refine Agg.held_end (by kernel_rfl) ?_
                refine ⟨g, _, (by have := HMr_1_4_5_6_10_11.out; simpa [putHd] using this), HRr_1_4_5_6_10_11.out, HXr_1_4_5_6_10_11.out, HG.out, HNG0.out, ?_⟩
                simp only [Agg.ExPut, Act.put, List.setIfInBounds_toArray, List.set_cons_succ, List.set_cons_zero]
                exact ⟨_, _, _, _, _, _, _, _, _, _, _, _, rfl⟩
              exact AllReadyH.nil
            exact AllReadyH.nil
          exact AllReadyH.nil
        exact AllReadyH.nil
      refine Agg.held_cons rfl ?_ ?_
      · refine step_toBytes rfl _ rfl (r.1) rfl ?_
        intro vr4 wr_4_10 hn hx
        obtain ⟨sva, rfl⟩ := bytes_svB hn.slice
        have HSOar_4_10 := Lib.hid hn.slice
        have HYOnr_4_10 := Lib.hid (SliceOf.below HYOnr_10.out hx)
        have HRr_4_10 := Lib.hid (HRr_10.out.below hx)
        have HXr_4_10 := Lib.hid (Agg.belowThen HXr_10.out (Nat.le_refl _) hx)
        clear hn hx
        refine ⟨HRr_4_10.out, ?_⟩
        try simp only [Act.put, List.setIfInBounds_toArray, List.set_cons_succ, List.set_cons_zero]
        refine Agg.held_ready [1, 5] (by kernel_rfl) (by simp) ?_
        refine Agg.held_cons rfl ?_ ?_
        · refine Agg.step_box rfl 95 _ rfl (mkC (.slice none 0 0)) rfl ?_
          intro g wr_1_4_10 hb hx hg
          have HMr_1_4_10 := Lib.hid (⟨hb, Agg.Own.nil _ _ _⟩ : MkV g wr_1_4_10 (.slice none 0 0) [])
          have HSOar_1_4_10 := Lib.hid (Off.before (v := .slice none 0 0) (w0 := wr_4_10) (HSOar_4_10.out : SliceOf EB wr_4_10 _ _) hx hg (fun k hk => by simp [Value.ownBlock] at hk))
          have HYOnr_1_4_10 := Lib.hid (Off.before (v := .slice none 0 0) (w0 := wr_4_10) (HYOnr_4_10.out : SliceOf EI wr_4_10 _ _) hx hg (fun k hk => by simp [Value.ownBlock] at hk))
          have HRr_1_4_10 := Lib.hid (HRr_4_10.out.below hx)
          have HXr_1_4_10 := Lib.hid (Agg.belowThen HXr_4_10.out (Nat.le_refl _) hx)
          have HG := Lib.hid (Nat.le_trans HXr_4_10.out.size hg)
          have HNG0 := Lib.hid (show g1 ≠ g from fun e => (by have := HRr_4_10.out.lt; omega))
          clear hb hx hg
          refine ⟨HRr_1_4_10.out, ?_⟩
          try simp only [Act.put, List.setIfInBounds_toArray, List.set_cons_succ, List.set_cons_zero]
          refine Agg.held_ready [5] (by kernel_rfl) (by simp) ?_
          refine Agg.held_cons rfl ?_ ?_
          · refine Agg.step_slice1 (E := EBB) rfl _ rfl sva rfl ?_
            intro ysa wr_1_4_5_10 hys hx
            have HYOar_1_4_5_10 := Lib.hid (Off.behind (w0 := wr_1_4_10) hys.slice (fun k hk => (hys.block k hk).1) HMr_1_4_10.out.blk.lt HMr_1_4_10.out.lt)
            have HSOar_1_4_5_10 := Lib.hid (HSOar_1_4_10.out.step (MkStep.of_below hx))
            have HYOnr_1_4_5_10 := Lib.hid (HYOnr_1_4_10.out.step (MkStep.of_below hx))
            have HRr_1_4_5_10 := Lib.hid (HRr_1_4_10.out.below hx)
            have HMr_1_4_5_10 := Lib.hid (HMr_1_4_10.out.below hx)
            have HXr_1_4_5_10 := Lib.hid (Agg.belowThen HXr_1_4_10.out (Nat.le_refl _) hx)
            clear hys hx
            refine ⟨HRr_1_4_5_10.out, ?_⟩
            try simp only [Act.put, List.setIfInBounds_toArray, List.set_cons_succ, List.set_cons_zero]
            refine Agg.held_ready [6] (by kernel_rfl) (by simp) ?_
            refine Agg.held_cons rfl ?_ ?_
            · refine Agg.step_call rfl 46 _ _ rfl #[.pointer (some ⟨g, 0, none⟩), ysa] (by simp only [List.map_toArray, List.map_cons, List.map_nil]; rfl) (fun W => HET.out _ W) ?_
              refine (text_any g (.slice none 0 0) ysa sva (r.1) [] _ (by simp) (by omega) HYOar_1_4_5_10.out HSOar_1_4_5_10.out HMr_1_4_5_10.out).mono ?_
              rintro x wr_1_4_5_6_10 ⟨rfl, vr_6, hm, hs⟩
              have HMr_1_4_5_6_10 := Lib.hid hm
              have HYOnr_1_4_5_6_10 := Lib.hid (HYOnr_1_4_5_10.out.step hs)
              have HRr_1_4_5_6_10 := Lib.hid (mk_keeps HMr_1_4_5_10.out HRr_1_4_5_10.out (by decide) hs HNG0.out)
              have HXr_1_4_5_6_10 := Lib.hid (HXr_1_4_5_10.out.trans ((HMr_1_4_5_10.out.stepBelow hs).mono HG.out))
              clear hm hs
              refine ⟨_, rfl, ?_⟩
              refine ⟨HRr_1_4_5_6_10.out, ?_⟩
              try simp only [Act.put, List.setIfInBounds_toArray, List.set_cons_succ, List.set_cons_zero]
              refine Agg.held_ready [11] (by kernel_rfl) (by simp) ?_
              refine Agg.held_cons rfl ?_ ?_
              · refine Agg.step_call rfl 47 _ _ rfl #[.pointer (some ⟨g, 0, none⟩), ysn] (by simp only [List.map_toArray, List.map_cons, List.map_nil]; rfl) (fun W => HEN.out _ W) ?_
                refine (num_any g vr_6 ysn [r.2.1.length] ([] ++ (encN (r.1).length ++ r.1)) _ (by intro n hn; simp only [List.mem_cons, List.not_mem_nil, or_false] at hn; omega) (by simp) (by simp only [List.length_append, List.length_nil]; omega) HYOnr_1_4_5_6_10.out HMr_1_4_5_6_10.out).mono ?_
                rintro x wr_1_4_5_6_10_11 ⟨rfl, vr_11, hm, hs⟩
                have HMr_1_4_5_6_10_11 := Lib.hid hm
                have HRr_1_4_5_6_10_11 := Lib.hid (mk_keeps HMr_1_4_5_6_10.out HRr_1_4_5_6_10.out (by decide) hs HNG0.out)
                have HXr_1_4_5_6_10_11 := Lib.hid (HXr_1_4_5_6_10.out.trans ((HMr_1_4_5_6_10.out.stepBelow hs).mono HG.out))
                clear hm hs
                refine ⟨_, rfl, ?_⟩
                refine ⟨HRr_1_4_5_6_10_11.out, ?_⟩
                try simp only [Act.put, List.setIfInBounds_toArray, List.set_cons_succ, List.set_cons_zero]
                refine Agg.held_take 12 (.pointer (some ⟨g, 0, none⟩)) rfl (by kernel_rfl) (fun _ _ _ h => h) rfl (fun W _ => by kernel_rfl) (by assumption) ?_
                try simp only [Act.put, List.setIfInBounds_toArray, List.set_cons_succ, List.set_cons_zero]
                refine Agg.held_end (by kernel_rfl) ?_
                refine ⟨g, _, (by have := HMr_1_4_5_6_10_11.out; simpa [putHd] using this), HRr_1_4_5_6_10_11.out, HXr_1_4_5_6_10_11.out, HG.out, HNG0.out, ?_⟩
                simp only [Agg.ExPut, Act.put, List.setIfInBounds_toArray, List.set_cons_succ, List.set_cons_zero]
                exact ⟨_, _, _, _, _, _, _, _, _, _, _, _, rfl⟩
              exact AllReadyH.nil
            exact AllReadyH.nil
          exact AllReadyH.nil
        refine Agg.held_cons rfl ?_ ?_
        · refine Agg.step_slice1 (E := EBB) rfl _ rfl sva rfl ?_
          intro ysa wr_4_5_10 hys hx
          have HYOar_4_5_10 := Lib.hid hys.slice
          have HSOar_4_5_10 := Lib.hid (SliceOf.below HSOar_4_10.out hx)
          have HYOnr_4_5_10 := Lib.hid (SliceOf.below HYOnr_4_10.out hx)
          have HRr_4_5_10 := Lib.hid (HRr_4_10.out.below hx)
          have HXr_4_5_10 := Lib.hid (Agg.belowThen HXr_4_10.out (Nat.le_refl _) hx)
          clear hys hx
          refine ⟨HRr_4_5_10.out, ?_⟩
          try simp only [Act.put, List.setIfInBounds_toArray, List.set_cons_succ, List.set_cons_zero]
          refine Agg.held_ready [1] (by kernel_rfl) (by simp) ?_
          refine Agg.held_cons rfl ?_ ?_
          · refine Agg.step_box rfl 95 _ rfl (mkC (.slice none 0 0)) rfl ?_
            intro g wr_1_4_5_10 hb hx hg
            have HMr_1_4_5_10 := Lib.hid (⟨hb, Agg.Own.nil _ _ _⟩ : MkV g wr_1_4_5_10 (.slice none 0 0) [])
            have HSOar_1_4_5_10 := Lib.hid (Off.before (v := .slice none 0 0) (w0 := wr_4_5_10) (HSOar_4_5_10.out : SliceOf EB wr_4_5_10 _ _) hx hg (fun k hk => by simp [Value.ownBlock] at hk))
            have HYOar_1_4_5_10 := Lib.hid (Off.before (v := .slice none 0 0) (w0 := wr_4_5_10) (HYOar_4_5_10.out : SliceOf EBB wr_4_5_10 _ _) hx hg (fun k hk => by simp [Value.ownBlock] at hk))
            have HYOnr_1_4_5_10 := Lib.hid (Off.before (v := .slice none 0 0) (w0 := wr_4_5_10) (HYOnr_4_5_10.out : SliceOf EI wr_4_5_10 _ _) hx hg (fun k hk => by simp [Value.ownBlock] at hk))
            have HRr_1_4_5_10 := Lib.hid (HRr_4_5_10.out.below hx)
            have HXr_1_4_5_10 := Lib.hid (Agg.belowThen HXr_4_5_10.out (Nat.le_refl _) hx)
            have HG := Lib.hid (Nat.le_trans HXr_4_5_10.out.size hg)
            have HNG0 := Lib.hid (show g1 ≠ g from fun e => (by have := HRr_4_5_10.out.lt; omega))
            clear hb hx hg
            refine ⟨HRr_1_4_5_10.out, ?_⟩
            try simp only [Act.put, List.setIfInBounds_toArray, List.set_cons_succ, List.set_cons_zero]
            refine Agg.held_ready [6] (by kernel_rfl) (by simp) ?_
            refine Agg.held_cons rfl ?_ ?_
            · refine Agg.step_call rfl 46 _ _ rfl #[.pointer (some ⟨g, 0, none⟩), ysa] (by simp only [List.map_toArray, List.map_cons, List.map_nil]; rfl) (fun W => HET.out _ W) ?_
              refine (text_any g (.slice none 0 0) ysa sva (r.1) [] _ (by simp) (by omega) HYOar_1_4_5_10.out HSOar_1_4_5_10.out HMr_1_4_5_10.out).mono ?_
              rintro x wr_1_4_5_6_10 ⟨rfl, vr_6, hm, hs⟩
              have HMr_1_4_5_6_10 := Lib.hid hm
              have HYOnr_1_4_5_6_10 := Lib.hid (HYOnr_1_4_5_10.out.step hs)
              have HRr_1_4_5_6_10 := Lib.hid (mk_keeps HMr_1_4_5_10.out HRr_1_4_5_10.out (by decide) hs HNG0.out)
              have HXr_1_4_5_6_10 := Lib.hid (HXr_1_4_5_10.out.trans ((HMr_1_4_5_10.out.stepBelow hs).mono HG.out))
              clear hm hs
              refine ⟨_, rfl, ?_⟩
              refine ⟨HRr_1_4_5_6_10.out, ?_⟩
              try simp only [Act.put, List.setIfInBounds_toArray, List.set_cons_succ, List.set_cons_zero]
              refine Agg.held_ready [11] (by kernel_rfl) (by simp) ?_
              refine Agg.held_cons rfl ?_ ?_
              · refine Agg.step_call rfl 47 _ _ rfl #[.pointer (some ⟨g, 0, none⟩), ysn] (by simp only [List.map_toArray, List.map_cons, List.map_nil]; rfl) (fun W => HEN.out _ W) ?_
                refine (num_any g vr_6 ysn [r.2.1.length] ([] ++ (encN (r.1).length ++ r.1)) _ (by intro n hn; simp only [List.mem_cons, List.not_mem_nil, or_false] at hn; omega) (by simp) (by simp only [List.length_append, List.length_nil]; omega) HYOnr_1_4_5_6_10.out HMr_1_4_5_6_10.out).mono ?_
                rintro x wr_1_4_5_6_10_11 ⟨rfl, vr_11, hm, hs⟩
                have HMr_1_4_5_6_10_11 := Lib.hid hm
                have HRr_1_4_5_6_10_11 := Lib.hid (mk_keeps HMr_1_4_5_6_10.out HRr_1_4_5_6_10.out (by decide) hs HNG0.out)
                have HXr_1_4_5_6_10_11 := Lib.hid (HXr_1_4_5_6_10.out.trans ((HMr_1_4_5_6_10.out.stepBelow hs).mono HG.out))
                clear hm hs
                refine ⟨_, rfl, ?_⟩
                refine ⟨HRr_1_4_5_6_10_11.out, ?_⟩
                try simp only [Act.put, List.setIfInBounds_toArray, List.set_cons_succ, List.set_cons_zero]
                refine Agg.held_take 12 (.pointer (some ⟨g, 0, none⟩)) rfl (by kernel_rfl) (fun _ _ _ h => h) rfl (fun W _ => by kernel_rfl) (by assumption) ?_
                try simp only [Act.put, List.setIfInBounds_toArray, List.set_cons_succ, List.set_cons_zero]
                refine Agg.held_end (by kernel_rfl) ?_
                refine ⟨g, _, (by have := HMr_1_4_5_6_10_11.out; simpa [putHd] using this), HRr_1_4_5_6_10_11.out, HXr_1_4_5_6_10_11.out, HG.out, HNG0.out, ?_⟩
                simp only [Agg.ExPut, Act.put, List.setIfInBounds_toArray, List.set_cons_succ, List.set_cons_zero]
                exact ⟨_, _, _, _, _, _, _, _, _, _, _, _, rfl⟩
              exact AllReadyH.nil
            exact AllReadyH.nil
          exact AllReadyH.nil
        exact AllReadyH.nil
      exact AllReadyH.nil
    exact AllReadyH.nil
  rintro a' w3 ⟨g, vb0, hm, hr, hx, hg, hne1, hput⟩
  simp only [Agg.ExPut] at hput
  obtain ⟨x10, x11, x12, x13, x14, x15, x16, x17, x18, x19, x20, x21, rfl⟩ := hput
  simp only [Act.put, List.setIfInBounds_toArray, List.set_cons_succ, List.set_cons_zero]
  have HM3 := Lib.hid hm
  have HR3 := Lib.hid hr
  have HX3 := Lib.hid hx
  have HG := Lib.hid hg
  have HNG := Lib.hid hne1
  have HL3 := Lib.hid (RvB.of_blk hr)
  clear hm hr hx hg hne1
  go_wp2_with (first | (with_reducible refine Agg.wpList_loadL HL3.out.inp rfl _ rfl rfl ?_))
  go_loopw [25] (fun i wr => ∃ (k : Nat) (vb : Value), k ≤ r.2.1.length ∧ i = .int .i64 (k : Int) ∧ MkV g wr vb (putHd r k) ∧ Blk wr g1 33 (#[.string ⟨r.1.toArray⟩, vi, vr]) ∧ Below w.heap.size w wr) (fun i _ => r.2.1.length - (intOf i).toNat)
  case atStart => exact ⟨0, _, by omega, rfl, HM3.out, HR3.out, HX3.out⟩
  case round =>
    obtain ⟨wr1, rfl⟩ : ∃ y : World, y = wr := ⟨_, rfl⟩
    obtain ⟨k, vb, hk, rfl, hm, hr, hw⟩ := hrel
    have hbl := putHd_len HCN.out k
    have HM := Lib.hid hm
    have HR := Lib.hid hr
    have HX := Lib.hid hw
    clear hm hr hw
    by_cases hlt : k < r.2.1.length
    · have hd1 : decide ((k : Int) < (r.2.1.length : Int)) = true := by simp; omega
      obtain ⟨x, hxk⟩ : ∃ x, r.2.1[k]? = some x := ⟨_, List.getElem?_eq_getElem hlt⟩
      obtain ⟨p, hadr, hld, _⟩ := ri_at (HV.out.1.below HX.out) k x hxk
      have HLD := Lib.hid hld
      have HTK := Lib.hid (putHd_succ hxk)
      have hxl := HP.out.ins x (List.mem_of_getElem? hxk)
      obtain ⟨hx1, hx2⟩ := hxl
      have hxh := x.2.2
      have he1 := encN_len (n := x.1.length) (by omega)
      have he2 := encN_len (n := x.2.1.2.length) (by omega)
      obtain ⟨b, hbb⟩ : ∃ b, putHd r k = b := ⟨_, rfl⟩
      have HBB := Lib.hid hbb
      rw [hbb] at HM hbl
      rw [hbb] at HTK
      clear hld hxk hbb
      go_wp2_with (first | (with_reducible refine Agg.wpList_loadL HLD.out rfl _ rfl rfl ?_) | (refine Agg.wpList_new rfl rfl rfl 49 6 28 rfl rfl rfl (by decide) (riC zR) (riC x) riC_zero (by rw [riC_size, riC_size]) (riC_info x) (riC_one x) rfl (by simp [Act.put]) ?_; intro g6 w6 hb6 hx6 hg6; have HI6 := Lib.hid hb6; have HN6 := Lib.hid (show g6 ≠ g from fun e => by have := HM.out.blk.lt; omega); have HM6 := Lib.hid (HM.out.below hx6); have HR6 := Lib.hid (HR.out.below hx6); have HX6 := Lib.hid (Agg.belowThen HX.out (Nat.le_refl _) hx6); clear hb6 hx6 hg6))
      try simp only [Act.put, List.setIfInBounds_toArray, List.set_cons_succ, List.set_cons_zero]
      obtain ⟨wy, hw0⟩ : ∃ W, W = w6.drew := ⟨_, rfl⟩
      have hd : Below w6.heap.size w6 wy := by rw [hw0]; exact (Below.refl _ _).drew
      have HIq0 := Lib.hid (HI6.out.below hd)
      have HRq0 := Lib.hid (HR6.out.below hd)
      have HMq0 := Lib.hid (HM6.out.below hd)
      have HXq0 := Lib.hid (Agg.belowThen HX6.out (Nat.le_refl _) hd)
      refine wp_region_held_drew (S := fun W => Blk W g6 49 (riC x)) (by kernel_rfl) (by rw [← hw0]; exact HIq0.out) (fun hHeld => ?_)
      rw [← hw0] at hHeld ⊢
      clear hw0 hd
      refine Agg.held_take 0 (.pointer (some ⟨g, 0, none⟩)) rfl (by kernel_rfl) (fun _ _ _ h => h) rfl (fun W _ => by kernel_rfl) (by assumption) ?_
      try simp only [Act.put, List.setIfInBounds_toArray, List.set_cons_succ, List.set_cons_zero]
      refine Agg.held_take 1 (.pointer (some ⟨g6, 0, none⟩)) rfl (by kernel_rfl) (fun _ _ _ h => h) rfl (fun W _ => by kernel_rfl) (by assumption) ?_
      try simp only [Act.put, List.setIfInBounds_toArray, List.set_cons_succ, List.set_cons_zero]
      refine Agg.held_take 2 (.string ⟨x.1.toArray⟩) rfl (by kernel_rfl) (fun _ _ _ h => h) rfl (fun W hS => exec_loadC rfl rfl (hS.one (ty := 9) 0 (riC_name x) Try.underlying9 rfl).now) (by assumption) ?_
      try simp only [Act.put, List.setIfInBounds_toArray, List.set_cons_succ, List.set_cons_zero]
      refine Agg.held_take 6 (.pointer (some ⟨g6, 1, none⟩)) rfl (by kernel_rfl) (fun _ _ _ h => h) rfl (fun W _ => by kernel_rfl) (by assumption) ?_
      try simp only [Act.put, List.setIfInBounds_toArray, List.set_cons_succ, List.set_cons_zero]
      refine Agg.held_take 7 (.pointer (some ⟨g6, 1, none⟩)) rfl (by kernel_rfl) (fun _ _ _ h => h) rfl (fun W _ => by kernel_rfl) (by assumption) ?_
      try simp only [Act.put, List.setIfInBounds_toArray, List.set_cons_succ, List.set_cons_zero]
      refine Agg.held_take 8 (.slice (some ⟨g6, 1, none⟩) 20 20) rfl (by kernel_rfl) (fun _ _ _ h => h) rfl (fun W _ => by kernel_rfl) (by assumption) ?_
      try simp only [Act.put, List.setIfInBounds_toArray, List.set_cons_succ, List.set_cons_zero]
      refine Agg.held_take 10 (.pointer (some ⟨g6, 1, none⟩)) rfl (by kernel_rfl) (fun _ _ _ h => h) rfl (fun W _ => by kernel_rfl) (by assumption) ?_
      try simp only [Act.put, List.setIfInBounds_toArray, List.set_cons_succ, List.set_cons_zero]
      refine Agg.held_take 11 (.pointer (some ⟨g6, 21, none⟩)) rfl (by kernel_rfl) (fun _ _ _ h => h) rfl (fun W _ => by kernel_rfl) (by assumption) ?_
      try simp only [Act.put, List.setIfInBounds_toArray, List.set_cons_succ, List.set_cons_zero]
      refine Agg.held_take 12 (.string ⟨x.2.1.2.toArray⟩) rfl (by kernel_rfl) (fun _ _ _ h => h) rfl (fun W hS => exec_loadC rfl rfl (hS.one (ty := 9) 21 (riC_path x 20 _ (pC_name _ _ x.2.2)) Try.underlying9 rfl).now) (by assumption) ?_
      try simp only [Act.put, List.setIfInBounds_toArray, List.set_cons_succ, List.set_cons_zero]
      refine Agg.held_ready [3, 13] (by kernel_rfl) (by simp) ?_
      refine Agg.held_cons rfl ?_ ?_
      · refine step_toBytes rfl _ rfl (x.1) rfl ?_
        intro vq3 wq_3 hn hx
        obtain ⟨sva, rfl⟩ := bytes_svB hn.slice
        have HSOaq_3 := Lib.hid (Off.behind (w0 := wy) hn.slice (fun k hk => newBytes_ownB hn k hk) HMq0.out.blk.lt HMq0.out.lt)
        have HIq_3 := Lib.hid (HIq0.out.below hx)
        have HRq_3 := Lib.hid (HRq0.out.below hx)
        have HMq_3 := Lib.hid (HMq0.out.below hx)
        have HXq_3 := Lib.hid (Agg.belowThen HXq0.out (Nat.le_refl _) hx)
        clear hn hx
        refine ⟨HIq_3.out, ?_⟩
        try simp only [Act.put, List.setIfInBounds_toArray, List.set_cons_succ, List.set_cons_zero]
        refine Agg.held_ready [4, 13] (by kernel_rfl) (by simp) ?_
        refine Agg.held_cons rfl ?_ ?_
        · refine Agg.step_slice1 (E := EBB) rfl _ rfl sva rfl ?_
          intro ysa wq_3_4 hys hx
          have HYOaq_3_4 := Lib.hid (Off.behind (w0 := wq_3) hys.slice (fun k hk => (hys.block k hk).1) HMq_3.out.blk.lt HMq_3.out.lt)
          have HSOaq_3_4 := Lib.hid (HSOaq_3.out.step (MkStep.of_below hx))
          have HIq_3_4 := Lib.hid (HIq_3.out.below hx)
          have HRq_3_4 := Lib.hid (HRq_3.out.below hx)
          have HMq_3_4 := Lib.hid (HMq_3.out.below hx)
          have HXq_3_4 := Lib.hid (Agg.belowThen HXq_3.out (Nat.le_refl _) hx)
          clear hys hx
          refine ⟨HIq_3_4.out, ?_⟩
          try simp only [Act.put, List.setIfInBounds_toArray, List.set_cons_succ, List.set_cons_zero]
          refine Agg.held_ready [5, 13] (by kernel_rfl) (by simp) ?_
          refine Agg.held_cons rfl ?_ ?_
          · refine Agg.step_call rfl 46 _ _ rfl #[.pointer (some ⟨g, 0, none⟩), ysa] (by simp only [List.map_toArray, List.map_cons, List.map_nil]; rfl) (fun W => HET.out _ W) ?_
            refine (text_any g vb ysa sva (x.1) b _ (by omega) (by omega) HYOaq_3_4.out HSOaq_3_4.out HMq_3_4.out).mono ?_
            rintro x wq_3_4_5 ⟨rfl, vq_5, hm, hs⟩
            have HMq_3_4_5 := Lib.hid hm
            have HIq_3_4_5 := Lib.hid (mk_keeps HMq_3_4.out HIq_3_4.out (by decide) hs HN6.out)
            have HRq_3_4_5 := Lib.hid (mk_keeps HMq_3_4.out HRq_3_4.out (by decide) hs HNG.out)
            have HXq_3_4_5 := Lib.hid (HXq_3_4.out.trans ((HMq_3_4.out.stepBelow hs).mono HG.out))
            clear hm hs
            refine ⟨_, rfl, ?_⟩
            refine ⟨HIq_3_4_5.out, ?_⟩
            try simp only [Act.put, List.setIfInBounds_toArray, List.set_cons_succ, List.set_cons_zero]
            refine Agg.held_ready [9, 13] (by kernel_rfl) (by simp) ?_
            refine Agg.held_cons rfl ?_ ?_
            · refine Agg.step_call rfl 48 _ _ rfl #[.pointer (some ⟨g, 0, none⟩), .slice (some ⟨g6, 1, none⟩) 20 20] (by simp only [List.map_toArray, List.map_cons, List.map_nil]; rfl) (fun W => HER.out _ W) ?_
              refine (raw_any g vq_5 _ (x.2.1.1) (b ++ (encN (x.1).length ++ x.1)) _ (by simp only [List.length_append]; omega) (by omega) (hash_slice HIq_3_4_5.out x.2.2 (riC_hash x)) HMq_3_4_5.out).mono ?_
              rintro x wq_3_4_5_9 ⟨rfl, vq_9, hm, hs⟩
              have HMq_3_4_5_9 := Lib.hid hm
              have HIq_3_4_5_9 := Lib.hid (mk_keeps HMq_3_4_5.out HIq_3_4_5.out (by decide) hs HN6.out)
              have HRq_3_4_5_9 := Lib.hid (mk_keeps HMq_3_4_5.out HRq_3_4_5.out (by decide) hs HNG.out)
              have HXq_3_4_5_9 := Lib.hid (HXq_3_4_5.out.trans ((HMq_3_4_5.out.stepBelow hs).mono HG.out))
              clear hm hs
              refine ⟨_, rfl, ?_⟩
              refine ⟨HIq_3_4_5_9.out, ?_⟩
              try simp only [Act.put, List.setIfInBounds_toArray, List.set_cons_succ, List.set_cons_zero]
              refine Agg.held_ready [13] (by kernel_rfl) (by simp) ?_
              refine Agg.held_cons rfl ?_ ?_
              · refine step_toBytes rfl _ rfl (x.2.1.2) rfl ?_
                intro vq13 wq_3_4_5_9_13 hn hx
                obtain ⟨svb, rfl⟩ := bytes_svB hn.slice
                have HSObq_3_4_5_9_13 := Lib.hid (Off.behind (w0 := wq_3_4_5_9) hn.slice (fun k hk => newBytes_ownB hn k hk) HMq_3_4_5_9.out.blk.lt HMq_3_4_5_9.out.lt)
                have HIq_3_4_5_9_13 := Lib.hid (HIq_3_4_5_9.out.below hx)
                have HRq_3_4_5_9_13 := Lib.hid (HRq_3_4_5_9.out.below hx)
                have HMq_3_4_5_9_13 := Lib.hid (HMq_3_4_5_9.out.below hx)
                have HXq_3_4_5_9_13 := Lib.hid (Agg.belowThen HXq_3_4_5_9.out (Nat.le_refl _) hx)
                clear hn hx
                refine ⟨HIq_3_4_5_9_13.out, ?_⟩
                try simp only [Act.put, List.setIfInBounds_toArray, List.set_cons_succ, List.set_cons_zero]
                refine Agg.held_ready [14] (by kernel_rfl) (by simp) ?_
                refine Agg.held_cons rfl ?_ ?_
                · refine Agg.step_slice1 (E := EBB) rfl _ rfl svb rfl ?_
                  intro ysb wq_3_4_5_9_13_14 hys hx
                  have HYObq_3_4_5_9_13_14 := Lib.hid (Off.behind (w0 := wq_3_4_5_9_13) hys.slice (fun k hk => (hys.block k hk).1) HMq_3_4_5_9_13.out.blk.lt HMq_3_4_5_9_13.out.lt)
                  have HSObq_3_4_5_9_13_14 := Lib.hid (HSObq_3_4_5_9_13.out.step (MkStep.of_below hx))
                  have HIq_3_4_5_9_13_14 := Lib.hid (HIq_3_4_5_9_13.out.below hx)
                  have HRq_3_4_5_9_13_14 := Lib.hid (HRq_3_4_5_9_13.out.below hx)
                  have HMq_3_4_5_9_13_14 := Lib.hid (HMq_3_4_5_9_13.out.below hx)
                  have HXq_3_4_5_9_13_14 := Lib.hid (Agg.belowThen HXq_3_4_5_9_13.out (Nat.le_refl _) hx)
                  clear hys hx
                  refine ⟨HIq_3_4_5_9_13_14.out, ?_⟩
                  try simp only [Act.put, List.setIfInBounds_toArray, List.set_cons_succ, List.set_cons_zero]
                  refine Agg.held_ready [15] (by kernel_rfl) (by simp) ?_
                  refine Agg.held_cons rfl ?_ ?_
                  · refine Agg.step_call rfl 46 _ _ rfl #[.pointer (some ⟨g, 0, none⟩), ysb] (by simp only [List.map_toArray, List.map_cons, List.map_nil]; rfl) (fun W => HET.out _ W) ?_
                    refine (text_any g vq_9 ysb svb (x.2.1.2) ((b ++ (encN (x.1).length ++ x.1)) ++ x.2.1.1) _ (by simp only [List.length_append]; omega) (by omega) HYObq_3_4_5_9_13_14.out HSObq_3_4_5_9_13_14.out HMq_3_4_5_9_13_14.out).mono ?_
                    rintro x wq_3_4_5_9_13_14_15 ⟨rfl, vq_15, hm, hs⟩
                    have HMq_3_4_5_9_13_14_15 := Lib.hid hm
                    have HIq_3_4_5_9_13_14_15 := Lib.hid (mk_keeps HMq_3_4_5_9_13_14.out HIq_3_4_5_9_13_14.out (by decide) hs HN6.out)
                    have HRq_3_4_5_9_13_14_15 := Lib.hid (mk_keeps HMq_3_4_5_9_13_14.out HRq_3_4_5_9_13_14.out (by decide) hs HNG.out)
                    have HXq_3_4_5_9_13_14_15 := Lib.hid (HXq_3_4_5_9_13_14.out.trans ((HMq_3_4_5_9_13_14.out.stepBelow hs).mono HG.out))
                    clear hm hs
                    refine ⟨_, rfl, ?_⟩
                    refine ⟨HIq_3_4_5_9_13_14_15.out, ?_⟩
                    try simp only [Act.put, List.setIfInBounds_toArray, List.set_cons_succ, List.set_cons_zero]
                    refine Agg.held_end (by kernel_rfl) ?_
                    go_wp2_with fail
                    go_roundw
                    case rel => exact ⟨k + 1, _, by omega, by go_num, by rw [HTK.out]; exact HMq_3_4_5_9_13_14_15.out, HRq_3_4_5_9_13_14_15.out, HXq_3_4_5_9_13_14_15.out⟩
                    case measure => simp [intOf]; omega
                  exact AllReadyH.nil
                exact AllReadyH.nil
              exact AllReadyH.nil
            refine Agg.held_cons rfl ?_ ?_
            · refine step_toBytes rfl _ rfl (x.2.1.2) rfl ?_
              intro vq13 wq_3_4_5_13 hn hx
              obtain ⟨svb, rfl⟩ := bytes_svB hn.slice
              have HSObq_3_4_5_13 := Lib.hid (Off.behind (w0 := wq_3_4_5) hn.slice (fun k hk => newBytes_ownB hn k hk) HMq_3_4_5.out.blk.lt HMq_3_4_5.out.lt)
              have HIq_3_4_5_13 := Lib.hid (HIq_3_4_5.out.below hx)
              have HRq_3_4_5_13 := Lib.hid (HRq_3_4_5.out.below hx)
              have HMq_3_4_5_13 := Lib.hid (HMq_3_4_5.out.below hx)
              have HXq_3_4_5_13 := Lib.hid (Agg.belowThen HXq_3_4_5.out (Nat.le_refl _) hx)
              clear hn hx
              refine ⟨HIq_3_4_5_13.out, ?_⟩
              try simp only [Act.put, List.setIfInBounds_toArray, List.set_cons_succ, List.set_cons_zero]
              refine Agg.held_ready [9, 14] (by kernel_rfl) (by simp) ?_
              refine Agg.held_cons rfl ?_ ?_
              · refine Agg.step_call rfl 48 _ _ rfl #[.pointer (some ⟨g, 0, none⟩), .slice (some ⟨g6, 1, none⟩) 20 20] (by simp only [List.map_toArray, List.map_cons, List.map_nil]; rfl) (fun W => HER.out _ W) ?_
                refine (raw_any g vq_5 _ (x.2.1.1) (b ++ (encN (x.1).length ++ x.1)) _ (by simp only [List.length_append]; omega) (by omega) (hash_slice HIq_3_4_5_13.out x.2.2 (riC_hash x)) HMq_3_4_5_13.out).mono ?_
                rintro x wq_3_4_5_9_13 ⟨rfl, vq_9, hm, hs⟩
                have HMq_3_4_5_9_13 := Lib.hid hm
                have HSObq_3_4_5_9_13 := Lib.hid (HSObq_3_4_5_13.out.step hs)
                have HIq_3_4_5_9_13 := Lib.hid (mk_keeps HMq_3_4_5_13.out HIq_3_4_5_13.out (by decide) hs HN6.out)
                have HRq_3_4_5_9_13 := Lib.hid (mk_keeps HMq_3_4_5_13.out HRq_3_4_5_13.out (by decide) hs HNG.out)
                have HXq_3_4_5_9_13 := Lib.hid (HXq_3_4_5_13.out.trans ((HMq_3_4_5_13.out.stepBelow hs).mono HG.out))
                clear hm hs
                refine ⟨_, rfl, ?_⟩
                refine ⟨HIq_3_4_5_9_13.out, ?_⟩
                try simp only [Act.put, List.setIfInBounds_toArray, List.set_cons_succ, List.set_cons_zero]
                refine Agg.held_ready [14] (by kernel_rfl) (by simp) ?_
                refine Agg.held_cons rfl ?_ ?_
                · refine Agg.step_slice1 (E := EBB) rfl _ rfl svb rfl ?_
                  intro ysb wq_3_4_5_9_13_14 hys hx
                  have HYObq_3_4_5_9_13_14 := Lib.hid (Off.behind (w0 := wq_3_4_5_9_13) hys.slice (fun k hk => (hys.block k hk).1) HMq_3_4_5_9_13.out.blk.lt HMq_3_4_5_9_13.out.lt)
                  have HSObq_3_4_5_9_13_14 := Lib.hid (HSObq_3_4_5_9_13.out.step (MkStep.of_below hx))
                  have HIq_3_4_5_9_13_14 := Lib.hid (HIq_3_4_5_9_13.out.below hx)
                  have HRq_3_4_5_9_13_14 := Lib.hid (HRq_3_4_5_9_13.out.below hx)
                  have HMq_3_4_5_9_13_14 := Lib.hid (HMq_3_4_5_9_13.out.below hx)
                  have HXq_3_4_5_9_13_14 := Lib.hid (Agg.belowThen HXq_3_4_5_9_13.out (Nat.le_refl _) hx)
                  clear hys hx
                  refine ⟨HIq_3_4_5_9_13_14.out, ?_⟩
                  try simp only [Act.put, List.setIfInBounds_toArray, List.set_cons_succ, List.set_cons_zero]
                  refine Agg.held_ready [15] (by kernel_rfl) (by simp) ?_
                  refine Agg.held_cons rfl ?_ ?_
                  · refine Agg.step_call rfl 46 _ _ rfl #[.pointer (some ⟨g, 0, none⟩), ysb] (by simp only [List.map_toArray, List.map_cons, List.map_nil]; rfl) (fun W => HET.out _ W) ?_
                    refine (text_any g vq_9 ysb svb (x.2.1.2) ((b ++ (encN (x.1).length ++ x.1)) ++ x.2.1.1) _ (by simp only [List.length_append]; omega) (by omega) HYObq_3_4_5_9_13_14.out HSObq_3_4_5_9_13_14.out HMq_3_4_5_9_13_14.out).mono ?_
                    rintro x wq_3_4_5_9_13_14_15 ⟨rfl, vq_15, hm, hs⟩
                    have HMq_3_4_5_9_13_14_15 := Lib.hid hm
                    have HIq_3_4_5_9_13_14_15 := Lib.hid (mk_keeps HMq_3_4_5_9_13_14.out HIq_3_4_5_9_13_14.out (by decide) hs HN6.out)
                    have HRq_3_4_5_9_13_14_15 := Lib.hid (mk_keeps HMq_3_4_5_9_13_14.out HRq_3_4_5_9_13_14.out (by decide) hs HNG.out)
                    have HXq_3_4_5_9_13_14_15 := Lib.hid (HXq_3_4_5_9_13_14.out.trans ((HMq_3_4_5_9_13_14.out.stepBelow hs).mono HG.out))
                    clear hm hs
                    refine ⟨_, rfl, ?_⟩
                    refine ⟨HIq_3_4_5_9_13_14_15.out, ?_⟩
                    try simp only [Act.put, List.setIfInBounds_toArray, List.set_cons_succ, List.set_cons_zero]
                    refine Agg.held_end (by kernel_rfl) ?_
                    go_wp2_with fail
                    go_roundw
                    case rel => exact ⟨k + 1, _, by omega, by go_num, by rw [HTK.out]; exact HMq_3_4_5_9_13_14_15.out, HRq_3_4_5_9_13_14_15.out, HXq_3_4_5_9_13_14_15.out⟩
                    case measure => simp [intOf]; omega
                  exact AllReadyH.nil
                exact AllReadyH.nil
              refine Agg.held_cons rfl ?_ ?_
              · refine Agg.step_slice1 (E := EBB) rfl _ rfl svb rfl ?_
                intro ysb wq_3_4_5_13_14 hys hx
                have HYObq_3_4_5_13_14 := Lib.hid (Off.behind (w0 := wq_3_4_5_13) hys.slice (fun k hk => (hys.block k hk).1) HMq_3_4_5_13.out.blk.lt HMq_3_4_5_13.out.lt)
                have HSObq_3_4_5_13_14 := Lib.hid (HSObq_3_4_5_13.out.step (MkStep.of_below hx))
                have HIq_3_4_5_13_14 := Lib.hid (HIq_3_4_5_13.out.below hx)
                have HRq_3_4_5_13_14 := Lib.hid (HRq_3_4_5_13.out.below hx)
                have HMq_3_4_5_13_14 := Lib.hid (HMq_3_4_5_13.out.below hx)
                have HXq_3_4_5_13_14 := Lib.hid (Agg.belowThen HXq_3_4_5_13.out (Nat.le_refl _) hx)
                clear hys hx
                refine ⟨HIq_3_4_5_13_14.out, ?_⟩
                try simp only [Act.put, List.setIfInBounds_toArray, List.set_cons_succ, List.set_cons_zero]
                refine Agg.held_ready [9] (by kernel_rfl) (by simp) ?_
                refine Agg.held_cons rfl ?_ ?_
                · refine Agg.step_call rfl 48 _ _ rfl #[.pointer (some ⟨g, 0, none⟩), .slice (some ⟨g6, 1, none⟩) 20 20] (by simp only [List.map_toArray, List.map_cons, List.map_nil]; rfl) (fun W => HER.out _ W) ?_
                  refine (raw_any g vq_5 _ (x.2.1.1) (b ++ (encN (x.1).length ++ x.1)) _ (by simp only [List.length_append]; omega) (by omega) (hash_slice HIq_3_4_5_13_14.out x.2.2 (riC_hash x)) HMq_3_4_5_13_14.out).mono ?_
                  rintro x wq_3_4_5_9_13_14 ⟨rfl, vq_9, hm, hs⟩
                  have HMq_3_4_5_9_13_14 := Lib.hid hm
                  have HSObq_3_4_5_9_13_14 := Lib.hid (HSObq_3_4_5_13_14.out.step hs)
                  have HYObq_3_4_5_9_13_14 := Lib.hid (HYObq_3_4_5_13_14.out.step hs)
                  have HIq_3_4_5_9_13_14 := Lib.hid (mk_keeps HMq_3_4_5_13_14.out HIq_3_4_5_13_14.out (by decide) hs HN6.out)
                  have HRq_3_4_5_9_13_14 := Lib.hid (mk_keeps HMq_3_4_5_13_14.out HRq_3_4_5_13_14.out (by decide) hs HNG.out)
                  have HXq_3_4_5_9_13_14 := Lib.hid (HXq_3_4_5_13_14.out.trans ((HMq_3_4_5_13_14.out.stepBelow hs).mono HG.out))
                  clear hm hs
                  refine ⟨_, rfl, ?_⟩
                  refine ⟨HIq_3_4_5_9_13_14.out, ?_⟩
                  try simp only [Act.put, List.setIfInBounds_toArray, List.set_cons_succ, List.set_cons_zero]
                  refine Agg.held_ready [15] (by kernel_rfl) (by simp) ?_
                  refine Agg.held_cons rfl ?_ ?_
                  · refine Agg.step_call rfl 46 _ _ rfl #[.pointer (some ⟨g, 0, none⟩), ysb] (by simp only [List.map_toArray, List.map_cons, List.map_nil]; rfl) (fun W => HET.out _ W) ?_
                    refine (text_any g vq_9 ysb svb (x.2.1.2) ((b ++ (encN (x.1).length ++ x.1)) ++ x.2.1.1) _ (by simp only [List.length_append]; omega) (by omega) HYObq_3_4_5_9_13_14.out HSObq_3_4_5_9_13_14.out HMq_3_4_5_9_13_14.out).mono ?_
                    rintro x wq_3_4_5_9_13_14_15 ⟨rfl, vq_15, hm, hs⟩
                    have HMq_3_4_5_9_13_14_15 := Lib.hid hm
                    have HIq_3_4_5_9_13_14_15 := Lib.hid (mk_keeps HMq_3_4_5_9_13_14.out HIq_3_4_5_9_13_14.out (by decide) hs HN6.out)
                    have HRq_3_4_5_9_13_14_15 := Lib.hid (mk_keeps HMq_3_4_5_9_13_14.out HRq_3_4_5_9_13_14.out (by decide) hs HNG.out)
                    have HXq_3_4_5_9_13_14_15 := Lib.hid (HXq_3_4_5_9_13_14.out.trans ((HMq_3_4_5_9_13_14.out.stepBelow hs).mono HG.out))
                    clear hm hs
                    refine ⟨_, rfl, ?_⟩
                    refine ⟨HIq_3_4_5_9_13_14_15.out, ?_⟩
                    try simp only [Act.put, List.setIfInBounds_toArray, List.set_cons_succ, List.set_cons_zero]
                    refine Agg.held_end (by kernel_rfl) ?_
                    go_wp2_with fail
                    go_roundw
                    case rel => exact ⟨k + 1, _, by omega, by go_num, by rw [HTK.out]; exact HMq_3_4_5_9_13_14_15.out, HRq_3_4_5_9_13_14_15.out, HXq_3_4_5_9_13_14_15.out⟩
                    case measure => simp [intOf]; omega
                  exact AllReadyH.nil
                exact AllReadyH.nil
              exact AllReadyH.nil
            exact AllReadyH.nil
          refine Agg.held_cons rfl ?_ ?_
          · refine step_toBytes rfl _ rfl (x.2.1.2) rfl ?_
            intro vq13 wq_3_4_13 hn hx
            obtain ⟨svb, rfl⟩ := bytes_svB hn.slice
            have HSObq_3_4_13 := Lib.hid (Off.behind (w0 := wq_3_4) hn.slice (fun k hk => newBytes_ownB hn k hk) HMq_3_4.out.blk.lt HMq_3_4.out.lt)
            have HSOaq_3_4_13 := Lib.hid (HSOaq_3_4.out.step (MkStep.of_below hx))
            have HYOaq_3_4_13 := Lib.hid (HYOaq_3_4.out.step (MkStep.of_below hx))
            have HIq_3_4_13 := Lib.hid (HIq_3_4.out.below hx)
            have HRq_3_4_13 := Lib.hid (HRq_3_4.out.below hx)
            have HMq_3_4_13 := Lib.hid (HMq_3_4.out.below hx)
            have HXq_3_4_13 := Lib.hid (Agg.belowThen HXq_3_4.out (Nat.le_refl _) hx)
            clear hn hx
            refine ⟨HIq_3_4_13.out, ?_⟩
            try simp only [Act.put, List.setIfInBounds_toArray, List.set_cons_succ, List.set_cons_zero]
            refine Agg.held_ready [5, 14] (by kernel_rfl) (by simp) ?_
            refine Agg.held_cons rfl ?_ ?_
            · refine Agg.step_call rfl 46 _ _ rfl #[.pointer (some ⟨g, 0, none⟩), ysa] (by simp only [List.map_toArray, List.map_cons, List.map_nil]; rfl) (fun W => HET.out _ W) ?_
              refine (text_any g vb ysa sva (x.1) b _ (by omega) (by omega) HYOaq_3_4_13.out HSOaq_3_4_13.out HMq_3_4_13.out).mono ?_
              rintro x wq_3_4_5_13 ⟨rfl, vq_5, hm, hs⟩
              have HMq_3_4_5_13 := Lib.hid hm
              have HSObq_3_4_5_13 := Lib.hid (HSObq_3_4_13.out.step hs)
              have HIq_3_4_5_13 := Lib.hid (mk_keeps HMq_3_4_13.out HIq_3_4_13.out (by decide) hs HN6.out)
              have HRq_3_4_5_13 := Lib.hid (mk_keeps HMq_3_4_13.out HRq_3_4_13.out (by decide) hs HNG.out)
              have HXq_3_4_5_13 := Lib.hid (HXq_3_4_13.out.trans ((HMq_3_4_13.out.stepBelow hs).mono HG.out))
              clear hm hs
              refine ⟨_, rfl, ?_⟩
              refine ⟨HIq_3_4_5_13.out, ?_⟩
              try simp only [Act.put, List.setIfInBounds_toArray, List.set_cons_succ, List.set_cons_zero]
              refine Agg.held_ready [9, 14] (by kernel_rfl) (by simp) ?_
              refine Agg.held_cons rfl ?_ ?_
              · refine Agg.step_call rfl 48 _ _ rfl #[.pointer (some ⟨g, 0, none⟩), .slice (some ⟨g6, 1, none⟩) 20 20] (by simp only [List.map_toArray, List.map_cons, List.map_nil]; rfl) (fun W => HER.out _ W) ?_
                refine (raw_any g vq_5 _ (x.2.1.1) (b ++ (encN (x.1).length ++ x.1)) _ (by simp only [List.length_append]; omega) (by omega) (hash_slice HIq_3_4_5_13.out x.2.2 (riC_hash x)) HMq_3_4_5_13.out).mono ?_
                rintro x wq_3_4_5_9_13 ⟨rfl, vq_9, hm, hs⟩
                have HMq_3_4_5_9_13 := Lib.hid hm
                have HSObq_3_4_5_9_13 := Lib.hid (HSObq_3_4_5_13.out.step hs)
                have HIq_3_4_5_9_13 := Lib.hid (mk_keeps HMq_3_4_5_13.out HIq_3_4_5_13.out (by decide) hs HN6.out)
                have HRq_3_4_5_9_13 := Lib.hid (mk_keeps HMq_3_4_5_13.out HRq_3_4_5_13.out (by decide) hs HNG.out)
                have HXq_3_4_5_9_13 := Lib.hid (HXq_3_4_5_13.out.trans ((HMq_3_4_5_13.out.stepBelow hs).mono HG.out))
                clear hm hs
                refine ⟨_, rfl, ?_⟩
                refine ⟨HIq_3_4_5_9_13.out, ?_⟩
                try simp only [Act.put, List.setIfInBounds_toArray, List.set_cons_succ, List.set_cons_zero]
                refine Agg.held_ready [14] (by kernel_rfl) (by simp) ?_
                refine Agg.held_cons rfl ?_ ?_
                · refine Agg.step_slice1 (E := EBB) rfl _ rfl svb rfl ?_
                  intro ysb wq_3_4_5_9_13_14 hys hx
                  have HYObq_3_4_5_9_13_14 := Lib.hid (Off.behind (w0 := wq_3_4_5_9_13) hys.slice (fun k hk => (hys.block k hk).1) HMq_3_4_5_9_13.out.blk.lt HMq_3_4_5_9_13.out.lt)
                  have HSObq_3_4_5_9_13_14 := Lib.hid (HSObq_3_4_5_9_13.out.step (MkStep.of_below hx))
                  have HIq_3_4_5_9_13_14 := Lib.hid (HIq_3_4_5_9_13.out.below hx)
                  have HRq_3_4_5_9_13_14 := Lib.hid (HRq_3_4_5_9_13.out.below hx)
                  have HMq_3_4_5_9_13_14 := Lib.hid (HMq_3_4_5_9_13.out.below hx)
                  have HXq_3_4_5_9_13_14 := Lib.hid (Agg.belowThen HXq_3_4_5_9_13.out (Nat.le_refl _) hx)
                  clear hys hx
                  refine ⟨HIq_3_4_5_9_13_14.out, ?_⟩
                  try simp only [Act.put, List.setIfInBounds_toArray, List.set_cons_succ, List.set_cons_zero]
                  refine Agg.held_ready [15] (by kernel_rfl) (by simp) ?_
                  refine Agg.held_cons rfl ?_ ?_
                  · refine Agg.step_call rfl 46 _ _ rfl #[.pointer (some ⟨g, 0, none⟩), ysb] (by simp only [List.map_toArray, List.map_cons, List.map_nil]; rfl) (fun W => HET.out _ W) ?_
                    refine (text_any g vq_9 ysb svb (x.2.1.2) ((b ++ (encN (x.1).length ++ x.1)) ++ x.2.1.1) _ (by simp only [List.length_append]; omega) (by omega) HYObq_3_4_5_9_13_14.out HSObq_3_4_5_9_13_14.out HMq_3_4_5_9_13_14.out).mono ?_
                    rintro x wq_3_4_5_9_13_14_15 ⟨rfl, vq_15, hm, hs⟩
                    have HMq_3_4_5_9_13_14_15 := Lib.hid hm
                    have HIq_3_4_5_9_13_14_15 := Lib.hid (mk_keeps HMq_3_4_5_9_13_14.out HIq_3_4_5_9_13_14.out (by decide) hs HN6.out)
                    have HRq_3_4_5_9_13_14_15 := Lib.hid (mk_keeps HMq_3_4_5_9_13_14.out HRq_3_4_5_9_13_14.out (by decide) hs HNG.out)
                    have HXq_3_4_5_9_13_14_15 := Lib.hid (HXq_3_4_5_9_13_14.out.trans ((HMq_3_4_5_9_13_14.out.stepBelow hs).mono HG.out))
                    clear hm hs
                    refine ⟨_, rfl, ?_⟩
                    refine ⟨HIq_3_4_5_9_13_14_15.out, ?_⟩
                    try simp only [Act.put, List.setIfInBounds_toArray, List.set_cons_succ, List.set_cons_zero]
                    refine Agg.held_end (by kernel_rfl) ?_
                    go_wp2_with fail
                    go_roundw
                    case rel => exact ⟨k + 1, _, by omega, by go_num, by rw [HTK.out]; exact HMq_3_4_5_9_13_14_15.out, HRq_3_4_5_9_13_14_15.out, HXq_3_4_5_9_13_14_15.out⟩
                    case measure => simp [intOf]; omega
                  exact AllReadyH.nil
                exact AllReadyH.nil
              refine Agg.held_cons rfl ?_ ?_
              · refine Agg.step_slice1 (E := EBB) rfl _ rfl svb rfl ?_
                intro ysb wq_3_4_5_13_14 hys hx
                have HYObq_3_4_5_13_14 := Lib.hid (Off.behind (w0 := wq_3_4_5_13) hys.slice (fun k hk => (hys.block k hk).1) HMq_3_4_5_13.out.blk.lt HMq_3_4_5_13.out.lt)
                have HSObq_3_4_5_13_14 := Lib.hid (HSObq_3_4_5_13.out.step (MkStep.of_below hx))
                have HIq_3_4_5_13_14 := Lib.hid (HIq_3_4_5_13.out.below hx)
                have HRq_3_4_5_13_14 := Lib.hid (HRq_3_4_5_13.out.below hx)
                have HMq_3_4_5_13_14 := Lib.hid (HMq_3_4_5_13.out.below hx)
                have HXq_3_4_5_13_14 := Lib.hid (Agg.belowThen HXq_3_4_5_13.out (Nat.le_refl _) hx)
                clear hys hx
                refine ⟨HIq_3_4_5_13_14.out, ?_⟩
                try simp only [Act.put, List.setIfInBounds_toArray, List.set_cons_succ, List.set_cons_zero]
                refine Agg.held_ready [9] (by kernel_rfl) (by simp) ?_
                refine Agg.held_cons rfl ?_ ?_
                · refine Agg.step_call rfl 48 _ _ rfl #[.pointer (some ⟨g, 0, none⟩), .slice (some ⟨g6, 1, none⟩) 20 20] (by simp only [List.map_toArray, List.map_cons, List.map_nil]; rfl) (fun W => HER.out _ W) ?_
                  refine (raw_any g vq_5 _ (x.2.1.1) (b ++ (encN (x.1).length ++ x.1)) _ (by simp only [List.length_append]; omega) (by omega) (hash_slice HIq_3_4_5_13_14.out x.2.2 (riC_hash x)) HMq_3_4_5_13_14.out).mono ?_
                  rintro x wq_3_4_5_9_13_14 ⟨rfl, vq_9, hm, hs⟩
                  have HMq_3_4_5_9_13_14 := Lib.hid hm
                  have HSObq_3_4_5_9_13_14 := Lib.hid (HSObq_3_4_5_13_14.out.step hs)
                  have HYObq_3_4_5_9_13_14 := Lib.hid (HYObq_3_4_5_13_14.out.step hs)
                  have HIq_3_4_5_9_13_14 := Lib.hid (mk_keeps HMq_3_4_5_13_14.out HIq_3_4_5_13_14.out (by decide) hs HN6.out)
                  have HRq_3_4_5_9_13_14 := Lib.hid (mk_keeps HMq_3_4_5_13_14.out HRq_3_4_5_13_14.out (by decide) hs HNG.out)
                  have HXq_3_4_5_9_13_14 := Lib.hid (HXq_3_4_5_13_14.out.trans ((HMq_3_4_5_13_14.out.stepBelow hs).mono HG.out))
                  clear hm hs
                  refine ⟨_, rfl, ?_⟩
                  refine ⟨HIq_3_4_5_9_13_14.out, ?_⟩
                  try simp only [Act.put, List.setIfInBounds_toArray, List.set_cons_succ, List.set_cons_zero]
                  refine Agg.held_ready [15] (by kernel_rfl) (by simp) ?_
                  refine Agg.held_cons rfl ?_ ?_
                  · refine Agg.step_call rfl 46 _ _ rfl #[.pointer (some ⟨g, 0, none⟩), ysb] (by simp only [List.map_toArray, List.map_cons, List.map_nil]; rfl) (fun W => HET.out _ W) ?_
                    refine (text_any g vq_9 ysb svb (x.2.1.2) ((b ++ (encN (x.1).length ++ x.1)) ++ x.2.1.1) _ (by simp only [List.length_append]; omega) (by omega) HYObq_3_4_5_9_13_14.out HSObq_3_4_5_9_13_14.out HMq_3_4_5_9_13_14.out).mono ?_
                    rintro x wq_3_4_5_9_13_14_15 ⟨rfl, vq_15, hm, hs⟩
                    have HMq_3_4_5_9_13_14_15 := Lib.hid hm
                    have HIq_3_4_5_9_13_14_15 := Lib.hid (mk_keeps HMq_3_4_5_9_13_14.out HIq_3_4_5_9_13_14.out (by decide) hs HN6.out)
                    have HRq_3_4_5_9_13_14_15 := Lib.hid (mk_keeps HMq_3_4_5_9_13_14.out HRq_3_4_5_9_13_14.out (by decide) hs HNG.out)
                    have HXq_3_4_5_9_13_14_15 := Lib.hid (HXq_3_4_5_9_13_14.out.trans ((HMq_3_4_5_9_13_14.out.stepBelow hs).mono HG.out))
                    clear hm hs
                    refine ⟨_, rfl, ?_⟩
                    refine ⟨HIq_3_4_5_9_13_14_15.out, ?_⟩
                    try simp only [Act.put, List.setIfInBounds_toArray, List.set_cons_succ, List.set_cons_zero]
                    refine Agg.held_end (by kernel_rfl) ?_
                    go_wp2_with fail
                    go_roundw
                    case rel => exact ⟨k + 1, _, by omega, by go_num, by rw [HTK.out]; exact HMq_3_4_5_9_13_14_15.out, HRq_3_4_5_9_13_14_15.out, HXq_3_4_5_9_13_14_15.out⟩
                    case measure => simp [intOf]; omega
                  exact AllReadyH.nil
                exact AllReadyH.nil
              exact AllReadyH.nil
            refine Agg.held_cons rfl ?_ ?_
            · refine Agg.step_slice1 (E := EBB) rfl _ rfl svb rfl ?_
              intro ysb wq_3_4_13_14 hys hx
              have HYObq_3_4_13_14 := Lib.hid (Off.behind (w0 := wq_3_4_13) hys.slice (fun k hk => (hys.block k hk).1) HMq_3_4_13.out.blk.lt HMq_3_4_13.out.lt)
              have HSOaq_3_4_13_14 := Lib.hid (HSOaq_3_4_13.out.step (MkStep.of_below hx))
              have HYOaq_3_4_13_14 := Lib.hid (HYOaq_3_4_13.out.step (MkStep.of_below hx))
              have HSObq_3_4_13_14 := Lib.hid (HSObq_3_4_13.out.step (MkStep.of_below hx))
              have HIq_3_4_13_14 := Lib.hid (HIq_3_4_13.out.below hx)
              have HRq_3_4_13_14 := Lib.hid (HRq_3_4_13.out.below hx)
              have HMq_3_4_13_14 := Lib.hid (HMq_3_4_13.out.below hx)
              have HXq_3_4_13_14 := Lib.hid (Agg.belowThen HXq_3_4_13.out (Nat.le_refl _) hx)
              clear hys hx
              refine ⟨HIq_3_4_13_14.out, ?_⟩
              try simp only [Act.put, List.setIfInBounds_toArray, List.set_cons_succ, List.set_cons_zero]
              refine Agg.held_ready [5] (by kernel_rfl) (by simp) ?_
              refine Agg.held_cons rfl ?_ ?_
              · refine Agg.step_call rfl 46 _ _ rfl #[.pointer (some ⟨g, 0, none⟩), ysa] (by simp only [List.map_toArray, List.map_cons, List.map_nil]; rfl) (fun W => HET.out _ W) ?_
                refine (text_any g vb ysa sva (x.1) b _ (by omega) (by omega) HYOaq_3_4_13_14.out HSOaq_3_4_13_14.out HMq_3_4_13_14.out).mono ?_
                rintro x wq_3_4_5_13_14 ⟨rfl, vq_5, hm, hs⟩
                have HMq_3_4_5_13_14 := Lib.hid hm
                have HSObq_3_4_5_13_14 := Lib.hid (HSObq_3_4_13_14.out.step hs)
                have HYObq_3_4_5_13_14 := Lib.hid (HYObq_3_4_13_14.out.step hs)
                have HIq_3_4_5_13_14 := Lib.hid (mk_keeps HMq_3_4_13_14.out HIq_3_4_13_14.out (by decide) hs HN6.out)
                have HRq_3_4_5_13_14 := Lib.hid (mk_keeps HMq_3_4_13_14.out HRq_3_4_13_14.out (by decide) hs HNG.out)
                have HXq_3_4_5_13_14 := Lib.hid (HXq_3_4_13_14.out.trans ((HMq_3_4_13_14.out.stepBelow hs).mono HG.out))
                clear hm hs
                refine ⟨_, rfl, ?_⟩
                refine ⟨HIq_3_4_5_13_14.out, ?_⟩
                try simp only [Act.put, List.setIfInBounds_toArray, List.set_cons_succ, List.set_cons_zero]
                refine Agg.held_ready [9] (by kernel_rfl) (by simp) ?_
                refine Agg.held_cons rfl ?_ ?_
                · refine Agg.step_call rfl 48 _ _ rfl #[.pointer (some ⟨g, 0, none⟩), .slice (some ⟨g6, 1, none⟩) 20 20] (by simp only [List.map_toArray, List.map_cons, List.map_nil]; rfl) (fun W => HER.out _ W) ?_
                  refine (raw_any g vq_5 _ (x.2.1.1) (b ++ (encN (x.1).length ++ x.1)) _ (by simp only [List.length_append]; omega) (by omega) (hash_slice HIq_3_4_5_13_14.out x.2.2 (riC_hash x)) HMq_3_4_5_13_14.out).mono ?_
                  rintro x wq_3_4_5_9_13_14 ⟨rfl, vq_9, hm, hs⟩
                  have HMq_3_4_5_9_13_14 := Lib.hid hm
                  have HSObq_3_4_5_9_13_14 := Lib.hid (HSObq_3_4_5_13_14.out.step hs)
                  have HYObq_3_4_5_9_13_14 := Lib.hid (HYObq_3_4_5_13_14.out.step hs)
                  have HIq_3_4_5_9_13_14 := Lib.hid (mk_keeps HMq_3_4_5_13_14.out HIq_3_4_5_13_14.out (by decide) hs HN6.out)
                  have HRq_3_4_5_9_13_14 := Lib.hid (mk_keeps HMq_3_4_5_13_14.out HRq_3_4_5_13_14.out (by decide) hs HNG.out)
                  have HXq_3_4_5_9_13_14 := Lib.hid (HXq_3_4_5_13_14.out.trans ((HMq_3_4_5_13_14.out.stepBelow hs).mono HG.out))
                  clear hm hs
                  refine ⟨_, rfl, ?_⟩
                  refine ⟨HIq_3_4_5_9_13_14.out, ?_⟩
                  try simp only [Act.put, List.setIfInBounds_toArray, List.set_cons_succ, List.set_cons_zero]
                  refine Agg.held_ready [15] (by kernel_rfl) (by simp) ?_
                  refine Agg.held_cons rfl ?_ ?_
                  · refine Agg.step_call rfl 46 _ _ rfl #[.pointer (some ⟨g, 0, none⟩), ysb] (by simp only [List.map_toArray, List.map_cons, List.map_nil]; rfl) (fun W => HET.out _ W) ?_
                    refine (text_any g vq_9 ysb svb (x.2.1.2) ((b ++ (encN (x.1).length ++ x.1)) ++ x.2.1.1) _ (by simp only [List.length_append]; omega) (by omega) HYObq_3_4_5_9_13_14.out HSObq_3_4_5_9_13_14.out HMq_3_4_5_9_13_14.out).mono ?_
                    rintro x wq_3_4_5_9_13_14_15 ⟨rfl, vq_15, hm, hs⟩
                    have HMq_3_4_5_9_13_14_15 := Lib.hid hm
                    have HIq_3_4_5_9_13_14_15 := Lib.hid (mk_keeps HMq_3_4_5_9_13_14.out HIq_3_4_5_9_13_14.out (by decide) hs HN6.out)
                    have HRq_3_4_5_9_13_14_15 := Lib.hid (mk_keeps HMq_3_4_5_9_13_14.out HRq_3_4_5_9_13_14.out (by decide) hs HNG.out)
                    have HXq_3_4_5_9_13_14_15 := Lib.hid (HXq_3_4_5_9_13_14.out.trans ((HMq_3_4_5_9_13_14.out.stepBelow hs).mono HG.out))
                    clear hm hs
                    refine ⟨_, rfl, ?_⟩
                    refine ⟨HIq_3_4_5_9_13_14_15.out, ?_⟩
                    try simp only [Act.put, List.setIfInBounds_toArray, List.set_cons_succ, List.set_cons_zero]
                    refine Agg.held_end (by kernel_rfl) ?_
                    go_wp2_with fail
                    go_roundw
                    case rel => exact ⟨k + 1, _, by omega, by go_num, by rw [HTK.out]; exact HMq_3_4_5_9_13_14_15.out, HRq_3_4_5_9_13_14_15.out, HXq_3_4_5_9_13_14_15.out⟩
                    case measure => simp [intOf]; omega
                  exact AllReadyH.nil
                exact AllReadyH.nil
              exact AllReadyH.nil
            exact AllReadyH.nil
          exact AllReadyH.nil
        refine Agg.held_cons rfl ?_ ?_
        · refine step_toBytes rfl _ rfl (x.2.1.2) rfl ?_
          intro vq13 wq_3_13 hn hx
          obtain ⟨svb, rfl⟩ := bytes_svB hn.slice
          have HSObq_3_13 := Lib.hid (Off.behind (w0 := wq_3) hn.slice (fun k hk => newBytes_ownB hn k hk) HMq_3.out.blk.lt HMq_3.out.lt)
          have HSOaq_3_13 := Lib.hid (HSOaq_3.out.step (MkStep.of_below hx))
          have HIq_3_13 := Lib.hid (HIq_3.out.below hx)
          have HRq_3_13 := Lib.hid (HRq_3.out.below hx)
          have HMq_3_13 := Lib.hid (HMq_3.out.below hx)
          have HXq_3_13 := Lib.hid (Agg.belowThen HXq_3.out (Nat.le_refl _) hx)
          clear hn hx
          refine ⟨HIq_3_13.out, ?_⟩
          try simp only [Act.put, List.setIfInBounds_toArray, List.set_cons_succ, List.set_cons_zero]
          refine Agg.held_ready [4, 14] (by kernel_rfl) (by simp) ?_
          refine Agg.held_cons rfl ?_ ?_
          · refine Agg.step_slice1 (E := EBB) rfl _ rfl sva rfl ?_
            intro ysa wq_3_4_13 hys hx
            have HYOaq_3_4_13 := Lib.hid (Off.behind (w0 := wq_3_13) hys.slice (fun k hk => (hys.block k hk).1) HMq_3_13.out.blk.lt HMq_3_13.out.lt)
            have HSOaq_3_4_13 := Lib.hid (HSOaq_3_13.out.step (MkStep.of_below hx))
            have HSObq_3_4_13 := Lib.hid (HSObq_3_13.out.step (MkStep.of_below hx))
            have HIq_3_4_13 := Lib.hid (HIq_3_13.out.below hx)
            have HRq_3_4_13 := Lib.hid (HRq_3_13.out.below hx)
            have HMq_3_4_13 := Lib.hid (HMq_3_13.out.below hx)
            have HXq_3_4_13 := Lib.hid (Agg.belowThen HXq_3_13.out (Nat.le_refl _) hx)
            clear hys hx
            refine ⟨HIq_3_4_13.out, ?_⟩
            try simp only [Act.put, List.setIfInBounds_toArray, List.set_cons_succ, List.set_cons_zero]
            refine Agg.held_ready [5, 14] (by kernel_rfl) (by simp) ?_
            refine Agg.held_cons rfl ?_ ?_
            · refine Agg.step_call rfl 46 _ _ rfl #[.pointer (some ⟨g, 0, none⟩), ysa] (by simp only [List.map_toArray, List.map_cons, List.map_nil]; rfl) (fun W => HET.out _ W) ?_
              refine (text_any g vb ysa sva (x.1) b _ (by omega) (by omega) HYOaq_3_4_13.out HSOaq_3_4_13.out HMq_3_4_13.out).mono ?_
              rintro x wq_3_4_5_13 ⟨rfl, vq_5, hm, hs⟩
              have HMq_3_4_5_13 := Lib.hid hm
              have HSObq_3_4_5_13 := Lib.hid (HSObq_3_4_13.out.step hs)
              have HIq_3_4_5_13 := Lib.hid (mk_keeps HMq_3_4_13.out HIq_3_4_13.out (by decide) hs HN6.out)
              have HRq_3_4_5_13 := Lib.hid (mk_keeps HMq_3_4_13.out HRq_3_4_13.out (by decide) hs HNG.out)
              have HXq_3_4_5_13 := Lib.hid (HXq_3_4_13.out.trans ((HMq_3_4_13.out.stepBelow hs).mono HG.out))
              clear hm hs
              refine ⟨_, rfl, ?_⟩
              refine ⟨HIq_3_4_5_13.out, ?_⟩
              try simp only [Act.put, List.setIfInBounds_toArray, List.set_cons_succ, List.set_cons_zero]
              refine Agg.held_ready [9, 14] (by kernel_rfl) (by simp) ?_
              refine Agg.held_cons rfl ?_ ?_
              · refine Agg.step_call rfl 48 _ _ rfl #[.pointer (some ⟨g, 0, none⟩), .slice (some ⟨g6, 1, none⟩) 20 20] (by simp only [List.map_toArray, List.map_cons, List.map_nil]; rfl) (fun W => HER.out _ W) ?_
                refine (raw_any g vq_5 _ (x.2.1.1) (b ++ (encN (x.1).length ++ x.1)) _ (by simp only [List.length_append]; omega) (by omega) (hash_slice HIq_3_4_5_13.out x.2.2 (riC_hash x)) HMq_3_4_5_13.out).mono ?_
                rintro x wq_3_4_5_9_13 ⟨rfl, vq_9, hm, hs⟩
                have HMq_3_4_5_9_13 := Lib.hid hm
                have HSObq_3_4_5_9_13 := Lib.hid (HSObq_3_4_5_13.out.step hs)
                have HIq_3_4_5_9_13 := Lib.hid (mk_keeps HMq_3_4_5_13.out HIq_3_4_5_13.out (by decide) hs HN6.out)
                have HRq_3_4_5_9_13 := Lib.hid (mk_keeps HMq_3_4_5_13.out HRq_3_4_5_13.out (by decide) hs HNG.out)
                have HXq_3_4_5_9_13 := Lib.hid (HXq_3_4_5_13.out.trans ((HMq_3_4_5_13.out.stepBelow hs).mono HG.out))
                clear hm hs
                refine ⟨_, rfl, ?_⟩
                refine ⟨HIq_3_4_5_9_13.out, ?_⟩
                try simp only [Act.put, List.setIfInBounds_toArray, List.set_cons_succ, List.set_cons_zero]
                refine Agg.held_ready [14] (by kernel_rfl) (by simp) ?_
                refine Agg.held_cons rfl ?_ ?_
                · refine Agg.step_slice1 (E := EBB) rfl _ rfl svb rfl ?_
                  intro ysb wq_3_4_5_9_13_14 hys hx
                  have HYObq_3_4_5_9_13_14 := Lib.hid (Off.behind (w0 := wq_3_4_5_9_13) hys.slice (fun k hk => (hys.block k hk).1) HMq_3_4_5_9_13.out.blk.lt HMq_3_4_5_9_13.out.lt)
                  have HSObq_3_4_5_9_13_14 := Lib.hid (HSObq_3_4_5_9_13.out.step (MkStep.of_below hx))
                  have HIq_3_4_5_9_13_14 := Lib.hid (HIq_3_4_5_9_13.out.below hx)
                  have HRq_3_4_5_9_13_14 := Lib.hid (HRq_3_4_5_9_13.out.below hx)
                  have HMq_3_4_5_9_13_14 := Lib.hid (HMq_3_4_5_9_13.out.below hx)
                  have HXq_3_4_5_9_13_14 := Lib.hid (Agg.belowThen HXq_3_4_5_9_13.out (Nat.le_refl _) hx)
                  clear hys hx
                  refine ⟨HIq_3_4_5_9_13_14.out, ?_⟩
                  try simp only [Act.put, List.setIfInBounds_toArray, List.set_cons_succ, List.set_cons_zero]
                  refine Agg.held_ready [15] (by kernel_rfl) (by simp) ?_
                  refine Agg.held_cons rfl ?_ ?_
                  · refine Agg.step_call rfl 46 _ _ rfl #[.pointer (some ⟨g, 0, none⟩), ysb] (by simp only [List.map_toArray, List.map_cons, List.map_nil]; rfl) (fun W => HET.out _ W) ?_
                    refine (text_any g vq_9 ysb svb (x.2.1.2) ((b ++ (encN (x.1).length ++ x.1)) ++ x.2.1.1) _ (by simp only [List.length_append]; omega) (by omega) HYObq_3_4_5_9_13_14.out HSObq_3_4_5_9_13_14.out HMq_3_4_5_9_13_14.out).mono ?_
                    rintro x wq_3_4_5_9_13_14_15 ⟨rfl, vq_15, hm, hs⟩
                    have HMq_3_4_5_9_13_14_15 := Lib.hid hm
                    have HIq_3_4_5_9_13_14_15 := Lib.hid (mk_keeps HMq_3_4_5_9_13_14.out HIq_3_4_5_9_13_14.out (by decide) hs HN6.out)
                    have HRq_3_4_5_9_13_14_15 := Lib.hid (mk_keeps HMq_3_4_5_9_13_14.out HRq_3_4_5_9_13_14.out (by decide) hs HNG.out)
                    have HXq_3_4_5_9_13_14_15 := Lib.hid (HXq_3_4_5_9_13_14.out.trans ((HMq_3_4_5_9_13_14.out.stepBelow hs).mono HG.out))
                    clear hm hs
                    refine ⟨_, rfl, ?_⟩
                    refine ⟨HIq_3_4_5_9_13_14_15.out, ?_⟩
                    try simp only [Act.put, List.setIfInBounds_toArray, List.set_cons_succ, List.set_cons_zero]
                    refine Agg.held_end (by kernel_rfl) ?_
                    go_wp2_with fail
                    go_roundw
                    case rel => exact ⟨k + 1, _, by omega, by go_num, by rw [HTK.out]; exact HMq_3_4_5_9_13_14_15.out, HRq_3_4_5_9_13_14_15.out, HXq_3_4_5_9_13_14_15.out⟩
                    case measure => simp [intOf]; omega
                  exact AllReadyH.nil
                exact AllReadyH.nil
              refine Agg.held_cons rfl ?_ ?_
              · refine Agg.step_slice1 (E := EBB) rfl _ rfl svb rfl ?_
                intro ysb wq_3_4_5_13_14 hys hx
                have HYObq_3_4_5_13_14 := Lib.hid (Off.behind (w0 := wq_3_4_5_13) hys.slice (fun k hk => (hys.block k hk).1) HMq_3_4_5_13.out.blk.lt HMq_3_4_5_13.out.lt)
                have HSObq_3_4_5_13_14 := Lib.hid (HSObq_3_4_5_13.out.step (MkStep.of_below hx))
                have HIq_3_4_5_13_14 := Lib.hid (HIq_3_4_5_13.out.below hx)
                have HRq_3_4_5_13_14 := Lib.hid (HRq_3_4_5_13.out.below hx)
                have HMq_3_4_5_13_14 := Lib.hid (HMq_3_4_5_13.out.below hx)
                have HXq_3_4_5_13_14 := Lib.hid (Agg.belowThen HXq_3_4_5_13.out (Nat.le_refl _) hx)
                clear hys hx
                refine ⟨HIq_3_4_5_13_14.out, ?_⟩
                try simp only [Act.put, List.setIfInBounds_toArray, List.set_cons_succ, List.set_cons_zero]
                refine Agg.held_ready [9] (by kernel_rfl) (by simp) ?_
                refine Agg.held_cons rfl ?_ ?_
                · refine Agg.step_call rfl 48 _ _ rfl #[.pointer (some ⟨g, 0, none⟩), .slice (some ⟨g6, 1, none⟩) 20 20] (by simp only [List.map_toArray, List.map_cons, List.map_nil]; rfl) (fun W => HER.out _ W) ?_
                  refine (raw_any g vq_5 _ (x.2.1.1) (b ++ (encN (x.1).length ++ x.1)) _ (by simp only [List.length_append]; omega) (by omega) (hash_slice HIq_3_4_5_13_14.out x.2.2 (riC_hash x)) HMq_3_4_5_13_14.out).mono ?_
                  rintro x wq_3_4_5_9_13_14 ⟨rfl, vq_9, hm, hs⟩
                  have HMq_3_4_5_9_13_14 := Lib.hid hm
                  have HSObq_3_4_5_9_13_14 := Lib.hid (HSObq_3_4_5_13_14.out.step hs)
                  have HYObq_3_4_5_9_13_14 := Lib.hid (HYObq_3_4_5_13_14.out.step hs)
                  have HIq_3_4_5_9_13_14 := Lib.hid (mk_keeps HMq_3_4_5_13_14.out HIq_3_4_5_13_14.out (by decide) hs HN6.out)
                  have HRq_3_4_5_9_13_14 := Lib.hid (mk_keeps HMq_3_4_5_13_14.out HRq_3_4_5_13_14.out (by decide) hs HNG.out)
                  have HXq_3_4_5_9_13_14 := Lib.hid (HXq_3_4_5_13_14.out.trans ((HMq_3_4_5_13_14.out.stepBelow hs).mono HG.out))
                  clear hm hs
                  refine ⟨_, rfl, ?_⟩
                  refine ⟨HIq_3_4_5_9_13_14.out, ?_⟩
                  try simp only [Act.put, List.setIfInBounds_toArray, List.set_cons_succ, List.set_cons_zero]
                  refine Agg.held_ready [15] (by kernel_rfl) (by simp) ?_
                  refine Agg.held_cons rfl ?_ ?_
                  · refine Agg.step_call rfl 46 _ _ rfl #[.pointer (some ⟨g, 0, none⟩), ysb] (by simp only [List.map_toArray, List.map_cons, List.map_nil]; rfl) (fun W => HET.out _ W) ?_
                    refine (text_any g vq_9 ysb svb (x.2.1.2) ((b ++ (encN (x.1).length ++ x.1)) ++ x.2.1.1) _ (by simp only [List.length_append]; omega) (by omega) HYObq_3_4_5_9_13_14.out HSObq_3_4_5_9_13_14.out HMq_3_4_5_9_13_14.out).mono ?_
                    rintro x wq_3_4_5_9_13_14_15 ⟨rfl, vq_15, hm, hs⟩
                    have HMq_3_4_5_9_13_14_15 := Lib.hid hm
                    have HIq_3_4_5_9_13_14_15 := Lib.hid (mk_keeps HMq_3_4_5_9_13_14.out HIq_3_4_5_9_13_14.out (by decide) hs HN6.out)
                    have HRq_3_4_5_9_13_14_15 := Lib.hid (mk_keeps HMq_3_4_5_9_13_14.out HRq_3_4_5_9_13_14.out (by decide) hs HNG.out)
                    have HXq_3_4_5_9_13_14_15 := Lib.hid (HXq_3_4_5_9_13_14.out.trans ((HMq_3_4_5_9_13_14.out.stepBelow hs).mono HG.out))
                    clear hm hs
                    refine ⟨_, rfl, ?_⟩
                    refine ⟨HIq_3_4_5_9_13_14_15.out, ?_⟩
                    try simp only [Act.put, List.setIfInBounds_toArray, List.set_cons_succ, List.set_cons_zero]
                    refine Agg.held_end (by kernel_rfl) ?_
                    go_wp2_with fail
                    go_roundw
                    case rel => exact ⟨k + 1, _, by omega, by go_num, by rw [HTK.out]; exact HMq_3_4_5_9_13_14_15.out, HRq_3_4_5_9_13_14_15.out, HXq_3_4_5_9_13_14_15.out⟩
                    case measure => simp [intOf]; omega
                  exact AllReadyH.nil
                exact AllReadyH.nil
              exact AllReadyH.nil
            refine Agg.held_cons rfl ?_ ?_
            · refine Agg.step_slice1 (E := EBB) rfl _ rfl svb rfl ?_
              intro ysb wq_3_4_13_14 hys hx
              have HYObq_3_4_13_14 := Lib.hid (Off.behind (w0 := wq_3_4_13) hys.slice (fun k hk => (hys.block k hk).1) HMq_3_4_13.out.blk.lt HMq_3_4_13.out.lt)
              have HSOaq_3_4_13_14 := Lib.hid (HSOaq_3_4_13.out.step (MkStep.of_below hx))
              have HYOaq_3_4_13_14 := Lib.hid (HYOaq_3_4_13.out.step (MkStep.of_below hx))
              have HSObq_3_4_13_14 := Lib.hid (HSObq_3_4_13.out.step (MkStep.of_below hx))
              have HIq_3_4_13_14 := Lib.hid (HIq_3_4_13.out.below hx)
              have HRq_3_4_13_14 := Lib.hid (HRq_3_4_13.out.below hx)
              have HMq_3_4_13_14 := Lib.hid (HMq_3_4_13.out.below hx)
              have HXq_3_4_13_14 := Lib.hid (Agg.belowThen HXq_3_4_13.out (Nat.le_refl _) hx)
              clear hys hx
              refine ⟨HIq_3_4_13_14.out, ?_⟩
              try simp only [Act.put, List.setIfInBounds_toArray, List.set_cons_succ, List.set_cons_zero]
              refine Agg.held_ready [5] (by kernel_rfl) (by simp) ?_
              refine Agg.held_cons rfl ?_ ?_
              · refine Agg.step_call rfl 46 _ _ rfl #[.pointer (some ⟨g, 0, none⟩), ysa] (by simp only [List.map_toArray, List.map_cons, List.map_nil]; rfl) (fun W => HET.out _ W) ?_
                refine (text_any g vb ysa sva (x.1) b _ (by omega) (by omega) HYOaq_3_4_13_14.out HSOaq_3_4_13_14.out HMq_3_4_13_14.out).mono ?_
                rintro x wq_3_4_5_13_14 ⟨rfl, vq_5, hm, hs⟩
                have HMq_3_4_5_13_14 := Lib.hid hm
                have HSObq_3_4_5_13_14 := Lib.hid (HSObq_3_4_13_14.out.step hs)
                have HYObq_3_4_5_13_14 := Lib.hid (HYObq_3_4_13_14.out.step hs)
                have HIq_3_4_5_13_14 := Lib.hid (mk_keeps HMq_3_4_13_14.out HIq_3_4_13_14.out (by decide) hs HN6.out)
                have HRq_3_4_5_13_14 := Lib.hid (mk_keeps HMq_3_4_13_14.out HRq_3_4_13_14.out (by decide) hs HNG.out)
                have HXq_3_4_5_13_14 := Lib.hid (HXq_3_4_13_14.out.trans ((HMq_3_4_13_14.out.stepBelow hs).mono HG.out))
                clear hm hs
                refine ⟨_, rfl, ?_⟩
                refine ⟨HIq_3_4_5_13_14.out, ?_⟩
                try simp only [Act.put, List.setIfInBounds_toArray, List.set_cons_succ, List.set_cons_zero]
                refine Agg.held_ready [9] (by kernel_rfl) (by simp) ?_
                refine Agg.held_cons rfl ?_ ?_
                · refine Agg.step_call rfl 48 _ _ rfl #[.pointer (some ⟨g, 0, none⟩), .slice (some ⟨g6, 1, none⟩) 20 20] (by simp only [List.map_toArray, List.map_cons, List.map_nil]; rfl) (fun W => HER.out _ W) ?_
                  refine (raw_any g vq_5 _ (x.2.1.1) (b ++ (encN (x.1).length ++ x.1)) _ (by simp only [List.length_append]; omega) (by omega) (hash_slice HIq_3_4_5_13_14.out x.2.2 (riC_hash x)) HMq_3_4_5_13_14.out).mono ?_
                  rintro x wq_3_4_5_9_13_14 ⟨rfl, vq_9, hm, hs⟩
                  have HMq_3_4_5_9_13_14 := Lib.hid hm
                  have HSObq_3_4_5_9_13_14 := Lib.hid (HSObq_3_4_5_13_14.out.step hs)
                  have HYObq_3_4_5_9_13_14 := Lib.hid (HYObq_3_4_5_13_14.out.step hs)
                  have HIq_3_4_5_9_13_14 := Lib.hid (mk_keeps HMq_3_4_5_13_14.out HIq_3_4_5_13_14.out (by decide) hs HN6.out)
                  have HRq_3_4_5_9_13_14 := Lib.hid (mk_keeps HMq_3_4_5_13_14.out HRq_3_4_5_13_14.out (by decide) hs HNG.out)
                  have HXq_3_4_5_9_13_14 := Lib.hid (HXq_3_4_5_13_14.out.trans ((HMq_3_4_5_13_14.out.stepBelow hs).mono HG.out))
                  clear hm hs
                  refine ⟨_, rfl, ?_⟩
                  refine ⟨HIq_3_4_5_9_13_14.out, ?_⟩
                  try simp only [Act.put, List.setIfInBounds_toArray, List.set_cons_succ, List.set_cons_zero]
                  refine Agg.held_ready [15] (by kernel_rfl) (by simp) ?_
                  refine Agg.held_cons rfl ?_ ?_
                  · refine Agg.step_call rfl 46 _ _ rfl #[.pointer (some ⟨g, 0, none⟩), ysb] (by simp only [List.map_toArray, List.map_cons, List.map_nil]; rfl) (fun W => HET.out _ W) ?_
                    refine (text_any g vq_9 ysb svb (x.2.1.2) ((b ++ (encN (x.1).length ++ x.1)) ++ x.2.1.1) _ (by simp only [List.length_append]; omega) (by omega) HYObq_3_4_5_9_13_14.out HSObq_3_4_5_9_13_14.out HMq_3_4_5_9_13_14.out).mono ?_
                    rintro x wq_3_4_5_9_13_14_15 ⟨rfl, vq_15, hm, hs⟩
                    have HMq_3_4_5_9_13_14_15 := Lib.hid hm
                    have HIq_3_4_5_9_13_14_15 := Lib.hid (mk_keeps HMq_3_4_5_9_13_14.out HIq_3_4_5_9_13_14.out (by decide) hs HN6.out)
                    have HRq_3_4_5_9_13_14_15 := Lib.hid (mk_keeps HMq_3_4_5_9_13_14.out HRq_3_4_5_9_13_14.out (by decide) hs HNG.out)
                    have HXq_3_4_5_9_13_14_15 := Lib.hid (HXq_3_4_5_9_13_14.out.trans ((HMq_3_4_5_9_13_14.out.stepBelow hs).mono HG.out))
                    clear hm hs
                    refine ⟨_, rfl, ?_⟩
                    refine ⟨HIq_3_4_5_9_13_14_15.out, ?_⟩
                    try simp only [Act.put, List.setIfInBounds_toArray, List.set_cons_succ, List.set_cons_zero]
                    refine Agg.held_end (by kernel_rfl) ?_
                    go_wp2_with fail
                    go_roundw
                    case rel => exact ⟨k + 1, _, by omega, by go_num, by rw [HTK.out]; exact HMq_3_4_5_9_13_14_15.out, HRq_3_4_5_9_13_14_15.out, HXq_3_4_5_9_13_14_15.out⟩
                    case measure => simp [intOf]; omega
                  exact AllReadyH.nil
                exact AllReadyH.nil
              exact AllReadyH.nil
            exact AllReadyH.nil
          refine Agg.held_cons rfl ?_ ?_
          · refine Agg.step_slice1 (E := EBB) rfl _ rfl svb rfl ?_
            intro ysb wq_3_13_14 hys hx
            have HYObq_3_13_14 := Lib.hid (Off.behind (w0 := wq_3_13) hys.slice (fun k hk => (hys.block k hk).1) HMq_3_13.out.blk.lt HMq_3_13.out.lt)
            have HSOaq_3_13_14 := Lib.hid (HSOaq_3_13.out.step (MkStep.of_below hx))
            have HSObq_3_13_14 := Lib.hid (HSObq_3_13.out.step (MkStep.of_below hx))
            have HIq_3_13_14 := Lib.hid (HIq_3_13.out.below hx)
            have HRq_3_13_14 := Lib.hid (HRq_3_13.out.below hx)
            have HMq_3_13_14 := Lib.hid (HMq_3_13.out.below hx)
            have HXq_3_13_14 := Lib.hid (Agg.belowThen HXq_3_13.out (Nat.le_refl _) hx)
            clear hys hx
            refine ⟨HIq_3_13_14.out, ?_⟩
            try simp only [Act.put, List.setIfInBounds_toArray, List.set_cons_succ, List.set_cons_zero]
            refine Agg.held_ready [4] (by kernel_rfl) (by simp) ?_
            refine Agg.held_cons rfl ?_ ?_
            · refine Agg.step_slice1 (E := EBB) rfl _ rfl sva rfl ?_
              intro ysa wq_3_4_13_14 hys hx
              have HYOaq_3_4_13_14 := Lib.hid (Off.behind (w0 := wq_3_13_14) hys.slice (fun k hk => (hys.block k hk).1) HMq_3_13_14.out.blk.lt HMq_3_13_14.out.lt)
              have HSOaq_3_4_13_14 := Lib.hid (HSOaq_3_13_14.out.step (MkStep.of_below hx))
              have HSObq_3_4_13_14 := Lib.hid (HSObq_3_13_14.out.step (MkStep.of_below hx))
              have HYObq_3_4_13_14 := Lib.hid (HYObq_3_13_14.out.step (MkStep.of_below hx))
              have HIq_3_4_13_14 := Lib.hid (HIq_3_13_14.out.below hx)
              have HRq_3_4_13_14 := Lib.hid (HRq_3_13_14.out.below hx)
              have HMq_3_4_13_14 := Lib.hid (HMq_3_13_14.out.below hx)
              have HXq_3_4_13_14 := Lib.hid (Agg.belowThen HXq_3_13_14.out (Nat.le_refl _) hx)
              clear hys hx
              refine ⟨HIq_3_4_13_14.out, ?_⟩
              try simp only [Act.put, List.setIfInBounds_toArray, List.set_cons_succ, List.set_cons_zero]
              refine Agg.held_ready [5] (by kernel_rfl) (by simp) ?_
              refine Agg.held_cons rfl ?_ ?_
              · refine Agg.step_call rfl 46 _ _ rfl #[.pointer (some ⟨g, 0, none⟩), ysa] (by simp only [List.map_toArray, List.map_cons, List.map_nil]; rfl) (fun W => HET.out _ W) ?_
                refine (text_any g vb ysa sva (x.1) b _ (by omega) (by omega) HYOaq_3_4_13_14.out HSOaq_3_4_13_14.out HMq_3_4_13_14.out).mono ?_
                rintro x wq_3_4_5_13_14 ⟨rfl, vq_5, hm, hs⟩
                have HMq_3_4_5_13_14 := Lib.hid hm
                have HSObq_3_4_5_13_14 := Lib.hid (HSObq_3_4_13_14.out.step hs)
                have HYObq_3_4_5_13_14 := Lib.hid (HYObq_3_4_13_14.out.step hs)
                have HIq_3_4_5_13_14 := Lib.hid (mk_keeps HMq_3_4_13_14.out HIq_3_4_13_14.out (by decide) hs HN6.out)
                have HRq_3_4_5_13_14 := Lib.hid (mk_keeps HMq_3_4_13_14.out HRq_3_4_13_14.out (by decide) hs HNG.out)
                have HXq_3_4_5_13_14 := Lib.hid (HXq_3_4_13_14.out.trans ((HMq_3_4_13_14.out.stepBelow hs).mono HG.out))
                clear hm hs
                refine ⟨_, rfl, ?_⟩
                refine ⟨HIq_3_4_5_13_14.out, ?_⟩
                try simp only [Act.put, List.setIfInBounds_toArray, List.set_cons_succ, List.set_cons_zero]
                refine Agg.held_ready [9] (by kernel_rfl) (by simp) ?_
                refine Agg.held_cons rfl ?_ ?_
                · refine Agg.step_call rfl 48 _ _ rfl #[.pointer (some ⟨g, 0, none⟩), .slice (some ⟨g6, 1, none⟩) 20 20] (by simp only [List.map_toArray, List.map_cons, List.map_nil]; rfl) (fun W => HER.out _ W) ?_
                  refine (raw_any g vq_5 _ (x.2.1.1) (b ++ (encN (x.1).length ++ x.1)) _ (by simp only [List.length_append]; omega) (by omega) (hash_slice HIq_3_4_5_13_14.out x.2.2 (riC_hash x)) HMq_3_4_5_13_14.out).mono ?_
                  rintro x wq_3_4_5_9_13_14 ⟨rfl, vq_9, hm, hs⟩
                  have HMq_3_4_5_9_13_14 := Lib.hid hm
                  have HSObq_3_4_5_9_13_14 := Lib.hid (HSObq_3_4_5_13_14.out.step hs)
                  have HYObq_3_4_5_9_13_14 := Lib.hid (HYObq_3_4_5_13_14.out.step hs)
                  have HIq_3_4_5_9_13_14 := Lib.hid (mk_keeps HMq_3_4_5_13_14.out HIq_3_4_5_13_14.out (by decide) hs HN6.out)
                  have HRq_3_4_5_9_13_14 := Lib.hid (mk_keeps HMq_3_4_5_13_14.out HRq_3_4_5_13_14.out (by decide) hs HNG.out)
                  have HXq_3_4_5_9_13_14 := Lib.hid (HXq_3_4_5_13_14.out.trans ((HMq_3_4_5_13_14.out.stepBelow hs).mono HG.out))
                  clear hm hs
                  refine ⟨_, rfl, ?_⟩
                  refine ⟨HIq_3_4_5_9_13_14.out, ?_⟩
                  try simp only [Act.put, List.setIfInBounds_toArray, List.set_cons_succ, List.set_cons_zero]
                  refine Agg.held_ready [15] (by kernel_rfl) (by simp) ?_
                  refine Agg.held_cons rfl ?_ ?_
                  · refine Agg.step_call rfl 46 _ _ rfl #[.pointer (some ⟨g, 0, none⟩), ysb] (by simp only [List.map_toArray, List.map_cons, List.map_nil]; rfl) (fun W => HET.out _ W) ?_
                    refine (text_any g vq_9 ysb svb (x.2.1.2) ((b ++ (encN (x.1).length ++ x.1)) ++ x.2.1.1) _ (by simp only [List.length_append]; omega) (by omega) HYObq_3_4_5_9_13_14.out HSObq_3_4_5_9_13_14.out HMq_3_4_5_9_13_14.out).mono ?_
                    rintro x wq_3_4_5_9_13_14_15 ⟨rfl, vq_15, hm, hs⟩
                    have HMq_3_4_5_9_13_14_15 := Lib.hid hm
                    have HIq_3_4_5_9_13_14_15 := Lib.hid (mk_keeps HMq_3_4_5_9_13_14.out HIq_3_4_5_9_13_14.out (by decide) hs HN6.out)
                    have HRq_3_4_5_9_13_14_15 := Lib.hid (mk_keeps HMq_3_4_5_9_13_14.out HRq_3_4_5_9_13_14.out (by decide) hs HNG.out)
                    have HXq_3_4_5_9_13_14_15 := Lib.hid (HXq_3_4_5_9_13_14.out.trans ((HMq_3_4_5_9_13_14.out.stepBelow hs).mono HG.out))
                    clear hm hs
                    refine ⟨_, rfl, ?_⟩
                    refine ⟨HIq_3_4_5_9_13_14_15.out, ?_⟩
                    try simp only [Act.put, List.setIfInBounds_toArray, List.set_cons_succ, List.set_cons_zero]
                    refine Agg.held_end (by kernel_rfl) ?_
                    go_wp2_with fail
                    go_roundw
                    case rel => exact ⟨k + 1, _, by omega, by go_num, by rw [HTK.out]; exact HMq_3_4_5_9_13_14_15.out, HRq_3_4_5_9_13_14_15.out, HXq_3_4_5_9_13_14_15.out⟩
                    case measure => simp [intOf]; omega
                  exact AllReadyH.nil
                exact AllReadyH.nil
              exact AllReadyH.nil
            exact AllReadyH.nil
          exact AllReadyH.nil
        exact AllReadyH.nil
      refine Agg.held_cons rfl ?_ ?_
      · refine step_toBytes rfl _ rfl (x.2.1.2) rfl ?_
        intro vq13 wq_13 hn hx
        obtain ⟨svb, rfl⟩ := bytes_svB hn.slice
        have HSObq_13 := Lib.hid (Off.behind (w0 := wy) hn.slice (fun k hk => newBytes_ownB hn k hk) HMq0.out.blk.lt HMq0.out.lt)
        have HIq_13 := Lib.hid (HIq0.out.below hx)
        have HRq_13 := Lib.hid (HRq0.out.below hx)
        have HMq_13 := Lib.hid (HMq0.out.below hx)
        have HXq_13 := Lib.hid (Agg.belowThen HXq0.out (Nat.le_refl _) hx)
        clear hn hx
        refine ⟨HIq_13.out, ?_⟩
        try simp only [Act.put, List.setIfInBounds_toArray, List.set_cons_succ, List.set_cons_zero]
        refine Agg.held_ready [3, 14] (by kernel_rfl) (by simp) ?_
        refine Agg.held_cons rfl ?_ ?_
        · refine step_toBytes rfl _ rfl (x.1) rfl ?_
          intro vq3 wq_3_13 hn hx
          obtain ⟨sva, rfl⟩ := bytes_svB hn.slice
          have HSOaq_3_13 := Lib.hid (Off.behind (w0 := wq_13) hn.slice (fun k hk => newBytes_ownB hn k hk) HMq_13.out.blk.lt HMq_13.out.lt)
          have HSObq_3_13 := Lib.hid (HSObq_13.out.step (MkStep.of_below hx))
          have HIq_3_13 := Lib.hid (HIq_13.out.below hx)
          have HRq_3_13 := Lib.hid (HRq_13.out.below hx)
          have HMq_3_13 := Lib.hid (HMq_13.out.below hx)
          have HXq_3_13 := Lib.hid (Agg.belowThen HXq_13.out (Nat.le_refl _) hx)
          clear hn hx
          refine ⟨HIq_3_13.out, ?_⟩
          try simp only [Act.put, List.setIfInBounds_toArray, List.set_cons_succ, List.set_cons_zero]
          refine Agg.held_ready [4, 14] (by kernel_rfl) (by simp) ?_
          refine Agg.held_cons rfl ?_ ?_
          · refine Agg.step_slice1 (E := EBB) rfl _ rfl sva rfl ?_
            intro ysa wq_3_4_13 hys hx
            have HYOaq_3_4_13 := Lib.hid (Off.behind (w0 := wq_3_13) hys.slice (fun k hk => (hys.block k hk).1) HMq_3_13.out.blk.lt HMq_3_13.out.lt)
            have HSOaq_3_4_13 := Lib.hid (HSOaq_3_13.out.step (MkStep.of_below hx))
            have HSObq_3_4_13 := Lib.hid (HSObq_3_13.out.step (MkStep.of_below hx))
            have HIq_3_4_13 := Lib.hid (HIq_3_13.out.below hx)
            have HRq_3_4_13 := Lib.hid (HRq_3_13.out.below hx)
            have HMq_3_4_13 := Lib.hid (HMq_3_13.out.below hx)
            have HXq_3_4_13 := Lib.hid (Agg.belowThen HXq_3_13.out (Nat.le_refl _) hx)
            clear hys hx
            refine ⟨HIq_3_4_13.out, ?_⟩
            try simp only [Act.put, List.setIfInBounds_toArray, List.set_cons_succ, List.set_cons_zero]
            refine Agg.held_ready [5, 14] (by kernel_rfl) (by simp) ?_
            refine Agg.held_cons rfl ?_ ?_
            · refine Agg.step_call rfl 46 _ _ rfl #[.pointer (some ⟨g, 0, none⟩), ysa] (by simp only [List.map_toArray, List.map_cons, List.map_nil]; rfl) (fun W => HET.out _ W) ?_
              refine (text_any g vb ysa sva (x.1) b _ (by omega) (by omega) HYOaq_3_4_13.out HSOaq_3_4_13.out HMq_3_4_13.out).mono ?_
              rintro x wq_3_4_5_13 ⟨rfl, vq_5, hm, hs⟩
              have HMq_3_4_5_13 := Lib.hid hm
              have HSObq_3_4_5_13 := Lib.hid (HSObq_3_4_13.out.step hs)
              have HIq_3_4_5_13 := Lib.hid (mk_keeps HMq_3_4_13.out HIq_3_4_13.out (by decide) hs HN6.out)
              have HRq_3_4_5_13 := Lib.hid (mk_keeps HMq_3_4_13.out HRq_3_4_13.out (by decide) hs HNG.out)
              have HXq_3_4_5_13 := Lib.hid (HXq_3_4_13.out.trans ((HMq_3_4_13.out.stepBelow hs).mono HG.out))
              clear hm hs
              refine ⟨_, rfl, ?_⟩
              refine ⟨HIq_3_4_5_13.out, ?_⟩
              try simp only [Act.put, List.setIfInBounds_toArray, List.set_cons_succ, List.set_cons_zero]
              refine Agg.held_ready [9, 14] (by kernel_rfl) (by simp) ?_
              refine Agg.held_cons rfl ?_ ?_
              · refine Agg.step_call rfl 48 _ _ rfl #[.pointer (some ⟨g, 0, none⟩), .slice (some ⟨g6, 1, none⟩) 20 20] (by simp only [List.map_toArray, List.map_cons, List.map_nil]; rfl) (fun W => HER.out _ W) ?_
                refine (raw_any g vq_5 _ (x.2.1.1) (b ++ (encN (x.1).length ++ x.1)) _ (by simp only [List.length_append]; omega) (by omega) (hash_slice HIq_3_4_5_13.out x.2.2 (riC_hash x)) HMq_3_4_5_13.out).mono ?_
                rintro x wq_3_4_5_9_13 ⟨rfl, vq_9, hm, hs⟩
                have HMq_3_4_5_9_13 := Lib.hid hm
                have HSObq_3_4_5_9_13 := Lib.hid (HSObq_3_4_5_13.out.step hs)
                have HIq_3_4_5_9_13 := Lib.hid (mk_keeps HMq_3_4_5_13.out HIq_3_4_5_13.out (by decide) hs HN6.out)
                have HRq_3_4_5_9_13 := Lib.hid (mk_keeps HMq_3_4_5_13.out HRq_3_4_5_13.out (by decide) hs HNG.out)
                have HXq_3_4_5_9_13 := Lib.hid (HXq_3_4_5_13.out.trans ((HMq_3_4_5_13.out.stepBelow hs).mono HG.out))
                clear hm hs
                refine ⟨_, rfl, ?_⟩
                refine ⟨HIq_3_4_5_9_13.out, ?_⟩
                try simp only [Act.put, List.setIfInBounds_toArray, List.set_cons_succ, List.set_cons_zero]
                refine Agg.held_ready [14] (by kernel_rfl) (by simp) ?_
                refine Agg.held_cons rfl ?_ ?_
                · refine Agg.step_slice1 (E := EBB) rfl _ rfl svb rfl ?_
                  intro ysb wq_3_4_5_9_13_14 hys hx
                  have HYObq_3_4_5_9_13_14 := Lib.hid (Off.behind (w0 := wq_3_4_5_9_13) hys.slice (fun k hk => (hys.block k hk).1) HMq_3_4_5_9_13.out.blk.lt HMq_3_4_5_9_13.out.lt)
                  have HSObq_3_4_5_9_13_14 := Lib.hid (HSObq_3_4_5_9_13.out.step (MkStep.of_below hx))
                  have HIq_3_4_5_9_13_14 := Lib.hid (HIq_3_4_5_9_13.out.below hx)
                  have HRq_3_4_5_9_13_14 := Lib.hid (HRq_3_4_5_9_13.out.below hx)
                  have HMq_3_4_5_9_13_14 := Lib.hid (HMq_3_4_5_9_13.out.below hx)
                  have HXq_3_4_5_9_13_14 := Lib.hid (Agg.belowThen HXq_3_4_5_9_13.out (Nat.le_refl _) hx)
                  clear hys hx
                  refine ⟨HIq_3_4_5_9_13_14.out, ?_⟩
                  try simp only [Act.put, List.setIfInBounds_toArray, List.set_cons_succ, List.set_cons_zero]
                  refine Agg.held_ready [15] (by kernel_rfl) (by simp) ?_
                  refine Agg.held_cons rfl ?_ ?_
                  · refine Agg.step_call rfl 46 _ _ rfl #[.pointer (some ⟨g, 0, none⟩), ysb] (by simp only [List.map_toArray, List.map_cons, List.map_nil]; rfl) (fun W => HET.out _ W) ?_
                    refine (text_any g vq_9 ysb svb (x.2.1.2) ((b ++ (encN (x.1).length ++ x.1)) ++ x.2.1.1) _ (by simp only [List.length_append]; omega) (by omega) HYObq_3_4_5_9_13_14.out HSObq_3_4_5_9_13_14.out HMq_3_4_5_9_13_14.out).mono ?_
                    rintro x wq_3_4_5_9_13_14_15 ⟨rfl, vq_15, hm, hs⟩
                    have HMq_3_4_5_9_13_14_15 := Lib.hid hm
                    have HIq_3_4_5_9_13_14_15 := Lib.hid (mk_keeps HMq_3_4_5_9_13_14.out HIq_3_4_5_9_13_14.out (by decide) hs HN6.out)
                    have HRq_3_4_5_9_13_14_15 := Lib.hid (mk_keeps HMq_3_4_5_9_13_14.out HRq_3_4_5_9_13_14.out (by decide) hs HNG.out)
                    have HXq_3_4_5_9_13_14_15 := Lib.hid (HXq_3_4_5_9_13_14.out.trans ((HMq_3_4_5_9_13_14.out.stepBelow hs).mono HG.out))
                    clear hm hs
                    refine ⟨_, rfl, ?_⟩
                    refine ⟨HIq_3_4_5_9_13_14_15.out, ?_⟩
                    try simp only [Act.put, List.setIfInBounds_toArray, List.set_cons_succ, List.set_cons_zero]
                    refine Agg.held_end (by kernel_rfl) ?_
                    go_wp2_with fail
                    go_roundw
                    case rel => exact ⟨k + 1, _, by omega, by go_num, by rw [HTK.out]; exact HMq_3_4_5_9_13_14_15.out, HRq_3_4_5_9_13_14_15.out, HXq_3_4_5_9_13_14_15.out⟩
                    case measure => simp [intOf]; omega
                  exact AllReadyH.nil
                exact AllReadyH.nil
              refine Agg.held_cons rfl ?_ ?_
              · refine Agg.step_slice1 (E := EBB) rfl _ rfl svb rfl ?_
                intro ysb wq_3_4_5_13_14 hys hx
                have HYObq_3_4_5_13_14 := Lib.hid (Off.behind (w0 := wq_3_4_5_13) hys.slice (fun k hk => (hys.block k hk).1) HMq_3_4_5_13.out.blk.lt HMq_3_4_5_13.out.lt)
                have HSObq_3_4_5_13_14 := Lib.hid (HSObq_3_4_5_13.out.step (MkStep.of_below hx))
                have HIq_3_4_5_13_14 := Lib.hid (HIq_3_4_5_13.out.below hx)
                have HRq_3_4_5_13_14 := Lib.hid (HRq_3_4_5_13.out.below hx)
                have HMq_3_4_5_13_14 := Lib.hid (HMq_3_4_5_13.out.below hx)
                have HXq_3_4_5_13_14 := Lib.hid (Agg.belowThen HXq_3_4_5_13.out (Nat.le_refl _) hx)
                clear hys hx
                refine ⟨HIq_3_4_5_13_14.out, ?_⟩
                try simp only [Act.put, List.setIfInBounds_toArray, List.set_cons_succ, List.set_cons_zero]
                refine Agg.held_ready [9] (by kernel_rfl) (by simp) ?_
                refine Agg.held_cons rfl ?_ ?_
                · refine Agg.step_call rfl 48 _ _ rfl #[.pointer (some ⟨g, 0, none⟩), .slice (some ⟨g6, 1, none⟩) 20 20] (by simp only [List.map_toArray, List.map_cons, List.map_nil]; rfl) (fun W => HER.out _ W) ?_
                  refine (raw_any g vq_5 _ (x.2.1.1) (b ++ (encN (x.1).length ++ x.1)) _ (by simp only [List.length_append]; omega) (by omega) (hash_slice HIq_3_4_5_13_14.out x.2.2 (riC_hash x)) HMq_3_4_5_13_14.out).mono ?_
                  rintro x wq_3_4_5_9_13_14 ⟨rfl, vq_9, hm, hs⟩
                  have HMq_3_4_5_9_13_14 := Lib.hid hm
                  have HSObq_3_4_5_9_13_14 := Lib.hid (HSObq_3_4_5_13_14.out.step hs)
                  have HYObq_3_4_5_9_13_14 := Lib.hid (HYObq_3_4_5_13_14.out.step hs)
                  have HIq_3_4_5_9_13_14 := Lib.hid (mk_keeps HMq_3_4_5_13_14.out HIq_3_4_5_13_14.out (by decide) hs HN6.out)
                  have HRq_3_4_5_9_13_14 := Lib.hid (mk_keeps HMq_3_4_5_13_14.out HRq_3_4_5_13_14.out (by decide) hs HNG.out)
                  have HXq_3_4_5_9_13_14 := Lib.hid (HXq_3_4_5_13_14.out.trans ((HMq_3_4_5_13_14.out.stepBelow hs).mono HG.out))
                  clear hm hs
                  refine ⟨_, rfl, ?_⟩
                  refine ⟨HIq_3_4_5_9_13_14.out, ?_⟩
                  try simp only [Act.put, List.setIfInBounds_toArray, List.set_cons_succ, List.set_cons_zero]
                  refine Agg.held_ready [15] (by kernel_rfl) (by simp) ?_
                  refine Agg.held_cons rfl ?_ ?_
                  · refine Agg.step_call rfl 46 _ _ rfl #[.pointer (some ⟨g, 0, none⟩), ysb] (by simp only [List.map_toArray, List.map_cons, List.map_nil]; rfl) (fun W => HET.out _ W) ?_
                    refine (text_any g vq_9 ysb svb (x.2.1.2) ((b ++ (encN (x.1).length ++ x.1)) ++ x.2.1.1) _ (by simp only [List.length_append]; omega) (by omega) HYObq_3_4_5_9_13_14.out HSObq_3_4_5_9_13_14.out HMq_3_4_5_9_13_14.out).mono ?_
                    rintro x wq_3_4_5_9_13_14_15 ⟨rfl, vq_15, hm, hs⟩
                    have HMq_3_4_5_9_13_14_15 := Lib.hid hm
                    have HIq_3_4_5_9_13_14_15 := Lib.hid (mk_keeps HMq_3_4_5_9_13_14.out HIq_3_4_5_9_13_14.out (by decide) hs HN6.out)
                    have HRq_3_4_5_9_13_14_15 := Lib.hid (mk_keeps HMq_3_4_5_9_13_14.out HRq_3_4_5_9_13_14.out (by decide) hs HNG.out)
                    have HXq_3_4_5_9_13_14_15 := Lib.hid (HXq_3_4_5_9_13_14.out.trans ((HMq_3_4_5_9_13_14.out.stepBelow hs).mono HG.out))
                    clear hm hs
                    refine ⟨_, rfl, ?_⟩
                    refine ⟨HIq_3_4_5_9_13_14_15.out, ?_⟩
                    try simp only [Act.put, List.setIfInBounds_toArray, List.set_cons_succ, List.set_cons_zero]
                    refine Agg.held_end (by kernel_rfl) ?_
                    go_wp2_with fail
                    go_roundw
                    case rel => exact ⟨k + 1, _, by omega, by go_num, by rw [HTK.out]; exact HMq_3_4_5_9_13_14_15.out, HRq_3_4_5_9_13_14_15.out, HXq_3_4_5_9_13_14_15.out⟩
                    case measure => simp [intOf]; omega
                  exact AllReadyH.nil
                exact AllReadyH.nil
              exact AllReadyH.nil
            refine Agg.held_cons rfl ?_ ?_
            · refine Agg.step_slice1 (E := EBB) rfl _ rfl svb rfl ?_
              intro ysb wq_3_4_13_14 hys hx
              have HYObq_3_4_13_14 := Lib.hid (Off.behind (w0 := wq_3_4_13) hys.slice (fun k hk => (hys.block k hk).1) HMq_3_4_13.out.blk.lt HMq_3_4_13.out.lt)
              have HSOaq_3_4_13_14 := Lib.hid (HSOaq_3_4_13.out.step (MkStep.of_below hx))
              have HYOaq_3_4_13_14 := Lib.hid (HYOaq_3_4_13.out.step (MkStep.of_below hx))
              have HSObq_3_4_13_14 := Lib.hid (HSObq_3_4_13.out.step (MkStep.of_below hx))
              have HIq_3_4_13_14 := Lib.hid (HIq_3_4_13.out.below hx)
              have HRq_3_4_13_14 := Lib.hid (HRq_3_4_13.out.below hx)
              have HMq_3_4_13_14 := Lib.hid (HMq_3_4_13.out.below hx)
              have HXq_3_4_13_14 := Lib.hid (Agg.belowThen HXq_3_4_13.out (Nat.le_refl _) hx)
              clear hys hx
              refine ⟨HIq_3_4_13_14.out, ?_⟩
              try simp only [Act.put, List.setIfInBounds_toArray, List.set_cons_succ, List.set_cons_zero]
              refine Agg.held_ready [5] (by kernel_rfl) (by simp) ?_
              refine Agg.held_cons rfl ?_ ?_
              · refine Agg.step_call rfl 46 _ _ rfl #[.pointer (some ⟨g, 0, none⟩), ysa] (by simp only [List.map_toArray, List.map_cons, List.map_nil]; rfl) (fun W => HET.out _ W) ?_
                refine (text_any g vb ysa sva (x.1) b _ (by omega) (by omega) HYOaq_3_4_13_14.out HSOaq_3_4_13_14.out HMq_3_4_13_14.out).mono ?_
                rintro x wq_3_4_5_13_14 ⟨rfl, vq_5, hm, hs⟩
                have HMq_3_4_5_13_14 := Lib.hid hm
                have HSObq_3_4_5_13_14 := Lib.hid (HSObq_3_4_13_14.out.step hs)
                have HYObq_3_4_5_13_14 := Lib.hid (HYObq_3_4_13_14.out.step hs)
                have HIq_3_4_5_13_14 := Lib.hid (mk_keeps HMq_3_4_13_14.out HIq_3_4_13_14.out (by decide) hs HN6.out)
                have HRq_3_4_5_13_14 := Lib.hid (mk_keeps HMq_3_4_13_14.out HRq_3_4_13_14.out (by decide) hs HNG.out)
                have HXq_3_4_5_13_14 := Lib.hid (HXq_3_4_13_14.out.trans ((HMq_3_4_13_14.out.stepBelow hs).mono HG.out))
                clear hm hs
                refine ⟨_, rfl, ?_⟩
                refine ⟨HIq_3_4_5_13_14.out, ?_⟩
                try simp only [Act.put, List.setIfInBounds_toArray, List.set_cons_succ, List.set_cons_zero]
                refine Agg.held_ready [9] (by kernel_rfl) (by simp) ?_
                refine Agg.held_cons rfl ?_ ?_
                · refine Agg.step_call rfl 48 _ _ rfl #[.pointer (some ⟨g, 0, none⟩), .slice (some ⟨g6, 1, none⟩) 20 20] (by simp only [List.map_toArray, List.map_cons, List.map_nil]; rfl) (fun W => HER.out _ W) ?_
                  refine (raw_any g vq_5 _ (x.2.1.1) (b ++ (encN (x.1).length ++ x.1)) _ (by simp only [List.length_append]; omega) (by omega) (hash_slice HIq_3_4_5_13_14.out x.2.2 (riC_hash x)) HMq_3_4_5_13_14.out).mono ?_
                  rintro x wq_3_4_5_9_13_14 ⟨rfl, vq_9, hm, hs⟩
                  have HMq_3_4_5_9_13_14 := Lib.hid hm
                  have HSObq_3_4_5_9_13_14 := Lib.hid (HSObq_3_4_5_13_14.out.step hs)
                  have HYObq_3_4_5_9_13_14 := Lib.hid (HYObq_3_4_5_13_14.out.step hs)
                  have HIq_3_4_5_9_13_14 := Lib.hid (mk_keeps HMq_3_4_5_13_14.out HIq_3_4_5_13_14.out (by decide) hs HN6.out)
                  have HRq_3_4_5_9_13_14 := Lib.hid (mk_keeps HMq_3_4_5_13_14.out HRq_3_4_5_13_14.out (by decide) hs HNG.out)
                  have HXq_3_4_5_9_13_14 := Lib.hid (HXq_3_4_5_13_14.out.trans ((HMq_3_4_5_13_14.out.stepBelow hs).mono HG.out))
                  clear hm hs
                  refine ⟨_, rfl, ?_⟩
                  refine ⟨HIq_3_4_5_9_13_14.out, ?_⟩
                  try simp only [Act.put, List.setIfInBounds_toArray, List.set_cons_succ, List.set_cons_zero]
                  refine Agg.held_ready [15] (by kernel_rfl) (by simp) ?_
                  refine Agg.held_cons rfl ?_ ?_
                  · refine Agg.step_call rfl 46 _ _ rfl #[.pointer (some ⟨g, 0, none⟩), ysb] (by simp only [List.map_toArray, List.map_cons, List.map_nil]; rfl) (fun W => HET.out _ W) ?_
                    refine (text_any g vq_9 ysb svb (x.2.1.2) ((b ++ (encN (x.1).length ++ x.1)) ++ x.2.1.1) _ (by simp only [List.length_append]; omega) (by omega) HYObq_3_4_5_9_13_14.out HSObq_3_4_5_9_13_14.out HMq_3_4_5_9_13_14.out).mono ?_
                    rintro x wq_3_4_5_9_13_14_15 ⟨rfl, vq_15, hm, hs⟩
                    have HMq_3_4_5_9_13_14_15 := Lib.hid hm
                    have HIq_3_4_5_9_13_14_15 := Lib.hid (mk_keeps HMq_3_4_5_9_13_14.out HIq_3_4_5_9_13_14.out (by decide) hs HN6.out)
                    have HRq_3_4_5_9_13_14_15 := Lib.hid (mk_keeps HMq_3_4_5_9_13_14.out HRq_3_4_5_9_13_14.out (by decide) hs HNG.out)
                    have HXq_3_4_5_9_13_14_15 := Lib.hid (HXq_3_4_5_9_13_14.out.trans ((HMq_3_4_5_9_13_14.out.stepBelow hs).mono HG.out))
                    clear hm hs
                    refine ⟨_, rfl, ?_⟩
                    refine ⟨HIq_3_4_5_9_13_14_15.out, ?_⟩
                    try simp only [Act.put, List.setIfInBounds_toArray, List.set_cons_succ, List.set_cons_zero]
                    refine Agg.held_end (by kernel_rfl) ?_
                    go_wp2_with fail
                    go_roundw
                    case rel => exact ⟨k + 1, _, by omega, by go_num, by rw [HTK.out]; exact HMq_3_4_5_9_13_14_15.out, HRq_3_4_5_9_13_14_15.out, HXq_3_4_5_9_13_14_15.out⟩
                    case measure => simp [intOf]; omega
                  exact AllReadyH.nil
                exact AllReadyH.nil
              exact AllReadyH.nil
            exact AllReadyH.nil
          refine Agg.held_cons rfl ?_ ?_
          · refine Agg.step_slice1 (E := EBB) rfl _ rfl svb rfl ?_
            intro ysb wq_3_13_14 hys hx
            have HYObq_3_13_14 := Lib.hid (Off.behind (w0 := wq_3_13) hys.slice (fun k hk => (hys.block k hk).1) HMq_3_13.out.blk.lt HMq_3_13.out.lt)
            have HSOaq_3_13_14 := Lib.hid (HSOaq_3_13.out.step (MkStep.of_below hx))
            have HSObq_3_13_14 := Lib.hid (HSObq_3_13.out.step (MkStep.of_below hx))
            have HIq_3_13_14 := Lib.hid (HIq_3_13.out.below hx)
            have HRq_3_13_14 := Lib.hid (HRq_3_13.out.below hx)
            have HMq_3_13_14 := Lib.hid (HMq_3_13.out.below hx)
            have HXq_3_13_14 := Lib.hid (Agg.belowThen HXq_3_13.out (Nat.le_refl _) hx)
            clear hys hx
            refine ⟨HIq_3_13_14.out, ?_⟩
            try simp only [Act.put, List.setIfInBounds_toArray, List.set_cons_succ, List.set_cons_zero]
            refine Agg.held_ready [4] (by kernel_rfl) (by simp) ?_
            refine Agg.held_cons rfl ?_ ?_
            · refine Agg.step_slice1 (E := EBB) rfl _ rfl sva rfl ?_
              intro ysa wq_3_4_13_14 hys hx
              have HYOaq_3_4_13_14 := Lib.hid (Off.behind (w0 := wq_3_13_14) hys.slice (fun k hk => (hys.block k hk).1) HMq_3_13_14.out.blk.lt HMq_3_13_14.out.lt)
              have HSOaq_3_4_13_14 := Lib.hid (HSOaq_3_13_14.out.step (MkStep.of_below hx))
              have HSObq_3_4_13_14 := Lib.hid (HSObq_3_13_14.out.step (MkStep.of_below hx))
              have HYObq_3_4_13_14 := Lib.hid (HYObq_3_13_14.out.step (MkStep.of_below hx))
              have HIq_3_4_13_14 := Lib.hid (HIq_3_13_14.out.below hx)
              have HRq_3_4_13_14 := Lib.hid (HRq_3_13_14.out.below hx)
              have HMq_3_4_13_14 := Lib.hid (HMq_3_13_14.out.below hx)
              have HXq_3_4_13_14 := Lib.hid (Agg.belowThen HXq_3_13_14.out (Nat.le_refl _) hx)
              clear hys hx
              refine ⟨HIq_3_4_13_14.out, ?_⟩
              try simp only [Act.put, List.setIfInBounds_toArray, List.set_cons_succ, List.set_cons_zero]
              refine Agg.held_ready [5] (by kernel_rfl) (by simp) ?_
              refine Agg.held_cons rfl ?_ ?_
              · refine Agg.step_call rfl 46 _ _ rfl #[.pointer (some ⟨g, 0, none⟩), ysa] (by simp only [List.map_toArray, List.map_cons, List.map_nil]; rfl) (fun W => HET.out _ W) ?_
                refine (text_any g vb ysa sva (x.1) b _ (by omega) (by omega) HYOaq_3_4_13_14.out HSOaq_3_4_13_14.out HMq_3_4_13_14.out).mono ?_
                rintro x wq_3_4_5_13_14 ⟨rfl, vq_5, hm, hs⟩
                have HMq_3_4_5_13_14 := Lib.hid hm
                have HSObq_3_4_5_13_14 := Lib.hid (HSObq_3_4_13_14.out.step hs)
                have HYObq_3_4_5_13_14 := Lib.hid (HYObq_3_4_13_14.out.step hs)
                have HIq_3_4_5_13_14 := Lib.hid (mk_keeps HMq_3_4_13_14.out HIq_3_4_13_14.out (by decide) hs HN6.out)
                have HRq_3_4_5_13_14 := Lib.hid (mk_keeps HMq_3_4_13_14.out HRq_3_4_13_14.out (by decide) hs HNG.out)
                have HXq_3_4_5_13_14 := Lib.hid (HXq_3_4_13_14.out.trans ((HMq_3_4_13_14.out.stepBelow hs).mono HG.out))
                clear hm hs
                refine ⟨_, rfl, ?_⟩
                refine ⟨HIq_3_4_5_13_14.out, ?_⟩
                try simp only [Act.put, List.setIfInBounds_toArray, List.set_cons_succ, List.set_cons_zero]
                refine Agg.held_ready [9] (by kernel_rfl) (by simp) ?_
                refine Agg.held_cons rfl ?_ ?_
                · refine Agg.step_call rfl 48 _ _ rfl #[.pointer (some ⟨g, 0, none⟩), .slice (some ⟨g6, 1, none⟩) 20 20] (by simp only [List.map_toArray, List.map_cons, List.map_nil]; rfl) (fun W => HER.out _ W) ?_
                  refine (raw_any g vq_5 _ (x.2.1.1) (b ++ (encN (x.1).length ++ x.1)) _ (by simp only [List.length_append]; omega) (by omega) (hash_slice HIq_3_4_5_13_14.out x.2.2 (riC_hash x)) HMq_3_4_5_13_14.out).mono ?_
                  rintro x wq_3_4_5_9_13_14 ⟨rfl, vq_9, hm, hs⟩
                  have HMq_3_4_5_9_13_14 := Lib.hid hm
                  have HSObq_3_4_5_9_13_14 := Lib.hid (HSObq_3_4_5_13_14.out.step hs)
                  have HYObq_3_4_5_9_13_14 := Lib.hid (HYObq_3_4_5_13_14.out.step hs)
                  have HIq_3_4_5_9_13_14 := Lib.hid (mk_keeps HMq_3_4_5_13_14.out HIq_3_4_5_13_14.out (by decide) hs HN6.out)
                  have HRq_3_4_5_9_13_14 := Lib.hid (mk_keeps HMq_3_4_5_13_14.out HRq_3_4_5_13_14.out (by decide) hs HNG.out)
                  have HXq_3_4_5_9_13_14 := Lib.hid (HXq_3_4_5_13_14.out.trans ((HMq_3_4_5_13_14.out.stepBelow hs).mono HG.out))
                  clear hm hs
                  refine ⟨_, rfl, ?_⟩
                  refine ⟨HIq_3_4_5_9_13_14.out, ?_⟩
                  try simp only [Act.put, List.setIfInBounds_toArray, List.set_cons_succ, List.set_cons_zero]
                  refine Agg.held_ready [15] (by kernel_rfl) (by simp) ?_
                  refine Agg.held_cons rfl ?_ ?_
                  · refine Agg.step_call rfl 46 _ _ rfl #[.pointer (some ⟨g, 0, none⟩), ysb] (by simp only [List.map_toArray, List.map_cons, List.map_nil]; rfl) (fun W => HET.out _ W) ?_
                    refine (text_any g vq_9 ysb svb (x.2.1.2) ((b ++ (encN (x.1).length ++ x.1)) ++ x.2.1.1) _ (by simp only [List.length_append]; omega) (by omega) HYObq_3_4_5_9_13_14.out HSObq_3_4_5_9_13_14.out HMq_3_4_5_9_13_14.out).mono ?_
                    rintro x wq_3_4_5_9_13_14_15 ⟨rfl, vq_15, hm, hs⟩
                    have HMq_3_4_5_9_13_14_15 := Lib.hid hm
                    have HIq_3_4_5_9_13_14_15 := Lib.hid (mk_keeps HMq_3_4_5_9_13_14.out HIq_3_4_5_9_13_14.out (by decide) hs HN6.out)
                    have HRq_3_4_5_9_13_14_15 := Lib.hid (mk_keeps HMq_3_4_5_9_13_14.out HRq_3_4_5_9_13_14.out (by decide) hs HNG.out)
                    have HXq_3_4_5_9_13_14_15 := Lib.hid (HXq_3_4_5_9_13_14.out.trans ((HMq_3_4_5_9_13_14.out.stepBelow hs).mono HG.out))
                    clear hm hs
                    refine ⟨_, rfl, ?_⟩
                    refine ⟨HIq_3_4_5_9_13_14_15.out, ?_⟩
                    try simp only [Act.put, List.setIfInBounds_toArray, List.set_cons_succ, List.set_cons_zero]
                    refine Agg.held_end (by kernel_rfl) ?_
                    go_wp2_with fail
                    go_roundw
                    case rel => exact ⟨k + 1, _, by omega, by go_num, by rw [HTK.out]; exact HMq_3_4_5_9_13_14_15.out, HRq_3_4_5_9_13_14_15.out, HXq_3_4_5_9_13_14_15.out⟩
                    case measure => simp [intOf]; omega
                  exact AllReadyH.nil
                exact AllReadyH.nil
              exact AllReadyH.nil
            exact AllReadyH.nil
          exact AllReadyH.nil
        refine Agg.held_cons rfl ?_ ?_
        · refine Agg.step_slice1 (E := EBB) rfl _ rfl svb rfl ?_
          intro ysb wq_13_14 hys hx
          have HYObq_13_14 := Lib.hid (Off.behind (w0 := wq_13) hys.slice (fun k hk => (hys.block k hk).1) HMq_13.out.blk.lt HMq_13.out.lt)
          have HSObq_13_14 := Lib.hid (HSObq_13.out.step (MkStep.of_below hx))
          have HIq_13_14 := Lib.hid (HIq_13.out.below hx)
          have HRq_13_14 := Lib.hid (HRq_13.out.below hx)
          have HMq_13_14 := Lib.hid (HMq_13.out.below hx)
          have HXq_13_14 := Lib.hid (Agg.belowThen HXq_13.out (Nat.le_refl _) hx)
          clear hys hx
          refine ⟨HIq_13_14.out, ?_⟩
          try simp only [Act.put, List.setIfInBounds_toArray, List.set_cons_succ, List.set_cons_zero]
          refine Agg.held_ready [3] (by kernel_rfl) (by simp) ?_
          refine Agg.held_cons rfl ?_ ?_
          · refine step_toBytes rfl _ rfl (x.1) rfl ?_
            intro vq3 wq_3_13_14 hn hx
            obtain ⟨sva, rfl⟩ := bytes_svB hn.slice
            have HSOaq_3_13_14 := Lib.hid (Off.behind (w0 := wq_13_14) hn.slice (fun k hk => newBytes_ownB hn k hk) HMq_13_14.out.blk.lt HMq_13_14.out.lt)
            have HSObq_3_13_14 := Lib.hid (HSObq_13_14.out.step (MkStep.of_below hx))
            have HYObq_3_13_14 := Lib.hid (HYObq_13_14.out.step (MkStep.of_below hx))
            have HIq_3_13_14 := Lib.hid (HIq_13_14.out.below hx)
            have HRq_3_13_14 := Lib.hid (HRq_13_14.out.below hx)
            have HMq_3_13_14 := Lib.hid (HMq_13_14.out.below hx)
            have HXq_3_13_14 := Lib.hid (Agg.belowThen HXq_13_14.out (Nat.le_refl _) hx)
            clear hn hx
            refine ⟨HIq_3_13_14.out, ?_⟩
            try simp only [Act.put, List.setIfInBounds_toArray, List.set_cons_succ, List.set_cons_zero]
            refine Agg.held_ready [4] (by kernel_rfl) (by simp) ?_
            refine Agg.held_cons rfl ?_ ?_
            · refine Agg.step_slice1 (E := EBB) rfl _ rfl sva rfl ?_
              intro ysa wq_3_4_13_14 hys hx
              have HYOaq_3_4_13_14 := Lib.hid (Off.behind (w0 := wq_3_13_14) hys.slice (fun k hk => (hys.block k hk).1) HMq_3_13_14.out.blk.lt HMq_3_13_14.out.lt)
              have HSOaq_3_4_13_14 := Lib.hid (HSOaq_3_13_14.out.step (MkStep.of_below hx))
              have HSObq_3_4_13_14 := Lib.hid (HSObq_3_13_14.out.step (MkStep.of_below hx))
              have HYObq_3_4_13_14 := Lib.hid (HYObq_3_13_14.out.step (MkStep.of_below hx))
              have HIq_3_4_13_14 := Lib.hid (HIq_3_13_14.out.below hx)
              have HRq_3_4_13_14 := Lib.hid (HRq_3_13_14.out.below hx)
              have HMq_3_4_13_14 := Lib.hid (HMq_3_13_14.out.below hx)
              have HXq_3_4_13_14 := Lib.hid (Agg.belowThen HXq_3_13_14.out (Nat.le_refl _) hx)
              clear hys hx
              refine ⟨HIq_3_4_13_14.out, ?_⟩
              try simp only [Act.put, List.setIfInBounds_toArray, List.set_cons_succ, List.set_cons_zero]
              refine Agg.held_ready [5] (by kernel_rfl) (by simp) ?_
              refine Agg.held_cons rfl ?_ ?_
              · refine Agg.step_call rfl 46 _ _ rfl #[.pointer (some ⟨g, 0, none⟩), ysa] (by simp only [List.map_toArray, List.map_cons, List.map_nil]; rfl) (fun W => HET.out _ W) ?_
                refine (text_any g vb ysa sva (x.1) b _ (by omega) (by omega) HYOaq_3_4_13_14.out HSOaq_3_4_13_14.out HMq_3_4_13_14.out).mono ?_
                rintro x wq_3_4_5_13_14 ⟨rfl, vq_5, hm, hs⟩
                have HMq_3_4_5_13_14 := Lib.hid hm
                have HSObq_3_4_5_13_14 := Lib.hid (HSObq_3_4_13_14.out.step hs)
                have HYObq_3_4_5_13_14 := Lib.hid (HYObq_3_4_13_14.out.step hs)
                have HIq_3_4_5_13_14 := Lib.hid (mk_keeps HMq_3_4_13_14.out HIq_3_4_13_14.out (by decide) hs HN6.out)
                have HRq_3_4_5_13_14 := Lib.hid (mk_keeps HMq_3_4_13_14.out HRq_3_4_13_14.out (by decide) hs HNG.out)
                have HXq_3_4_5_13_14 := Lib.hid (HXq_3_4_13_14.out.trans ((HMq_3_4_13_14.out.stepBelow hs).mono HG.out))
                clear hm hs
                refine ⟨_, rfl, ?_⟩
                refine ⟨HIq_3_4_5_13_14.out, ?_⟩
                try simp only [Act.put, List.setIfInBounds_toArray, List.set_cons_succ, List.set_cons_zero]
                refine Agg.held_ready [9] (by kernel_rfl) (by simp) ?_
                refine Agg.held_cons rfl ?_ ?_
                · refine Agg.step_call rfl 48 _ _ rfl #[.pointer (some ⟨g, 0, none⟩), .slice (some ⟨g6, 1, none⟩) 20 20] (by simp only [List.map_toArray, List.map_cons, List.map_nil]; rfl) (fun W => HER.out _ W) ?_
                  refine (raw_any g vq_5 _ (x.2.1.1) (b ++ (encN (x.1).length ++ x.1)) _ (by simp only [List.length_append]; omega) (by omega) (hash_slice HIq_3_4_5_13_14.out x.2.2 (riC_hash x)) HMq_3_4_5_13_14.out).mono ?_
                  rintro x wq_3_4_5_9_13_14 ⟨rfl, vq_9, hm, hs⟩
                  have HMq_3_4_5_9_13_14 := Lib.hid hm
                  have HSObq_3_4_5_9_13_14 := Lib.hid (HSObq_3_4_5_13_14.out.step hs)
                  have HYObq_3_4_5_9_13_14 := Lib.hid (HYObq_3_4_5_13_14.out.step hs)
                  have HIq_3_4_5_9_13_14 := Lib.hid (mk_keeps HMq_3_4_5_13_14.out HIq_3_4_5_13_14.out (by decide) hs HN6.out)
                  have HRq_3_4_5_9_13_14 := Lib.hid (mk_keeps HMq_3_4_5_13_14.out HRq_3_4_5_13_14.out (by decide) hs HNG.out)
                  have HXq_3_4_5_9_13_14 := Lib.hid (HXq_3_4_5_13_14.out.trans ((HMq_3_4_5_13_14.out.stepBelow hs).mono HG.out))
                  clear hm hs
                  refine ⟨_, rfl, ?_⟩
                  refine ⟨HIq_3_4_5_9_13_14.out, ?_⟩
                  try simp only [Act.put, List.setIfInBounds_toArray, List.set_cons_succ, List.set_cons_zero]
                  refine Agg.held_ready [15] (by kernel_rfl) (by simp) ?_
                  refine Agg.held_cons rfl ?_ ?_
                  · refine Agg.step_call rfl 46 _ _ rfl #[.pointer (some ⟨g, 0, none⟩), ysb] (by simp only [List.map_toArray, List.map_cons, List.map_nil]; rfl) (fun W => HET.out _ W) ?_
                    refine (text_any g vq_9 ysb svb (x.2.1.2) ((b ++ (encN (x.1).length ++ x.1)) ++ x.2.1.1) _ (by simp only [List.length_append]; omega) (by omega) HYObq_3_4_5_9_13_14.out HSObq_3_4_5_9_13_14.out HMq_3_4_5_9_13_14.out).mono ?_
                    rintro x wq_3_4_5_9_13_14_15 ⟨rfl, vq_15, hm, hs⟩
                    have HMq_3_4_5_9_13_14_15 := Lib.hid hm
                    have HIq_3_4_5_9_13_14_15 := Lib.hid (mk_keeps HMq_3_4_5_9_13_14.out HIq_3_4_5_9_13_14.out (by decide) hs HN6.out)
                    have HRq_3_4_5_9_13_14_15 := Lib.hid (mk_keeps HMq_3_4_5_9_13_14.out HRq_3_4_5_9_13_14.out (by decide) hs HNG.out)
                    have HXq_3_4_5_9_13_14_15 := Lib.hid (HXq_3_4_5_9_13_14.out.trans ((HMq_3_4_5_9_13_14.out.stepBelow hs).mono HG.out))
                    clear hm hs
                    refine ⟨_, rfl, ?_⟩
                    refine ⟨HIq_3_4_5_9_13_14_15.out, ?_⟩
                    try simp only [Act.put, List.setIfInBounds_toArray, List.set_cons_succ, List.set_cons_zero]
                    refine Agg.held_end (by kernel_rfl) ?_
                    go_wp2_with fail
                    go_roundw
                    case rel => exact ⟨k + 1, _, by omega, by go_num, by rw [HTK.out]; exact HMq_3_4_5_9_13_14_15.out, HRq_3_4_5_9_13_14_15.out, HXq_3_4_5_9_13_14_15.out⟩
                    case measure => simp [intOf]; omega
                  exact AllReadyH.nil
                exact AllReadyH.nil
              exact AllReadyH.nil
            exact AllReadyH.nil
          exact AllReadyH.nil
        exact AllReadyH.nil
      exact AllReadyH.nil
    · obtain rfl : k = r.2.1.length := by omega
      have HL9 := Lib.hid (RvB.of_blk HR.out)
      obtain ⟨s9, hs9⟩ := bytes_svB (HV.out.2.below HX.out)
      have HS9 := Lib.hid hs9
      clear hs9
      have HOF := Lib.hid (show Off EB g wr1 vb vr r.2.2 from Off.before HV.out.2 HX.out HG.out (fun k hk => Nat.le_trans HG.out (HM.out.ge k hk)))
      go_wp2_with (first | (with_reducible refine Agg.wpList_loadL HL9.out.rcp rfl _ rfl rfl ?_) | (refine Agg.wpList_slice1 (E := EBB) (base := wr1.heap.size) rfl _ rfl s9 HS9.out (Nat.le_refl _) ?_; intro ys w9 hys hx9; have HYS := Lib.hid (Off.behind (w0 := wr1) hys.slice (fun k hk => (hys.block k hk).1) HM.out.blk.lt HM.out.lt); have HM9 := Lib.hid (HM.out.below hx9); have HOF9 := Lib.hid (HOF.out.step (MkStep.of_below hx9)); have HX9 := Lib.hid (Agg.belowThen HX.out (Nat.le_refl _) hx9); clear hys hx9))
      refine (text_any g vb ys s9 r.2.2 _ w9 (by omega) (by omega) HYS.out (by rw [← HS9.out]; exact HOF9.out) HM9.out).mono ?_
      rintro e wa ⟨rfl, va, hm, hs⟩
      have HMA := Lib.hid hm
      have HXA := Lib.hid (HX9.out.trans ((HM9.out.stepBelow hs).mono HG.out))
      clear hm hs
      rw [putHd_all] at HMA
      have hpl := putRs_len HCN.out
      go_wp2_with fail
      refine (done_any g va _ wa (by omega) HMA.out).mono ?_
      rintro e wb ⟨v', rfl, ho, hx⟩
      have HOB := Lib.hid (ho.lower HXA.out.size)
      have HXB := Lib.hid (Agg.belowThen HXA.out (Nat.le_refl _) hx)
      clear ho hx
      go_wp2_with fail
      go_ret2
      exact ⟨v', by rw [HO.out.2]; rfl, by rw [HO.out.1]; exact HOB.out, HXB.out⟩
end Go.Proofs.Ytgekpghjlhcpkaa
