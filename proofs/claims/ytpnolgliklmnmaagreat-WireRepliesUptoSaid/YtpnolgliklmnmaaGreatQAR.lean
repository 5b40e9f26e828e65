/- wire.PutReply of any reply. -/
import Derived.Test.YtpnolgliklmnmaaGreatQAQ
namespace Go.Proofs.YtpnolgliklmnmaaGreat
open Go.RowKit Pl Go.Agg
set_option maxRecDepth 100000 in
set_option maxHeartbeats 8000000 in
theorem pputr_good (e g m : Nat) (ph pn ch : List UInt8) (pv : Value) (l : List P20) (hl : ph.length = 20) (hc : ch.length = 20) (he : e ≤ 63) (hg : g ≤ 1099511627776) (hm : m ≤ 1099511627776) (hll : l.length ≤ 2000) (hr : Rp.right ⟨e, ph, pn, ch, g, l, m⟩ = true) (w : World) (hs : ElemsAt w pv l) :
    Calls Tryz.prog 22 #[.agg (rpG e ph pn ch g pv m)] w fun x w' => ∃ v', x = .returned (.tuple #[v', .int .i64 0]) ∧ Own EB w.heap.size w' v' (putRp ⟨e, ph, pn, ch, g, l, m⟩) ∧ Below w.heap.size w w' := by
  have HRT := Lib.hid (fun W (h : ElemsAt W pv l) => (show Calls Tryz.prog 26 #[.agg (rpG e ph pn ch g pv m)] W fun x w' => x = .returned (.bool true) ∧ Below W.heap.size W w' by have := rright_any e g m ph pn ch pv l hl hc (by omega) W h; rwa [hr] at this))
  have HY := Lib.hid hs
  have h1 := encN_len (n := e) (by omega)
  have h2 := encN_len hg
  have h3 := encN_len hm
  have h4 := encN_len (n := l.length) (by omega)
  have h5 := pathS_le (n := pn) ph
  have h6 := encN_len (n := (pathS ph pn).length) (by omega)
  have HEN := Lib.hid (enters_of Tryz.func38 (by kernel_rfl) rfl : ∀ args w, (callFunc 38 args).run Tryz.prog w = .ok (.enter 38 args) w)
  have HES := Lib.hid (enters_of Tryz.func41 (by kernel_rfl) rfl : ∀ args w, (callFunc 41 args).run Tryz.prog w = .ok (.enter 41 args) w)
  have HET := Lib.hid (enters_of Tryz.func40 (by kernel_rfl) rfl : ∀ args w, (callFunc 40 args).run Tryz.prog w = .ok (.enter 40 args) w)
  have HER := Lib.hid (enters_of Tryz.func42 (by kernel_rfl) rfl : ∀ args w, (callFunc 42 args).run Tryz.prog w = .ok (.enter 42 args) w)
  clear hr hs
  go_enter Tryz.func22, Tryz.ntmps22
  go_wp2_with (first | (with_reducible refine Agg.wpList_box rfl 46 _ rfl (rpG e ph pn ch g pv m) rfl ?_; intro b w1 hb1 hx1 hgb; have HL := Lib.hid (RpG.of_blk hb1 hl hc); have HB := Lib.hid hb1; have HW := Lib.hid hx1; clear hb1 hx1 hgb) | (with_reducible refine Agg.wpList_loadL HL.out.all rfl _ rfl rfl ?_))
  refine (HRT.out _ (HY.out.below HW.out)).mono ?_
  rintro x w2 ⟨rfl, hx2⟩
  have HB := Lib.hid (HB.out.below hx2)
  have HW := Lib.hid (Agg.belowThen HW.out (Nat.le_refl _) hx2)
  have HE := Lib.hid (HY.out.below HW.out)
  clear hx2 HL
  go_wp2_with fail
  try simp only [Act.put, List.setIfInBounds_toArray, List.set_cons_succ, List.set_cons_zero]
  obtain ⟨w0, hw0⟩ : ∃ W, W = w2.drew := ⟨_, rfl⟩
  have hd : Below w2.heap.size w2 w0 := by rw [hw0]; exact (Below.refl _ _).drew
  refine Code.wp_mono (Q := fun ex a' w' => match ex with | .normal => ∃ g4 vd xs x22 ys xn, a' = { tmps := #[.agg (rpG e ph pn ch g pv m), .pointer (some ⟨b, 0, none⟩), .slice none 0 0, .int .i64 0, .pointer (some ⟨g4, 0, none⟩), undef, undef, .agg (rpG e ph pn ch g pv m), .bool true, .bool false, .agg (mkC (.slice none 0 0)), .pointer (some ⟨g4, 0, none⟩), .pointer (some ⟨b, 0, none⟩), .int .i64 (e : Int), .pointer (some ⟨b, 42, none⟩), .int .i64 (g : Int), .pointer (some ⟨b, 44, none⟩), .int .i64 (m : Int), xs, .pointer (some ⟨g4, 0, none⟩), .pointer (some ⟨b, 1, none⟩), .agg (pC ph pn), x22, ys, .pointer (some ⟨g4, 0, none⟩), .pointer (some ⟨b, 22, none⟩), .slice (some ⟨b, 22, none⟩) 20 20, .pointer (some ⟨g4, 0, none⟩), .pointer (some ⟨b, 43, none⟩), pv, .int .i64 (l.length : Int), xn, .pointer (some ⟨g4, 0, none⟩), undef, undef, undef, undef, undef, undef, undef, undef, undef, undef, undef, undef, undef, undef, undef, undef, undef], defers := [] } ∧ w0.heap.size ≤ g4 ∧ MkV g4 w' vd (rpHead e g m ph pn ch l.length) ∧ Below w0.heap.size w0 w' | _ => False) (fun ex a' w' h => ?_) ?_
  · cases ex with
    | normal =>
      obtain ⟨g4, vd, xs, x22, ys, xn, rfl, hgw, hmk, hk⟩ := h
      have HW := Lib.hid (Agg.belowThen HW.out (Nat.le_refl _) hd)
      have HM := Lib.hid hmk
      have HK := Lib.hid hk
      have HB := Lib.hid (HB.out.below hd)
      have HE := Lib.hid (HE.out.below hd)
      have hhd := rpHead_le (ph := ph) (pn := pn) (n := l.length) (show e ≤ 1099511627776 by omega) hg hm (by omega) hc
      have hlv := fun W => elems_len HE.out W
      have hgw2 : w2.heap.size ≤ w0.heap.size := hd.size
      clear hmk hk hd hw0
      go_wp2_with (first | (with_reducible refine Agg.wpList_loadL (RpG.of_blk (HB.out.below HK.out) hl hc).paths rfl _ rfl rfl ?_))
      go_loopw [36] (fun i wr => ∃ k : Nat, ∃ vk, k ≤ l.length ∧ i = .int .i64 k ∧ MkV g4 wr vk (rpHead e g m ph pn ch l.length ++ (l.take k).flatMap encP) ∧ Below w0.heap.size w0 wr) (fun i _ => l.length - (intOf i).toNat)
      case atStart => exact ⟨0, vd, by omega, rfl, by simpa using HM.out, HK.out⟩
      case round =>
        clear HM HK
        obtain ⟨wr1, rfl⟩ : ∃ x : World, x = wr := ⟨_, rfl⟩
        obtain ⟨k, vk, hk, rfl, hmk, hbk⟩ := hrel
        have HM := Lib.hid hmk
        have HK := Lib.hid hbk
        have hfl := flatP_le (l.take k)
        have hlk : (l.take k).length ≤ 2000 := by simp; omega
        clear hmk hbk
        by_cases hlt : k < l.length
        · obtain ⟨x, hxk⟩ : ∃ x, l[k]? = some x := ⟨_, List.getElem?_eq_getElem hlt⟩
          obtain ⟨q, hadr, hld, _⟩ := elem_at (HE.out.below HK.out) k x hxk
          have HLX := Lib.hid hld
          have HX := Lib.hid (take_flatP hxk)
          have HXL := Lib.hid x.2
          have h7 := pathS_le (n := x.1.2) x.1.1
          clear hld hxk
          go_wp2_with (first | (with_reducible refine Agg.wpList_loadL HLX.out rfl _ rfl rfl ?_) | (refine Agg.wpList_new rfl rfl rfl 27 6 39 rfl rfl rfl (by decide) (pC z20 []) (pC x.1.1 x.1.2) pC_zero (by rw [pC_size, pC_size, HXL.out]; rfl) (pC_info _ _ HXL.out) (pC_one _ _) rfl (by simp [Act.put]) ?_; intro g6 w6 hb6 hx6 hg6; have HP6 := Lib.hid (hb6.loads (P := Tryz.prog) pC_under rfl (pC_info _ _ HXL.out)); have HM6 := Lib.hid (HM.out.below hx6); have HK6 := Lib.hid (Agg.belowThen HK.out (Nat.le_refl _) hx6); clear hb6 hx6) | (with_reducible refine Agg.wpList_loadL HP6.out rfl _ rfl rfl ?_))
          refine (shown_any x.1.1 x.1.2 x.2 _).mono ?_
          rintro r w7 ⟨x7, y7, rfl, hy, hn, hx⟩
          obtain ⟨sv, rfl⟩ := newBytes_sv hn
          have HSO := Lib.hid (Off.behind (w0 := w6) hn.slice (fun k hk => Nat.le_trans hy.size (newBytes_own hn k hk)) HM6.out.blk.lt HM6.out.lt)
          have HM7 := Lib.hid (HM6.out.below hx)
          have HK7 := Lib.hid (Agg.belowThen HK6.out (Nat.le_refl _) hx)
          clear hy hn hx
          go_wp2_with (first | (refine Agg.wpList_slice1 (E := EBB) (base := w7.heap.size) rfl _ rfl sv rfl (Nat.le_refl _) ?_; intro ys8 w8 hys hx8; have HYO := Lib.hid (Off.behind (w0 := w7) hys.slice (fun k hk => (hys.block k hk).1) HM7.out.blk.lt HM7.out.lt); have HSO8 := Lib.hid (HSO.out.step (MkStep.of_below hx8)); have HM8 := Lib.hid (HM7.out.below hx8); have HK8 := Lib.hid (Agg.belowThen HK7.out (Nat.le_refl _) hx8); clear hys hx8))
          refine (text_any g4 vk ys8 sv (pathS x.1.1 x.1.2) _ _ (by simp only [List.length_append]; omega) (by omega) HYO.out HSO8.out HM8.out).mono ?_
          rintro r w9 ⟨rfl, v9, hm9, hs9⟩
          have HM9 := Lib.hid hm9
          have HK9 := Lib.hid (HK8.out.trans ((HM8.out.stepBelow hs9).mono hgw))
          clear hm9 hs9
          go_wp2_with fail
          go_roundw
          case rel => exact ⟨k + 1, v9, by omega, by go_num, by rw [HX.out]; simpa [encP, encT, List.append_assoc] using HM9.out, HK9.out⟩
          case measure => simp [intOf]; omega
        · obtain rfl : k = l.length := by omega
          rw [List.take_length] at HM hfl
          have HWK := Lib.hid (Agg.belowThen HW.out (Nat.le_refl _) HK.out)
          have hszw := HWK.out.size
          go_wp2_with fail
          refine (done_any g4 vk _ _ (by simp only [List.length_append]; omega) HM.out).mono ?_
          rintro r w7 ⟨v7, rfl, ho7, hx7⟩
          rw [rpHead_eq] at ho7
          have HO7 := Lib.hid (ho7.lower hszw)
          have HW7 := Lib.hid (Agg.belowThen HWK.out (Nat.le_refl _) hx7)
          clear ho7 hx7
          go_wp2_with fail
          go_ret2
          exact ⟨_, rfl, HO7.out, HW7.out⟩
    | _ => exact h.elim
  · have HB := Lib.hid (HB.out.below hd)
    have HE := Lib.hid (HE.out.below hd)
    have HK0 := Lib.hid (Below.refl w0.heap.size w0)
    refine wp_region_held_drew (S := fun W => RpG W b e ph pn ch g pv m) (by kernel_rfl) (by rw [← hw0]; exact RpG.of_blk HB.out hl hc) (fun hHeld => ?_)
    rw [← hw0] at hHeld ⊢
    clear hw0 hd
    refine Agg.held_take 0 (.agg (mkC (.slice none 0 0))) rfl (by kernel_rfl) (fun _ _ _ h => h) rfl (fun W _ => by kernel_rfl) (by assumption) ?_
    try simp only [Act.put, List.setIfInBounds_toArray, List.set_cons_succ, List.set_cons_zero]
    refine Agg.held_take 2 (.pointer (some ⟨b, 0, none⟩)) rfl (by kernel_rfl) (fun _ _ _ h => h) rfl (fun W _ => by kernel_rfl) (by assumption) ?_
    try simp only [Act.put, List.setIfInBounds_toArray, List.set_cons_succ, List.set_cons_zero]
    refine Agg.held_take 3 (.int .i64 (e : Int)) rfl (by kernel_rfl) (fun _ _ _ h => h) rfl (fun W hS => Agg.exec_load rfl rfl hS.err.now) (by assumption) ?_
    try simp only [Act.put, List.setIfInBounds_toArray, List.set_cons_succ, List.set_cons_zero]
    refine Agg.held_take 4 (.pointer (some ⟨b, 42, none⟩)) rfl (by kernel_rfl) (fun _ _ _ h => h) rfl (fun W _ => by kernel_rfl) (by assumption) ?_
    try simp only [Act.put, List.setIfInBounds_toArray, List.set_cons_succ, List.set_cons_zero]
    refine Agg.held_take 5 (.int .i64 (g : Int)) rfl (by kernel_rfl) (fun _ _ _ h => h) rfl (fun W hS => Agg.exec_load rfl rfl hS.goal.now) (by assumption) ?_
    try simp only [Act.put, List.setIfInBounds_toArray, List.set_cons_succ, List.set_cons_zero]
    refine Agg.held_take 6 (.pointer (some ⟨b, 44, none⟩)) rfl (by kernel_rfl) (fun _ _ _ h => h) rfl (fun W _ => by kernel_rfl) (by assumption) ?_
    try simp only [Act.put, List.setIfInBounds_toArray, List.set_cons_succ, List.set_cons_zero]
    refine Agg.held_take 7 (.int .i64 (m : Int)) rfl (by kernel_rfl) (fun _ _ _ h => h) rfl (fun W hS => Agg.exec_load rfl rfl hS.many.now) (by assumption) ?_
    try simp only [Act.put, List.setIfInBounds_toArray, List.set_cons_succ, List.set_cons_zero]
    refine Agg.held_take 10 (.pointer (some ⟨b, 1, none⟩)) rfl (by kernel_rfl) (fun _ _ _ h => h) rfl (fun W _ => by kernel_rfl) (by assumption) ?_
    try simp only [Act.put, List.setIfInBounds_toArray, List.set_cons_succ, List.set_cons_zero]
    refine Agg.held_take 11 (.agg (pC ph pn)) rfl (by kernel_rfl) (fun _ _ _ h => h) rfl (fun W hS => Agg.exec_load rfl rfl hS.path.now) (by assumption) ?_
    try simp only [Act.put, List.setIfInBounds_toArray, List.set_cons_succ, List.set_cons_zero]
    refine Agg.held_take 15 (.pointer (some ⟨b, 22, none⟩)) rfl (by kernel_rfl) (fun _ _ _ h => h) rfl (fun W _ => by kernel_rfl) (by assumption) ?_
    try simp only [Act.put, List.setIfInBounds_toArray, List.set_cons_succ, List.set_cons_zero]
    refine Agg.held_take 16 (.slice (some ⟨b, 22, none⟩) 20 20) rfl (by kernel_rfl) (fun _ _ _ h => h) rfl (fun W _ => by kernel_rfl) (by assumption) ?_
    try simp only [Act.put, List.setIfInBounds_toArray, List.set_cons_succ, List.set_cons_zero]
    refine Agg.held_take 18 (.pointer (some ⟨b, 43, none⟩)) rfl (by kernel_rfl) (fun _ _ _ h => h) rfl (fun W _ => by kernel_rfl) (by assumption) ?_
    try simp only [Act.put, List.setIfInBounds_toArray, List.set_cons_succ, List.set_cons_zero]
    refine Agg.held_take 19 (pv) rfl (by kernel_rfl) (fun _ _ _ h => h) rfl (fun W hS => Agg.exec_load rfl rfl hS.paths.now) (by assumption) ?_
    try simp only [Act.put, List.setIfInBounds_toArray, List.set_cons_succ, List.set_cons_zero]
    refine Agg.held_take 20 (.int .i64 (l.length : Int)) rfl (by kernel_rfl) (fun _ _ _ h => h) rfl (fun W _ => Agg.exec_len rfl rfl (elems_len HE.out W)) (by assumption) ?_
    try simp only [Act.put, List.setIfInBounds_toArray, List.set_cons_succ, List.set_cons_zero]
    refine Agg.held_ready [1, 8, 21] (by kernel_rfl) (by simp) ?_
    refine Agg.held_cons rfl ?_ ?_
    · refine Agg.step_box rfl 71 _ rfl (mkC (.slice none 0 0)) rfl ?_
      intro g4 w_1 hb4 hx4 hg4
      have hgw : w0.heap.size ≤ g4 := Nat.le_trans HK0.out.size hg4
      have HM_1 := Lib.hid (⟨hb4, Own.nil _ _ _⟩ : MkV g4 w_1 (.slice none 0 0) [])
      have HK_1 := Lib.hid (Agg.belowThen HK0.out (Nat.le_refl _) hx4)
      clear hb4 hx4
      refine ⟨RpG.of_blk (HB.out.below HK_1.out) hl hc, ?_⟩
      try simp only [Act.put, List.setIfInBounds_toArray, List.set_cons_succ, List.set_cons_zero]
      refine Agg.held_ready [8, 21] (by kernel_rfl) (by simp) ?_
      refine Agg.held_cons rfl ?_ ?_
      · refine step_ints3 rfl _ _ _ rfl e g m rfl rfl rfl ?_
        intro xs w_1_8 hpr how hx
        have HM_1_8 := Lib.hid (HM_1.out.below hx)
        have HK_1_8 := Lib.hid (Agg.belowThen HK_1.out (Nat.le_refl _) hx)
        have HX_1_8 := Lib.hid (Off.behind (w0 := w_1) hpr.slice how HM_1.out.blk.lt HM_1.out.lt)
        clear hpr how hx
        refine ⟨RpG.of_blk (HB.out.below HK_1_8.out) hl hc, ?_⟩
        try simp only [Act.put, List.setIfInBounds_toArray, List.set_cons_succ, List.set_cons_zero]
        refine Agg.held_ready [9, 21] (by kernel_rfl) (by simp) ?_
        refine Agg.held_cons rfl ?_ ?_
        · refine Agg.step_call rfl 38 _ _ rfl #[.pointer (some ⟨g4, 0, none⟩), xs] (by simp only [List.map_toArray, List.map_cons, List.map_nil]; rfl) (fun W => HEN.out _ W) ?_
          refine (num_any g4 (.slice none 0 0) xs [e, g, m] [] _ (by intro n hn; simp only [List.mem_cons, List.not_mem_nil, or_false] at hn; omega) (by simp) (by simp) HX_1_8.out HM_1_8.out).mono ?_
          rintro x w_1_8_9 ⟨rfl, va, hm, hs⟩
          have HM_1_8_9 := Lib.hid (show MkV g4 w_1_8_9 va (encN e ++ (encN g ++ encN m)) from by simpa using hm)
          have HK_1_8_9 := Lib.hid (HK_1_8.out.trans ((HM_1_8.out.stepBelow hs).mono hgw))
          clear hm hs
          refine ⟨_, rfl, ?_⟩
          refine ⟨RpG.of_blk (HB.out.below HK_1_8_9.out) hl hc, ?_⟩
          try simp only [Act.put, List.setIfInBounds_toArray, List.set_cons_succ, List.set_cons_zero]
          refine Agg.held_ready [12, 21] (by kernel_rfl) (by simp) ?_
          refine Agg.held_cons rfl ?_ ?_
          · refine Agg.step_call rfl 41 _ _ rfl #[.agg (pC ph pn)] (by simp only [List.map_toArray, List.map_cons, List.map_nil]; rfl) (fun W => HES.out _ W) ?_
            refine (shown_any ph pn hl _).mono ?_
            rintro x w_1_8_9_12 ⟨x12, y12, rfl, hy, hn, hx⟩
            obtain ⟨sv, rfl⟩ := newBytes_sv hn
            have HSO_1_8_9_12 := Lib.hid (Off.behind (w0 := w_1_8_9) hn.slice (fun k hk => Nat.le_trans hy.size (newBytes_own hn k hk)) HM_1_8_9.out.blk.lt HM_1_8_9.out.lt)
            have HM_1_8_9_12 := Lib.hid (HM_1_8_9.out.below hx)
            have HK_1_8_9_12 := Lib.hid (Agg.belowThen HK_1_8_9.out (Nat.le_refl _) hx)
            clear hn hx hy
            refine ⟨_, rfl, ?_⟩
            refine ⟨RpG.of_blk (HB.out.below HK_1_8_9_12.out) hl hc, ?_⟩
            try simp only [Act.put, List.setIfInBounds_toArray, List.set_cons_succ, List.set_cons_zero]
            refine Agg.held_ready [13, 21] (by kernel_rfl) (by simp) ?_
            refine Agg.held_cons rfl ?_ ?_
            · refine Agg.step_slice1 (E := EBB) rfl _ rfl sv rfl ?_
              intro ys w_1_8_9_12_13 hys hx
              have HYO_1_8_9_12_13 := Lib.hid (Off.behind (w0 := w_1_8_9_12) hys.slice (fun k hk => (hys.block k hk).1) HM_1_8_9_12.out.blk.lt HM_1_8_9_12.out.lt)
              have HM_1_8_9_12_13 := Lib.hid (HM_1_8_9_12.out.below hx)
              have HSO_1_8_9_12_13 := Lib.hid (HSO_1_8_9_12.out.step (MkStep.of_below hx))
              have HK_1_8_9_12_13 := Lib.hid (Agg.belowThen HK_1_8_9_12.out (Nat.le_refl _) hx)
              clear hys hx
              refine ⟨RpG.of_blk (HB.out.below HK_1_8_9_12_13.out) hl hc, ?_⟩
              try simp only [Act.put, List.setIfInBounds_toArray, List.set_cons_succ, List.set_cons_zero]
              refine Agg.held_ready [14, 21] (by kernel_rfl) (by simp) ?_
              refine Agg.held_cons rfl ?_ ?_
              · refine Agg.step_call rfl 40 _ _ rfl #[.pointer (some ⟨g4, 0, none⟩), ys] (by simp only [List.map_toArray, List.map_cons, List.map_nil]; rfl) (fun W => HET.out _ W) ?_
                refine (text_any g4 va ys sv (pathS ph pn) (encN e ++ (encN g ++ encN m)) _ (by simp only [List.length_append]; omega) (by omega) HYO_1_8_9_12_13.out HSO_1_8_9_12_13.out HM_1_8_9_12_13.out).mono ?_
                rintro x w_1_8_9_12_13_14 ⟨rfl, vb, hm, hs⟩
                have HM_1_8_9_12_13_14 := Lib.hid hm
                have HK_1_8_9_12_13_14 := Lib.hid (HK_1_8_9_12_13.out.trans ((HM_1_8_9_12_13.out.stepBelow hs).mono hgw))
                clear hm hs
                refine ⟨_, rfl, ?_⟩
                refine ⟨RpG.of_blk (HB.out.below HK_1_8_9_12_13_14.out) hl hc, ?_⟩
                try simp only [Act.put, List.setIfInBounds_toArray, List.set_cons_succ, List.set_cons_zero]
                refine Agg.held_ready [17, 21] (by kernel_rfl) (by simp) ?_
                refine Agg.held_cons rfl ?_ ?_
                · refine Agg.step_call rfl 42 _ _ rfl #[.pointer (some ⟨g4, 0, none⟩), .slice (some ⟨b, 22, none⟩) 20 20] (by simp only [List.map_toArray, List.map_cons, List.map_nil]; rfl) (fun W => HER.out _ W) ?_
                  refine (raw_any g4 vb _ ch ((encN e ++ (encN g ++ encN m)) ++ (encN (pathS ph pn).length ++ pathS ph pn)) _ (by simp only [List.length_append]; omega) (by omega) (rp_class_slice (HB.out.below HK_1_8_9_12_13_14.out) hl hc) HM_1_8_9_12_13_14.out).mono ?_
                  rintro x w_1_8_9_12_13_14_17 ⟨rfl, vc, hm, hs⟩
                  have HM_1_8_9_12_13_14_17 := Lib.hid hm
                  have HK_1_8_9_12_13_14_17 := Lib.hid (HK_1_8_9_12_13_14.out.trans ((HM_1_8_9_12_13_14.out.stepBelow hs).mono hgw))
                  clear hm hs
                  refine ⟨_, rfl, ?_⟩
                  refine ⟨RpG.of_blk (HB.out.below HK_1_8_9_12_13_14_17.out) hl hc, ?_⟩
                  try simp only [Act.put, List.setIfInBounds_toArray, List.set_cons_succ, List.set_cons_zero]
                  refine Agg.held_ready [21] (by kernel_rfl) (by simp) ?_
                  refine Agg.held_cons rfl ?_ ?_
                  · refine Agg.step_slice1 (E := EI) rfl _ rfl l.length rfl ?_
                    intro xn w_1_8_9_12_13_14_17_21 hown hx
                    have hpr := own_pre hown
                    have how := fun k hk => (hown.block k hk).1
                    clear hown
                    have HM_1_8_9_12_13_14_17_21 := Lib.hid (HM_1_8_9_12_13_14_17.out.below hx)
                    have HK_1_8_9_12_13_14_17_21 := Lib.hid (Agg.belowThen HK_1_8_9_12_13_14_17.out (Nat.le_refl _) hx)
                    have HN_1_8_9_12_13_14_17_21 := Lib.hid (Off.behind (w0 := w_1_8_9_12_13_14_17) hpr.slice how HM_1_8_9_12_13_14_17.out.blk.lt HM_1_8_9_12_13_14_17.out.lt)
                    clear hpr how hx
                    refine ⟨RpG.of_blk (HB.out.below HK_1_8_9_12_13_14_17_21.out) hl hc, ?_⟩
                    try simp only [Act.put, List.setIfInBounds_toArray, List.set_cons_succ, List.set_cons_zero]
                    refine Agg.held_ready [22] (by kernel_rfl) (by simp) ?_
                    refine Agg.held_cons rfl ?_ ?_
                    · refine Agg.step_call rfl 38 _ _ rfl #[.pointer (some ⟨g4, 0, none⟩), xn] (by simp only [List.map_toArray, List.map_cons, List.map_nil]; rfl) (fun W => HEN.out _ W) ?_
                      refine (num_any g4 vc xn [l.length] (((encN e ++ (encN g ++ encN m)) ++ (encN (pathS ph pn).length ++ pathS ph pn)) ++ ch) _ (by intro n hn; simp only [List.mem_cons, List.not_mem_nil, or_false] at hn; omega) (by simp) (by simp only [List.length_append]; omega) HN_1_8_9_12_13_14_17_21.out HM_1_8_9_12_13_14_17_21.out).mono ?_
                      rintro x w_1_8_9_12_13_14_17_21_22 ⟨rfl, vd, hm, hs⟩
                      have HM_1_8_9_12_13_14_17_21_22 := Lib.hid (show MkV g4 w_1_8_9_12_13_14_17_21_22 vd ((((encN e ++ (encN g ++ encN m)) ++ (encN (pathS ph pn).length ++ pathS ph pn)) ++ ch) ++ encN l.length) from by simpa using hm)
                      have HK_1_8_9_12_13_14_17_21_22 := Lib.hid (HK_1_8_9_12_13_14_17_21.out.trans ((HM_1_8_9_12_13_14_17_21.out.stepBelow hs).mono hgw))
                      clear hm hs
                      refine ⟨_, rfl, ?_⟩
                      have hSx := RpG.of_blk (HB.out.below HK_1_8_9_12_13_14_17_21_22.out) hl hc; refine ⟨hSx, ?_⟩
                      try simp only [Act.put, List.setIfInBounds_toArray, List.set_cons_succ, List.set_cons_zero]
                      refine Agg.held_take 23 (.pointer (some ⟨g4, 0, none⟩)) rfl (by kernel_rfl) (fun _ _ _ h => h) rfl (fun W _ => by kernel_rfl) (by assumption) ?_
                      try simp only [Act.put, List.setIfInBounds_toArray, List.set_cons_succ, List.set_cons_zero]
                      refine Agg.held_end (by kernel_rfl) ?_
                      exact ⟨g4, vd, xs, sv.1, ys, xn, rfl, hgw, HM_1_8_9_12_13_14_17_21_22.out, HK_1_8_9_12_13_14_17_21_22.out⟩
                    exact AllReadyH.nil
                  exact AllReadyH.nil
                refine Agg.held_cons rfl ?_ ?_
                · refine Agg.step_slice1 (E := EI) rfl _ rfl l.length rfl ?_
                  intro xn w_1_8_9_12_13_14_21 hown hx
                  have hpr := own_pre hown
                  have how := fun k hk => (hown.block k hk).1
                  clear hown
                  have HM_1_8_9_12_13_14_21 := Lib.hid (HM_1_8_9_12_13_14.out.below hx)
                  have HK_1_8_9_12_13_14_21 := Lib.hid (Agg.belowThen HK_1_8_9_12_13_14.out (Nat.le_refl _) hx)
                  have HN_1_8_9_12_13_14_21 := Lib.hid (Off.behind (w0 := w_1_8_9_12_13_14) hpr.slice how HM_1_8_9_12_13_14.out.blk.lt HM_1_8_9_12_13_14.out.lt)
                  clear hpr how hx
                  refine ⟨RpG.of_blk (HB.out.below HK_1_8_9_12_13_14_21.out) hl hc, ?_⟩
                  try simp only [Act.put, List.setIfInBounds_toArray, List.set_cons_succ, List.set_cons_zero]
                  refine Agg.held_ready [17] (by kernel_rfl) (by simp) ?_
                  refine Agg.held_cons rfl ?_ ?_
                  · refine Agg.step_call rfl 42 _ _ rfl #[.pointer (some ⟨g4, 0, none⟩), .slice (some ⟨b, 22, none⟩) 20 20] (by simp only [List.map_toArray, List.map_cons, List.map_nil]; rfl) (fun W => HER.out _ W) ?_
                    refine (raw_any g4 vb _ ch ((encN e ++ (encN g ++ encN m)) ++ (encN (pathS ph pn).length ++ pathS ph pn)) _ (by simp only [List.length_append]; omega) (by omega) (rp_class_slice (HB.out.below HK_1_8_9_12_13_14_21.out) hl hc) HM_1_8_9_12_13_14_21.out).mono ?_
                    rintro x w_1_8_9_12_13_14_17_21 ⟨rfl, vc, hm, hs⟩
                    have HM_1_8_9_12_13_14_17_21 := Lib.hid hm
                    have HN_1_8_9_12_13_14_17_21 := Lib.hid (HN_1_8_9_12_13_14_21.out.step hs)
                    have HK_1_8_9_12_13_14_17_21 := Lib.hid (HK_1_8_9_12_13_14_21.out.trans ((HM_1_8_9_12_13_14_21.out.stepBelow hs).mono hgw))
                    clear hm hs
                    refine ⟨_, rfl, ?_⟩
                    refine ⟨RpG.of_blk (HB.out.below HK_1_8_9_12_13_14_17_21.out) hl hc, ?_⟩
                    try simp only [Act.put, List.setIfInBounds_toArray, List.set_cons_succ, List.set_cons_zero]
                    refine Agg.held_ready [22] (by kernel_rfl) (by simp) ?_
                    refine Agg.held_cons rfl ?_ ?_
                    · refine Agg.step_call rfl 38 _ _ rfl #[.pointer (some ⟨g4, 0, none⟩), xn] (by simp only [List.map_toArray, List.map_cons, List.map_nil]; rfl) (fun W => HEN.out _ W) ?_
                      refine (num_any g4 vc xn [l.length] (((encN e ++ (encN g ++ encN m)) ++ (encN (pathS ph pn).length ++ pathS ph pn)) ++ ch) _ (by intro n hn; simp only [List.mem_cons, List.not_mem_nil, or_false] at hn; omega) (by simp) (by simp only [List.length_append]; omega) HN_1_8_9_12_13_14_17_21.out HM_1_8_9_12_13_14_17_21.out).mono ?_
                      rintro x w_1_8_9_12_13_14_17_21_22 ⟨rfl, vd, hm, hs⟩
                      have HM_1_8_9_12_13_14_17_21_22 := Lib.hid (show MkV g4 w_1_8_9_12_13_14_17_21_22 vd ((((encN e ++ (encN g ++ encN m)) ++ (encN (pathS ph pn).length ++ pathS ph pn)) ++ ch) ++ encN l.length) from by simpa using hm)
                      have HK_1_8_9_12_13_14_17_21_22 := Lib.hid (HK_1_8_9_12_13_14_17_21.out.trans ((HM_1_8_9_12_13_14_17_21.out.stepBelow hs).mono hgw))
                      clear hm hs
                      refine ⟨_, rfl, ?_⟩
                      have hSx := RpG.of_blk (HB.out.below HK_1_8_9_12_13_14_17_21_22.out) hl hc; refine ⟨hSx, ?_⟩
                      try simp only [Act.put, List.setIfInBounds_toArray, List.set_cons_succ, List.set_cons_zero]
                      refine Agg.held_take 23 (.pointer (some ⟨g4, 0, none⟩)) rfl (by kernel_rfl) (fun _ _ _ h => h) rfl (fun W _ => by kernel_rfl) (by assumption) ?_
                      try simp only [Act.put, List.setIfInBounds_toArray, List.set_cons_succ, List.set_cons_zero]
                      refine Agg.held_end (by kernel_rfl) ?_
                      exact ⟨g4, vd, xs, sv.1, ys, xn, rfl, hgw, HM_1_8_9_12_13_14_17_21_22.out, HK_1_8_9_12_13_14_17_21_22.out⟩
                    exact AllReadyH.nil
                  exact AllReadyH.nil
                exact AllReadyH.nil
              refine Agg.held_cons rfl ?_ ?_
              · refine Agg.step_slice1 (E := EI) rfl _ rfl l.length rfl ?_
                intro xn w_1_8_9_12_13_21 hown hx
                have hpr := own_pre hown
                have how := fun k hk => (hown.block k hk).1
                clear hown
                have HM_1_8_9_12_13_21 := Lib.hid (HM_1_8_9_12_13.out.below hx)
                have HSO_1_8_9_12_13_21 := Lib.hid (HSO_1_8_9_12_13.out.step (MkStep.of_below hx))
                have HYO_1_8_9_12_13_21 := Lib.hid (HYO_1_8_9_12_13.out.step (MkStep.of_below hx))
                have HK_1_8_9_12_13_21 := Lib.hid (Agg.belowThen HK_1_8_9_12_13.out (Nat.le_refl _) hx)
                have HN_1_8_9_12_13_21 := Lib.hid (Off.behind (w0 := w_1_8_9_12_13) hpr.slice how HM_1_8_9_12_13.out.blk.lt HM_1_8_9_12_13.out.lt)
                clear hpr how hx
                refine ⟨RpG.of_blk (HB.out.below HK_1_8_9_12_13_21.out) hl hc, ?_⟩
                try simp only [Act.put, List.setIfInBounds_toArray, List.set_cons_succ, List.set_cons_zero]
                refine Agg.held_ready [14] (by kernel_rfl) (by simp) ?_
                refine Agg.held_cons rfl ?_ ?_
                · refine Agg.step_call rfl 40 _ _ rfl #[.pointer (some ⟨g4, 0, none⟩), ys] (by simp only [List.map_toArray, List.map_cons, List.map_nil]; rfl) (fun W => HET.out _ W) ?_
                  refine (text_any g4 va ys sv (pathS ph pn) (encN e ++ (encN g ++ encN m)) _ (by simp only [List.length_append]; omega) (by omega) HYO_1_8_9_12_13_21.out HSO_1_8_9_12_13_21.out HM_1_8_9_12_13_21.out).mono ?_
                  rintro x w_1_8_9_12_13_14_21 ⟨rfl, vb, hm, hs⟩
                  have HM_1_8_9_12_13_14_21 := Lib.hid hm
                  have HN_1_8_9_12_13_14_21 := Lib.hid (HN_1_8_9_12_13_21.out.step hs)
                  have HK_1_8_9_12_13_14_21 := Lib.hid (HK_1_8_9_12_13_21.out.trans ((HM_1_8_9_12_13_21.out.stepBelow hs).mono hgw))
                  clear hm hs
                  refine ⟨_, rfl, ?_⟩
                  refine ⟨RpG.of_blk (HB.out.below HK_1_8_9_12_13_14_21.out) hl hc, ?_⟩
                  try simp only [Act.put, List.setIfInBounds_toArray, List.set_cons_succ, List.set_cons_zero]
                  refine Agg.held_ready [17] (by kernel_rfl) (by simp) ?_
                  refine Agg.held_cons rfl ?_ ?_
                  · refine Agg.step_call rfl 42 _ _ rfl #[.pointer (some ⟨g4, 0, none⟩), .slice (some ⟨b, 22, none⟩) 20 20] (by simp only [List.map_toArray, List.map_cons, List.map_nil]; rfl) (fun W => HER.out _ W) ?_
                    refine (raw_any g4 vb _ ch ((encN e ++ (encN g ++ encN m)) ++ (encN (pathS ph pn).length ++ pathS ph pn)) _ (by simp only [List.length_append]; omega) (by omega) (rp_class_slice (HB.out.below HK_1_8_9_12_13_14_21.out) hl hc) HM_1_8_9_12_13_14_21.out).mono ?_
                    rintro x w_1_8_9_12_13_14_17_21 ⟨rfl, vc, hm, hs⟩
                    have HM_1_8_9_12_13_14_17_21 := Lib.hid hm
                    have HN_1_8_9_12_13_14_17_21 := Lib.hid (HN_1_8_9_12_13_14_21.out.step hs)
                    have HK_1_8_9_12_13_14_17_21 := Lib.hid (HK_1_8_9_12_13_14_21.out.trans ((HM_1_8_9_12_13_14_21.out.stepBelow hs).mono hgw))
                    clear hm hs
                    refine ⟨_, rfl, ?_⟩
                    refine ⟨RpG.of_blk (HB.out.below HK_1_8_9_12_13_14_17_21.out) hl hc, ?_⟩
                    try simp only [Act.put, List.setIfInBounds_toArray, List.set_cons_succ, List.set_cons_zero]
                    refine Agg.held_ready [22] (by kernel_rfl) (by simp) ?_
                    refine Agg.held_cons rfl ?_ ?_
                    · refine Agg.step_call rfl 38 _ _ rfl #[.pointer (some ⟨g4, 0, none⟩), xn] (by simp only [List.map_toArray, List.map_cons, List.map_nil]; rfl) (fun W => HEN.out _ W) ?_
                      refine (num_any g4 vc xn [l.length] (((encN e ++ (encN g ++ encN m)) ++ (encN (pathS ph pn).length ++ pathS ph pn)) ++ ch) _ (by intro n hn; simp only [List.mem_cons, List.not_mem_nil, or_false] at hn; omega) (by simp) (by simp only [List.length_append]; omega) HN_1_8_9_12_13_14_17_21.out HM_1_8_9_12_13_14_17_21.out).mono ?_
                      rintro x w_1_8_9_12_13_14_17_21_22 ⟨rfl, vd, hm, hs⟩
                      have HM_1_8_9_12_13_14_17_21_22 := Lib.hid (show MkV g4 w_1_8_9_12_13_14_17_21_22 vd ((((encN e ++ (encN g ++ encN m)) ++ (encN (pathS ph pn).length ++ pathS ph pn)) ++ ch) ++ encN l.length) from by simpa using hm)
                      have HK_1_8_9_12_13_14_17_21_22 := Lib.hid (HK_1_8_9_12_13_14_17_21.out.trans ((HM_1_8_9_12_13_14_17_21.out.stepBelow hs).mono hgw))
                      clear hm hs
                      refine ⟨_, rfl, ?_⟩
                      have hSx := RpG.of_blk (HB.out.below HK_1_8_9_12_13_14_17_21_22.out) hl hc; refine ⟨hSx, ?_⟩
                      try simp only [Act.put, List.setIfInBounds_toArray, List.set_cons_succ, List.set_cons_zero]
                      refine Agg.held_take 23 (.pointer (some ⟨g4, 0, none⟩)) rfl (by kernel_rfl) (fun _ _ _ h => h) rfl (fun W _ => by kernel_rfl) (by assumption) ?_
                      try simp only [Act.put, List.setIfInBounds_toArray, List.set_cons_succ, List.set_cons_zero]
                      refine Agg.held_end (by kernel_rfl) ?_
                      exact ⟨g4, vd, xs, sv.1, ys, xn, rfl, hgw, HM_1_8_9_12_13_14_17_21_22.out, HK_1_8_9_12_13_14_17_21_22.out⟩
                    exact AllReadyH.nil
                  exact AllReadyH.nil
                exact AllReadyH.nil
              exact AllReadyH.nil
            refine Agg.held_cons rfl ?_ ?_
            · refine Agg.step_slice1 (E := EI) rfl _ rfl l.length rfl ?_
              intro xn w_1_8_9_12_21 hown hx
              have hpr := own_pre hown
              have how := fun k hk => (hown.block k hk).1
              clear hown
              have HM_1_8_9_12_21 := Lib.hid (HM_1_8_9_12.out.below hx)
              have HSO_1_8_9_12_21 := Lib.hid (HSO_1_8_9_12.out.step (MkStep.of_below hx))
              have HK_1_8_9_12_21 := Lib.hid (Agg.belowThen HK_1_8_9_12.out (Nat.le_refl _) hx)
              have HN_1_8_9_12_21 := Lib.hid (Off.behind (w0 := w_1_8_9_12) hpr.slice how HM_1_8_9_12.out.blk.lt HM_1_8_9_12.out.lt)
              clear hpr how hx
              refine ⟨RpG.of_blk (HB.out.below HK_1_8_9_12_21.out) hl hc, ?_⟩
              try simp only [Act.put, List.setIfInBounds_toArray, List.set_cons_succ, List.set_cons_zero]
              refine Agg.held_ready [13] (by kernel_rfl) (by simp) ?_
              refine Agg.held_cons rfl ?_ ?_
              · refine Agg.step_slice1 (E := EBB) rfl _ rfl sv rfl ?_
                intro ys w_1_8_9_12_13_21 hys hx
                have HYO_1_8_9_12_13_21 := Lib.hid (Off.behind (w0 := w_1_8_9_12_21) hys.slice (fun k hk => (hys.block k hk).1) HM_1_8_9_12_21.out.blk.lt HM_1_8_9_12_21.out.lt)
                have HN_1_8_9_12_13_21 := Lib.hid (HN_1_8_9_12_21.out.step (MkStep.of_below hx))
                have HM_1_8_9_12_13_21 := Lib.hid (HM_1_8_9_12_21.out.below hx)
                have HSO_1_8_9_12_13_21 := Lib.hid (HSO_1_8_9_12_21.out.step (MkStep.of_below hx))
                have HK_1_8_9_12_13_21 := Lib.hid (Agg.belowThen HK_1_8_9_12_21.out (Nat.le_refl _) hx)
                clear hys hx
                refine ⟨RpG.of_blk (HB.out.below HK_1_8_9_12_13_21.out) hl hc, ?_⟩
                try simp only [Act.put, List.setIfInBounds_toArray, List.set_cons_succ, List.set_cons_zero]
                refine Agg.held_ready [14] (by kernel_rfl) (by simp) ?_
                refine Agg.held_cons rfl ?_ ?_
                · refine Agg.step_call rfl 40 _ _ rfl #[.pointer (some ⟨g4, 0, none⟩), ys] (by simp only [List.map_toArray, List.map_cons, List.map_nil]; rfl) (fun W => HET.out _ W) ?_
                  refine (text_any g4 va ys sv (pathS ph pn) (encN e ++ (encN g ++ encN m)) _ (by simp only [List.length_append]; omega) (by omega) HYO_1_8_9_12_13_21.out HSO_1_8_9_12_13_21.out HM_1_8_9_12_13_21.out).mono ?_
                  rintro x w_1_8_9_12_13_14_21 ⟨rfl, vb, hm, hs⟩
                  have HM_1_8_9_12_13_14_21 := Lib.hid hm
                  have HN_1_8_9_12_13_14_21 := Lib.hid (HN_1_8_9_12_13_21.out.step hs)
                  have HK_1_8_9_12_13_14_21 := Lib.hid (HK_1_8_9_12_13_21.out.trans ((HM_1_8_9_12_13_21.out.stepBelow hs).mono hgw))
                  clear hm hs
                  refine ⟨_, rfl, ?_⟩
                  refine ⟨RpG.of_blk (HB.out.below HK_1_8_9_12_13_14_21.out) hl hc, ?_⟩
                  try simp only [Act.put, List.setIfInBounds_toArray, List.set_cons_succ, List.set_cons_zero]
                  refine Agg.held_ready [17] (by kernel_rfl) (by simp) ?_
                  refine Agg.held_cons rfl ?_ ?_
                  · refine Agg.step_call rfl 42 _ _ rfl #[.pointer (some ⟨g4, 0, none⟩), .slice (some ⟨b, 22, none⟩) 20 20] (by simp only [List.map_toArray, List.map_cons, List.map_nil]; rfl) (fun W => HER.out _ W) ?_
                    refine (raw_any g4 vb _ ch ((encN e ++ (encN g ++ encN m)) ++ (encN (pathS ph pn).length ++ pathS ph pn)) _ (by simp only [List.length_append]; omega) (by omega) (rp_class_slice (HB.out.below HK_1_8_9_12_13_14_21.out) hl hc) HM_1_8_9_12_13_14_21.out).mono ?_
                    rintro x w_1_8_9_12_13_14_17_21 ⟨rfl, vc, hm, hs⟩
                    have HM_1_8_9_12_13_14_17_21 := Lib.hid hm
                    have HN_1_8_9_12_13_14_17_21 := Lib.hid (HN_1_8_9_12_13_14_21.out.step hs)
                    have HK_1_8_9_12_13_14_17_21 := Lib.hid (HK_1_8_9_12_13_14_21.out.trans ((HM_1_8_9_12_13_14_21.out.stepBelow hs).mono hgw))
                    clear hm hs
                    refine ⟨_, rfl, ?_⟩
                    refine ⟨RpG.of_blk (HB.out.below HK_1_8_9_12_13_14_17_21.out) hl hc, ?_⟩
                    try simp only [Act.put, List.setIfInBounds_toArray, List.set_cons_succ, List.set_cons_zero]
                    refine Agg.held_ready [22] (by kernel_rfl) (by simp) ?_
                    refine Agg.held_cons rfl ?_ ?_
                    · refine Agg.step_call rfl 38 _ _ rfl #[.pointer (some ⟨g4, 0, none⟩), xn] (by simp only [List.map_toArray, List.map_cons, List.map_nil]; rfl) (fun W => HEN.out _ W) ?_
                      refine (num_any g4 vc xn [l.length] (((encN e ++ (encN g ++ encN m)) ++ (encN (pathS ph pn).length ++ pathS ph pn)) ++ ch) _ (by intro n hn; simp only [List.mem_cons, List.not_mem_nil, or_false] at hn; omega) (by simp) (by simp only [List.length_append]; omega) HN_1_8_9_12_13_14_17_21.out HM_1_8_9_12_13_14_17_21.out).mono ?_
                      rintro x w_1_8_9_12_13_14_17_21_22 ⟨rfl, vd, hm, hs⟩
                      have HM_1_8_9_12_13_14_17_21_22 := Lib.hid (show MkV g4 w_1_8_9_12_13_14_17_21_22 vd ((((encN e ++ (encN g ++ encN m)) ++ (encN (pathS ph pn).length ++ pathS ph pn)) ++ ch) ++ encN l.length) from by simpa using hm)
                      have HK_1_8_9_12_13_14_17_21_22 := Lib.hid (HK_1_8_9_12_13_14_17_21.out.trans ((HM_1_8_9_12_13_14_17_21.out.stepBelow hs).mono hgw))
                      clear hm hs
                      refine ⟨_, rfl, ?_⟩
                      have hSx := RpG.of_blk (HB.out.below HK_1_8_9_12_13_14_17_21_22.out) hl hc; refine ⟨hSx, ?_⟩
                      try simp only [Act.put, List.setIfInBounds_toArray, List.set_cons_succ, List.set_cons_zero]
                      refine Agg.held_take 23 (.pointer (some ⟨g4, 0, none⟩)) rfl (by kernel_rfl) (fun _ _ _ h => h) rfl (fun W _ => by kernel_rfl) (by assumption) ?_
                      try simp only [Act.put, List.setIfInBounds_toArray, List.set_cons_succ, List.set_cons_zero]
                      refine Agg.held_end (by kernel_rfl) ?_
                      exact ⟨g4, vd, xs, sv.1, ys, xn, rfl, hgw, HM_1_8_9_12_13_14_17_21_22.out, HK_1_8_9_12_13_14_17_21_22.out⟩
                    exact AllReadyH.nil
                  exact AllReadyH.nil
                exact AllReadyH.nil
              exact AllReadyH.nil
            exact AllReadyH.nil
          refine Agg.held_cons rfl ?_ ?_
          · refine Agg.step_slice1 (E := EI) rfl _ rfl l.length rfl ?_
            intro xn w_1_8_9_21 hown hx
            have hpr := own_pre hown
            have how := fun k hk => (hown.block k hk).1
            clear hown
            have HM_1_8_9_21 := Lib.hid (HM_1_8_9.out.below hx)
            have HK_1_8_9_21 := Lib.hid (Agg.belowThen HK_1_8_9.out (Nat.le_refl _) hx)
            have HN_1_8_9_21 := Lib.hid (Off.behind (w0 := w_1_8_9) hpr.slice how HM_1_8_9.out.blk.lt HM_1_8_9.out.lt)
            clear hpr how hx
            refine ⟨RpG.of_blk (HB.out.below HK_1_8_9_21.out) hl hc, ?_⟩
            try simp only [Act.put, List.setIfInBounds_toArray, List.set_cons_succ, List.set_cons_zero]
            refine Agg.held_ready [12] (by kernel_rfl) (by simp) ?_
            refine Agg.held_cons rfl ?_ ?_
            · refine Agg.step_call rfl 41 _ _ rfl #[.agg (pC ph pn)] (by simp only [List.map_toArray, List.map_cons, List.map_nil]; rfl) (fun W => HES.out _ W) ?_
              refine (shown_any ph pn hl _).mono ?_
              rintro x w_1_8_9_12_21 ⟨x12, y12, rfl, hy, hn, hx⟩
              obtain ⟨sv, rfl⟩ := newBytes_sv hn
              have HSO_1_8_9_12_21 := Lib.hid (Off.behind (w0 := w_1_8_9_21) hn.slice (fun k hk => Nat.le_trans hy.size (newBytes_own hn k hk)) HM_1_8_9_21.out.blk.lt HM_1_8_9_21.out.lt)
              have HN_1_8_9_12_21 := Lib.hid (HN_1_8_9_21.out.step (MkStep.of_below hx))
              have HM_1_8_9_12_21 := Lib.hid (HM_1_8_9_21.out.below hx)
              have HK_1_8_9_12_21 := Lib.hid (Agg.belowThen HK_1_8_9_21.out (Nat.le_refl _) hx)
              clear hn hx hy
              refine ⟨_, rfl, ?_⟩
              refine ⟨RpG.of_blk (HB.out.below HK_1_8_9_12_21.out) hl hc, ?_⟩
              try simp only [Act.put, List.setIfInBounds_toArray, List.set_cons_succ, List.set_cons_zero]
              refine Agg.held_ready [13] (by kernel_rfl) (by simp) ?_
              refine Agg.held_cons rfl ?_ ?_
              · refine Agg.step_slice1 (E := EBB) rfl _ rfl sv rfl ?_
                intro ys w_1_8_9_12_13_21 hys hx
                have HYO_1_8_9_12_13_21 := Lib.hid (Off.behind (w0 := w_1_8_9_12_21) hys.slice (fun k hk => (hys.block k hk).1) HM_1_8_9_12_21.out.blk.lt HM_1_8_9_12_21.out.lt)
                have HN_1_8_9_12_13_21 := Lib.hid (HN_1_8_9_12_21.out.step (MkStep.of_below hx))
                have HM_1_8_9_12_13_21 := Lib.hid (HM_1_8_9_12_21.out.below hx)
                have HSO_1_8_9_12_13_21 := Lib.hid (HSO_1_8_9_12_21.out.step (MkStep.of_below hx))
                have HK_1_8_9_12_13_21 := Lib.hid (Agg.belowThen HK_1_8_9_12_21.out (Nat.le_refl _) hx)
                clear hys hx
                refine ⟨RpG.of_blk (HB.out.below HK_1_8_9_12_13_21.out) hl hc, ?_⟩
                try simp only [Act.put, List.setIfInBounds_toArray, List.set_cons_succ, List.set_cons_zero]
                refine Agg.held_ready [14] (by kernel_rfl) (by simp) ?_
                refine Agg.held_cons rfl ?_ ?_
                · refine Agg.step_call rfl 40 _ _ rfl #[.pointer (some ⟨g4, 0, none⟩), ys] (by simp only [List.map_toArray, List.map_cons, List.map_nil]; rfl) (fun W => HET.out _ W) ?_
                  refine (text_any g4 va ys sv (pathS ph pn) (encN e ++ (encN g ++ encN m)) _ (by simp only [List.length_append]; omega) (by omega) HYO_1_8_9_12_13_21.out HSO_1_8_9_12_13_21.out HM_1_8_9_12_13_21.out).mono ?_
                  rintro x w_1_8_9_12_13_14_21 ⟨rfl, vb, hm, hs⟩
                  have HM_1_8_9_12_13_14_21 := Lib.hid hm
                  have HN_1_8_9_12_13_14_21 := Lib.hid (HN_1_8_9_12_13_21.out.step hs)
                  have HK_1_8_9_12_13_14_21 := Lib.hid (HK_1_8_9_12_13_21.out.trans ((HM_1_8_9_12_13_21.out.stepBelow hs).mono hgw))
                  clear hm hs
                  refine ⟨_, rfl, ?_⟩
                  refine ⟨RpG.of_blk (HB.out.below HK_1_8_9_12_13_14_21.out) hl hc, ?_⟩
                  try simp only [Act.put, List.setIfInBounds_toArray, List.set_cons_succ, List.set_cons_zero]
                  refine Agg.held_ready [17] (by kernel_rfl) (by simp) ?_
                  refine Agg.held_cons rfl ?_ ?_
                  · refine Agg.step_call rfl 42 _ _ rfl #[.pointer (some ⟨g4, 0, none⟩), .slice (some ⟨b, 22, none⟩) 20 20] (by simp only [List.map_toArray, List.map_cons, List.map_nil]; rfl) (fun W => HER.out _ W) ?_
                    refine (raw_any g4 vb _ ch ((encN e ++ (encN g ++ encN m)) ++ (encN (pathS ph pn).length ++ pathS ph pn)) _ (by simp only [List.length_append]; omega) (by omega) (rp_class_slice (HB.out.below HK_1_8_9_12_13_14_21.out) hl hc) HM_1_8_9_12_13_14_21.out).mono ?_
                    rintro x w_1_8_9_12_13_14_17_21 ⟨rfl, vc, hm, hs⟩
                    have HM_1_8_9_12_13_14_17_21 := Lib.hid hm
                    have HN_1_8_9_12_13_14_17_21 := Lib.hid (HN_1_8_9_12_13_14_21.out.step hs)
                    have HK_1_8_9_12_13_14_17_21 := Lib.hid (HK_1_8_9_12_13_14_21.out.trans ((HM_1_8_9_12_13_14_21.out.stepBelow hs).mono hgw))
                    clear hm hs
                    refine ⟨_, rfl, ?_⟩
                    refine ⟨RpG.of_blk (HB.out.below HK_1_8_9_12_13_14_17_21.out) hl hc, ?_⟩
                    try simp only [Act.put, List.setIfInBounds_toArray, List.set_cons_succ, List.set_cons_zero]
                    refine Agg.held_ready [22] (by kernel_rfl) (by simp) ?_
                    refine Agg.held_cons rfl ?_ ?_
                    · refine Agg.step_call rfl 38 _ _ rfl #[.pointer (some ⟨g4, 0, none⟩), xn] (by simp only [List.map_toArray, List.map_cons, List.map_nil]; rfl) (fun W => HEN.out _ W) ?_
                      refine (num_any g4 vc xn [l.length] (((encN e ++ (encN g ++ encN m)) ++ (encN (pathS ph pn).length ++ pathS ph pn)) ++ ch) _ (by intro n hn; simp only [List.mem_cons, List.not_mem_nil, or_false] at hn; omega) (by simp) (by simp only [List.length_append]; omega) HN_1_8_9_12_13_14_17_21.out HM_1_8_9_12_13_14_17_21.out).mono ?_
                      rintro x w_1_8_9_12_13_14_17_21_22 ⟨rfl, vd, hm, hs⟩
                      have HM_1_8_9_12_13_14_17_21_22 := Lib.hid (show MkV g4 w_1_8_9_12_13_14_17_21_22 vd ((((encN e ++ (encN g ++ encN m)) ++ (encN (pathS ph pn).length ++ pathS ph pn)) ++ ch) ++ encN l.length) from by simpa using hm)
                      have HK_1_8_9_12_13_14_17_21_22 := Lib.hid (HK_1_8_9_12_13_14_17_21.out.trans ((HM_1_8_9_12_13_14_17_21.out.stepBelow hs).mono hgw))
                      clear hm hs
                      refine ⟨_, rfl, ?_⟩
                      have hSx := RpG.of_blk (HB.out.below HK_1_8_9_12_13_14_17_21_22.out) hl hc; refine ⟨hSx, ?_⟩
                      try simp only [Act.put, List.setIfInBounds_toArray, List.set_cons_succ, List.set_cons_zero]
                      refine Agg.held_take 23 (.pointer (some ⟨g4, 0, none⟩)) rfl (by kernel_rfl) (fun _ _ _ h => h) rfl (fun W _ => by kernel_rfl) (by assumption) ?_
                      try simp only [Act.put, List.setIfInBounds_toArray, List.set_cons_succ, List.set_cons_zero]
                      refine Agg.held_end (by kernel_rfl) ?_
                      exact ⟨g4, vd, xs, sv.1, ys, xn, rfl, hgw, HM_1_8_9_12_13_14_17_21_22.out, HK_1_8_9_12_13_14_17_21_22.out⟩
                    exact AllReadyH.nil
                  exact AllReadyH.nil
                exact AllReadyH.nil
              exact AllReadyH.nil
            exact AllReadyH.nil
          exact AllReadyH.nil
        refine Agg.held_cons rfl ?_ ?_
        · refine Agg.step_slice1 (E := EI) rfl _ rfl l.length rfl ?_
          intro xn w_1_8_21 hown hx
          have hpr := own_pre hown
          have how := fun k hk => (hown.block k hk).1
          clear hown
          have HX_1_8_21 := Lib.hid (HX_1_8.out.step (MkStep.of_below hx))
          have HM_1_8_21 := Lib.hid (HM_1_8.out.below hx)
          have HK_1_8_21 := Lib.hid (Agg.belowThen HK_1_8.out (Nat.le_refl _) hx)
          have HN_1_8_21 := Lib.hid (Off.behind (w0 := w_1_8) hpr.slice how HM_1_8.out.blk.lt HM_1_8.out.lt)
          clear hpr how hx
          refine ⟨RpG.of_blk (HB.out.below HK_1_8_21.out) hl hc, ?_⟩
          try simp only [Act.put, List.setIfInBounds_toArray, List.set_cons_succ, List.set_cons_zero]
          refine Agg.held_ready [9] (by kernel_rfl) (by simp) ?_
          refine Agg.held_cons rfl ?_ ?_
          · refine Agg.step_call rfl 38 _ _ rfl #[.pointer (some ⟨g4, 0, none⟩), xs] (by simp only [List.map_toArray, List.map_cons, List.map_nil]; rfl) (fun W => HEN.out _ W) ?_
            refine (num_any g4 (.slice none 0 0) xs [e, g, m] [] _ (by intro n hn; simp only [List.mem_cons, List.not_mem_nil, or_false] at hn; omega) (by simp) (by simp) HX_1_8_21.out HM_1_8_21.out).mono ?_
            rintro x w_1_8_9_21 ⟨rfl, va, hm, hs⟩
            have HM_1_8_9_21 := Lib.hid (show MkV g4 w_1_8_9_21 va (encN e ++ (encN g ++ encN m)) from by simpa using hm)
            have HN_1_8_9_21 := Lib.hid (HN_1_8_21.out.step hs)
            have HK_1_8_9_21 := Lib.hid (HK_1_8_21.out.trans ((HM_1_8_21.out.stepBelow hs).mono hgw))
            clear hm hs
            refine ⟨_, rfl, ?_⟩
            refine ⟨RpG.of_blk (HB.out.below HK_1_8_9_21.out) hl hc, ?_⟩
            try simp only [Act.put, List.setIfInBounds_toArray, List.set_cons_succ, List.set_cons_zero]
            refine Agg.held_ready [12] (by kernel_rfl) (by simp) ?_
            refine Agg.held_cons rfl ?_ ?_
            · refine Agg.step_call rfl 41 _ _ rfl #[.agg (pC ph pn)] (by simp only [List.map_toArray, List.map_cons, List.map_nil]; rfl) (fun W => HES.out _ W) ?_
              refine (shown_any ph pn hl _).mono ?_
              rintro x w_1_8_9_12_21 ⟨x12, y12, rfl, hy, hn, hx⟩
              obtain ⟨sv, rfl⟩ := newBytes_sv hn
              have HSO_1_8_9_12_21 := Lib.hid (Off.behind (w0 := w_1_8_9_21) hn.slice (fun k hk => Nat.le_trans hy.size (newBytes_own hn k hk)) HM_1_8_9_21.out.blk.lt HM_1_8_9_21.out.lt)
              have HN_1_8_9_12_21 := Lib.hid (HN_1_8_9_21.out.step (MkStep.of_below hx))
              have HM_1_8_9_12_21 := Lib.hid (HM_1_8_9_21.out.below hx)
              have HK_1_8_9_12_21 := Lib.hid (Agg.belowThen HK_1_8_9_21.out (Nat.le_refl _) hx)
              clear hn hx hy
              refine ⟨_, rfl, ?_⟩
              refine ⟨RpG.of_blk (HB.out.below HK_1_8_9_12_21.out) hl hc, ?_⟩
              try simp only [Act.put, List.setIfInBounds_toArray, List.set_cons_succ, List.set_cons_zero]
              refine Agg.held_ready [13] (by kernel_rfl) (by simp) ?_
              refine Agg.held_cons rfl ?_ ?_
              · refine Agg.step_slice1 (E := EBB) rfl _ rfl sv rfl ?_
                intro ys w_1_8_9_12_13_21 hys hx
                have HYO_1_8_9_12_13_21 := Lib.hid (Off.behind (w0 := w_1_8_9_12_21) hys.slice (fun k hk => (hys.block k hk).1) HM_1_8_9_12_21.out.blk.lt HM_1_8_9_12_21.out.lt)
                have HN_1_8_9_12_13_21 := Lib.hid (HN_1_8_9_12_21.out.step (MkStep.of_below hx))
                have HM_1_8_9_12_13_21 := Lib.hid (HM_1_8_9_12_21.out.below hx)
                have HSO_1_8_9_12_13_21 := Lib.hid (HSO_1_8_9_12_21.out.step (MkStep.of_below hx))
                have HK_1_8_9_12_13_21 := Lib.hid (Agg.belowThen HK_1_8_9_12_21.out (Nat.le_refl _) hx)
                clear hys hx
                refine ⟨RpG.of_blk (HB.out.below HK_1_8_9_12_13_21.out) hl hc, ?_⟩
                try simp only [Act.put, List.setIfInBounds_toArray, List.set_cons_succ, List.set_cons_zero]
                refine Agg.held_ready [14] (by kernel_rfl) (by simp) ?_
                refine Agg.held_cons rfl ?_ ?_
                · refine Agg.step_call rfl 40 _ _ rfl #[.pointer (some ⟨g4, 0, none⟩), ys] (by simp only [List.map_toArray, List.map_cons, List.map_nil]; rfl) (fun W => HET.out _ W) ?_
                  refine (text_any g4 va ys sv (pathS ph pn) (encN e ++ (encN g ++ encN m)) _ (by simp only [List.length_append]; omega) (by omega) HYO_1_8_9_12_13_21.out HSO_1_8_9_12_13_21.out HM_1_8_9_12_13_21.out).mono ?_
                  rintro x w_1_8_9_12_13_14_21 ⟨rfl, vb, hm, hs⟩
                  have HM_1_8_9_12_13_14_21 := Lib.hid hm
                  have HN_1_8_9_12_13_14_21 := Lib.hid (HN_1_8_9_12_13_21.out.step hs)
                  have HK_1_8_9_12_13_14_21 := Lib.hid (HK_1_8_9_12_13_21.out.trans ((HM_1_8_9_12_13_21.out.stepBelow hs).mono hgw))
                  clear hm hs
                  refine ⟨_, rfl, ?_⟩
                  refine ⟨RpG.of_blk (HB.out.below HK_1_8_9_12_13_14_21.out) hl hc, ?_⟩
                  try simp only [Act.put, List.setIfInBounds_toArray, List.set_cons_succ, List.set_cons_zero]
                  refine Agg.held_ready [17] (by kernel_rfl) (by simp) ?_
                  refine Agg.held_cons rfl ?_ ?_
                  · refine Agg.step_call rfl 42 _ _ rfl #[.pointer (some ⟨g4, 0, none⟩), .slice (some ⟨b, 22, none⟩) 20 20] (by simp only [List.map_toArray, List.map_cons, List.map_nil]; rfl) (fun W => HER.out _ W) ?_
                    refine (raw_any g4 vb _ ch ((encN e ++ (encN g ++ encN m)) ++ (encN (pathS ph pn).length ++ pathS ph pn)) _ (by simp only [List.length_append]; omega) (by omega) (rp_class_slice (HB.out.below HK_1_8_9_12_13_14_21.out) hl hc) HM_1_8_9_12_13_14_21.out).mono ?_
                    rintro x w_1_8_9_12_13_14_17_21 ⟨rfl, vc, hm, hs⟩
                    have HM_1_8_9_12_13_14_17_21 := Lib.hid hm
                    have HN_1_8_9_12_13_14_17_21 := Lib.hid (HN_1_8_9_12_13_14_21.out.step hs)
                    have HK_1_8_9_12_13_14_17_21 := Lib.hid (HK_1_8_9_12_13_14_21.out.trans ((HM_1_8_9_12_13_14_21.out.stepBelow hs).mono hgw))
                    clear hm hs
                    refine ⟨_, rfl, ?_⟩
                    refine ⟨RpG.of_blk (HB.out.below HK_1_8_9_12_13_14_17_21.out) hl hc, ?_⟩
                    try simp only [Act.put, List.setIfInBounds_toArray, List.set_cons_succ, List.set_cons_zero]
                    refine Agg.held_ready [22] (by kernel_rfl) (by simp) ?_
                    refine Agg.held_cons rfl ?_ ?_
                    · refine Agg.step_call rfl 38 _ _ rfl #[.pointer (some ⟨g4, 0, none⟩), xn] (by simp only [List.map_toArray, List.map_cons, List.map_nil]; rfl) (fun W => HEN.out _ W) ?_
                      refine (num_any g4 vc xn [l.length] (((encN e ++ (encN g ++ encN m)) ++ (encN (pathS ph pn).length ++ pathS ph pn)) ++ ch) _ (by intro n hn; simp only [List.mem_cons, List.not_mem_nil, or_false] at hn; omega) (by simp) (by simp only [List.length_append]; omega) HN_1_8_9_12_13_14_17_21.out HM_1_8_9_12_13_14_17_21.out).mono ?_
                      rintro x w_1_8_9_12_13_14_17_21_22 ⟨rfl, vd, hm, hs⟩
                      have HM_1_8_9_12_13_14_17_21_22 := Lib.hid (show MkV g4 w_1_8_9_12_13_14_17_21_22 vd ((((encN e ++ (encN g ++ encN m)) ++ (encN (pathS ph pn).length ++ pathS ph pn)) ++ ch) ++ encN l.length) from by simpa using hm)
                      have HK_1_8_9_12_13_14_17_21_22 := Lib.hid (HK_1_8_9_12_13_14_17_21.out.trans ((HM_1_8_9_12_13_14_17_21.out.stepBelow hs).mono hgw))
                      clear hm hs
                      refine ⟨_, rfl, ?_⟩
                      have hSx := RpG.of_blk (HB.out.below HK_1_8_9_12_13_14_17_21_22.out) hl hc; refine ⟨hSx, ?_⟩
                      try simp only [Act.put, List.setIfInBounds_toArray, List.set_cons_succ, List.set_cons_zero]
                      refine Agg.held_take 23 (.pointer (some ⟨g4, 0, none⟩)) rfl (by kernel_rfl) (fun _ _ _ h => h) rfl (fun W _ => by kernel_rfl) (by assumption) ?_
                      try simp only [Act.put, List.setIfInBounds_toArray, List.set_cons_succ, List.set_cons_zero]
                      refine Agg.held_end (by kernel_rfl) ?_
                      exact ⟨g4, vd, xs, sv.1, ys, xn, rfl, hgw, HM_1_8_9_12_13_14_17_21_22.out, HK_1_8_9_12_13_14_17_21_22.out⟩
                    exact AllReadyH.nil
                  exact AllReadyH.nil
                exact AllReadyH.nil
              exact AllReadyH.nil
            exact AllReadyH.nil
          exact AllReadyH.nil
        exact AllReadyH.nil
      refine Agg.held_cons rfl ?_ ?_
      · refine Agg.step_slice1 (E := EI) rfl _ rfl l.length rfl ?_
        intro xn w_1_21 hown hx
        have hpr := own_pre hown
        have how := fun k hk => (hown.block k hk).1
        clear hown
        have HM_1_21 := Lib.hid (HM_1.out.below hx)
        have HK_1_21 := Lib.hid (Agg.belowThen HK_1.out (Nat.le_refl _) hx)
        have HN_1_21 := Lib.hid (Off.behind (w0 := w_1) hpr.slice how HM_1.out.blk.lt HM_1.out.lt)
        clear hpr how hx
        refine ⟨RpG.of_blk (HB.out.below HK_1_21.out) hl hc, ?_⟩
        try simp only [Act.put, List.setIfInBounds_toArray, List.set_cons_succ, List.set_cons_zero]
        refine Agg.held_ready [8] (by kernel_rfl) (by simp) ?_
        refine Agg.held_cons rfl ?_ ?_
        · refine step_ints3 rfl _ _ _ rfl e g m rfl rfl rfl ?_
          intro xs w_1_8_21 hpr how hx
          have HN_1_8_21 := Lib.hid (HN_1_21.out.step (MkStep.of_below hx))
          have HM_1_8_21 := Lib.hid (HM_1_21.out.below hx)
          have HK_1_8_21 := Lib.hid (Agg.belowThen HK_1_21.out (Nat.le_refl _) hx)
          have HX_1_8_21 := Lib.hid (Off.behind (w0 := w_1_21) hpr.slice how HM_1_21.out.blk.lt HM_1_21.out.lt)
          clear hpr how hx
          refine ⟨RpG.of_blk (HB.out.below HK_1_8_21.out) hl hc, ?_⟩
          try simp only [Act.put, List.setIfInBounds_toArray, List.set_cons_succ, List.set_cons_zero]
          refine Agg.held_ready [9] (by kernel_rfl) (by simp) ?_
          refine Agg.held_cons rfl ?_ ?_
          · refine Agg.step_call rfl 38 _ _ rfl #[.pointer (some ⟨g4, 0, none⟩), xs] (by simp only [List.map_toArray, List.map_cons, List.map_nil]; rfl) (fun W => HEN.out _ W) ?_
            refine (num_any g4 (.slice none 0 0) xs [e, g, m] [] _ (by intro n hn; simp only [List.mem_cons, List.not_mem_nil, or_false] at hn; omega) (by simp) (by simp) HX_1_8_21.out HM_1_8_21.out).mono ?_
            rintro x w_1_8_9_21 ⟨rfl, va, hm, hs⟩
            have HM_1_8_9_21 := Lib.hid (show MkV g4 w_1_8_9_21 va (encN e ++ (encN g ++ encN m)) from by simpa using hm)
            have HN_1_8_9_21 := Lib.hid (HN_1_8_21.out.step hs)
            have HK_1_8_9_21 := Lib.hid (HK_1_8_21.out.trans ((HM_1_8_21.out.stepBelow hs).mono hgw))
            clear hm hs
            refine ⟨_, rfl, ?_⟩
            refine ⟨RpG.of_blk (HB.out.below HK_1_8_9_21.out) hl hc, ?_⟩
            try simp only [Act.put, List.setIfInBounds_toArray, List.set_cons_succ, List.set_cons_zero]
            refine Agg.held_ready [12] (by kernel_rfl) (by simp) ?_
            refine Agg.held_cons rfl ?_ ?_
            · refine Agg.step_call rfl 41 _ _ rfl #[.agg (pC ph pn)] (by simp only [List.map_toArray, List.map_cons, List.map_nil]; rfl) (fun W => HES.out _ W) ?_
              refine (shown_any ph pn hl _).mono ?_
              rintro x w_1_8_9_12_21 ⟨x12, y12, rfl, hy, hn, hx⟩
              obtain ⟨sv, rfl⟩ := newBytes_sv hn
              have HSO_1_8_9_12_21 := Lib.hid (Off.behind (w0 := w_1_8_9_21) hn.slice (fun k hk => Nat.le_trans hy.size (newBytes_own hn k hk)) HM_1_8_9_21.out.blk.lt HM_1_8_9_21.out.lt)
              have HN_1_8_9_12_21 := Lib.hid (HN_1_8_9_21.out.step (MkStep.of_below hx))
              have HM_1_8_9_12_21 := Lib.hid (HM_1_8_9_21.out.below hx)
              have HK_1_8_9_12_21 := Lib.hid (Agg.belowThen HK_1_8_9_21.out (Nat.le_refl _) hx)
              clear hn hx hy
              refine ⟨_, rfl, ?_⟩
              refine ⟨RpG.of_blk (HB.out.below HK_1_8_9_12_21.out) hl hc, ?_⟩
              try simp only [Act.put, List.setIfInBounds_toArray, List.set_cons_succ, List.set_cons_zero]
              refine Agg.held_ready [13] (by kernel_rfl) (by simp) ?_
              refine Agg.held_cons rfl ?_ ?_
              · refine Agg.step_slice1 (E := EBB) rfl _ rfl sv rfl ?_
                intro ys w_1_8_9_12_13_21 hys hx
                have HYO_1_8_9_12_13_21 := Lib.hid (Off.behind (w0 := w_1_8_9_12_21) hys.slice (fun k hk => (hys.block k hk).1) HM_1_8_9_12_21.out.blk.lt HM_1_8_9_12_21.out.lt)
                have HN_1_8_9_12_13_21 := Lib.hid (HN_1_8_9_12_21.out.step (MkStep.of_below hx))
                have HM_1_8_9_12_13_21 := Lib.hid (HM_1_8_9_12_21.out.below hx)
                have HSO_1_8_9_12_13_21 := Lib.hid (HSO_1_8_9_12_21.out.step (MkStep.of_below hx))
                have HK_1_8_9_12_13_21 := Lib.hid (Agg.belowThen HK_1_8_9_12_21.out (Nat.le_refl _) hx)
                clear hys hx
                refine ⟨RpG.of_blk (HB.out.below HK_1_8_9_12_13_21.out) hl hc, ?_⟩
                try simp only [Act.put, List.setIfInBounds_toArray, List.set_cons_succ, List.set_cons_zero]
                refine Agg.held_ready [14] (by kernel_rfl) (by simp) ?_
                refine Agg.held_cons rfl ?_ ?_
                · refine Agg.step_call rfl 40 _ _ rfl #[.pointer (some ⟨g4, 0, none⟩), ys] (by simp only [List.map_toArray, List.map_cons, List.map_nil]; rfl) (fun W => HET.out _ W) ?_
                  refine (text_any g4 va ys sv (pathS ph pn) (encN e ++ (encN g ++ encN m)) _ (by simp only [List.length_append]; omega) (by omega) HYO_1_8_9_12_13_21.out HSO_1_8_9_12_13_21.out HM_1_8_9_12_13_21.out).mono ?_
                  rintro x w_1_8_9_12_13_14_21 ⟨rfl, vb, hm, hs⟩
                  have HM_1_8_9_12_13_14_21 := Lib.hid hm
                  have HN_1_8_9_12_13_14_21 := Lib.hid (HN_1_8_9_12_13_21.out.step hs)
                  have HK_1_8_9_12_13_14_21 := Lib.hid (HK_1_8_9_12_13_21.out.trans ((HM_1_8_9_12_13_21.out.stepBelow hs).mono hgw))
                  clear hm hs
                  refine ⟨_, rfl, ?_⟩
                  refine ⟨RpG.of_blk (HB.out.below HK_1_8_9_12_13_14_21.out) hl hc, ?_⟩
                  try simp only [Act.put, List.setIfInBounds_toArray, List.set_cons_succ, List.set_cons_zero]
                  refine Agg.held_ready [17] (by kernel_rfl) (by simp) ?_
                  refine Agg.held_cons rfl ?_ ?_
                  · refine Agg.step_call rfl 42 _ _ rfl #[.pointer (some ⟨g4, 0, none⟩), .slice (some ⟨b, 22, none⟩) 20 20] (by simp only [List.map_toArray, List.map_cons, List.map_nil]; rfl) (fun W => HER.out _ W) ?_
                    refine (raw_any g4 vb _ ch ((encN e ++ (encN g ++ encN m)) ++ (encN (pathS ph pn).length ++ pathS ph pn)) _ (by simp only [List.length_append]; omega) (by omega) (rp_class_slice (HB.out.below HK_1_8_9_12_13_14_21.out) hl hc) HM_1_8_9_12_13_14_21.out).mono ?_
                    rintro x w_1_8_9_12_13_14_17_21 ⟨rfl, vc, hm, hs⟩
                    have HM_1_8_9_12_13_14_17_21 := Lib.hid hm
                    have HN_1_8_9_12_13_14_17_21 := Lib.hid (HN_1_8_9_12_13_14_21.out.step hs)
                    have HK_1_8_9_12_13_14_17_21 := Lib.hid (HK_1_8_9_12_13_14_21.out.trans ((HM_1_8_9_12_13_14_21.out.stepBelow hs).mono hgw))
                    clear hm hs
                    refine ⟨_, rfl, ?_⟩
                    refine ⟨RpG.of_blk (HB.out.below HK_1_8_9_12_13_14_17_21.out) hl hc, ?_⟩
                    try simp only [Act.put, List.setIfInBounds_toArray, List.set_cons_succ, List.set_cons_zero]
                    refine Agg.held_ready [22] (by kernel_rfl) (by simp) ?_
                    refine Agg.held_cons rfl ?_ ?_
                    · refine Agg.step_call rfl 38 _ _ rfl #[.pointer (some ⟨g4, 0, none⟩), xn] (by simp only [List.map_toArray, List.map_cons, List.map_nil]; rfl) (fun W => HEN.out _ W) ?_
                      refine (num_any g4 vc xn [l.length] (((encN e ++ (encN g ++ encN m)) ++ (encN (pathS ph pn).length ++ pathS ph pn)) ++ ch) _ (by intro n hn; simp only [List.mem_cons, List.not_mem_nil, or_false] at hn; omega) (by simp) (by simp only [List.length_append]; omega) HN_1_8_9_12_13_14_17_21.out HM_1_8_9_12_13_14_17_21.out).mono ?_
                      rintro x w_1_8_9_12_13_14_17_21_22 ⟨rfl, vd, hm, hs⟩
                      have HM_1_8_9_12_13_14_17_21_22 := Lib.hid (show MkV g4 w_1_8_9_12_13_14_17_21_22 vd ((((encN e ++ (encN g ++ encN m)) ++ (encN (pathS ph pn).length ++ pathS ph pn)) ++ ch) ++ encN l.length) from by simpa using hm)
                      have HK_1_8_9_12_13_14_17_21_22 := Lib.hid (HK_1_8_9_12_13_14_17_21.out.trans ((HM_1_8_9_12_13_14_17_21.out.stepBelow hs).mono hgw))
                      clear hm hs
                      refine ⟨_, rfl, ?_⟩
                      have hSx := RpG.of_blk (HB.out.below HK_1_8_9_12_13_14_17_21_22.out) hl hc; refine ⟨hSx, ?_⟩
                      try simp only [Act.put, List.setIfInBounds_toArray, List.set_cons_succ, List.set_cons_zero]
                      refine Agg.held_take 23 (.pointer (some ⟨g4, 0, none⟩)) rfl (by kernel_rfl) (fun _ _ _ h => h) rfl (fun W _ => by kernel_rfl) (by assumption) ?_
                      try simp only [Act.put, List.setIfInBounds_toArray, List.set_cons_succ, List.set_cons_zero]
                      refine Agg.held_end (by kernel_rfl) ?_
                      exact ⟨g4, vd, xs, sv.1, ys, xn, rfl, hgw, HM_1_8_9_12_13_14_17_21_22.out, HK_1_8_9_12_13_14_17_21_22.out⟩
                    exact AllReadyH.nil
                  exact AllReadyH.nil
                exact AllReadyH.nil
              exact AllReadyH.nil
            exact AllReadyH.nil
          exact AllReadyH.nil
        exact AllReadyH.nil
      exact AllReadyH.nil
    refine Agg.held_cons rfl ?_ ?_
    · refine step_ints3 rfl _ _ _ rfl e g m rfl rfl rfl ?_
      intro xs w_8 hpr how hx
      have HK_8 := Lib.hid (Agg.belowThen HK0.out (Nat.le_refl _) hx)
      have HX_8 := Lib.hid hpr
      clear hpr how hx
      refine ⟨RpG.of_blk (HB.out.below HK_8.out) hl hc, ?_⟩
      try simp only [Act.put, List.setIfInBounds_toArray, List.set_cons_succ, List.set_cons_zero]
      refine Agg.held_ready [1, 21] (by kernel_rfl) (by simp) ?_
      refine Agg.held_cons rfl ?_ ?_
      · refine Agg.step_box rfl 71 _ rfl (mkC (.slice none 0 0)) rfl ?_
        intro g4 w_1_8 hb4 hx4 hg4
        have hgw : w0.heap.size ≤ g4 := Nat.le_trans HK_8.out.size hg4
        have HM_1_8 := Lib.hid (⟨hb4, Own.nil _ _ _⟩ : MkV g4 w_1_8 (.slice none 0 0) [])
        have HX_1_8 := Lib.hid (HX_8.out.off hx4 hg4)
        have HK_1_8 := Lib.hid (Agg.belowThen HK_8.out (Nat.le_refl _) hx4)
        clear hb4 hx4
        refine ⟨RpG.of_blk (HB.out.below HK_1_8.out) hl hc, ?_⟩
        try simp only [Act.put, List.setIfInBounds_toArray, List.set_cons_succ, List.set_cons_zero]
        refine Agg.held_ready [9, 21] (by kernel_rfl) (by simp) ?_
        refine Agg.held_cons rfl ?_ ?_
        · refine Agg.step_call rfl 38 _ _ rfl #[.pointer (some ⟨g4, 0, none⟩), xs] (by simp only [List.map_toArray, List.map_cons, List.map_nil]; rfl) (fun W => HEN.out _ W) ?_
          refine (num_any g4 (.slice none 0 0) xs [e, g, m] [] _ (by intro n hn; simp only [List.mem_cons, List.not_mem_nil, or_false] at hn; omega) (by simp) (by simp) HX_1_8.out HM_1_8.out).mono ?_
          rintro x w_1_8_9 ⟨rfl, va, hm, hs⟩
          have HM_1_8_9 := Lib.hid (show MkV g4 w_1_8_9 va (encN e ++ (encN g ++ encN m)) from by simpa using hm)
          have HK_1_8_9 := Lib.hid (HK_1_8.out.trans ((HM_1_8.out.stepBelow hs).mono hgw))
          clear hm hs
          refine ⟨_, rfl, ?_⟩
          refine ⟨RpG.of_blk (HB.out.below HK_1_8_9.out) hl hc, ?_⟩
          try simp only [Act.put, List.setIfInBounds_toArray, List.set_cons_succ, List.set_cons_zero]
          refine Agg.held_ready [12, 21] (by kernel_rfl) (by simp) ?_
          refine Agg.held_cons rfl ?_ ?_
          · refine Agg.step_call rfl 41 _ _ rfl #[.agg (pC ph pn)] (by simp only [List.map_toArray, List.map_cons, List.map_nil]; rfl) (fun W => HES.out _ W) ?_
            refine (shown_any ph pn hl _).mono ?_
            rintro x w_1_8_9_12 ⟨x12, y12, rfl, hy, hn, hx⟩
            obtain ⟨sv, rfl⟩ := newBytes_sv hn
            have HSO_1_8_9_12 := Lib.hid (Off.behind (w0 := w_1_8_9) hn.slice (fun k hk => Nat.le_trans hy.size (newBytes_own hn k hk)) HM_1_8_9.out.blk.lt HM_1_8_9.out.lt)
            have HM_1_8_9_12 := Lib.hid (HM_1_8_9.out.below hx)
            have HK_1_8_9_12 := Lib.hid (Agg.belowThen HK_1_8_9.out (Nat.le_refl _) hx)
            clear hn hx hy
            refine ⟨_, rfl, ?_⟩
            refine ⟨RpG.of_blk (HB.out.below HK_1_8_9_12.out) hl hc, ?_⟩
            try simp only [Act.put, List.setIfInBounds_toArray, List.set_cons_succ, List.set_cons_zero]
            refine Agg.held_ready [13, 21] (by kernel_rfl) (by simp) ?_
            refine Agg.held_cons rfl ?_ ?_
            · refine Agg.step_slice1 (E := EBB) rfl _ rfl sv rfl ?_
              intro ys w_1_8_9_12_13 hys hx
              have HYO_1_8_9_12_13 := Lib.hid (Off.behind (w0 := w_1_8_9_12) hys.slice (fun k hk => (hys.block k hk).1) HM_1_8_9_12.out.blk.lt HM_1_8_9_12.out.lt)
              have HM_1_8_9_12_13 := Lib.hid (HM_1_8_9_12.out.below hx)
              have HSO_1_8_9_12_13 := Lib.hid (HSO_1_8_9_12.out.step (MkStep.of_below hx))
              have HK_1_8_9_12_13 := Lib.hid (Agg.belowThen HK_1_8_9_12.out (Nat.le_refl _) hx)
              clear hys hx
              refine ⟨RpG.of_blk (HB.out.below HK_1_8_9_12_13.out) hl hc, ?_⟩
              try simp only [Act.put, List.setIfInBounds_toArray, List.set_cons_succ, List.set_cons_zero]
              refine Agg.held_ready [14, 21] (by kernel_rfl) (by simp) ?_
              refine Agg.held_cons rfl ?_ ?_
              · refine Agg.step_call rfl 40 _ _ rfl #[.pointer (some ⟨g4, 0, none⟩), ys] (by simp only [List.map_toArray, List.map_cons, List.map_nil]; rfl) (fun W => HET.out _ W) ?_
                refine (text_any g4 va ys sv (pathS ph pn) (encN e ++ (encN g ++ encN m)) _ (by simp only [List.length_append]; omega) (by omega) HYO_1_8_9_12_13.out HSO_1_8_9_12_13.out HM_1_8_9_12_13.out).mono ?_
                rintro x w_1_8_9_12_13_14 ⟨rfl, vb, hm, hs⟩
                have HM_1_8_9_12_13_14 := Lib.hid hm
                have HK_1_8_9_12_13_14 := Lib.hid (HK_1_8_9_12_13.out.trans ((HM_1_8_9_12_13.out.stepBelow hs).mono hgw))
                clear hm hs
                refine ⟨_, rfl, ?_⟩
                refine ⟨RpG.of_blk (HB.out.below HK_1_8_9_12_13_14.out) hl hc, ?_⟩
                try simp only [Act.put, List.setIfInBounds_toArray, List.set_cons_succ, List.set_cons_zero]
                refine Agg.held_ready [17, 21] (by kernel_rfl) (by simp) ?_
                refine Agg.held_cons rfl ?_ ?_
                · refine Agg.step_call rfl 42 _ _ rfl #[.pointer (some ⟨g4, 0, none⟩), .slice (some ⟨b, 22, none⟩) 20 20] (by simp only [List.map_toArray, List.map_cons, List.map_nil]; rfl) (fun W => HER.out _ W) ?_
                  refine (raw_any g4 vb _ ch ((encN e ++ (encN g ++ encN m)) ++ (encN (pathS ph pn).length ++ pathS ph pn)) _ (by simp only [List.length_append]; omega) (by omega) (rp_class_slice (HB.out.below HK_1_8_9_12_13_14.out) hl hc) HM_1_8_9_12_13_14.out).mono ?_
                  rintro x w_1_8_9_12_13_14_17 ⟨rfl, vc, hm, hs⟩
                  have HM_1_8_9_12_13_14_17 := Lib.hid hm
                  have HK_1_8_9_12_13_14_17 := Lib.hid (HK_1_8_9_12_13_14.out.trans ((HM_1_8_9_12_13_14.out.stepBelow hs).mono hgw))
                  clear hm hs
                  refine ⟨_, rfl, ?_⟩
                  refine ⟨RpG.of_blk (HB.out.below HK_1_8_9_12_13_14_17.out) hl hc, ?_⟩
                  try simp only [Act.put, List.setIfInBounds_toArray, List.set_cons_succ, List.set_cons_zero]
                  refine Agg.held_ready [21] (by kernel_rfl) (by simp) ?_
                  refine Agg.held_cons rfl ?_ ?_
                  · refine Agg.step_slice1 (E := EI) rfl _ rfl l.length rfl ?_
                    intro xn w_1_8_9_12_13_14_17_21 hown hx
                    have hpr := own_pre hown
                    have how := fun k hk => (hown.block k hk).1
                    clear hown
                    have HM_1_8_9_12_13_14_17_21 := Lib.hid (HM_1_8_9_12_13_14_17.out.below hx)
                    have HK_1_8_9_12_13_14_17_21 := Lib.hid (Agg.belowThen HK_1_8_9_12_13_14_17.out (Nat.le_refl _) hx)
                    have HN_1_8_9_12_13_14_17_21 := Lib.hid (Off.behind (w0 := w_1_8_9_12_13_14_17) hpr.slice how HM_1_8_9_12_13_14_17.out.blk.lt HM_1_8_9_12_13_14_17.out.lt)
                    clear hpr how hx
                    refine ⟨RpG.of_blk (HB.out.below HK_1_8_9_12_13_14_17_21.out) hl hc, ?_⟩
                    try simp only [Act.put, List.setIfInBounds_toArray, List.set_cons_succ, List.set_cons_zero]
                    refine Agg.held_ready [22] (by kernel_rfl) (by simp) ?_
                    refine Agg.held_cons rfl ?_ ?_
                    · refine Agg.step_call rfl 38 _ _ rfl #[.pointer (some ⟨g4, 0, none⟩), xn] (by simp only [List.map_toArray, List.map_cons, List.map_nil]; rfl) (fun W => HEN.out _ W) ?_
                      refine (num_any g4 vc xn [l.length] (((encN e ++ (encN g ++ encN m)) ++ (encN (pathS ph pn).length ++ pathS ph pn)) ++ ch) _ (by intro n hn; simp only [List.mem_cons, List.not_mem_nil, or_false] at hn; omega) (by simp) (by simp only [List.length_append]; omega) HN_1_8_9_12_13_14_17_21.out HM_1_8_9_12_13_14_17_21.out).mono ?_
                      rintro x w_1_8_9_12_13_14_17_21_22 ⟨rfl, vd, hm, hs⟩
                      have HM_1_8_9_12_13_14_17_21_22 := Lib.hid (show MkV g4 w_1_8_9_12_13_14_17_21_22 vd ((((encN e ++ (encN g ++ encN m)) ++ (encN (pathS ph pn).length ++ pathS ph pn)) ++ ch) ++ encN l.length) from by simpa using hm)
                      have HK_1_8_9_12_13_14_17_21_22 := Lib.hid (HK_1_8_9_12_13_14_17_21.out.trans ((HM_1_8_9_12_13_14_17_21.out.stepBelow hs).mono hgw))
                      clear hm hs
                      refine ⟨_, rfl, ?_⟩
                      have hSx := RpG.of_blk (HB.out.below HK_1_8_9_12_13_14_17_21_22.out) hl hc; refine ⟨hSx, ?_⟩
                      try simp only [Act.put, List.setIfInBounds_toArray, List.set_cons_succ, List.set_cons_zero]
                      refine Agg.held_take 23 (.pointer (some ⟨g4, 0, none⟩)) rfl (by kernel_rfl) (fun _ _ _ h => h) rfl (fun W _ => by kernel_rfl) (by assumption) ?_
                      try simp only [Act.put, List.setIfInBounds_toArray, List.set_cons_succ, List.set_cons_zero]
                      refine Agg.held_end (by kernel_rfl) ?_
                      exact ⟨g4, vd, xs, sv.1, ys, xn, rfl, hgw, HM_1_8_9_12_13_14_17_21_22.out, HK_1_8_9_12_13_14_17_21_22.out⟩
                    exact AllReadyH.nil
                  exact AllReadyH.nil
                refine Agg.held_cons rfl ?_ ?_
                · refine Agg.step_slice1 (E := EI) rfl _ rfl l.length rfl ?_
                  intro xn w_1_8_9_12_13_14_21 hown hx
                  have hpr := own_pre hown
                  have how := fun k hk => (hown.block k hk).1
                  clear hown
                  have HM_1_8_9_12_13_14_21 := Lib.hid (HM_1_8_9_12_13_14.out.below hx)
                  have HK_1_8_9_12_13_14_21 := Lib.hid (Agg.belowThen HK_1_8_9_12_13_14.out (Nat.le_refl _) hx)
                  have HN_1_8_9_12_13_14_21 := Lib.hid (Off.behind (w0 := w_1_8_9_12_13_14) hpr.slice how HM_1_8_9_12_13_14.out.blk.lt HM_1_8_9_12_13_14.out.lt)
                  clear hpr how hx
                  refine ⟨RpG.of_blk (HB.out.below HK_1_8_9_12_13_14_21.out) hl hc, ?_⟩
                  try simp only [Act.put, List.setIfInBounds_toArray, List.set_cons_succ, List.set_cons_zero]
                  refine Agg.held_ready [17] (by kernel_rfl) (by simp) ?_
                  refine Agg.held_cons rfl ?_ ?_
                  · refine Agg.step_call rfl 42 _ _ rfl #[.pointer (some ⟨g4, 0, none⟩), .slice (some ⟨b, 22, none⟩) 20 20] (by simp only [List.map_toArray, List.map_cons, List.map_nil]; rfl) (fun W => HER.out _ W) ?_
                    refine (raw_any g4 vb _ ch ((encN e ++ (encN g ++ encN m)) ++ (encN (pathS ph pn).length ++ pathS ph pn)) _ (by simp only [List.length_append]; omega) (by omega) (rp_class_slice (HB.out.below HK_1_8_9_12_13_14_21.out) hl hc) HM_1_8_9_12_13_14_21.out).mono ?_
                    rintro x w_1_8_9_12_13_14_17_21 ⟨rfl, vc, hm, hs⟩
                    have HM_1_8_9_12_13_14_17_21 := Lib.hid hm
                    have HN_1_8_9_12_13_14_17_21 := Lib.hid (HN_1_8_9_12_13_14_21.out.step hs)
                    have HK_1_8_9_12_13_14_17_21 := Lib.hid (HK_1_8_9_12_13_14_21.out.trans ((HM_1_8_9_12_13_14_21.out.stepBelow hs).mono hgw))
                    clear hm hs
                    refine ⟨_, rfl, ?_⟩
                    refine ⟨RpG.of_blk (HB.out.below HK_1_8_9_12_13_14_17_21.out) hl hc, ?_⟩
                    try simp only [Act.put, List.setIfInBounds_toArray, List.set_cons_succ, List.set_cons_zero]
                    refine Agg.held_ready [22] (by kernel_rfl) (by simp) ?_
                    refine Agg.held_cons rfl ?_ ?_
                    · refine Agg.step_call rfl 38 _ _ rfl #[.pointer (some ⟨g4, 0, none⟩), xn] (by simp only [List.map_toArray, List.map_cons, List.map_nil]; rfl) (fun W => HEN.out _ W) ?_
                      refine (num_any g4 vc xn [l.length] (((encN e ++ (encN g ++ encN m)) ++ (encN (pathS ph pn).length ++ pathS ph pn)) ++ ch) _ (by intro n hn; simp only [List.mem_cons, List.not_mem_nil, or_false] at hn; omega) (by simp) (by simp only [List.length_append]; omega) HN_1_8_9_12_13_14_17_21.out HM_1_8_9_12_13_14_17_21.out).mono ?_
                      rintro x w_1_8_9_12_13_14_17_21_22 ⟨rfl, vd, hm, hs⟩
                      have HM_1_8_9_12_13_14_17_21_22 := Lib.hid (show MkV g4 w_1_8_9_12_13_14_17_21_22 vd ((((encN e ++ (encN g ++ encN m)) ++ (encN (pathS ph pn).length ++ pathS ph pn)) ++ ch) ++ encN l.length) from by simpa using hm)
                      have HK_1_8_9_12_13_14_17_21_22 := Lib.hid (HK_1_8_9_12_13_14_17_21.out.trans ((HM_1_8_9_12_13_14_17_21.out.stepBelow hs).mono hgw))
                      clear hm hs
                      refine ⟨_, rfl, ?_⟩
                      have hSx := RpG.of_blk (HB.out.below HK_1_8_9_12_13_14_17_21_22.out) hl hc; refine ⟨hSx, ?_⟩
                      try simp only [Act.put, List.setIfInBounds_toArray, List.set_cons_succ, List.set_cons_zero]
                      refine Agg.held_take 23 (.pointer (some ⟨g4, 0, none⟩)) rfl (by kernel_rfl) (fun _ _ _ h => h) rfl (fun W _ => by kernel_rfl) (by assumption) ?_
                      try simp only [Act.put, List.setIfInBounds_toArray, List.set_cons_succ, List.set_cons_zero]
                      refine Agg.held_end (by kernel_rfl) ?_
                      exact ⟨g4, vd, xs, sv.1, ys, xn, rfl, hgw, HM_1_8_9_12_13_14_17_21_22.out, HK_1_8_9_12_13_14_17_21_22.out⟩
                    exact AllReadyH.nil
                  exact AllReadyH.nil
                exact AllReadyH.nil
              refine Agg.held_cons rfl ?_ ?_
              · refine Agg.step_slice1 (E := EI) rfl _ rfl l.length rfl ?_
                intro xn w_1_8_9_12_13_21 hown hx
                have hpr := own_pre hown
                have how := fun k hk => (hown.block k hk).1
                clear hown
                have HM_1_8_9_12_13_21 := Lib.hid (HM_1_8_9_12_13.out.below hx)
                have HSO_1_8_9_12_13_21 := Lib.hid (HSO_1_8_9_12_13.out.step (MkStep.of_below hx))
                have HYO_1_8_9_12_13_21 := Lib.hid (HYO_1_8_9_12_13.out.step (MkStep.of_below hx))
                have HK_1_8_9_12_13_21 := Lib.hid (Agg.belowThen HK_1_8_9_12_13.out (Nat.le_refl _) hx)
                have HN_1_8_9_12_13_21 := Lib.hid (Off.behind (w0 := w_1_8_9_12_13) hpr.slice how HM_1_8_9_12_13.out.blk.lt HM_1_8_9_12_13.out.lt)
                clear hpr how hx
                refine ⟨RpG.of_blk (HB.out.below HK_1_8_9_12_13_21.out) hl hc, ?_⟩
                try simp only [Act.put, List.setIfInBounds_toArray, List.set_cons_succ, List.set_cons_zero]
                refine Agg.held_ready [14] (by kernel_rfl) (by simp) ?_
                refine Agg.held_cons rfl ?_ ?_
                · refine Agg.step_call rfl 40 _ _ rfl #[.pointer (some ⟨g4, 0, none⟩), ys] (by simp only [List.map_toArray, List.map_cons, List.map_nil]; rfl) (fun W => HET.out _ W) ?_
                  refine (text_any g4 va ys sv (pathS ph pn) (encN e ++ (encN g ++ encN m)) _ (by simp only [List.length_append]; omega) (by omega) HYO_1_8_9_12_13_21.out HSO_1_8_9_12_13_21.out HM_1_8_9_12_13_21.out).mono ?_
                  rintro x w_1_8_9_12_13_14_21 ⟨rfl, vb, hm, hs⟩
                  have HM_1_8_9_12_13_14_21 := Lib.hid hm
                  have HN_1_8_9_12_13_14_21 := Lib.hid (HN_1_8_9_12_13_21.out.step hs)
                  have HK_1_8_9_12_13_14_21 := Lib.hid (HK_1_8_9_12_13_21.out.trans ((HM_1_8_9_12_13_21.out.stepBelow hs).mono hgw))
                  clear hm hs
                  refine ⟨_, rfl, ?_⟩
                  refine ⟨RpG.of_blk (HB.out.below HK_1_8_9_12_13_14_21.out) hl hc, ?_⟩
                  try simp only [Act.put, List.setIfInBounds_toArray, List.set_cons_succ, List.set_cons_zero]
                  refine Agg.held_ready [17] (by kernel_rfl) (by simp) ?_
                  refine Agg.held_cons rfl ?_ ?_
                  · refine Agg.step_call rfl 42 _ _ rfl #[.pointer (some ⟨g4, 0, none⟩), .slice (some ⟨b, 22, none⟩) 20 20] (by simp only [List.map_toArray, List.map_cons, List.map_nil]; rfl) (fun W => HER.out _ W) ?_
                    refine (raw_any g4 vb _ ch ((encN e ++ (encN g ++ encN m)) ++ (encN (pathS ph pn).length ++ pathS ph pn)) _ (by simp only [List.length_append]; omega) (by omega) (rp_class_slice (HB.out.below HK_1_8_9_12_13_14_21.out) hl hc) HM_1_8_9_12_13_14_21.out).mono ?_
                    rintro x w_1_8_9_12_13_14_17_21 ⟨rfl, vc, hm, hs⟩
                    have HM_1_8_9_12_13_14_17_21 := Lib.hid hm
                    have HN_1_8_9_12_13_14_17_21 := Lib.hid (HN_1_8_9_12_13_14_21.out.step hs)
                    have HK_1_8_9_12_13_14_17_21 := Lib.hid (HK_1_8_9_12_13_14_21.out.trans ((HM_1_8_9_12_13_14_21.out.stepBelow hs).mono hgw))
                    clear hm hs
                    refine ⟨_, rfl, ?_⟩
                    refine ⟨RpG.of_blk (HB.out.below HK_1_8_9_12_13_14_17_21.out) hl hc, ?_⟩
                    try simp only [Act.put, List.setIfInBounds_toArray, List.set_cons_succ, List.set_cons_zero]
                    refine Agg.held_ready [22] (by kernel_rfl) (by simp) ?_
                    refine Agg.held_cons rfl ?_ ?_
                    · refine Agg.step_call rfl 38 _ _ rfl #[.pointer (some ⟨g4, 0, none⟩), xn] (by simp only [List.map_toArray, List.map_cons, List.map_nil]; rfl) (fun W => HEN.out _ W) ?_
                      refine (num_any g4 vc xn [l.length] (((encN e ++ (encN g ++ encN m)) ++ (encN (pathS ph pn).length ++ pathS ph pn)) ++ ch) _ (by intro n hn; simp only [List.mem_cons, List.not_mem_nil, or_false] at hn; omega) (by simp) (by simp only [List.length_append]; omega) HN_1_8_9_12_13_14_17_21.out HM_1_8_9_12_13_14_17_21.out).mono ?_
                      rintro x w_1_8_9_12_13_14_17_21_22 ⟨rfl, vd, hm, hs⟩
                      have HM_1_8_9_12_13_14_17_21_22 := Lib.hid (show MkV g4 w_1_8_9_12_13_14_17_21_22 vd ((((encN e ++ (encN g ++ encN m)) ++ (encN (pathS ph pn).length ++ pathS ph pn)) ++ ch) ++ encN l.length) from by simpa using hm)
                      have HK_1_8_9_12_13_14_17_21_22 := Lib.hid (HK_1_8_9_12_13_14_17_21.out.trans ((HM_1_8_9_12_13_14_17_21.out.stepBelow hs).mono hgw))
                      clear hm hs
                      refine ⟨_, rfl, ?_⟩
                      have hSx := RpG.of_blk (HB.out.below HK_1_8_9_12_13_14_17_21_22.out) hl hc; refine ⟨hSx, ?_⟩
                      try simp only [Act.put, List.setIfInBounds_toArray, List.set_cons_succ, List.set_cons_zero]
                      refine Agg.held_take 23 (.pointer (some ⟨g4, 0, none⟩)) rfl (by kernel_rfl) (fun _ _ _ h => h) rfl (fun W _ => by kernel_rfl) (by assumption) ?_
                      try simp only [Act.put, List.setIfInBounds_toArray, List.set_cons_succ, List.set_cons_zero]
                      refine Agg.held_end (by kernel_rfl) ?_
                      exact ⟨g4, vd, xs, sv.1, ys, xn, rfl, hgw, HM_1_8_9_12_13_14_17_21_22.out, HK_1_8_9_12_13_14_17_21_22.out⟩
                    exact AllReadyH.nil
                  exact AllReadyH.nil
                exact AllReadyH.nil
              exact AllReadyH.nil
            refine Agg.held_cons rfl ?_ ?_
            · refine Agg.step_slice1 (E := EI) rfl _ rfl l.length rfl ?_
              intro xn w_1_8_9_12_21 hown hx
              have hpr := own_pre hown
              have how := fun k hk => (hown.block k hk).1
              clear hown
              have HM_1_8_9_12_21 := Lib.hid (HM_1_8_9_12.out.below hx)
              have HSO_1_8_9_12_21 := Lib.hid (HSO_1_8_9_12.out.step (MkStep.of_below hx))
              have HK_1_8_9_12_21 := Lib.hid (Agg.belowThen HK_1_8_9_12.out (Nat.le_refl _) hx)
              have HN_1_8_9_12_21 := Lib.hid (Off.behind (w0 := w_1_8_9_12) hpr.slice how HM_1_8_9_12.out.blk.lt HM_1_8_9_12.out.lt)
              clear hpr how hx
              refine ⟨RpG.of_blk (HB.out.below HK_1_8_9_12_21.out) hl hc, ?_⟩
              try simp only [Act.put, List.setIfInBounds_toArray, List.set_cons_succ, List.set_cons_zero]
              refine Agg.held_ready [13] (by kernel_rfl) (by simp) ?_
              refine Agg.held_cons rfl ?_ ?_
              · refine Agg.step_slice1 (E := EBB) rfl _ rfl sv rfl ?_
                intro ys w_1_8_9_12_13_21 hys hx
                have HYO_1_8_9_12_13_21 := Lib.hid (Off.behind (w0 := w_1_8_9_12_21) hys.slice (fun k hk => (hys.block k hk).1) HM_1_8_9_12_21.out.blk.lt HM_1_8_9_12_21.out.lt)
                have HN_1_8_9_12_13_21 := Lib.hid (HN_1_8_9_12_21.out.step (MkStep.of_below hx))
                have HM_1_8_9_12_13_21 := Lib.hid (HM_1_8_9_12_21.out.below hx)
                have HSO_1_8_9_12_13_21 := Lib.hid (HSO_1_8_9_12_21.out.step (MkStep.of_below hx))
                have HK_1_8_9_12_13_21 := Lib.hid (Agg.belowThen HK_1_8_9_12_21.out (Nat.le_refl _) hx)
                clear hys hx
                refine ⟨RpG.of_blk (HB.out.below HK_1_8_9_12_13_21.out) hl hc, ?_⟩
                try simp only [Act.put, List.setIfInBounds_toArray, List.set_cons_succ, List.set_cons_zero]
                refine Agg.held_ready [14] (by kernel_rfl) (by simp) ?_
                refine Agg.held_cons rfl ?_ ?_
                · refine Agg.step_call rfl 40 _ _ rfl #[.pointer (some ⟨g4, 0, none⟩), ys] (by simp only [List.map_toArray, List.map_cons, List.map_nil]; rfl) (fun W => HET.out _ W) ?_
                  refine (text_any g4 va ys sv (pathS ph pn) (encN e ++ (encN g ++ encN m)) _ (by simp only [List.length_append]; omega) (by omega) HYO_1_8_9_12_13_21.out HSO_1_8_9_12_13_21.out HM_1_8_9_12_13_21.out).mono ?_
                  rintro x w_1_8_9_12_13_14_21 ⟨rfl, vb, hm, hs⟩
                  have HM_1_8_9_12_13_14_21 := Lib.hid hm
                  have HN_1_8_9_12_13_14_21 := Lib.hid (HN_1_8_9_12_13_21.out.step hs)
                  have HK_1_8_9_12_13_14_21 := Lib.hid (HK_1_8_9_12_13_21.out.trans ((HM_1_8_9_12_13_21.out.stepBelow hs).mono hgw))
                  clear hm hs
                  refine ⟨_, rfl, ?_⟩
                  refine ⟨RpG.of_blk (HB.out.below HK_1_8_9_12_13_14_21.out) hl hc, ?_⟩
                  try simp only [Act.put, List.setIfInBounds_toArray, List.set_cons_succ, List.set_cons_zero]
                  refine Agg.held_ready [17] (by kernel_rfl) (by simp) ?_
                  refine Agg.held_cons rfl ?_ ?_
                  · refine Agg.step_call rfl 42 _ _ rfl #[.pointer (some ⟨g4, 0, none⟩), .slice (some ⟨b, 22, none⟩) 20 20] (by simp only [List.map_toArray, List.map_cons, List.map_nil]; rfl) (fun W => HER.out _ W) ?_
                    refine (raw_any g4 vb _ ch ((encN e ++ (encN g ++ encN m)) ++ (encN (pathS ph pn).length ++ pathS ph pn)) _ (by simp only [List.length_append]; omega) (by omega) (rp_class_slice (HB.out.below HK_1_8_9_12_13_14_21.out) hl hc) HM_1_8_9_12_13_14_21.out).mono ?_
                    rintro x w_1_8_9_12_13_14_17_21 ⟨rfl, vc, hm, hs⟩
                    have HM_1_8_9_12_13_14_17_21 := Lib.hid hm
                    have HN_1_8_9_12_13_14_17_21 := Lib.hid (HN_1_8_9_12_13_14_21.out.step hs)
                    have HK_1_8_9_12_13_14_17_21 := Lib.hid (HK_1_8_9_12_13_14_21.out.trans ((HM_1_8_9_12_13_14_21.out.stepBelow hs).mono hgw))
                    clear hm hs
                    refine ⟨_, rfl, ?_⟩
                    refine ⟨RpG.of_blk (HB.out.below HK_1_8_9_12_13_14_17_21.out) hl hc, ?_⟩
                    try simp only [Act.put, List.setIfInBounds_toArray, List.set_cons_succ, List.set_cons_zero]
                    refine Agg.held_ready [22] (by kernel_rfl) (by simp) ?_
                    refine Agg.held_cons rfl ?_ ?_
                    · refine Agg.step_call rfl 38 _ _ rfl #[.pointer (some ⟨g4, 0, none⟩), xn] (by simp only [List.map_toArray, List.map_cons, List.map_nil]; rfl) (fun W => HEN.out _ W) ?_
                      refine (num_any g4 vc xn [l.length] (((encN e ++ (encN g ++ encN m)) ++ (encN (pathS ph pn).length ++ pathS ph pn)) ++ ch) _ (by intro n hn; simp only [List.mem_cons, List.not_mem_nil, or_false] at hn; omega) (by simp) (by simp only [List.length_append]; omega) HN_1_8_9_12_13_14_17_21.out HM_1_8_9_12_13_14_17_21.out).mono ?_
                      rintro x w_1_8_9_12_13_14_17_21_22 ⟨rfl, vd, hm, hs⟩
                      have HM_1_8_9_12_13_14_17_21_22 := Lib.hid (show MkV g4 w_1_8_9_12_13_14_17_21_22 vd ((((encN e ++ (encN g ++ encN m)) ++ (encN (pathS ph pn).length ++ pathS ph pn)) ++ ch) ++ encN l.length) from by simpa using hm)
                      have HK_1_8_9_12_13_14_17_21_22 := Lib.hid (HK_1_8_9_12_13_14_17_21.out.trans ((HM_1_8_9_12_13_14_17_21.out.stepBelow hs).mono hgw))
                      clear hm hs
                      refine ⟨_, rfl, ?_⟩
                      have hSx := RpG.of_blk (HB.out.below HK_1_8_9_12_13_14_17_21_22.out) hl hc; refine ⟨hSx, ?_⟩
                      try simp only [Act.put, List.setIfInBounds_toArray, List.set_cons_succ, List.set_cons_zero]
                      refine Agg.held_take 23 (.pointer (some ⟨g4, 0, none⟩)) rfl (by kernel_rfl) (fun _ _ _ h => h) rfl (fun W _ => by kernel_rfl) (by assumption) ?_
                      try simp only [Act.put, List.setIfInBounds_toArray, List.set_cons_succ, List.set_cons_zero]
                      refine Agg.held_end (by kernel_rfl) ?_
                      exact ⟨g4, vd, xs, sv.1, ys, xn, rfl, hgw, HM_1_8_9_12_13_14_17_21_22.out, HK_1_8_9_12_13_14_17_21_22.out⟩
                    exact AllReadyH.nil
                  exact AllReadyH.nil
                exact AllReadyH.nil
              exact AllReadyH.nil
            exact AllReadyH.nil
          refine Agg.held_cons rfl ?_ ?_
          · refine Agg.step_slice1 (E := EI) rfl _ rfl l.length rfl ?_
            intro xn w_1_8_9_21 hown hx
            have hpr := own_pre hown
            have how := fun k hk => (hown.block k hk).1
            clear hown
            have HM_1_8_9_21 := Lib.hid (HM_1_8_9.out.below hx)
            have HK_1_8_9_21 := Lib.hid (Agg.belowThen HK_1_8_9.out (Nat.le_refl _) hx)
            have HN_1_8_9_21 := Lib.hid (Off.behind (w0 := w_1_8_9) hpr.slice how HM_1_8_9.out.blk.lt HM_1_8_9.out.lt)
            clear hpr how hx
            refine ⟨RpG.of_blk (HB.out.below HK_1_8_9_21.out) hl hc, ?_⟩
            try simp only [Act.put, List.setIfInBounds_toArray, List.set_cons_succ, List.set_cons_zero]
            refine Agg.held_ready [12] (by kernel_rfl) (by simp) ?_
            refine Agg.held_cons rfl ?_ ?_
            · refine Agg.step_call rfl 41 _ _ rfl #[.agg (pC ph pn)] (by simp only [List.map_toArray, List.map_cons, List.map_nil]; rfl) (fun W => HES.out _ W) ?_
              refine (shown_any ph pn hl _).mono ?_
              rintro x w_1_8_9_12_21 ⟨x12, y12, rfl, hy, hn, hx⟩
              obtain ⟨sv, rfl⟩ := newBytes_sv hn
              have HSO_1_8_9_12_21 := Lib.hid (Off.behind (w0 := w_1_8_9_21) hn.slice (fun k hk => Nat.le_trans hy.size (newBytes_own hn k hk)) HM_1_8_9_21.out.blk.lt HM_1_8_9_21.out.lt)
              have HN_1_8_9_12_21 := Lib.hid (HN_1_8_9_21.out.step (MkStep.of_below hx))
              have HM_1_8_9_12_21 := Lib.hid (HM_1_8_9_21.out.below hx)
              have HK_1_8_9_12_21 := Lib.hid (Agg.belowThen HK_1_8_9_21.out (Nat.le_refl _) hx)
              clear hn hx hy
              refine ⟨_, rfl, ?_⟩
              refine ⟨RpG.of_blk (HB.out.below HK_1_8_9_12_21.out) hl hc, ?_⟩
              try simp only [Act.put, List.setIfInBounds_toArray, List.set_cons_succ, List.set_cons_zero]
              refine Agg.held_ready [13] (by kernel_rfl) (by simp) ?_
              refine Agg.held_cons rfl ?_ ?_
              · refine Agg.step_slice1 (E := EBB) rfl _ rfl sv rfl ?_
                intro ys w_1_8_9_12_13_21 hys hx
                have HYO_1_8_9_12_13_21 := Lib.hid (Off.behind (w0 := w_1_8_9_12_21) hys.slice (fun k hk => (hys.block k hk).1) HM_1_8_9_12_21.out.blk.lt HM_1_8_9_12_21.out.lt)
                have HN_1_8_9_12_13_21 := Lib.hid (HN_1_8_9_12_21.out.step (MkStep.of_below hx))
                have HM_1_8_9_12_13_21 := Lib.hid (HM_1_8_9_12_21.out.below hx)
                have HSO_1_8_9_12_13_21 := Lib.hid (HSO_1_8_9_12_21.out.step (MkStep.of_below hx))
                have HK_1_8_9_12_13_21 := Lib.hid (Agg.belowThen HK_1_8_9_12_21.out (Nat.le_refl _) hx)
                clear hys hx
                refine ⟨RpG.of_blk (HB.out.below HK_1_8_9_12_13_21.out) hl hc, ?_⟩
                try simp only [Act.put, List.setIfInBounds_toArray, List.set_cons_succ, List.set_cons_zero]
                refine Agg.held_ready [14] (by kernel_rfl) (by simp) ?_
                refine Agg.held_cons rfl ?_ ?_
                · refine Agg.step_call rfl 40 _ _ rfl #[.pointer (some ⟨g4, 0, none⟩), ys] (by simp only [List.map_toArray, List.map_cons, List.map_nil]; rfl) (fun W => HET.out _ W) ?_
                  refine (text_any g4 va ys sv (pathS ph pn) (encN e ++ (encN g ++ encN m)) _ (by simp only [List.length_append]; omega) (by omega) HYO_1_8_9_12_13_21.out HSO_1_8_9_12_13_21.out HM_1_8_9_12_13_21.out).mono ?_
                  rintro x w_1_8_9_12_13_14_21 ⟨rfl, vb, hm, hs⟩
                  have HM_1_8_9_12_13_14_21 := Lib.hid hm
                  have HN_1_8_9_12_13_14_21 := Lib.hid (HN_1_8_9_12_13_21.out.step hs)
                  have HK_1_8_9_12_13_14_21 := Lib.hid (HK_1_8_9_12_13_21.out.trans ((HM_1_8_9_12_13_21.out.stepBelow hs).mono hgw))
                  clear hm hs
                  refine ⟨_, rfl, ?_⟩
                  refine ⟨RpG.of_blk (HB.out.below HK_1_8_9_12_13_14_21.out) hl hc, ?_⟩
                  try simp only [Act.put, List.setIfInBounds_toArray, List.set_cons_succ, List.set_cons_zero]
                  refine Agg.held_ready [17] (by kernel_rfl) (by simp) ?_
                  refine Agg.held_cons rfl ?_ ?_
                  · refine Agg.step_call rfl 42 _ _ rfl #[.pointer (some ⟨g4, 0, none⟩), .slice (some ⟨b, 22, none⟩) 20 20] (by simp only [List.map_toArray, List.map_cons, List.map_nil]; rfl) (fun W => HER.out _ W) ?_
                    refine (raw_any g4 vb _ ch ((encN e ++ (encN g ++ encN m)) ++ (encN (pathS ph pn).length ++ pathS ph pn)) _ (by simp only [List.length_append]; omega) (by omega) (rp_class_slice (HB.out.below HK_1_8_9_12_13_14_21.out) hl hc) HM_1_8_9_12_13_14_21.out).mono ?_
                    rintro x w_1_8_9_12_13_14_17_21 ⟨rfl, vc, hm, hs⟩
                    have HM_1_8_9_12_13_14_17_21 := Lib.hid hm
                    have HN_1_8_9_12_13_14_17_21 := Lib.hid (HN_1_8_9_12_13_14_21.out.step hs)
                    have HK_1_8_9_12_13_14_17_21 := Lib.hid (HK_1_8_9_12_13_14_21.out.trans ((HM_1_8_9_12_13_14_21.out.stepBelow hs).mono hgw))
                    clear hm hs
                    refine ⟨_, rfl, ?_⟩
                    refine ⟨RpG.of_blk (HB.out.below HK_1_8_9_12_13_14_17_21.out) hl hc, ?_⟩
                    try simp only [Act.put, List.setIfInBounds_toArray, List.set_cons_succ, List.set_cons_zero]
                    refine Agg.held_ready [22] (by kernel_rfl) (by simp) ?_
                    refine Agg.held_cons rfl ?_ ?_
                    · refine Agg.step_call rfl 38 _ _ rfl #[.pointer (some ⟨g4, 0, none⟩), xn] (by simp only [List.map_toArray, List.map_cons, List.map_nil]; rfl) (fun W => HEN.out _ W) ?_
                      refine (num_any g4 vc xn [l.length] (((encN e ++ (encN g ++ encN m)) ++ (encN (pathS ph pn).length ++ pathS ph pn)) ++ ch) _ (by intro n hn; simp only [List.mem_cons, List.not_mem_nil, or_false] at hn; omega) (by simp) (by simp only [List.length_append]; omega) HN_1_8_9_12_13_14_17_21.out HM_1_8_9_12_13_14_17_21.out).mono ?_
                      rintro x w_1_8_9_12_13_14_17_21_22 ⟨rfl, vd, hm, hs⟩
                      have HM_1_8_9_12_13_14_17_21_22 := Lib.hid (show MkV g4 w_1_8_9_12_13_14_17_21_22 vd ((((encN e ++ (encN g ++ encN m)) ++ (encN (pathS ph pn).length ++ pathS ph pn)) ++ ch) ++ encN l.length) from by simpa using hm)
                      have HK_1_8_9_12_13_14_17_21_22 := Lib.hid (HK_1_8_9_12_13_14_17_21.out.trans ((HM_1_8_9_12_13_14_17_21.out.stepBelow hs).mono hgw))
                      clear hm hs
                      refine ⟨_, rfl, ?_⟩
                      have hSx := RpG.of_blk (HB.out.below HK_1_8_9_12_13_14_17_21_22.out) hl hc; refine ⟨hSx, ?_⟩
                      try simp only [Act.put, List.setIfInBounds_toArray, List.set_cons_succ, List.set_cons_zero]
                      refine Agg.held_take 23 (.pointer (some ⟨g4, 0, none⟩)) rfl (by kernel_rfl) (fun _ _ _ h => h) rfl (fun W _ => by kernel_rfl) (by assumption) ?_
                      try simp only [Act.put, List.setIfInBounds_toArray, List.set_cons_succ, List.set_cons_zero]
                      refine Agg.held_end (by kernel_rfl) ?_
                      exact ⟨g4, vd, xs, sv.1, ys, xn, rfl, hgw, HM_1_8_9_12_13_14_17_21_22.out, HK_1_8_9_12_13_14_17_21_22.out⟩
                    exact AllReadyH.nil
                  exact AllReadyH.nil
                exact AllReadyH.nil
              exact AllReadyH.nil
            exact AllReadyH.nil
          exact AllReadyH.nil
        refine Agg.held_cons rfl ?_ ?_
        · refine Agg.step_slice1 (E := EI) rfl _ rfl l.length rfl ?_
          intro xn w_1_8_21 hown hx
          have hpr := own_pre hown
          have how := fun k hk => (hown.block k hk).1
          clear hown
          have HX_1_8_21 := Lib.hid (HX_1_8.out.step (MkStep.of_below hx))
          have HM_1_8_21 := Lib.hid (HM_1_8.out.below hx)
          have HK_1_8_21 := Lib.hid (Agg.belowThen HK_1_8.out (Nat.le_refl _) hx)
          have HN_1_8_21 := Lib.hid (Off.behind (w0 := w_1_8) hpr.slice how HM_1_8.out.blk.lt HM_1_8.out.lt)
          clear hpr how hx
          refine ⟨RpG.of_blk (HB.out.below HK_1_8_21.out) hl hc, ?_⟩
          try simp only [Act.put, List.setIfInBounds_toArray, List.set_cons_succ, List.set_cons_zero]
          refine Agg.held_ready [9] (by kernel_rfl) (by simp) ?_
          refine Agg.held_cons rfl ?_ ?_
          · refine Agg.step_call rfl 38 _ _ rfl #[.pointer (some ⟨g4, 0, none⟩), xs] (by simp only [List.map_toArray, List.map_cons, List.map_nil]; rfl) (fun W => HEN.out _ W) ?_
            refine (num_any g4 (.slice none 0 0) xs [e, g, m] [] _ (by intro n hn; simp only [List.mem_cons, List.not_mem_nil, or_false] at hn; omega) (by simp) (by simp) HX_1_8_21.out HM_1_8_21.out).mono ?_
            rintro x w_1_8_9_21 ⟨rfl, va, hm, hs⟩
            have HM_1_8_9_21 := Lib.hid (show MkV g4 w_1_8_9_21 va (encN e ++ (encN g ++ encN m)) from by simpa using hm)
            have HN_1_8_9_21 := Lib.hid (HN_1_8_21.out.step hs)
            have HK_1_8_9_21 := Lib.hid (HK_1_8_21.out.trans ((HM_1_8_21.out.stepBelow hs).mono hgw))
            clear hm hs
            refine ⟨_, rfl, ?_⟩
            refine ⟨RpG.of_blk (HB.out.below HK_1_8_9_21.out) hl hc, ?_⟩
            try simp only [Act.put, List.setIfInBounds_toArray, List.set_cons_succ, List.set_cons_zero]
            refine Agg.held_ready [12] (by kernel_rfl) (by simp) ?_
            refine Agg.held_cons rfl ?_ ?_
            · refine Agg.step_call rfl 41 _ _ rfl #[.agg (pC ph pn)] (by simp only [List.map_toArray, List.map_cons, List.map_nil]; rfl) (fun W => HES.out _ W) ?_
              refine (shown_any ph pn hl _).mono ?_
              rintro x w_1_8_9_12_21 ⟨x12, y12, rfl, hy, hn, hx⟩
              obtain ⟨sv, rfl⟩ := newBytes_sv hn
              have HSO_1_8_9_12_21 := Lib.hid (Off.behind (w0 := w_1_8_9_21) hn.slice (fun k hk => Nat.le_trans hy.size (newBytes_own hn k hk)) HM_1_8_9_21.out.blk.lt HM_1_8_9_21.out.lt)
              have HN_1_8_9_12_21 := Lib.hid (HN_1_8_9_21.out.step (MkStep.of_below hx))
              have HM_1_8_9_12_21 := Lib.hid (HM_1_8_9_21.out.below hx)
              have HK_1_8_9_12_21 := Lib.hid (Agg.belowThen HK_1_8_9_21.out (Nat.le_refl _) hx)
              clear hn hx hy
              refine ⟨_, rfl, ?_⟩
              refine ⟨RpG.of_blk (HB.out.below HK_1_8_9_12_21.out) hl hc, ?_⟩
              try simp only [Act.put, List.setIfInBounds_toArray, List.set_cons_succ, List.set_cons_zero]
              refine Agg.held_ready [13] (by kernel_rfl) (by simp) ?_
              refine Agg.held_cons rfl ?_ ?_
              · refine Agg.step_slice1 (E := EBB) rfl _ rfl sv rfl ?_
                intro ys w_1_8_9_12_13_21 hys hx
                have HYO_1_8_9_12_13_21 := Lib.hid (Off.behind (w0 := w_1_8_9_12_21) hys.slice (fun k hk => (hys.block k hk).1) HM_1_8_9_12_21.out.blk.lt HM_1_8_9_12_21.out.lt)
                have HN_1_8_9_12_13_21 := Lib.hid (HN_1_8_9_12_21.out.step (MkStep.of_below hx))
                have HM_1_8_9_12_13_21 := Lib.hid (HM_1_8_9_12_21.out.below hx)
                have HSO_1_8_9_12_13_21 := Lib.hid (HSO_1_8_9_12_21.out.step (MkStep.of_below hx))
                have HK_1_8_9_12_13_21 := Lib.hid (Agg.belowThen HK_1_8_9_12_21.out (Nat.le_refl _) hx)
                clear hys hx
                refine ⟨RpG.of_blk (HB.out.below HK_1_8_9_12_13_21.out) hl hc, ?_⟩
                try simp only [Act.put, List.setIfInBounds_toArray, List.set_cons_succ, List.set_cons_zero]
                refine Agg.held_ready [14] (by kernel_rfl) (by simp) ?_
                refine Agg.held_cons rfl ?_ ?_
                · refine Agg.step_call rfl 40 _ _ rfl #[.pointer (some ⟨g4, 0, none⟩), ys] (by simp only [List.map_toArray, List.map_cons, List.map_nil]; rfl) (fun W => HET.out _ W) ?_
                  refine (text_any g4 va ys sv (pathS ph pn) (encN e ++ (encN g ++ encN m)) _ (by simp only [List.length_append]; omega) (by omega) HYO_1_8_9_12_13_21.out HSO_1_8_9_12_13_21.out HM_1_8_9_12_13_21.out).mono ?_
                  rintro x w_1_8_9_12_13_14_21 ⟨rfl, vb, hm, hs⟩
                  have HM_1_8_9_12_13_14_21 := Lib.hid hm
                  have HN_1_8_9_12_13_14_21 := Lib.hid (HN_1_8_9_12_13_21.out.step hs)
                  have HK_1_8_9_12_13_14_21 := Lib.hid (HK_1_8_9_12_13_21.out.trans ((HM_1_8_9_12_13_21.out.stepBelow hs).mono hgw))
                  clear hm hs
                  refine ⟨_, rfl, ?_⟩
                  refine ⟨RpG.of_blk (HB.out.below HK_1_8_9_12_13_14_21.out) hl hc, ?_⟩
                  try simp only [Act.put, List.setIfInBounds_toArray, List.set_cons_succ, List.set_cons_zero]
                  refine Agg.held_ready [17] (by kernel_rfl) (by simp) ?_
                  refine Agg.held_cons rfl ?_ ?_
                  · refine Agg.step_call rfl 42 _ _ rfl #[.pointer (some ⟨g4, 0, none⟩), .slice (some ⟨b, 22, none⟩) 20 20] (by simp only [List.map_toArray, List.map_cons, List.map_nil]; rfl) (fun W => HER.out _ W) ?_
                    refine (raw_any g4 vb _ ch ((encN e ++ (encN g ++ encN m)) ++ (encN (pathS ph pn).length ++ pathS ph pn)) _ (by simp only [List.length_append]; omega) (by omega) (rp_class_slice (HB.out.below HK_1_8_9_12_13_14_21.out) hl hc) HM_1_8_9_12_13_14_21.out).mono ?_
                    rintro x w_1_8_9_12_13_14_17_21 ⟨rfl, vc, hm, hs⟩
                    have HM_1_8_9_12_13_14_17_21 := Lib.hid hm
                    have HN_1_8_9_12_13_14_17_21 := Lib.hid (HN_1_8_9_12_13_14_21.out.step hs)
                    have HK_1_8_9_12_13_14_17_21 := Lib.hid (HK_1_8_9_12_13_14_21.out.trans ((HM_1_8_9_12_13_14_21.out.stepBelow hs).mono hgw))
                    clear hm hs
                    refine ⟨_, rfl, ?_⟩
                    refine ⟨RpG.of_blk (HB.out.below HK_1_8_9_12_13_14_17_21.out) hl hc, ?_⟩
                    try simp only [Act.put, List.setIfInBounds_toArray, List.set_cons_succ, List.set_cons_zero]
                    refine Agg.held_ready [22] (by kernel_rfl) (by simp) ?_
                    refine Agg.held_cons rfl ?_ ?_
                    · refine Agg.step_call rfl 38 _ _ rfl #[.pointer (some ⟨g4, 0, none⟩), xn] (by simp only [List.map_toArray, List.map_cons, List.map_nil]; rfl) (fun W => HEN.out _ W) ?_
                      refine (num_any g4 vc xn [l.length] (((encN e ++ (encN g ++ encN m)) ++ (encN (pathS ph pn).length ++ pathS ph pn)) ++ ch) _ (by intro n hn; simp only [List.mem_cons, List.not_mem_nil, or_false] at hn; omega) (by simp) (by simp only [List.length_append]; omega) HN_1_8_9_12_13_14_17_21.out HM_1_8_9_12_13_14_17_21.out).mono ?_
                      rintro x w_1_8_9_12_13_14_17_21_22 ⟨rfl, vd, hm, hs⟩
                      have HM_1_8_9_12_13_14_17_21_22 := Lib.hid (show MkV g4 w_1_8_9_12_13_14_17_21_22 vd ((((encN e ++ (encN g ++ encN m)) ++ (encN (pathS ph pn).length ++ pathS ph pn)) ++ ch) ++ encN l.length) from by simpa using hm)
                      have HK_1_8_9_12_13_14_17_21_22 := Lib.hid (HK_1_8_9_12_13_14_17_21.out.trans ((HM_1_8_9_12_13_14_17_21.out.stepBelow hs).mono hgw))
                      clear hm hs
                      refine ⟨_, rfl, ?_⟩
                      have hSx := RpG.of_blk (HB.out.below HK_1_8_9_12_13_14_17_21_22.out) hl hc; refine ⟨hSx, ?_⟩
                      try simp only [Act.put, List.setIfInBounds_toArray, List.set_cons_succ, List.set_cons_zero]
                      refine Agg.held_take 23 (.pointer (some ⟨g4, 0, none⟩)) rfl (by kernel_rfl) (fun _ _ _ h => h) rfl (fun W _ => by kernel_rfl) (by assumption) ?_
                      try simp only [Act.put, List.setIfInBounds_toArray, List.set_cons_succ, List.set_cons_zero]
                      refine Agg.held_end (by kernel_rfl) ?_
                      exact ⟨g4, vd, xs, sv.1, ys, xn, rfl, hgw, HM_1_8_9_12_13_14_17_21_22.out, HK_1_8_9_12_13_14_17_21_22.out⟩
                    exact AllReadyH.nil
                  exact AllReadyH.nil
                exact AllReadyH.nil
              exact AllReadyH.nil
            exact AllReadyH.nil
          exact AllReadyH.nil
        exact AllReadyH.nil
      refine Agg.held_cons rfl ?_ ?_
      · refine Agg.step_slice1 (E := EI) rfl _ rfl l.length rfl ?_
        intro xn w_8_21 hown hx
        have hpr := own_pre hown
        have how := fun k hk => (hown.block k hk).1
        clear hown
        have HX_8_21 := Lib.hid (HX_8.out.below hx)
        have HK_8_21 := Lib.hid (Agg.belowThen HK_8.out (Nat.le_refl _) hx)
        have HN_8_21 := Lib.hid hpr
        clear hpr how hx
        refine ⟨RpG.of_blk (HB.out.below HK_8_21.out) hl hc, ?_⟩
        try simp only [Act.put, List.setIfInBounds_toArray, List.set_cons_succ, List.set_cons_zero]
        refine Agg.held_ready [1] (by kernel_rfl) (by simp) ?_
        refine Agg.held_cons rfl ?_ ?_
        · refine Agg.step_box rfl 71 _ rfl (mkC (.slice none 0 0)) rfl ?_
          intro g4 w_1_8_21 hb4 hx4 hg4
          have hgw : w0.heap.size ≤ g4 := Nat.le_trans HK_8_21.out.size hg4
          have HM_1_8_21 := Lib.hid (⟨hb4, Own.nil _ _ _⟩ : MkV g4 w_1_8_21 (.slice none 0 0) [])
          have HX_1_8_21 := Lib.hid (HX_8_21.out.off hx4 hg4)
          have HN_1_8_21 := Lib.hid (HN_8_21.out.off hx4 hg4)
          have HK_1_8_21 := Lib.hid (Agg.belowThen HK_8_21.out (Nat.le_refl _) hx4)
          clear hb4 hx4
          refine ⟨RpG.of_blk (HB.out.below HK_1_8_21.out) hl hc, ?_⟩
          try simp only [Act.put, List.setIfInBounds_toArray, List.set_cons_succ, List.set_cons_zero]
          refine Agg.held_ready [9] (by kernel_rfl) (by simp) ?_
          refine Agg.held_cons rfl ?_ ?_
          · refine Agg.step_call rfl 38 _ _ rfl #[.pointer (some ⟨g4, 0, none⟩), xs] (by simp only [List.map_toArray, List.map_cons, List.map_nil]; rfl) (fun W => HEN.out _ W) ?_
            refine (num_any g4 (.slice none 0 0) xs [e, g, m] [] _ (by intro n hn; simp only [List.mem_cons, List.not_mem_nil, or_false] at hn; omega) (by simp) (by simp) HX_1_8_21.out HM_1_8_21.out).mono ?_
            rintro x w_1_8_9_21 ⟨rfl, va, hm, hs⟩
            have HM_1_8_9_21 := Lib.hid (show MkV g4 w_1_8_9_21 va (encN e ++ (encN g ++ encN m)) from by simpa using hm)
            have HN_1_8_9_21 := Lib.hid (HN_1_8_21.out.step hs)
            have HK_1_8_9_21 := Lib.hid (HK_1_8_21.out.trans ((HM_1_8_21.out.stepBelow hs).mono hgw))
            clear hm hs
            refine ⟨_, rfl, ?_⟩
            refine ⟨RpG.of_blk (HB.out.below HK_1_8_9_21.out) hl hc, ?_⟩
            try simp only [Act.put, List.setIfInBounds_toArray, List.set_cons_succ, List.set_cons_zero]
            refine Agg.held_ready [12] (by kernel_rfl) (by simp) ?_
            refine Agg.held_cons rfl ?_ ?_
            · refine Agg.step_call rfl 41 _ _ rfl #[.agg (pC ph pn)] (by simp only [List.map_toArray, List.map_cons, List.map_nil]; rfl) (fun W => HES.out _ W) ?_
              refine (shown_any ph pn hl _).mono ?_
              rintro x w_1_8_9_12_21 ⟨x12, y12, rfl, hy, hn, hx⟩
              obtain ⟨sv, rfl⟩ := newBytes_sv hn
              have HSO_1_8_9_12_21 := Lib.hid (Off.behind (w0 := w_1_8_9_21) hn.slice (fun k hk => Nat.le_trans hy.size (newBytes_own hn k hk)) HM_1_8_9_21.out.blk.lt HM_1_8_9_21.out.lt)
              have HN_1_8_9_12_21 := Lib.hid (HN_1_8_9_21.out.step (MkStep.of_below hx))
              have HM_1_8_9_12_21 := Lib.hid (HM_1_8_9_21.out.below hx)
              have HK_1_8_9_12_21 := Lib.hid (Agg.belowThen HK_1_8_9_21.out (Nat.le_refl _) hx)
              clear hn hx hy
              refine ⟨_, rfl, ?_⟩
              refine ⟨RpG.of_blk (HB.out.below HK_1_8_9_12_21.out) hl hc, ?_⟩
              try simp only [Act.put, List.setIfInBounds_toArray, List.set_cons_succ, List.set_cons_zero]
              refine Agg.held_ready [13] (by kernel_rfl) (by simp) ?_
              refine Agg.held_cons rfl ?_ ?_
              · refine Agg.step_slice1 (E := EBB) rfl _ rfl sv rfl ?_
                intro ys w_1_8_9_12_13_21 hys hx
                have HYO_1_8_9_12_13_21 := Lib.hid (Off.behind (w0 := w_1_8_9_12_21) hys.slice (fun k hk => (hys.block k hk).1) HM_1_8_9_12_21.out.blk.lt HM_1_8_9_12_21.out.lt)
                have HN_1_8_9_12_13_21 := Lib.hid (HN_1_8_9_12_21.out.step (MkStep.of_below hx))
                have HM_1_8_9_12_13_21 := Lib.hid (HM_1_8_9_12_21.out.below hx)
                have HSO_1_8_9_12_13_21 := Lib.hid (HSO_1_8_9_12_21.out.step (MkStep.of_below hx))
                have HK_1_8_9_12_13_21 := Lib.hid (Agg.belowThen HK_1_8_9_12_21.out (Nat.le_refl _) hx)
                clear hys hx
                refine ⟨RpG.of_blk (HB.out.below HK_1_8_9_12_13_21.out) hl hc, ?_⟩
                try simp only [Act.put, List.setIfInBounds_toArray, List.set_cons_succ, List.set_cons_zero]
                refine Agg.held_ready [14] (by kernel_rfl) (by simp) ?_
                refine Agg.held_cons rfl ?_ ?_
                · refine Agg.step_call rfl 40 _ _ rfl #[.pointer (some ⟨g4, 0, none⟩), ys] (by simp only [List.map_toArray, List.map_cons, List.map_nil]; rfl) (fun W => HET.out _ W) ?_
                  refine (text_any g4 va ys sv (pathS ph pn) (encN e ++ (encN g ++ encN m)) _ (by simp only [List.length_append]; omega) (by omega) HYO_1_8_9_12_13_21.out HSO_1_8_9_12_13_21.out HM_1_8_9_12_13_21.out).mono ?_
                  rintro x w_1_8_9_12_13_14_21 ⟨rfl, vb, hm, hs⟩
                  have HM_1_8_9_12_13_14_21 := Lib.hid hm
                  have HN_1_8_9_12_13_14_21 := Lib.hid (HN_1_8_9_12_13_21.out.step hs)
                  have HK_1_8_9_12_13_14_21 := Lib.hid (HK_1_8_9_12_13_21.out.trans ((HM_1_8_9_12_13_21.out.stepBelow hs).mono hgw))
                  clear hm hs
                  refine ⟨_, rfl, ?_⟩
                  refine ⟨RpG.of_blk (HB.out.below HK_1_8_9_12_13_14_21.out) hl hc, ?_⟩
                  try simp only [Act.put, List.setIfInBounds_toArray, List.set_cons_succ, List.set_cons_zero]
                  refine Agg.held_ready [17] (by kernel_rfl) (by simp) ?_
                  refine Agg.held_cons rfl ?_ ?_
                  · refine Agg.step_call rfl 42 _ _ rfl #[.pointer (some ⟨g4, 0, none⟩), .slice (some ⟨b, 22, none⟩) 20 20] (by simp only [List.map_toArray, List.map_cons, List.map_nil]; rfl) (fun W => HER.out _ W) ?_
                    refine (raw_any g4 vb _ ch ((encN e ++ (encN g ++ encN m)) ++ (encN (pathS ph pn).length ++ pathS ph pn)) _ (by simp only [List.length_append]; omega) (by omega) (rp_class_slice (HB.out.below HK_1_8_9_12_13_14_21.out) hl hc) HM_1_8_9_12_13_14_21.out).mono ?_
                    rintro x w_1_8_9_12_13_14_17_21 ⟨rfl, vc, hm, hs⟩
                    have HM_1_8_9_12_13_14_17_21 := Lib.hid hm
                    have HN_1_8_9_12_13_14_17_21 := Lib.hid (HN_1_8_9_12_13_14_21.out.step hs)
                    have HK_1_8_9_12_13_14_17_21 := Lib.hid (HK_1_8_9_12_13_14_21.out.trans ((HM_1_8_9_12_13_14_21.out.stepBelow hs).mono hgw))
                    clear hm hs
                    refine ⟨_, rfl, ?_⟩
                    refine ⟨RpG.of_blk (HB.out.below HK_1_8_9_12_13_14_17_21.out) hl hc, ?_⟩
                    try simp only [Act.put, List.setIfInBounds_toArray, List.set_cons_succ, List.set_cons_zero]
                    refine Agg.held_ready [22] (by kernel_rfl) (by simp) ?_
                    refine Agg.held_cons rfl ?_ ?_
                    · refine Agg.step_call rfl 38 _ _ rfl #[.pointer (some ⟨g4, 0, none⟩), xn] (by simp only [List.map_toArray, List.map_cons, List.map_nil]; rfl) (fun W => HEN.out _ W) ?_
                      refine (num_any g4 vc xn [l.length] (((encN e ++ (encN g ++ encN m)) ++ (encN (pathS ph pn).length ++ pathS ph pn)) ++ ch) _ (by intro n hn; simp only [List.mem_cons, List.not_mem_nil, or_false] at hn; omega) (by simp) (by simp only [List.length_append]; omega) HN_1_8_9_12_13_14_17_21.out HM_1_8_9_12_13_14_17_21.out).mono ?_
                      rintro x w_1_8_9_12_13_14_17_21_22 ⟨rfl, vd, hm, hs⟩
                      have HM_1_8_9_12_13_14_17_21_22 := Lib.hid (show MkV g4 w_1_8_9_12_13_14_17_21_22 vd ((((encN e ++ (encN g ++ encN m)) ++ (encN (pathS ph pn).length ++ pathS ph pn)) ++ ch) ++ encN l.length) from by simpa using hm)
                      have HK_1_8_9_12_13_14_17_21_22 := Lib.hid (HK_1_8_9_12_13_14_17_21.out.trans ((HM_1_8_9_12_13_14_17_21.out.stepBelow hs).mono hgw))
                      clear hm hs
                      refine ⟨_, rfl, ?_⟩
                      have hSx := RpG.of_blk (HB.out.below HK_1_8_9_12_13_14_17_21_22.out) hl hc; refine ⟨hSx, ?_⟩
                      try simp only [Act.put, List.setIfInBounds_toArray, List.set_cons_succ, List.set_cons_zero]
                      refine Agg.held_take 23 (.pointer (some ⟨g4, 0, none⟩)) rfl (by kernel_rfl) (fun _ _ _ h => h) rfl (fun W _ => by kernel_rfl) (by assumption) ?_
                      try simp only [Act.put, List.setIfInBounds_toArray, List.set_cons_succ, List.set_cons_zero]
                      refine Agg.held_end (by kernel_rfl) ?_
                      exact ⟨g4, vd, xs, sv.1, ys, xn, rfl, hgw, HM_1_8_9_12_13_14_17_21_22.out, HK_1_8_9_12_13_14_17_21_22.out⟩
                    exact AllReadyH.nil
                  exact AllReadyH.nil
                exact AllReadyH.nil
              exact AllReadyH.nil
            exact AllReadyH.nil
          exact AllReadyH.nil
        exact AllReadyH.nil
      exact AllReadyH.nil
    refine Agg.held_cons rfl ?_ ?_
    · refine Agg.step_slice1 (E := EI) rfl _ rfl l.length rfl ?_
      intro xn w_21 hown hx
      have hpr := own_pre hown
      have how := fun k hk => (hown.block k hk).1
      clear hown
      have HK_21 := Lib.hid (Agg.belowThen HK0.out (Nat.le_refl _) hx)
      have HN_21 := Lib.hid hpr
      clear hpr how hx
      refine ⟨RpG.of_blk (HB.out.below HK_21.out) hl hc, ?_⟩
      try simp only [Act.put, List.setIfInBounds_toArray, List.set_cons_succ, List.set_cons_zero]
      refine Agg.held_ready [1, 8] (by kernel_rfl) (by simp) ?_
      refine Agg.held_cons rfl ?_ ?_
      · refine Agg.step_box rfl 71 _ rfl (mkC (.slice none 0 0)) rfl ?_
        intro g4 w_1_21 hb4 hx4 hg4
        have hgw : w0.heap.size ≤ g4 := Nat.le_trans HK_21.out.size hg4
        have HM_1_21 := Lib.hid (⟨hb4, Own.nil _ _ _⟩ : MkV g4 w_1_21 (.slice none 0 0) [])
        have HN_1_21 := Lib.hid (HN_21.out.off hx4 hg4)
        have HK_1_21 := Lib.hid (Agg.belowThen HK_21.out (Nat.le_refl _) hx4)
        clear hb4 hx4
        refine ⟨RpG.of_blk (HB.out.below HK_1_21.out) hl hc, ?_⟩
        try simp only [Act.put, List.setIfInBounds_toArray, List.set_cons_succ, List.set_cons_zero]
        refine Agg.held_ready [8] (by kernel_rfl) (by simp) ?_
        refine Agg.held_cons rfl ?_ ?_
        · refine step_ints3 rfl _ _ _ rfl e g m rfl rfl rfl ?_
          intro xs w_1_8_21 hpr how hx
          have HN_1_8_21 := Lib.hid (HN_1_21.out.step (MkStep.of_below hx))
          have HM_1_8_21 := Lib.hid (HM_1_21.out.below hx)
          have HK_1_8_21 := Lib.hid (Agg.belowThen HK_1_21.out (Nat.le_refl _) hx)
          have HX_1_8_21 := Lib.hid (Off.behind (w0 := w_1_21) hpr.slice how HM_1_21.out.blk.lt HM_1_21.out.lt)
          clear hpr how hx
          refine ⟨RpG.of_blk (HB.out.below HK_1_8_21.out) hl hc, ?_⟩
          try simp only [Act.put, List.setIfInBounds_toArray, List.set_cons_succ, List.set_cons_zero]
          refine Agg.held_ready [9] (by kernel_rfl) (by simp) ?_
          refine Agg.held_cons rfl ?_ ?_
          · refine Agg.step_call rfl 38 _ _ rfl #[.pointer (some ⟨g4, 0, none⟩), xs] (by simp only [List.map_toArray, List.map_cons, List.map_nil]; rfl) (fun W => HEN.out _ W) ?_
            refine (num_any g4 (.slice none 0 0) xs [e, g, m] [] _ (by intro n hn; simp only [List.mem_cons, List.not_mem_nil, or_false] at hn; omega) (by simp) (by simp) HX_1_8_21.out HM_1_8_21.out).mono ?_
            rintro x w_1_8_9_21 ⟨rfl, va, hm, hs⟩
            have HM_1_8_9_21 := Lib.hid (show MkV g4 w_1_8_9_21 va (encN e ++ (encN g ++ encN m)) from by simpa using hm)
            have HN_1_8_9_21 := Lib.hid (HN_1_8_21.out.step hs)
            have HK_1_8_9_21 := Lib.hid (HK_1_8_21.out.trans ((HM_1_8_21.out.stepBelow hs).mono hgw))
            clear hm hs
            refine ⟨_, rfl, ?_⟩
            refine ⟨RpG.of_blk (HB.out.below HK_1_8_9_21.out) hl hc, ?_⟩
            try simp only [Act.put, List.setIfInBounds_toArray, List.set_cons_succ, List.set_cons_zero]
            refine Agg.held_ready [12] (by kernel_rfl) (by simp) ?_
            refine Agg.held_cons rfl ?_ ?_
            · refine Agg.step_call rfl 41 _ _ rfl #[.agg (pC ph pn)] (by simp only [List.map_toArray, List.map_cons, List.map_nil]; rfl) (fun W => HES.out _ W) ?_
              refine (shown_any ph pn hl _).mono ?_
              rintro x w_1_8_9_12_21 ⟨x12, y12, rfl, hy, hn, hx⟩
              obtain ⟨sv, rfl⟩ := newBytes_sv hn
              have HSO_1_8_9_12_21 := Lib.hid (Off.behind (w0 := w_1_8_9_21) hn.slice (fun k hk => Nat.le_trans hy.size (newBytes_own hn k hk)) HM_1_8_9_21.out.blk.lt HM_1_8_9_21.out.lt)
              have HN_1_8_9_12_21 := Lib.hid (HN_1_8_9_21.out.step (MkStep.of_below hx))
              have HM_1_8_9_12_21 := Lib.hid (HM_1_8_9_21.out.below hx)
              have HK_1_8_9_12_21 := Lib.hid (Agg.belowThen HK_1_8_9_21.out (Nat.le_refl _) hx)
              clear hn hx hy
              refine ⟨_, rfl, ?_⟩
              refine ⟨RpG.of_blk (HB.out.below HK_1_8_9_12_21.out) hl hc, ?_⟩
              try simp only [Act.put, List.setIfInBounds_toArray, List.set_cons_succ, List.set_cons_zero]
              refine Agg.held_ready [13] (by kernel_rfl) (by simp) ?_
              refine Agg.held_cons rfl ?_ ?_
              · refine Agg.step_slice1 (E := EBB) rfl _ rfl sv rfl ?_
                intro ys w_1_8_9_12_13_21 hys hx
                have HYO_1_8_9_12_13_21 := Lib.hid (Off.behind (w0 := w_1_8_9_12_21) hys.slice (fun k hk => (hys.block k hk).1) HM_1_8_9_12_21.out.blk.lt HM_1_8_9_12_21.out.lt)
                have HN_1_8_9_12_13_21 := Lib.hid (HN_1_8_9_12_21.out.step (MkStep.of_below hx))
                have HM_1_8_9_12_13_21 := Lib.hid (HM_1_8_9_12_21.out.below hx)
                have HSO_1_8_9_12_13_21 := Lib.hid (HSO_1_8_9_12_21.out.step (MkStep.of_below hx))
                have HK_1_8_9_12_13_21 := Lib.hid (Agg.belowThen HK_1_8_9_12_21.out (Nat.le_refl _) hx)
                clear hys hx
                refine ⟨RpG.of_blk (HB.out.below HK_1_8_9_12_13_21.out) hl hc, ?_⟩
                try simp only [Act.put, List.setIfInBounds_toArray, List.set_cons_succ, List.set_cons_zero]
                refine Agg.held_ready [14] (by kernel_rfl) (by simp) ?_
                refine Agg.held_cons rfl ?_ ?_
                · refine Agg.step_call rfl 40 _ _ rfl #[.pointer (some ⟨g4, 0, none⟩), ys] (by simp only [List.map_toArray, List.map_cons, List.map_nil]; rfl) (fun W => HET.out _ W) ?_
                  refine (text_any g4 va ys sv (pathS ph pn) (encN e ++ (encN g ++ encN m)) _ (by simp only [List.length_append]; omega) (by omega) HYO_1_8_9_12_13_21.out HSO_1_8_9_12_13_21.out HM_1_8_9_12_13_21.out).mono ?_
                  rintro x w_1_8_9_12_13_14_21 ⟨rfl, vb, hm, hs⟩
                  have HM_1_8_9_12_13_14_21 := Lib.hid hm
                  have HN_1_8_9_12_13_14_21 := Lib.hid (HN_1_8_9_12_13_21.out.step hs)
                  have HK_1_8_9_12_13_14_21 := Lib.hid (HK_1_8_9_12_13_21.out.trans ((HM_1_8_9_12_13_21.out.stepBelow hs).mono hgw))
                  clear hm hs
                  refine ⟨_, rfl, ?_⟩
                  refine ⟨RpG.of_blk (HB.out.below HK_1_8_9_12_13_14_21.out) hl hc, ?_⟩
                  try simp only [Act.put, List.setIfInBounds_toArray, List.set_cons_succ, List.set_cons_zero]
                  refine Agg.held_ready [17] (by kernel_rfl) (by simp) ?_
                  refine Agg.held_cons rfl ?_ ?_
                  · refine Agg.step_call rfl 42 _ _ rfl #[.pointer (some ⟨g4, 0, none⟩), .slice (some ⟨b, 22, none⟩) 20 20] (by simp only [List.map_toArray, List.map_cons, List.map_nil]; rfl) (fun W => HER.out _ W) ?_
                    refine (raw_any g4 vb _ ch ((encN e ++ (encN g ++ encN m)) ++ (encN (pathS ph pn).length ++ pathS ph pn)) _ (by simp only [List.length_append]; omega) (by omega) (rp_class_slice (HB.out.below HK_1_8_9_12_13_14_21.out) hl hc) HM_1_8_9_12_13_14_21.out).mono ?_
                    rintro x w_1_8_9_12_13_14_17_21 ⟨rfl, vc, hm, hs⟩
                    have HM_1_8_9_12_13_14_17_21 := Lib.hid hm
                    have HN_1_8_9_12_13_14_17_21 := Lib.hid (HN_1_8_9_12_13_14_21.out.step hs)
                    have HK_1_8_9_12_13_14_17_21 := Lib.hid (HK_1_8_9_12_13_14_21.out.trans ((HM_1_8_9_12_13_14_21.out.stepBelow hs).mono hgw))
                    clear hm hs
                    refine ⟨_, rfl, ?_⟩
                    refine ⟨RpG.of_blk (HB.out.below HK_1_8_9_12_13_14_17_21.out) hl hc, ?_⟩
                    try simp only [Act.put, List.setIfInBounds_toArray, List.set_cons_succ, List.set_cons_zero]
                    refine Agg.held_ready [22] (by kernel_rfl) (by simp) ?_
                    refine Agg.held_cons rfl ?_ ?_
                    · refine Agg.step_call rfl 38 _ _ rfl #[.pointer (some ⟨g4, 0, none⟩), xn] (by simp only [List.map_toArray, List.map_cons, List.map_nil]; rfl) (fun W => HEN.out _ W) ?_
                      refine (num_any g4 vc xn [l.length] (((encN e ++ (encN g ++ encN m)) ++ (encN (pathS ph pn).length ++ pathS ph pn)) ++ ch) _ (by intro n hn; simp only [List.mem_cons, List.not_mem_nil, or_false] at hn; omega) (by simp) (by simp only [List.length_append]; omega) HN_1_8_9_12_13_14_17_21.out HM_1_8_9_12_13_14_17_21.out).mono ?_
                      rintro x w_1_8_9_12_13_14_17_21_22 ⟨rfl, vd, hm, hs⟩
                      have HM_1_8_9_12_13_14_17_21_22 := Lib.hid (show MkV g4 w_1_8_9_12_13_14_17_21_22 vd ((((encN e ++ (encN g ++ encN m)) ++ (encN (pathS ph pn).length ++ pathS ph pn)) ++ ch) ++ encN l.length) from by simpa using hm)
                      have HK_1_8_9_12_13_14_17_21_22 := Lib.hid (HK_1_8_9_12_13_14_17_21.out.trans ((HM_1_8_9_12_13_14_17_21.out.stepBelow hs).mono hgw))
                      clear hm hs
                      refine ⟨_, rfl, ?_⟩
                      have hSx := RpG.of_blk (HB.out.below HK_1_8_9_12_13_14_17_21_22.out) hl hc; refine ⟨hSx, ?_⟩
                      try simp only [Act.put, List.setIfInBounds_toArray, List.set_cons_succ, List.set_cons_zero]
                      refine Agg.held_take 23 (.pointer (some ⟨g4, 0, none⟩)) rfl (by kernel_rfl) (fun _ _ _ h => h) rfl (fun W _ => by kernel_rfl) (by assumption) ?_
                      try simp only [Act.put, List.setIfInBounds_toArray, List.set_cons_succ, List.set_cons_zero]
                      refine Agg.held_end (by kernel_rfl) ?_
                      exact ⟨g4, vd, xs, sv.1, ys, xn, rfl, hgw, HM_1_8_9_12_13_14_17_21_22.out, HK_1_8_9_12_13_14_17_21_22.out⟩
                    exact AllReadyH.nil
                  exact AllReadyH.nil
                exact AllReadyH.nil
              exact AllReadyH.nil
            exact AllReadyH.nil
          exact AllReadyH.nil
        exact AllReadyH.nil
      refine Agg.held_cons rfl ?_ ?_
      · refine step_ints3 rfl _ _ _ rfl e g m rfl rfl rfl ?_
        intro xs w_8_21 hpr how hx
        have HN_8_21 := Lib.hid (HN_21.out.below hx)
        have HK_8_21 := Lib.hid (Agg.belowThen HK_21.out (Nat.le_refl _) hx)
        have HX_8_21 := Lib.hid hpr
        clear hpr how hx
        refine ⟨RpG.of_blk (HB.out.below HK_8_21.out) hl hc, ?_⟩
        try simp only [Act.put, List.setIfInBounds_toArray, List.set_cons_succ, List.set_cons_zero]
        refine Agg.held_ready [1] (by kernel_rfl) (by simp) ?_
        refine Agg.held_cons rfl ?_ ?_
        · refine Agg.step_box rfl 71 _ rfl (mkC (.slice none 0 0)) rfl ?_
          intro g4 w_1_8_21 hb4 hx4 hg4
          have hgw : w0.heap.size ≤ g4 := Nat.le_trans HK_8_21.out.size hg4
          have HM_1_8_21 := Lib.hid (⟨hb4, Own.nil _ _ _⟩ : MkV g4 w_1_8_21 (.slice none 0 0) [])
          have HX_1_8_21 := Lib.hid (HX_8_21.out.off hx4 hg4)
          have HN_1_8_21 := Lib.hid (HN_8_21.out.off hx4 hg4)
          have HK_1_8_21 := Lib.hid (Agg.belowThen HK_8_21.out (Nat.le_refl _) hx4)
          clear hb4 hx4
          refine ⟨RpG.of_blk (HB.out.below HK_1_8_21.out) hl hc, ?_⟩
          try simp only [Act.put, List.setIfInBounds_toArray, List.set_cons_succ, List.set_cons_zero]
          refine Agg.held_ready [9] (by kernel_rfl) (by simp) ?_
          refine Agg.held_cons rfl ?_ ?_
          · refine Agg.step_call rfl 38 _ _ rfl #[.pointer (some ⟨g4, 0, none⟩), xs] (by simp only [List.map_toArray, List.map_cons, List.map_nil]; rfl) (fun W => HEN.out _ W) ?_
            refine (num_any g4 (.slice none 0 0) xs [e, g, m] [] _ (by intro n hn; simp only [List.mem_cons, List.not_mem_nil, or_false] at hn; omega) (by simp) (by simp) HX_1_8_21.out HM_1_8_21.out).mono ?_
            rintro x w_1_8_9_21 ⟨rfl, va, hm, hs⟩
            have HM_1_8_9_21 := Lib.hid (show MkV g4 w_1_8_9_21 va (encN e ++ (encN g ++ encN m)) from by simpa using hm)
            have HN_1_8_9_21 := Lib.hid (HN_1_8_21.out.step hs)
            have HK_1_8_9_21 := Lib.hid (HK_1_8_21.out.trans ((HM_1_8_21.out.stepBelow hs).mono hgw))
            clear hm hs
            refine ⟨_, rfl, ?_⟩
            refine ⟨RpG.of_blk (HB.out.below HK_1_8_9_21.out) hl hc, ?_⟩
            try simp only [Act.put, List.setIfInBounds_toArray, List.set_cons_succ, List.set_cons_zero]
            refine Agg.held_ready [12] (by kernel_rfl) (by simp) ?_
            refine Agg.held_cons rfl ?_ ?_
            · refine Agg.step_call rfl 41 _ _ rfl #[.agg (pC ph pn)] (by simp only [List.map_toArray, List.map_cons, List.map_nil]; rfl) (fun W => HES.out _ W) ?_
              refine (shown_any ph pn hl _).mono ?_
              rintro x w_1_8_9_12_21 ⟨x12, y12, rfl, hy, hn, hx⟩
              obtain ⟨sv, rfl⟩ := newBytes_sv hn
              have HSO_1_8_9_12_21 := Lib.hid (Off.behind (w0 := w_1_8_9_21) hn.slice (fun k hk => Nat.le_trans hy.size (newBytes_own hn k hk)) HM_1_8_9_21.out.blk.lt HM_1_8_9_21.out.lt)
              have HN_1_8_9_12_21 := Lib.hid (HN_1_8_9_21.out.step (MkStep.of_below hx))
              have HM_1_8_9_12_21 := Lib.hid (HM_1_8_9_21.out.below hx)
              have HK_1_8_9_12_21 := Lib.hid (Agg.belowThen HK_1_8_9_21.out (Nat.le_refl _) hx)
              clear hn hx hy
              refine ⟨_, rfl, ?_⟩
              refine ⟨RpG.of_blk (HB.out.below HK_1_8_9_12_21.out) hl hc, ?_⟩
              try simp only [Act.put, List.setIfInBounds_toArray, List.set_cons_succ, List.set_cons_zero]
              refine Agg.held_ready [13] (by kernel_rfl) (by simp) ?_
              refine Agg.held_cons rfl ?_ ?_
              · refine Agg.step_slice1 (E := EBB) rfl _ rfl sv rfl ?_
                intro ys w_1_8_9_12_13_21 hys hx
                have HYO_1_8_9_12_13_21 := Lib.hid (Off.behind (w0 := w_1_8_9_12_21) hys.slice (fun k hk => (hys.block k hk).1) HM_1_8_9_12_21.out.blk.lt HM_1_8_9_12_21.out.lt)
                have HN_1_8_9_12_13_21 := Lib.hid (HN_1_8_9_12_21.out.step (MkStep.of_below hx))
                have HM_1_8_9_12_13_21 := Lib.hid (HM_1_8_9_12_21.out.below hx)
                have HSO_1_8_9_12_13_21 := Lib.hid (HSO_1_8_9_12_21.out.step (MkStep.of_below hx))
                have HK_1_8_9_12_13_21 := Lib.hid (Agg.belowThen HK_1_8_9_12_21.out (Nat.le_refl _) hx)
                clear hys hx
                refine ⟨RpG.of_blk (HB.out.below HK_1_8_9_12_13_21.out) hl hc, ?_⟩
                try simp only [Act.put, List.setIfInBounds_toArray, List.set_cons_succ, List.set_cons_zero]
                refine Agg.held_ready [14] (by kernel_rfl) (by simp) ?_
                refine Agg.held_cons rfl ?_ ?_
                · refine Agg.step_call rfl 40 _ _ rfl #[.pointer (some ⟨g4, 0, none⟩), ys] (by simp only [List.map_toArray, List.map_cons, List.map_nil]; rfl) (fun W => HET.out _ W) ?_
                  refine (text_any g4 va ys sv (pathS ph pn) (encN e ++ (encN g ++ encN m)) _ (by simp only [List.length_append]; omega) (by omega) HYO_1_8_9_12_13_21.out HSO_1_8_9_12_13_21.out HM_1_8_9_12_13_21.out).mono ?_
                  rintro x w_1_8_9_12_13_14_21 ⟨rfl, vb, hm, hs⟩
                  have HM_1_8_9_12_13_14_21 := Lib.hid hm
                  have HN_1_8_9_12_13_14_21 := Lib.hid (HN_1_8_9_12_13_21.out.step hs)
                  have HK_1_8_9_12_13_14_21 := Lib.hid (HK_1_8_9_12_13_21.out.trans ((HM_1_8_9_12_13_21.out.stepBelow hs).mono hgw))
                  clear hm hs
                  refine ⟨_, rfl, ?_⟩
                  refine ⟨RpG.of_blk (HB.out.below HK_1_8_9_12_13_14_21.out) hl hc, ?_⟩
                  try simp only [Act.put, List.setIfInBounds_toArray, List.set_cons_succ, List.set_cons_zero]
                  refine Agg.held_ready [17] (by kernel_rfl) (by simp) ?_
                  refine Agg.held_cons rfl ?_ ?_
                  · refine Agg.step_call rfl 42 _ _ rfl #[.pointer (some ⟨g4, 0, none⟩), .slice (some ⟨b, 22, none⟩) 20 20] (by simp only [List.map_toArray, List.map_cons, List.map_nil]; rfl) (fun W => HER.out _ W) ?_
                    refine (raw_any g4 vb _ ch ((encN e ++ (encN g ++ encN m)) ++ (encN (pathS ph pn).length ++ pathS ph pn)) _ (by simp only [List.length_append]; omega) (by omega) (rp_class_slice (HB.out.below HK_1_8_9_12_13_14_21.out) hl hc) HM_1_8_9_12_13_14_21.out).mono ?_
                    rintro x w_1_8_9_12_13_14_17_21 ⟨rfl, vc, hm, hs⟩
                    have HM_1_8_9_12_13_14_17_21 := Lib.hid hm
                    have HN_1_8_9_12_13_14_17_21 := Lib.hid (HN_1_8_9_12_13_14_21.out.step hs)
                    have HK_1_8_9_12_13_14_17_21 := Lib.hid (HK_1_8_9_12_13_14_21.out.trans ((HM_1_8_9_12_13_14_21.out.stepBelow hs).mono hgw))
                    clear hm hs
                    refine ⟨_, rfl, ?_⟩
                    refine ⟨RpG.of_blk (HB.out.below HK_1_8_9_12_13_14_17_21.out) hl hc, ?_⟩
                    try simp only [Act.put, List.setIfInBounds_toArray, List.set_cons_succ, List.set_cons_zero]
                    refine Agg.held_ready [22] (by kernel_rfl) (by simp) ?_
                    refine Agg.held_cons rfl ?_ ?_
                    · refine Agg.step_call rfl 38 _ _ rfl #[.pointer (some ⟨g4, 0, none⟩), xn] (by simp only [List.map_toArray, List.map_cons, List.map_nil]; rfl) (fun W => HEN.out _ W) ?_
                      refine (num_any g4 vc xn [l.length] (((encN e ++ (encN g ++ encN m)) ++ (encN (pathS ph pn).length ++ pathS ph pn)) ++ ch) _ (by intro n hn; simp only [List.mem_cons, List.not_mem_nil, or_false] at hn; omega) (by simp) (by simp only [List.length_append]; omega) HN_1_8_9_12_13_14_17_21.out HM_1_8_9_12_13_14_17_21.out).mono ?_
                      rintro x w_1_8_9_12_13_14_17_21_22 ⟨rfl, vd, hm, hs⟩
                      have HM_1_8_9_12_13_14_17_21_22 := Lib.hid (show MkV g4 w_1_8_9_12_13_14_17_21_22 vd ((((encN e ++ (encN g ++ encN m)) ++ (encN (pathS ph pn).length ++ pathS ph pn)) ++ ch) ++ encN l.length) from by simpa using hm)
                      have HK_1_8_9_12_13_14_17_21_22 := Lib.hid (HK_1_8_9_12_13_14_17_21.out.trans ((HM_1_8_9_12_13_14_17_21.out.stepBelow hs).mono hgw))
                      clear hm hs
                      refine ⟨_, rfl, ?_⟩
                      have hSx := RpG.of_blk (HB.out.below HK_1_8_9_12_13_14_17_21_22.out) hl hc; refine ⟨hSx, ?_⟩
                      try simp only [Act.put, List.setIfInBounds_toArray, List.set_cons_succ, List.set_cons_zero]
                      refine Agg.held_take 23 (.pointer (some ⟨g4, 0, none⟩)) rfl (by kernel_rfl) (fun _ _ _ h => h) rfl (fun W _ => by kernel_rfl) (by assumption) ?_
                      try simp only [Act.put, List.setIfInBounds_toArray, List.set_cons_succ, List.set_cons_zero]
                      refine Agg.held_end (by kernel_rfl) ?_
                      exact ⟨g4, vd, xs, sv.1, ys, xn, rfl, hgw, HM_1_8_9_12_13_14_17_21_22.out, HK_1_8_9_12_13_14_17_21_22.out⟩
                    exact AllReadyH.nil
                  exact AllReadyH.nil
                exact AllReadyH.nil
              exact AllReadyH.nil
            exact AllReadyH.nil
          exact AllReadyH.nil
        exact AllReadyH.nil
      exact AllReadyH.nil
    exact AllReadyH.nil
theorem pputr_bad (e g m : Int) (ph pn ch : List UInt8) (pv : Value) (l : List P20) (hl : ph.length = 20) (hc : ch.length = 20) (hll : l.length ≤ 1048576) (hr : Rp.right ⟨e, ph, pn, ch, g, l, m⟩ = false) (w : World) (hs : ElemsAt w pv l) :
    Calls Tryz.prog 22 #[.agg (rpG e ph pn ch g pv m)] w fun x w' => x = .returned (.tuple #[.slice none 0 0, .int .i64 2]) ∧ Below w.heap.size w w' := by
  have HRT := Lib.hid (fun W (h : ElemsAt W pv l) => (show Calls Tryz.prog 26 #[.agg (rpG e ph pn ch g pv m)] W fun x w' => x = .returned (.bool false) ∧ Below W.heap.size W w' by have := rright_any e g m ph pn ch pv l hl hc hll W h; rwa [hr] at this))
  have HY := Lib.hid hs
  clear hr hs
  go_enter Tryz.func22, Tryz.ntmps22
  go_wp2_with (first | (with_reducible refine Agg.wpList_box rfl 46 _ rfl (rpG e ph pn ch g pv m) rfl ?_; intro b w1 hb1 hx1 hgb; have HL := Lib.hid (RpG.of_blk hb1 hl hc); have HW := Lib.hid hx1; clear hb1 hx1 hgb) | (with_reducible refine Agg.wpList_loadL HL.out.all rfl _ rfl rfl ?_))
  refine (HRT.out _ (HY.out.below HW.out)).mono ?_
  rintro x w2 ⟨rfl, hx2⟩
  have HW := Lib.hid (Agg.belowThen HW.out (Nat.le_refl _) hx2)
  clear hx2
  go_wp2_with fail
  go_ret2
  exact ⟨rfl, HW.out⟩
/-- what PutReply tells -/
def rpBytes (q : Rp) : List UInt8 := if q.right then putRp q else []
def rpCode (q : Rp) : Nat := if q.right then 0 else 2
theorem pputr_any (e g m : Int) (ph pn ch : List UInt8) (pv : Value) (l : List P20) (hl : ph.length = 20) (hc : ch.length = 20) (hll : l.length ≤ 1048576) (w : World) (hs : ElemsAt w pv l) :
    Calls Tryz.prog 22 #[.agg (rpG e ph pn ch g pv m)] w fun x w' => ∃ v', x = .returned (.tuple #[v', .int .i64 (rpCode ⟨e, ph, pn, ch, g, l, m⟩ : Int)]) ∧ Own EB w.heap.size w' v' (rpBytes ⟨e, ph, pn, ch, g, l, m⟩) ∧ Below w.heap.size w w' := by
  unfold rpCode rpBytes
  cases hr : Rp.right ⟨e, ph, pn, ch, g, l, m⟩ with
  | false =>
    refine (pputr_bad e g m ph pn ch pv l hl hc hll hr w hs).mono ?_
    rintro x w' ⟨rfl, hx⟩
    exact ⟨_, rfl, Own.nil _ _ _, hx⟩
  | true =>
    obtain ⟨h1, h2, h3, _, h5, _⟩ := Rp.right_parts hr
    simp only at h1 h2 h3 h5
    obtain ⟨e, rfl⟩ : ∃ n : Nat, e = n := ⟨e.toNat, by omega⟩
    obtain ⟨g, rfl⟩ : ∃ n : Nat, g = n := ⟨g.toNat, by omega⟩
    obtain ⟨m, rfl⟩ : ∃ n : Nat, m = n := ⟨m.toNat, by omega⟩
    simp only [if_true]
    exact pputr_good e g m ph pn ch pv l hl hc (by omega) (by omega) (by omega) h5 hr w hs
end Go.Proofs.YtpnolgliklmnmaaGreat
