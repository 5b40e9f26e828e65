/- bytes.Clone; code.Maker: Text, Done. (Several texts in one.) -/
import Derived.Test.YtniibcgomnjfgaaQAL
import Derived.Test.YtniibcgomnjfgaaQAE
import Derived.Test.YtniibcgomnjfgaaQAJ
/-! spencekit.SameBuilt, SameBuilts, BuiltsOf, Pick. -/
namespace Go.Proofs.Ytniibcgomnjfgaa
open Go.RowKit Pl Go.Agg
theorem bu_dec (a b : Bu) : decide (a = b) = (decide (a.cl = b.cl) && (decide (a.ky = b.ky) && (decide (a.pa = b.pa) && ((a.by_ == b.by_) && decide (a.ins = b.ins))))) := by
  rw [Bool.eq_iff_iff]
  cases a; cases b
  simp
set_option maxRecDepth 100000 in
set_option maxHeartbeats 8000000 in
theorem sameBu_any (a b : BuV) (hna : a.1.ins.length ≤ 1048576) (w : World) (ha : InsAt w a) (hb : InsAt w b) :
    Calls Try.prog 10 #[.agg (bC a), .agg (bC b)] w fun e w' => e = .returned (.bool (decide (a.1 = b.1))) ∧ Below w.heap.size w w' := by
  have HIA := Lib.hid (show MdsAt w (ivV a.2) a.1.ins from ha)
  have HIB := Lib.hid (show MdsAt w (ivV b.2) b.1.ins from hb)
  obtain ⟨e1, h1⟩ : ∃ e, decide (a.1.cl = b.1.cl) = e := ⟨_, rfl⟩
  obtain ⟨e2, h2⟩ : ∃ e, decide (a.1.ky = b.1.ky) = e := ⟨_, rfl⟩
  obtain ⟨e3, h3⟩ : ∃ e, decide (a.1.pa = b.1.pa) = e := ⟨_, rfl⟩
  obtain ⟨e4, h4⟩ : ∃ e, (a.1.by_ == b.1.by_) = e := ⟨_, rfl⟩
  obtain ⟨e5, h5⟩ : ∃ e, decide (a.1.ins = b.1.ins) = e := ⟨_, rfl⟩
  have HR := Lib.hid (show decide (a.1 = b.1) = (e1 && (e2 && (e3 && (e4 && e5)))) by rw [bu_dec, h1, h2, h3, h4, h5])
  have H1 := Lib.hid (fun W => (show (binOp .eql 30 (.agg (hC a.1.cl.1)) (.agg (hC b.1.cl.1))).run Try.prog W = .ok (.bool e1) W by rw [eqlHB, h1]))
  have H2 := Lib.hid (fun W => (show (binOp .eql 30 (.agg (hC a.1.ky.1)) (.agg (hC b.1.ky.1))).run Try.prog W = .ok (.bool e2) W by rw [eqlHB, h2]))
  have H3 := Lib.hid (fun W => (show (binOp .eql 32 (.agg (pC a.1.pa.1.1 a.1.pa.1.2)) (.agg (pC b.1.pa.1.1 b.1.pa.1.2))).run Try.prog W = .ok (.bool e3) W by rw [eqlPB, h3]))
  have H5 := Lib.hid h5
  clear ha hb h1 h2 h3 h5
  go_enter Try.func10, Try.ntmps10
  cases e1 with
  | false =>
    go_wp2_with (first | (with_reducible refine wpList_box rfl 35 _ rfl (bC a) rfl ?_; intro g1 w1 hb1 hx1 hg1; have HA1 := Lib.hid (BuG.of_blk hb1); have HX1 := Lib.hid hx1; clear hb1 hx1 hg1) | (with_reducible refine wpList_box rfl 35 _ rfl (bC b) rfl ?_; intro g2 w2 hb2 hx2 hg2; have HB := Lib.hid (BuG.of_blk hb2); have HA := Lib.hid (HA1.out.below hx2); have HX2 := Lib.hid (Agg.belowThen HX1.out (Nat.le_refl _) hx2); clear hb2 hx2 hg2) | (with_reducible refine wpList_loadL HA.out.cls rfl _ rfl rfl ?_) | (with_reducible refine wpList_loadL HB.out.cls rfl _ rfl rfl ?_) | (with_reducible refine wpList_loadL HA.out.key rfl _ rfl rfl ?_) | (with_reducible refine wpList_loadL HB.out.key rfl _ rfl rfl ?_) | (with_reducible refine wpList_loadL HA.out.path rfl _ rfl rfl ?_) | (with_reducible refine wpList_loadL HB.out.path rfl _ rfl rfl ?_) | (with_reducible refine wpList_loadL HA.out.by_ rfl _ rfl rfl ?_) | (with_reducible refine wpList_loadL HB.out.by_ rfl _ rfl rfl ?_) | (with_reducible refine wpList_loadL HA.out.ins rfl _ rfl rfl ?_) | (with_reducible refine wpList_loadL HB.out.ins rfl _ rfl rfl ?_) | (with_reducible refine wpList_eqlw 30 30 _ _ rfl rfl (hC a.1.cl.1) (hC b.1.cl.1) rfl rfl _ (by kernel_rfl) H1.out ?_) | (with_reducible refine wpList_eqlw 30 30 _ _ rfl rfl (hC a.1.ky.1) (hC b.1.ky.1) rfl rfl _ (by kernel_rfl) H2.out ?_) | (with_reducible refine wpList_eqlw 32 32 _ _ rfl rfl (pC a.1.pa.1.1 a.1.pa.1.2) (pC b.1.pa.1.1 b.1.pa.1.2) rfl rfl _ (by kernel_rfl) H3.out ?_))
    go_ret
    exact ⟨ret_bool (by rw [HR.out]; rfl), HX2.out⟩
  | true =>
  cases e2 with
  | false =>
    go_wp2_with (first | (with_reducible refine wpList_box rfl 35 _ rfl (bC a) rfl ?_; intro g1 w1 hb1 hx1 hg1; have HA1 := Lib.hid (BuG.of_blk hb1); have HX1 := Lib.hid hx1; clear hb1 hx1 hg1) | (with_reducible refine wpList_box rfl 35 _ rfl (bC b) rfl ?_; intro g2 w2 hb2 hx2 hg2; have HB := Lib.hid (BuG.of_blk hb2); have HA := Lib.hid (HA1.out.below hx2); have HX2 := Lib.hid (Agg.belowThen HX1.out (Nat.le_refl _) hx2); clear hb2 hx2 hg2) | (with_reducible refine wpList_loadL HA.out.cls rfl _ rfl rfl ?_) | (with_reducible refine wpList_loadL HB.out.cls rfl _ rfl rfl ?_) | (with_reducible refine wpList_loadL HA.out.key rfl _ rfl rfl ?_) | (with_reducible refine wpList_loadL HB.out.key rfl _ rfl rfl ?_) | (with_reducible refine wpList_loadL HA.out.path rfl _ rfl rfl ?_) | (with_reducible refine wpList_loadL HB.out.path rfl _ rfl rfl ?_) | (with_reducible refine wpList_loadL HA.out.by_ rfl _ rfl rfl ?_) | (with_reducible refine wpList_loadL HB.out.by_ rfl _ rfl rfl ?_) | (with_reducible refine wpList_loadL HA.out.ins rfl _ rfl rfl ?_) | (with_reducible refine wpList_loadL HB.out.ins rfl _ rfl rfl ?_) | (with_reducible refine wpList_eqlw 30 30 _ _ rfl rfl (hC a.1.cl.1) (hC b.1.cl.1) rfl rfl _ (by kernel_rfl) H1.out ?_) | (with_reducible refine wpList_eqlw 30 30 _ _ rfl rfl (hC a.1.ky.1) (hC b.1.ky.1) rfl rfl _ (by kernel_rfl) H2.out ?_) | (with_reducible refine wpList_eqlw 32 32 _ _ rfl rfl (pC a.1.pa.1.1 a.1.pa.1.2) (pC b.1.pa.1.1 b.1.pa.1.2) rfl rfl _ (by kernel_rfl) H3.out ?_))
    go_ret
    exact ⟨ret_bool (by rw [HR.out]; rfl), HX2.out⟩
  | true =>
  cases e3 with
  | false =>
    go_wp2_with (first | (with_reducible refine wpList_box rfl 35 _ rfl (bC a) rfl ?_; intro g1 w1 hb1 hx1 hg1; have HA1 := Lib.hid (BuG.of_blk hb1); have HX1 := Lib.hid hx1; clear hb1 hx1 hg1) | (with_reducible refine wpList_box rfl 35 _ rfl (bC b) rfl ?_; intro g2 w2 hb2 hx2 hg2; have HB := Lib.hid (BuG.of_blk hb2); have HA := Lib.hid (HA1.out.below hx2); have HX2 := Lib.hid (Agg.belowThen HX1.out (Nat.le_refl _) hx2); clear hb2 hx2 hg2) | (with_reducible refine wpList_loadL HA.out.cls rfl _ rfl rfl ?_) | (with_reducible refine wpList_loadL HB.out.cls rfl _ rfl rfl ?_) | (with_reducible refine wpList_loadL HA.out.key rfl _ rfl rfl ?_) | (with_reducible refine wpList_loadL HB.out.key rfl _ rfl rfl ?_) | (with_reducible refine wpList_loadL HA.out.path rfl _ rfl rfl ?_) | (with_reducible refine wpList_loadL HB.out.path rfl _ rfl rfl ?_) | (with_reducible refine wpList_loadL HA.out.by_ rfl _ rfl rfl ?_) | (with_reducible refine wpList_loadL HB.out.by_ rfl _ rfl rfl ?_) | (with_reducible refine wpList_loadL HA.out.ins rfl _ rfl rfl ?_) | (with_reducible refine wpList_loadL HB.out.ins rfl _ rfl rfl ?_) | (with_reducible refine wpList_eqlw 30 30 _ _ rfl rfl (hC a.1.cl.1) (hC b.1.cl.1) rfl rfl _ (by kernel_rfl) H1.out ?_) | (with_reducible refine wpList_eqlw 30 30 _ _ rfl rfl (hC a.1.ky.1) (hC b.1.ky.1) rfl rfl _ (by kernel_rfl) H2.out ?_) | (with_reducible refine wpList_eqlw 32 32 _ _ rfl rfl (pC a.1.pa.1.1 a.1.pa.1.2) (pC b.1.pa.1.1 b.1.pa.1.2) rfl rfl _ (by kernel_rfl) H3.out ?_))
    go_ret
    exact ⟨ret_bool (by rw [HR.out]; rfl), HX2.out⟩
  | true =>
  cases e4 with
  | false =>
    go_wp2_with (first | (with_reducible refine wpList_box rfl 35 _ rfl (bC a) rfl ?_; intro g1 w1 hb1 hx1 hg1; have HA1 := Lib.hid (BuG.of_blk hb1); have HX1 := Lib.hid hx1; clear hb1 hx1 hg1) | (with_reducible refine wpList_box rfl 35 _ rfl (bC b) rfl ?_; intro g2 w2 hb2 hx2 hg2; have HB := Lib.hid (BuG.of_blk hb2); have HA := Lib.hid (HA1.out.below hx2); have HX2 := Lib.hid (Agg.belowThen HX1.out (Nat.le_refl _) hx2); clear hb2 hx2 hg2) | (with_reducible refine wpList_loadL HA.out.cls rfl _ rfl rfl ?_) | (with_reducible refine wpList_loadL HB.out.cls rfl _ rfl rfl ?_) | (with_reducible refine wpList_loadL HA.out.key rfl _ rfl rfl ?_) | (with_reducible refine wpList_loadL HB.out.key rfl _ rfl rfl ?_) | (with_reducible refine wpList_loadL HA.out.path rfl _ rfl rfl ?_) | (with_reducible refine wpList_loadL HB.out.path rfl _ rfl rfl ?_) | (with_reducible refine wpList_loadL HA.out.by_ rfl _ rfl rfl ?_) | (with_reducible refine wpList_loadL HB.out.by_ rfl _ rfl rfl ?_) | (with_reducible refine wpList_loadL HA.out.ins rfl _ rfl rfl ?_) | (with_reducible refine wpList_loadL HB.out.ins rfl _ rfl rfl ?_) | (with_reducible refine wpList_eqlw 30 30 _ _ rfl rfl (hC a.1.cl.1) (hC b.1.cl.1) rfl rfl _ (by kernel_rfl) H1.out ?_) | (with_reducible refine wpList_eqlw 30 30 _ _ rfl rfl (hC a.1.ky.1) (hC b.1.ky.1) rfl rfl _ (by kernel_rfl) H2.out ?_) | (with_reducible refine wpList_eqlw 32 32 _ _ rfl rfl (pC a.1.pa.1.1 a.1.pa.1.2) (pC b.1.pa.1.1 b.1.pa.1.2) rfl rfl _ (by kernel_rfl) H3.out ?_))
    go_ret
    exact ⟨ret_bool (by rw [HR.out]; rfl), HX2.out⟩
  | true =>
  go_wp2_with (first | (with_reducible refine wpList_box rfl 35 _ rfl (bC a) rfl ?_; intro g1 w1 hb1 hx1 hg1; have HA1 := Lib.hid (BuG.of_blk hb1); have HX1 := Lib.hid hx1; clear hb1 hx1 hg1) | (with_reducible refine wpList_box rfl 35 _ rfl (bC b) rfl ?_; intro g2 w2 hb2 hx2 hg2; have HB := Lib.hid (BuG.of_blk hb2); have HA := Lib.hid (HA1.out.below hx2); have HX2 := Lib.hid (Agg.belowThen HX1.out (Nat.le_refl _) hx2); clear hb2 hx2 hg2) | (with_reducible refine wpList_loadL HA.out.cls rfl _ rfl rfl ?_) | (with_reducible refine wpList_loadL HB.out.cls rfl _ rfl rfl ?_) | (with_reducible refine wpList_loadL HA.out.key rfl _ rfl rfl ?_) | (with_reducible refine wpList_loadL HB.out.key rfl _ rfl rfl ?_) | (with_reducible refine wpList_loadL HA.out.path rfl _ rfl rfl ?_) | (with_reducible refine wpList_loadL HB.out.path rfl _ rfl rfl ?_) | (with_reducible refine wpList_loadL HA.out.by_ rfl _ rfl rfl ?_) | (with_reducible refine wpList_loadL HB.out.by_ rfl _ rfl rfl ?_) | (with_reducible refine wpList_loadL HA.out.ins rfl _ rfl rfl ?_) | (with_reducible refine wpList_loadL HB.out.ins rfl _ rfl rfl ?_) | (with_reducible refine wpList_eqlw 30 30 _ _ rfl rfl (hC a.1.cl.1) (hC b.1.cl.1) rfl rfl _ (by kernel_rfl) H1.out ?_) | (with_reducible refine wpList_eqlw 30 30 _ _ rfl rfl (hC a.1.ky.1) (hC b.1.ky.1) rfl rfl _ (by kernel_rfl) H2.out ?_) | (with_reducible refine wpList_eqlw 32 32 _ _ rfl rfl (pC a.1.pa.1.1 a.1.pa.1.2) (pC b.1.pa.1.1 b.1.pa.1.2) rfl rfl _ (by kernel_rfl) H3.out ?_))
  refine (sameMades_any _ _ a.1.ins b.1.ins hna w2 (HIA.out.below HX2.out) (HIB.out.below HX2.out)).mono ?_
  rintro e w3 ⟨rfl, hx3⟩
  rw [H5.out]
  have HX3 := Lib.hid (Agg.belowThen HX2.out (Nat.le_refl _) hx3)
  clear hx3
  go_wp2_with fail
  go_ret
  exact ⟨ret_bool (by rw [HR.out]; rfl), HX3.out⟩
set_option maxRecDepth 100000 in
set_option maxHeartbeats 4000000 in
theorem sameBus_any (v u : Value) (l m : List BuV) (hl : l.length ≤ 1048576) (hni : ∀ x ∈ l, x.1.ins.length ≤ 1048576) (w : World) (hs : BusAt w v l) (ht : BusAt w u m) :
    Calls Try.prog 12 #[v, u] w fun e w' => e = .returned (.bool (decide (l.map (·.1) = m.map (·.1)))) ∧ Below w.heap.size w w' := by
  have HS := Lib.hid hs
  have HT := Lib.hid ht
  have HNI := Lib.hid hni
  have hlv := fun W => bus_len hs W
  have hlu := fun W => bus_len ht W
  clear hs ht hni
  by_cases hlm : l.length = m.length
  · have hd0 : ((l.length : Int) != (m.length : Int)) = false := by simp; omega
    go_enter Try.func12, Try.ntmps12
    go_wp2_with fail
    go_loopw [5] (fun i wr => ∃ k : Nat, k ≤ l.length ∧ i = .int .i64 (k : Int) ∧ AlikeU (l.map (·.1)) (m.map (·.1)) k ∧ Below w.heap.size w wr) (fun i _ => l.length - (intOf i).toNat)
    case atStart => exact ⟨0, by omega, rfl, fun j hj => absurd hj (by omega), Below.refl _ _⟩
    case round =>
      obtain ⟨wr1, rfl⟩ : ∃ y : World, y = wr := ⟨_, rfl⟩
      obtain ⟨k, hk, rfl, ha, hw⟩ := hrel
      have HA := Lib.hid ha
      have HW := Lib.hid hw
      clear ha hw
      by_cases hlt : k < l.length
      · have hd : decide ((k : Int) < (l.length : Int)) = true := by simp; omega
        obtain ⟨x, hxk⟩ : ∃ x, l[k]? = some x := ⟨_, List.getElem?_eq_getElem hlt⟩
        obtain ⟨y, hyk⟩ : ∃ y, m[k]? = some y := ⟨_, List.getElem?_eq_getElem (by omega)⟩
        obtain ⟨q, hadr, hq, hin⟩ := (HS.out.below HW.out).at_ k x hxk
        obtain ⟨q2, hadr2, hq2, hin2⟩ := (HT.out.below HW.out).at_ k y hyk
        have hnx := HNI.out x (List.mem_of_getElem? hxk)
        have HQ := Lib.hid hq
        have HQ2 := Lib.hid hq2
        have HX := Lib.hid (show (l.map (·.1))[k]? = some x.1 by rw [List.getElem?_map, hxk]; rfl)
        have HY := Lib.hid (show (m.map (·.1))[k]? = some y.1 by rw [List.getElem?_map, hyk]; rfl)
        obtain ⟨e, he⟩ : ∃ e, decide (x.1 = y.1) = e := ⟨_, rfl⟩
        have HSB := Lib.hid (fun z : Later wr1 => (show Calls Try.prog 10 #[.agg (bC x), .agg (bC y)] z.w fun t w' => t = .returned (.bool e) ∧ Below z.w.heap.size z.w w' by have := sameBu_any x y hnx z.w (hin.below z.h) (hin2.below z.h); rwa [he] at this))
        have HE := Lib.hid he
        clear hq hq2 hxk hyk he hin hin2
        cases e with
        | false =>
          go_wp2_with fail
          try simp only [Act.put, List.setIfInBounds_toArray, List.set_cons_succ, List.set_cons_zero]
          refine Agg.wp_region_later_lit (by kernel_rfl) (by kernel_rfl) ?_
          repeat (first | go_big_quiet_skip | ((first | (with_reducible refine Agg.wpQuiet_loadL HQ.out.all rfl _ rfl rfl ?_) | (with_reducible refine Agg.wpQuiet_loadL HQ2.out.all rfl _ rfl rfl ?_)); simp only [Act.put, List.setIfInBounds_toArray, List.set_cons_succ, List.set_cons_zero]) | go_big_quiet_step ((first | (go_at_call 10; with_reducible exact Agg.Calls.later (HSB.out _)))))
          refine wpQuiet_nil ?_
          intro _ hw'
          obtain ⟨x4, rfl⟩ := hw'
          go_wp2_with fail
          go_ret
          refine ⟨ret_bool (Eq.symm (decide_eq_false fun e => ?_)), Agg.belowThen HW.out (Nat.le_refl _) x4.h⟩
          have h1 := HX.out
          rw [e, HY.out] at h1
          exact of_decide_eq_false HE.out (Option.some.inj h1).symm
        | true =>
          go_wp2_with fail
          try simp only [Act.put, List.setIfInBounds_toArray, List.set_cons_succ, List.set_cons_zero]
          refine Agg.wp_region_later_lit (by kernel_rfl) (by kernel_rfl) ?_
          repeat (first | go_big_quiet_skip | ((first | (with_reducible refine Agg.wpQuiet_loadL HQ.out.all rfl _ rfl rfl ?_) | (with_reducible refine Agg.wpQuiet_loadL HQ2.out.all rfl _ rfl rfl ?_)); simp only [Act.put, List.setIfInBounds_toArray, List.set_cons_succ, List.set_cons_zero]) | go_big_quiet_step ((first | (go_at_call 10; with_reducible exact Agg.Calls.later (HSB.out _)))))
          refine wpQuiet_nil ?_
          intro _ hw'
          obtain ⟨x4, rfl⟩ := hw'
          go_wp2_with fail
          go_roundw
          case rel => exact ⟨k + 1, by omega, by go_num, alikeU_succ HA.out (by rw [HX.out, HY.out, of_decide_eq_true HE.out]), Agg.belowThen HW.out (Nat.le_refl _) x4.h⟩
          case measure => simp [intOf]; omega
      · obtain rfl : k = l.length := by omega
        go_wp2_with fail
        go_ret
        exact ⟨ret_bool (Eq.symm (decide_eq_true (alikeU_all (by simpa using hlm) (by simpa using HA.out)))), HW.out⟩
  · have hd0 : ((l.length : Int) != (m.length : Int)) = true := by simp; omega
    go_enter Try.func12, Try.ntmps12
    go_wp2_with fail
    go_ret
    exact ⟨ret_bool (Eq.symm (decide_eq_false fun e => hlm (by have := congrArg List.length e; simpa using this))), Below.refl _ _⟩
end Go.Proofs.Ytniibcgomnjfgaa
/-! spencekit.BuiltsOf: it answers some number. -/
namespace Go.Proofs.Ytniibcgomnjfgaa
open Go.RowKit Pl Go.Agg
set_option maxRecDepth 100000 in
set_option maxHeartbeats 8000000 in
theorem builtsOf_any (v : Value) (l : List BuV) (hl : l.length ≤ 1048576) (hni : ∀ x ∈ l, x.1.ins.length ≤ 1048576 ∧ x.1.pa.1.2.length ≤ 1048576 ∧ ∀ m ∈ x.1.ins, m.2.1.2.length ≤ 1048576) (w : World) (hs : BusAt w v l) :
    Calls Try.prog 6 #[v, .int .i64 2000] w fun e w' => ∃ n : Nat, e = .returned (.int .i64 (n : Int)) ∧ Below w.heap.size w w' := by
  have HS := Lib.hid hs
  have HNI := Lib.hid hni
  have hlv := fun W => bus_len hs W
  clear hs hni
  go_enter Try.func6, Try.ntmps6
  go_wp2_with fail
  go_loopw [5, 6] (fun n i wr => ∃ k N : Nat, k ≤ l.length ∧ N ≤ 2000000 ∧ n = .int .i64 (N : Int) ∧ i = .int .i64 (k : Int) ∧ Below w.heap.size w wr) (fun _ i _ => l.length - (intOf i).toNat)
  case atStart => exact ⟨0, 0, by omega, by omega, rfl, rfl, Below.refl _ _⟩
  case round =>
    obtain ⟨wr1, rfl⟩ : ∃ y : World, y = wr := ⟨_, rfl⟩
    obtain ⟨k, N, hk, hN, rfl, rfl, hw⟩ := hrel
    have HW := Lib.hid hw
    clear hw
    by_cases hlt : k < l.length
    · have hd : decide ((k : Int) < (l.length : Int)) = true := by simp; omega
      by_cases hN2 : N ≤ 2000
      · have hd2 : decide ((N : Int) ≤ 2000) = true := by simp; omega
        obtain ⟨x, hxk⟩ : ∃ x, l[k]? = some x := ⟨_, List.getElem?_eq_getElem hlt⟩
        obtain ⟨q, hadr, hq, hin⟩ := (HS.out.below HW.out).at_ k x hxk
        obtain ⟨h1, h2, h3⟩ := HNI.out x (List.mem_of_getElem? hxk)
        have HQ := Lib.hid hq
        have HI := Lib.hid (show MdsAt wr1 (ivV x.2) x.1.ins from hin)
        have H3 := Lib.hid h3
        have hle := fun W => mds_len HI.out W
        have hsz := Agg.bytes_size x.1.pa.1.2
        clear hq hxk hin h3
        go_wp2_with (first | (with_reducible refine wpList_loadL HQ.out.pname rfl _ rfl rfl ?_))
        go_loopw [5, 7] (fun n i ws => ∃ j M : Nat, j ≤ x.1.ins.length ∧ M ≤ 2000000 ∧ n = .int .i64 (M : Int) ∧ i = .int .i64 (j : Int) ∧ Below wr1.heap.size wr1 ws) (fun _ i _ => x.1.ins.length - (intOf i).toNat)
        case atStart => exact ⟨0, N + 1 + x.1.pa.1.2.length, by omega, by omega, by go_num, rfl, Below.refl _ _⟩
        case round =>
          obtain ⟨ws1, rfl⟩ : ∃ y : World, y = wr := ⟨_, rfl⟩
          obtain ⟨j, M, hj, hM, rfl, rfl, hws⟩ := hrel
          have HQS := Lib.hid (HQ.out.below hws)
          have HWS := Lib.hid (Agg.belowThen HW.out (Nat.le_refl _) hws)
          have HRS := Lib.hid hws
          clear hws
          by_cases hlj : j < x.1.ins.length
          · have hdj : decide ((j : Int) < (x.1.ins.length : Int)) = true := by simp; omega
            by_cases hM2 : M ≤ 2000
            · have hdm : decide ((M : Int) ≤ 2000) = true := by simp; omega
              obtain ⟨m, hmj⟩ : ∃ m, x.1.ins[j]? = some m := ⟨_, List.getElem?_eq_getElem hlj⟩
              obtain ⟨qm, hadm, hqm⟩ := mds_at (HI.out.below HRS.out) j m hmj
              have h4 := H3.out m (List.mem_of_getElem? hmj)
              have HQM := Lib.hid hqm
              have hszm := Agg.bytes_size m.2.1.2
              clear hqm hmj
              go_wp2_with (first | (with_reducible refine wpList_loadL HQS.out.ins rfl _ rfl rfl ?_) | (with_reducible refine wpList_loadL HQM.out.pname rfl _ rfl rfl ?_))
              go_roundw
              case rel => exact ⟨j + 1, M + 1 + m.2.1.2.length, by omega, by omega, by go_num, by go_num, HRS.out⟩
              case measure => simp [intOf]; omega
            · have hdm : decide ((M : Int) ≤ 2000) = false := by simp; omega
              go_wp2_with (first | (with_reducible refine wpList_loadL HQS.out.ins rfl _ rfl rfl ?_))
              go_roundw
              case rel => exact ⟨k + 1, M, by omega, by omega, rfl, by go_num, HWS.out⟩
              case measure => simp [intOf]; omega
          · have hdj : decide ((j : Int) < (x.1.ins.length : Int)) = false := by simp; omega
            go_wp2_with (first | (with_reducible refine wpList_loadL HQS.out.ins rfl _ rfl rfl ?_))
            go_roundw
            case rel => exact ⟨k + 1, M, by omega, by omega, rfl, by go_num, HWS.out⟩
            case measure => simp [intOf]; omega
      · have hd2 : decide ((N : Int) ≤ 2000) = false := by simp; omega
        go_wp2_with fail
        go_ret
        exact ⟨N, rfl, HW.out⟩
    · obtain rfl : k = l.length := by omega
      go_wp2_with fail
      go_ret
      exact ⟨N, rfl, HW.out⟩
end Go.Proofs.Ytniibcgomnjfgaa
/-! code.Maker: numbers and texts as bytes. -/
namespace Go.Proofs.Ytniibcgomnjfgaa
open Go.RowKit Pl Go.Agg
theorem or128 (k : Nat) : bits .or .u8 ((k : Int) % 256) 128 = ((UInt8.ofNat (k % 128 + 128)).toNat : Int) := by
  have h : ∀ m : Nat, m < 256 → bits .or .u8 (m : Int) 128 = ((UInt8.ofNat (m % 128 + 128)).toNat : Int) := by decide +kernel
  have := h (k % 256) (by omega)
  rw [show k % 256 % 128 = k % 128 by omega] at this
  rw [← this]
  congr 1
set_option maxRecDepth 100000 in
set_option maxHeartbeats 1000000 in
theorem number_any (g n : Nat) (v0 : Value) (b : List UInt8) (w : World) (hn : n ≤ 1099511627776) (hb : b.length ≤ 16777216) (hm : MkV g w v0 b) :
    Calls Try.prog 49 #[.pointer (some ⟨g, 0, none⟩), .int .u64 (n : Int)] w fun e w' => (∃ r, e = .returned r) ∧ ∃ v', MkV g w' v' (b ++ encN n) ∧ MkStep g w w' v0 v' := by
  have HM0 := Lib.hid hm
  clear hm
  go_enter Try.func49, Try.ntmps49
  go_wp2_with fail
  go_loopw [1] (fun x wr => ∃ k : Nat, x = .int .u64 (k : Int) ∧ k ≤ 1099511627776 ∧ ∃ bs v, MkV g wr v bs ∧ bs ++ encN k = b ++ encN n ∧ MkStep g w wr v0 v) (fun x _ => (intOf x).toNat)
  case atStart => exact ⟨n, rfl, hn, b, v0, HM0.out, rfl, MkStep.refl _ _ _⟩
  case round =>
    obtain ⟨w1, rfl⟩ : ∃ w1 : World, w1 = wr := ⟨_, rfl⟩
    obtain ⟨k, rfl, hk, bs, v, hm, heq, hw⟩ := hrel
    have hbs : bs.length ≤ 33554432 := by
      have h1 := congrArg List.length heq
      have h2 := encN_len hn
      simp only [List.length_append] at h1
      omega
    have h63 : bs.length + 1 ≤ 1099511627776 / 8 := by omega
    have hbase : g + 1 ≤ w1.heap.size := hm.blk.lt
    have HM := Lib.hid hm
    have HO := Lib.hid hm.own
    have HEQ := Lib.hid heq
    have HW := Lib.hid hw
    clear hm heq hw
    by_cases hlt : 128 ≤ k
    · have hI : (128 : Int) ≤ (k : Int) := by omega
      have hor := or128 k
      obtain ⟨c, hc⟩ : ∃ c, UInt8.ofNat (k % 128 + 128) = c := ⟨_, rfl⟩
      rw [hc] at hor
      have HE : Hid (bs ++ [c] ++ encN (k / 128) = b ++ encN n) := Lib.hid (by rw [← hc, ← HEQ.out, encN_ge hlt, List.append_assoc]; rfl)
      clear hlt hc
      go_wp2_with (first | (with_reducible refine Agg.wpList_loadL HM.out.load rfl _ rfl rfl ?_) | (refine Agg.wpList_pushO (E := EB) (base := g + 1) rfl rfl 16 rfl _ rfl _ rfl (c) rfl (fun _ => rfl) (by simp) HO.out h63 (by decide) hbase ?_; intro u1 v1 w2 ho1 hp1 hgr1; obtain ⟨w3, hrun, hmk, hst⟩ := MkV.put HM.out ho1 hp1 hgr1; have HMK := Lib.hid hmk; have HST := Lib.hid hst; clear ho1 hp1 hgr1 hmk hst) | (refine Agg.wpList_store rfl rfl 46 _ _ rfl (.pointer (some ⟨g, 0, none⟩)) _ rfl rfl hrun ?_))
      go_roundw
      case rel => exact ⟨k / 128, by go_num, by omega, _, _, HMK.out, HE.out, HW.out.trans HST.out⟩
      case measure => simp [intOf]; omega
    · obtain ⟨c, rfl⟩ : ∃ c : UInt8, k = c.toNat := ⟨UInt8.ofNat k, by simp; omega⟩
      have hI : ¬ (128 : Int) ≤ (c.toNat : Int) := by omega
      have HE : Hid (bs ++ [c] = b ++ encN n) := Lib.hid (by rw [← HEQ.out, encN_lt (by omega), UInt8.ofNat_toNat])
      clear hlt
      go_wp2_with (first | (with_reducible refine Agg.wpList_loadL HM.out.load rfl _ rfl rfl ?_) | (refine Agg.wpList_pushO (E := EB) (base := g + 1) rfl rfl 27 rfl _ rfl _ rfl (c) rfl (fun _ => rfl) (by simp) HO.out h63 (by decide) hbase ?_; intro u1 v1 w2 ho1 hp1 hgr1; obtain ⟨w3, hrun, hmk, hst⟩ := MkV.put HM.out ho1 hp1 hgr1; have HMK := Lib.hid hmk; have HST := Lib.hid hst; clear ho1 hp1 hgr1 hmk hst) | (refine Agg.wpList_store rfl rfl 46 _ _ rfl (.pointer (some ⟨g, 0, none⟩)) _ rfl rfl hrun ?_))
      refine bodyPost_end (results_none rfl _ _ _) rfl ?_
      exact ⟨⟨_, rfl⟩, _, by rw [← HE.out]; exact HMK.out, HW.out.trans HST.out⟩
set_option maxRecDepth 100000 in
set_option maxHeartbeats 1000000 in
theorem allow_any (g n m : Nat) (v : Value) (b : List UInt8) (w : World) (hn : n ≤ m) (hm : m ≤ 1099511627776) (hv : MkV g w v b) :
    Calls Try.prog 48 #[.pointer (some ⟨g, 0, none⟩), .int .i64 (n : Int), .int .i64 (m : Int)] w fun e w' => e = .returned (.bool true) ∧ w' = w := by
  have HB := Lib.hid hv.bad
  clear hv
  have hI : ¬ (m : Int) < (n : Int) := by omega
  go_enter Try.func48, Try.ntmps48
  go_wp2_with (first | (with_reducible refine Agg.wpList_loadL HB.out rfl _ rfl rfl ?_))
  go_ret
  exact ⟨rfl, rfl⟩
set_option maxRecDepth 100000 in
set_option maxHeartbeats 1000000 in
theorem num_any (g : Nat) (v0 x : Value) (ns : List Nat) (b : List UInt8) (w : World) (hall : ∀ n ∈ ns, n ≤ 1099511627776) (hl : ns.length ≤ 16) (hb : b.length ≤ 8388608) (hx : Off EI g w v0 x ns) (hm : MkV g w v0 b) :
    Calls Try.prog 32 #[.pointer (some ⟨g, 0, none⟩), x] w fun e w' => e = .returned (.pointer (some ⟨g, 0, none⟩)) ∧ ∃ v', MkV g w' v' (b ++ ns.flatMap encN) ∧ MkStep g w w' v0 v' := by
  have HM0 := Lib.hid hm
  have hlx := fun W => ints_len hx.slice W
  have HX := Lib.hid hx
  clear hm hx
  go_enter Try.func32, Try.ntmps32
  go_wp2_with fail
  go_loopw [11] (fun i wr => ∃ k : Nat, k ≤ ns.length ∧ i = .int .i64 (k : Int) ∧ ∃ v, MkV g wr v (b ++ (ns.take k).flatMap encN) ∧ MkStep g w wr v0 v) (fun i _ => ns.length - (intOf i).toNat)
  case atStart => exact ⟨0, by omega, rfl, v0, by simpa using HM0.out, MkStep.refl _ _ _⟩
  case round =>
    obtain ⟨w1, rfl⟩ : ∃ w1 : World, w1 = wr := ⟨_, rfl⟩
    obtain ⟨k, hk, rfl, v, hm, hst⟩ := hrel
    have HM := Lib.hid hm
    have HS := Lib.hid hst
    clear hm hst
    by_cases hlt : k < ns.length
    · obtain ⟨y, hyk⟩ : ∃ y, ns[k]? = some y := ⟨_, List.getElem?_eq_getElem hlt⟩
      have hy : y ≤ 1099511627776 := hall y (List.mem_of_getElem? hyk)
      obtain ⟨p, hadr, hld⟩ := int_at (HX.out.step HS.out).slice k y hyk
      have HL := Lib.hid hld
      have hbl : (b ++ (ns.take k).flatMap encN).length ≤ 16777216 := by
        have : ∀ l : List Nat, (∀ n ∈ l, n ≤ 1099511627776) → (l.flatMap encN).length ≤ l.length * 6 := by
          intro l
          induction l with
          | nil => intro _; simp
          | cons a l ih =>
            intro h
            have h1 := encN_len (h a (by simp))
            have h2 := ih fun n hn => h n (by simp [hn])
            simp only [List.flatMap_cons, List.length_append, List.length_cons]
            omega
        have h1 := this (ns.take k) fun n hn => hall n (List.mem_of_mem_take hn)
        simp only [List.length_append]
        have : (ns.take k).length ≤ 16 := by simp; omega
        omega
      have hfl : b ++ (ns.take k).flatMap encN ++ encN y = b ++ (ns.take (k + 1)).flatMap encN := by rw [List.take_add_one, hyk]; simp
      have HF := Lib.hid hfl
      have hbn : ((y : Int) % 18446744073709551616) = (y : Int) := by omega
      clear hld hyk hfl
      go_wp2_with (first | (with_reducible refine Agg.wpList_loadL HL.out rfl _ rfl rfl ?_))
      refine (allow_any g y 1099511627776 v _ w1 hy (by omega) HM.out).mono ?_
      rintro e w2 ⟨rfl, rfl⟩
      go_wp2_with fail
      refine (number_any g y v _ _ hy hbl HM.out).mono ?_
      rintro e w3 ⟨⟨r, rfl⟩, v3, hm3, hs3⟩
      rw [HF.out] at hm3
      have HM3 := Lib.hid hm3
      have HS3 := Lib.hid hs3
      clear hm3 hs3
      go_wp2_with fail
      go_roundw
      case rel => exact ⟨k + 1, by omega, by go_num, v3, HM3.out, HS.out.trans HS3.out⟩
      case measure => simp [intOf]; omega
    · obtain rfl : k = ns.length := by omega
      have HMT := Lib.hid (show MkV g w1 v (b ++ ns.flatMap encN) by have := HM.out; rwa [List.take_length] at this)
      go_wp2_with fail
      go_ret
      exact ⟨rfl, v, HMT.out, HS.out⟩
set_option maxRecDepth 100000 in
set_option maxHeartbeats 1000000 in
theorem raw_any (g : Nat) (v x : Value) (l b : List UInt8) (w : World) (hb : b.length ≤ 16777216) (hl : l.length ≤ 16777216) (hx : SliceOf EB w x l) (hm : MkV g w v b) :
    Calls Try.prog 33 #[.pointer (some ⟨g, 0, none⟩), x] w fun e w' => e = .returned (.pointer (some ⟨g, 0, none⟩)) ∧ ∃ v', MkV g w' v' (b ++ l) ∧ MkStep g w w' v v' := by
  have HM := Lib.hid hm
  have HX := Lib.hid hx
  have HO := Lib.hid hm.own
  have h63 : b.length + l.length ≤ 1099511627776 / 8 := by omega
  have hbase : g + 1 ≤ w.heap.size := hm.blk.lt
  clear hm hx
  go_enter Try.func33, Try.ntmps33
  go_wp2_with (first | (with_reducible refine Agg.wpList_loadL HM.out.load rfl _ rfl rfl ?_) | (refine Agg.wpList_appendO (E := EB) (base := g + 1) rfl _ _ rfl x rfl rfl l HO.out HX.out h63 (by decide) hbase ?_; intro v1 w2 ho1 hp1 hgr1; obtain ⟨w3, hrun, hmk, hst⟩ := MkV.put HM.out ho1 hp1 hgr1; have HMK := Lib.hid hmk; have HST := Lib.hid hst; clear ho1 hp1 hgr1 hmk hst) | (refine Agg.wpList_store rfl rfl 46 _ _ rfl (.pointer (some ⟨g, 0, none⟩)) _ rfl rfl hrun ?_))
  go_ret
  exact ⟨rfl, v1, HMK.out, HST.out⟩
end Go.Proofs.Ytniibcgomnjfgaa
/-! bytes.Clone; code.Maker: Text, Done. -/
namespace Go.Proofs.Ytniibcgomnjfgaa
open Go.RowKit Pl Go.Agg
theorem nil_is (n c : Nat) (W : World) : (binOp .eql 46 (.slice none n c) (.slice none 0 0)).run Try.prog W = .ok (.bool true) W := by kernel_rfl
theorem nil_not (a : Addr) (n c : Nat) (W : World) : (binOp .eql 46 (.slice (some a) n c) (.slice none 0 0)).run Try.prog W = .ok (.bool false) W := by kernel_rfl
set_option maxRecDepth 100000 in
set_option maxHeartbeats 1000000 in
theorem bclone_any (x : Value) (l : List UInt8) (w : World) (hl : l.length ≤ 33554432) (hx : SliceOf EB w x l) :
    Calls Try.prog 50 #[x] w fun e w' => ∃ v', e = .returned v' ∧ Own EB w.heap.size w' v' l ∧ Below w.heap.size w w' := by
  have HX := Lib.hid hx
  have h63 : ([] : List UInt8).length + l.length ≤ 1099511627776 / 8 := by simp; omega
  obtain ⟨q, c, rfl⟩ := hx.form
  cases q with
  | none =>
    have hl0 : l = [] := by
      rcases hx with ⟨_, _, _, h⟩ | ⟨a, cap, e, _⟩
      · exact h
      · injection e with e; cases e
    subst hl0
    have hnl := nil_is 0 c
    clear hx
    go_enter Try.func50, Try.ntmps50
    go_wp2_with fail
    go_ret
    exact ⟨_, rfl, Own.nil _ _ _, Below.refl _ _⟩
  | some a =>
    have hnl := nil_not a l.length c
    clear hx
    go_enter Try.func50, Try.ntmps50
    go_wp2_with (first | (refine Agg.wpList_slice0 (base := w.heap.size) EB rfl rfl (Nat.le_refl _) ?_; intro v1 w1 ho1 hx1 _; have HO1 := Lib.hid ho1; have HX1 := Lib.hid (SliceOf.below HX.out hx1); have hsz := hx1.size; clear ho1) | (refine Agg.wpList_appendO (E := EB) (base := w.heap.size) rfl _ _ rfl (.slice (some a) l.length c) rfl rfl l HO1.out HX1.out h63 (by decide) hsz ?_; intro v2 w2 ho2 hp2 _; have HO2 := Lib.hid ho2; have HP2 := Lib.hid (hx1.trans (hp2.below w.heap.size (Nat.le_refl _) hsz)); clear ho2 hp2))
    go_ret
    exact ⟨_, rfl, by simpa using HO2.out, HP2.out⟩
set_option maxRecDepth 100000 in
set_option maxHeartbeats 1000000 in
theorem done_any (g : Nat) (v : Value) (b : List UInt8) (w : World) (hb : b.length ≤ 33554432) (hm : MkV g w v b) :
    Calls Try.prog 34 #[.pointer (some ⟨g, 0, none⟩)] w fun e w' => ∃ v', e = .returned (.tuple #[v', .int .i64 0]) ∧ Own EB w.heap.size w' v' b ∧ Below w.heap.size w w' := by
  have HM := Lib.hid hm
  clear hm
  go_enter Try.func34, Try.ntmps34
  go_wp2_with (first | (with_reducible refine Agg.wpList_loadL HM.out.load rfl _ rfl rfl ?_) | (with_reducible refine Agg.wpList_loadL HM.out.bad rfl _ rfl rfl ?_))
  refine (bclone_any v b w hb HM.out.own.slice).mono ?_
  rintro e w1 ⟨v1, rfl, ho, hx⟩
  have HO := Lib.hid ho
  clear ho
  go_wp2_with fail
  go_ret2
  exact ⟨_, rfl, HO.out, hx⟩
set_option maxRecDepth 100000 in
set_option maxHeartbeats 1000000 in
theorem text_any (g : Nat) (v x : Value) (s : SV) (l b : List UInt8) (w : World) (hb : b.length ≤ 4194304) (hl : l.length ≤ 1048576) (hx : Off EBB g w v x [s]) (hs : Off EB g w v s.1 l) (hm : MkV g w v b) :
    Calls Try.prog 47 #[.pointer (some ⟨g, 0, none⟩), x] w fun e w' => e = .returned (.pointer (some ⟨g, 0, none⟩)) ∧ ∃ v', MkV g w' v' (b ++ (encN l.length ++ l)) ∧ MkStep g w w' v v' := by
  have HM := Lib.hid hm
  have HS := Lib.hid hs
  have hlx := fun W => bb_len hx.slice W
  have hls := fun W => bytes_len hs.slice W
  obtain ⟨q, hadr0, hld⟩ := bb_at hx.slice 0 s rfl
  have hadr : ∀ W, (Instr.indexAt 105 x (.int .i64 0)).run Try.prog W = .ok (.pointer (some q)) W := hadr0
  clear hadr0
  have HL := Lib.hid hld
  have hlt := fun k hk => hm.lt k hk
  have HLT := Lib.hid hlt
  have hg := hm.blk.lt
  clear hm hs hx hld hlt
  go_enter Try.func47, Try.ntmps47
  go_wp2_with fail
  go_loopw [9] (fun i wr => (i = .int .i64 0 ∧ wr = w) ∨ (i = .int .i64 1 ∧ ∃ v', MkV g wr v' (b ++ (encN l.length ++ l)) ∧ MkStep g w wr v v')) (fun i _ => 1 - (intOf i).toNat)
  case atStart => exact .inl ⟨rfl, rfl⟩
  case round =>
    obtain ⟨w1, rfl⟩ : ∃ w1 : World, w1 = wr := ⟨_, rfl⟩
    rcases hrel with ⟨rfl, rfl⟩ | ⟨rfl, v', hm', hs'⟩
    · go_wp2_with (first | (with_reducible refine Agg.wpList_loadL HL.out rfl _ rfl rfl ?_))
      refine (allow_any g l.length 1048576 v b _ hl (by omega) HM.out).mono ?_
      rintro e w2 ⟨rfl, rfl⟩
      go_wp2_with (first | (refine Agg.wpList_slice1 (E := EI) (base := w2.heap.size) rfl _ rfl l.length rfl (Nat.le_refl _) ?_; intro xs w3 hxs hx3; have HXS := Lib.hid hxs; have HX3 := Lib.hid hx3; clear hxs hx3))
      have hx3 := HX3.out
      have hsz := hx3.size
      have hoff : Off EI g w3 v xs [l.length] := Off.behind (w0 := w2) HXS.out.slice (fun k hk => (HXS.out.block k hk).1) hg HLT.out
      refine (num_any g v xs [l.length] b w3 (by simp; omega) (by simp) (by omega) hoff (HM.out.below hx3)).mono ?_
      rintro e w4 ⟨rfl, v4, hm4, hs4⟩
      have hs24 : MkStep g w2 w4 v v4 := (MkStep.of_below hx3).trans hs4
      have hoff4 := HS.out.step hs24
      have he6 := encN_len (n := l.length) (by omega)
      have HM4 := Lib.hid hm4
      have HS4 := Lib.hid hs24
      clear hs4 hs24 hoff
      have hfl : b ++ [l.length].flatMap encN = b ++ encN l.length := by simp
      go_wp2_with fail
      refine (raw_any g v4 s.1 l _ w4 (by simp only [hfl, List.length_append]; omega) (by omega) hoff4.slice HM4.out).mono ?_
      rintro e w5 ⟨rfl, v5, hm5, hs5⟩
      have HM5 := Lib.hid (show MkV g w5 v5 (b ++ (encN l.length ++ l)) by rw [hfl, List.append_assoc] at hm5; exact hm5)
      have HS5 := Lib.hid (HS4.out.trans hs5)
      clear hm5 hs5 hm4 hoff4 hfl
      go_wp2_with fail
      go_roundw
      case rel => exact .inr ⟨by go_num, v5, HM5.out, HS5.out⟩
      case measure => simp [intOf]
    · have HM' := Lib.hid hm'
      have HS' := Lib.hid hs'
      clear hm' hs'
      go_wp2_with fail
      go_ret
      exact ⟨rfl, v', HM'.out, HS'.out⟩
end Go.Proofs.Ytniibcgomnjfgaa
