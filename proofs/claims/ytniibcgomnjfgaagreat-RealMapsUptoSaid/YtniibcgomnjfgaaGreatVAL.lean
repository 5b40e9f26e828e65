/- Rows of builts; markBuilt. (Several texts in one.) -/
import Derived.Test.YtniibcgomnjfgaaGreatVAJ
import Derived.Test.YtniibcgomnjfgaaGreatVAI
/-! spencekit.SameBuilt, SameBuilts, BuiltsOf, Pick. -/
namespace Go.Proofs.YtniibcgomnjfgaaGreat
open Go.RowKit Pl Go.Agg
theorem bu_dec (a b : Bu) : decide (a = b) = (decide (a.cl = b.cl) && (decide (a.ky = b.ky) && (decide (a.pa = b.pa) && ((a.by_ == b.by_) && decide (a.ins = b.ins))))) := by
  rw [Bool.eq_iff_iff]
  cases a; cases b
  simp
set_option maxRecDepth 100000 in
set_option maxHeartbeats 8000000 in
theorem sameBu_any (a b : BuV) (hna : a.1.ins.length ≤ 1048576) (w : World) (ha : InsAt w a) (hb : InsAt w b) :
    Calls Tryz.prog 52 #[.agg (bC a), .agg (bC b)] w fun e w' => e = .returned (.bool (decide (a.1 = b.1))) ∧ Below w.heap.size w w' := by
  have HIA := Lib.hid (show MdsAt w (ivV a.2) a.1.ins from ha)
  have HIB := Lib.hid (show MdsAt w (ivV b.2) b.1.ins from hb)
  obtain ⟨e1, h1⟩ : ∃ e, decide (a.1.cl = b.1.cl) = e := ⟨_, rfl⟩
  obtain ⟨e2, h2⟩ : ∃ e, decide (a.1.ky = b.1.ky) = e := ⟨_, rfl⟩
  obtain ⟨e3, h3⟩ : ∃ e, decide (a.1.pa = b.1.pa) = e := ⟨_, rfl⟩
  obtain ⟨e4, h4⟩ : ∃ e, (a.1.by_ == b.1.by_) = e := ⟨_, rfl⟩
  obtain ⟨e5, h5⟩ : ∃ e, decide (a.1.ins = b.1.ins) = e := ⟨_, rfl⟩
  have HR := Lib.hid (show decide (a.1 = b.1) = (e1 && (e2 && (e3 && (e4 && e5)))) by rw [bu_dec, h1, h2, h3, h4, h5])
  have H1 := Lib.hid (fun W => (show (binOp .eql 24 (.agg (hC a.1.cl.1)) (.agg (hC b.1.cl.1))).run Tryz.prog W = .ok (.bool e1) W by rw [eqlHB, h1]))
  have H2 := Lib.hid (fun W => (show (binOp .eql 24 (.agg (hC a.1.ky.1)) (.agg (hC b.1.ky.1))).run Tryz.prog W = .ok (.bool e2) W by rw [eqlHB, h2]))
  have H3 := Lib.hid (fun W => (show (binOp .eql 26 (.agg (pC a.1.pa.1.1 a.1.pa.1.2)) (.agg (pC b.1.pa.1.1 b.1.pa.1.2))).run Tryz.prog W = .ok (.bool e3) W by rw [eqlPB, h3]))
  have H5 := Lib.hid h5
  clear ha hb h1 h2 h3 h5
  go_enter Tryz.func52, Tryz.ntmps52
  cases e1 with
  | false =>
    go_wp2_with (first | (with_reducible refine wpList_box rfl 29 _ rfl (bC a) rfl ?_; intro g1 w1 hb1 hx1 hg1; have HA1 := Lib.hid (BuG.of_blk hb1); have HX1 := Lib.hid hx1; clear hb1 hx1 hg1) | (with_reducible refine wpList_box rfl 29 _ rfl (bC b) rfl ?_; intro g2 w2 hb2 hx2 hg2; have HB := Lib.hid (BuG.of_blk hb2); have HA := Lib.hid (HA1.out.below hx2); have HX2 := Lib.hid (Agg.belowThen HX1.out (Nat.le_refl _) hx2); clear hb2 hx2 hg2) | (with_reducible refine wpList_loadL HA.out.cls rfl _ rfl rfl ?_) | (with_reducible refine wpList_loadL HB.out.cls rfl _ rfl rfl ?_) | (with_reducible refine wpList_loadL HA.out.key rfl _ rfl rfl ?_) | (with_reducible refine wpList_loadL HB.out.key rfl _ rfl rfl ?_) | (with_reducible refine wpList_loadL HA.out.path rfl _ rfl rfl ?_) | (with_reducible refine wpList_loadL HB.out.path rfl _ rfl rfl ?_) | (with_reducible refine wpList_loadL HA.out.by_ rfl _ rfl rfl ?_) | (with_reducible refine wpList_loadL HB.out.by_ rfl _ rfl rfl ?_) | (with_reducible refine wpList_loadL HA.out.ins rfl _ rfl rfl ?_) | (with_reducible refine wpList_loadL HB.out.ins rfl _ rfl rfl ?_) | (with_reducible refine wpList_eqlw 24 24 _ _ rfl rfl (hC a.1.cl.1) (hC b.1.cl.1) rfl rfl _ (by kernel_rfl) H1.out ?_) | (with_reducible refine wpList_eqlw 24 24 _ _ rfl rfl (hC a.1.ky.1) (hC b.1.ky.1) rfl rfl _ (by kernel_rfl) H2.out ?_) | (with_reducible refine wpList_eqlw 26 26 _ _ rfl rfl (pC a.1.pa.1.1 a.1.pa.1.2) (pC b.1.pa.1.1 b.1.pa.1.2) rfl rfl _ (by kernel_rfl) H3.out ?_))
    go_ret
    exact ⟨ret_bool (by rw [HR.out]; rfl), HX2.out⟩
  | true =>
  cases e2 with
  | false =>
    go_wp2_with (first | (with_reducible refine wpList_box rfl 29 _ rfl (bC a) rfl ?_; intro g1 w1 hb1 hx1 hg1; have HA1 := Lib.hid (BuG.of_blk hb1); have HX1 := Lib.hid hx1; clear hb1 hx1 hg1) | (with_reducible refine wpList_box rfl 29 _ rfl (bC b) rfl ?_; intro g2 w2 hb2 hx2 hg2; have HB := Lib.hid (BuG.of_blk hb2); have HA := Lib.hid (HA1.out.below hx2); have HX2 := Lib.hid (Agg.belowThen HX1.out (Nat.le_refl _) hx2); clear hb2 hx2 hg2) | (with_reducible refine wpList_loadL HA.out.cls rfl _ rfl rfl ?_) | (with_reducible refine wpList_loadL HB.out.cls rfl _ rfl rfl ?_) | (with_reducible refine wpList_loadL HA.out.key rfl _ rfl rfl ?_) | (with_reducible refine wpList_loadL HB.out.key rfl _ rfl rfl ?_) | (with_reducible refine wpList_loadL HA.out.path rfl _ rfl rfl ?_) | (with_reducible refine wpList_loadL HB.out.path rfl _ rfl rfl ?_) | (with_reducible refine wpList_loadL HA.out.by_ rfl _ rfl rfl ?_) | (with_reducible refine wpList_loadL HB.out.by_ rfl _ rfl rfl ?_) | (with_reducible refine wpList_loadL HA.out.ins rfl _ rfl rfl ?_) | (with_reducible refine wpList_loadL HB.out.ins rfl _ rfl rfl ?_) | (with_reducible refine wpList_eqlw 24 24 _ _ rfl rfl (hC a.1.cl.1) (hC b.1.cl.1) rfl rfl _ (by kernel_rfl) H1.out ?_) | (with_reducible refine wpList_eqlw 24 24 _ _ rfl rfl (hC a.1.ky.1) (hC b.1.ky.1) rfl rfl _ (by kernel_rfl) H2.out ?_) | (with_reducible refine wpList_eqlw 26 26 _ _ rfl rfl (pC a.1.pa.1.1 a.1.pa.1.2) (pC b.1.pa.1.1 b.1.pa.1.2) rfl rfl _ (by kernel_rfl) H3.out ?_))
    go_ret
    exact ⟨ret_bool (by rw [HR.out]; rfl), HX2.out⟩
  | true =>
  cases e3 with
  | false =>
    go_wp2_with (first | (with_reducible refine wpList_box rfl 29 _ rfl (bC a) rfl ?_; intro g1 w1 hb1 hx1 hg1; have HA1 := Lib.hid (BuG.of_blk hb1); have HX1 := Lib.hid hx1; clear hb1 hx1 hg1) | (with_reducible refine wpList_box rfl 29 _ rfl (bC b) rfl ?_; intro g2 w2 hb2 hx2 hg2; have HB := Lib.hid (BuG.of_blk hb2); have HA := Lib.hid (HA1.out.below hx2); have HX2 := Lib.hid (Agg.belowThen HX1.out (Nat.le_refl _) hx2); clear hb2 hx2 hg2) | (with_reducible refine wpList_loadL HA.out.cls rfl _ rfl rfl ?_) | (with_reducible refine wpList_loadL HB.out.cls rfl _ rfl rfl ?_) | (with_reducible refine wpList_loadL HA.out.key rfl _ rfl rfl ?_) | (with_reducible refine wpList_loadL HB.out.key rfl _ rfl rfl ?_) | (with_reducible refine wpList_loadL HA.out.path rfl _ rfl rfl ?_) | (with_reducible refine wpList_loadL HB.out.path rfl _ rfl rfl ?_) | (with_reducible refine wpList_loadL HA.out.by_ rfl _ rfl rfl ?_) | (with_reducible refine wpList_loadL HB.out.by_ rfl _ rfl rfl ?_) | (with_reducible refine wpList_loadL HA.out.ins rfl _ rfl rfl ?_) | (with_reducible refine wpList_loadL HB.out.ins rfl _ rfl rfl ?_) | (with_reducible refine wpList_eqlw 24 24 _ _ rfl rfl (hC a.1.cl.1) (hC b.1.cl.1) rfl rfl _ (by kernel_rfl) H1.out ?_) | (with_reducible refine wpList_eqlw 24 24 _ _ rfl rfl (hC a.1.ky.1) (hC b.1.ky.1) rfl rfl _ (by kernel_rfl) H2.out ?_) | (with_reducible refine wpList_eqlw 26 26 _ _ rfl rfl (pC a.1.pa.1.1 a.1.pa.1.2) (pC b.1.pa.1.1 b.1.pa.1.2) rfl rfl _ (by kernel_rfl) H3.out ?_))
    go_ret
    exact ⟨ret_bool (by rw [HR.out]; rfl), HX2.out⟩
  | true =>
  cases e4 with
  | false =>
    go_wp2_with (first | (with_reducible refine wpList_box rfl 29 _ rfl (bC a) rfl ?_; intro g1 w1 hb1 hx1 hg1; have HA1 := Lib.hid (BuG.of_blk hb1); have HX1 := Lib.hid hx1; clear hb1 hx1 hg1) | (with_reducible refine wpList_box rfl 29 _ rfl (bC b) rfl ?_; intro g2 w2 hb2 hx2 hg2; have HB := Lib.hid (BuG.of_blk hb2); have HA := Lib.hid (HA1.out.below hx2); have HX2 := Lib.hid (Agg.belowThen HX1.out (Nat.le_refl _) hx2); clear hb2 hx2 hg2) | (with_reducible refine wpList_loadL HA.out.cls rfl _ rfl rfl ?_) | (with_reducible refine wpList_loadL HB.out.cls rfl _ rfl rfl ?_) | (with_reducible refine wpList_loadL HA.out.key rfl _ rfl rfl ?_) | (with_reducible refine wpList_loadL HB.out.key rfl _ rfl rfl ?_) | (with_reducible refine wpList_loadL HA.out.path rfl _ rfl rfl ?_) | (with_reducible refine wpList_loadL HB.out.path rfl _ rfl rfl ?_) | (with_reducible refine wpList_loadL HA.out.by_ rfl _ rfl rfl ?_) | (with_reducible refine wpList_loadL HB.out.by_ rfl _ rfl rfl ?_) | (with_reducible refine wpList_loadL HA.out.ins rfl _ rfl rfl ?_) | (with_reducible refine wpList_loadL HB.out.ins rfl _ rfl rfl ?_) | (with_reducible refine wpList_eqlw 24 24 _ _ rfl rfl (hC a.1.cl.1) (hC b.1.cl.1) rfl rfl _ (by kernel_rfl) H1.out ?_) | (with_reducible refine wpList_eqlw 24 24 _ _ rfl rfl (hC a.1.ky.1) (hC b.1.ky.1) rfl rfl _ (by kernel_rfl) H2.out ?_) | (with_reducible refine wpList_eqlw 26 26 _ _ rfl rfl (pC a.1.pa.1.1 a.1.pa.1.2) (pC b.1.pa.1.1 b.1.pa.1.2) rfl rfl _ (by kernel_rfl) H3.out ?_))
    go_ret
    exact ⟨ret_bool (by rw [HR.out]; rfl), HX2.out⟩
  | true =>
  go_wp2_with (first | (with_reducible refine wpList_box rfl 29 _ rfl (bC a) rfl ?_; intro g1 w1 hb1 hx1 hg1; have HA1 := Lib.hid (BuG.of_blk hb1); have HX1 := Lib.hid hx1; clear hb1 hx1 hg1) | (with_reducible refine wpList_box rfl 29 _ rfl (bC b) rfl ?_; intro g2 w2 hb2 hx2 hg2; have HB := Lib.hid (BuG.of_blk hb2); have HA := Lib.hid (HA1.out.below hx2); have HX2 := Lib.hid (Agg.belowThen HX1.out (Nat.le_refl _) hx2); clear hb2 hx2 hg2) | (with_reducible refine wpList_loadL HA.out.cls rfl _ rfl rfl ?_) | (with_reducible refine wpList_loadL HB.out.cls rfl _ rfl rfl ?_) | (with_reducible refine wpList_loadL HA.out.key rfl _ rfl rfl ?_) | (with_reducible refine wpList_loadL HB.out.key rfl _ rfl rfl ?_) | (with_reducible refine wpList_loadL HA.out.path rfl _ rfl rfl ?_) | (with_reducible refine wpList_loadL HB.out.path rfl _ rfl rfl ?_) | (with_reducible refine wpList_loadL HA.out.by_ rfl _ rfl rfl ?_) | (with_reducible refine wpList_loadL HB.out.by_ rfl _ rfl rfl ?_) | (with_reducible refine wpList_loadL HA.out.ins rfl _ rfl rfl ?_) | (with_reducible refine wpList_loadL HB.out.ins rfl _ rfl rfl ?_) | (with_reducible refine wpList_eqlw 24 24 _ _ rfl rfl (hC a.1.cl.1) (hC b.1.cl.1) rfl rfl _ (by kernel_rfl) H1.out ?_) | (with_reducible refine wpList_eqlw 24 24 _ _ rfl rfl (hC a.1.ky.1) (hC b.1.ky.1) rfl rfl _ (by kernel_rfl) H2.out ?_) | (with_reducible refine wpList_eqlw 26 26 _ _ rfl rfl (pC a.1.pa.1.1 a.1.pa.1.2) (pC b.1.pa.1.1 b.1.pa.1.2) rfl rfl _ (by kernel_rfl) H3.out ?_))
  refine (sameMades_any _ _ a.1.ins b.1.ins hna w2 (HIA.out.below HX2.out) (HIB.out.below HX2.out)).mono ?_
  rintro e w3 ⟨rfl, hx3⟩
  rw [H5.out]
  have HX3 := Lib.hid (Agg.belowThen HX2.out (Nat.le_refl _) hx3)
  clear hx3
  go_wp2_with fail
  go_ret
  exact ⟨ret_bool (by rw [HR.out]; rfl), HX3.out⟩
set_option maxRecDepth 100000 in
set_option maxHeartbeats 4000000 in
theorem sameBus_any (v u : Value) (l m : List BuV) (hl : l.length ≤ 1048576) (hni : ∀ x ∈ l, x.1.ins.length ≤ 1048576) (w : World) (hs : BusAt w v l) (ht : BusAt w u m) :
    Calls Tryz.prog 18 #[v, u] w fun e w' => e = .returned (.bool (decide (l.map (·.1) = m.map (·.1)))) ∧ Below w.heap.size w w' := by
  have HS := Lib.hid hs
  have HT := Lib.hid ht
  have HNI := Lib.hid hni
  have hlv := fun W => bus_len hs W
  have hlu := fun W => bus_len ht W
  clear hs ht hni
  by_cases hlm : l.length = m.length
  · have hd0 : ((l.length : Int) != (m.length : Int)) = false := by simp; omega
    go_enter Tryz.func18, Tryz.ntmps18
    go_wp2_with fail
    go_loopw [5] (fun i wr => ∃ k : Nat, k ≤ l.length ∧ i = .int .i64 (k : Int) ∧ AlikeU (l.map (·.1)) (m.map (·.1)) k ∧ Below w.heap.size w wr) (fun i _ => l.length - (intOf i).toNat)
    case atStart => exact ⟨0, by omega, rfl, fun j hj => absurd hj (by omega), Below.refl _ _⟩
    case round =>
      obtain ⟨wr1, rfl⟩ : ∃ y : World, y = wr := ⟨_, rfl⟩
      obtain ⟨k, hk, rfl, ha, hw⟩ := hrel
      have HA := Lib.hid ha
      have HW := Lib.hid hw
      clear ha hw
      by_cases hlt : k < l.length
      · have hd : decide ((k : Int) < (l.length : Int)) = true := by simp; omega
        obtain ⟨x, hxk⟩ : ∃ x, l[k]? = some x := ⟨_, List.getElem?_eq_getElem hlt⟩
        obtain ⟨y, hyk⟩ : ∃ y, m[k]? = some y := ⟨_, List.getElem?_eq_getElem (by omega)⟩
        obtain ⟨q, hadr, hq, hin⟩ := (HS.out.below HW.out).at_ k x hxk
        obtain ⟨q2, hadr2, hq2, hin2⟩ := (HT.out.below HW.out).at_ k y hyk
        have hnx := HNI.out x (List.mem_of_getElem? hxk)
        have HQ := Lib.hid hq
        have HQ2 := Lib.hid hq2
        have HX := Lib.hid (show (l.map (·.1))[k]? = some x.1 by rw [List.getElem?_map, hxk]; rfl)
        have HY := Lib.hid (show (m.map (·.1))[k]? = some y.1 by rw [List.getElem?_map, hyk]; rfl)
        obtain ⟨e, he⟩ : ∃ e, decide (x.1 = y.1) = e := ⟨_, rfl⟩
        have HSB := Lib.hid (fun z : Later wr1 => (show Calls Tryz.prog 52 #[.agg (bC x), .agg (bC y)] z.w fun t w' => t = .returned (.bool e) ∧ Below z.w.heap.size z.w w' by have := sameBu_any x y hnx z.w (hin.below z.h) (hin2.below z.h); rwa [he] at this))
        have HE := Lib.hid he
        clear hq hq2 hxk hyk he hin hin2
        cases e with
        | false =>
          go_wp2_with fail
          try simp only [Act.put, List.setIfInBounds_toArray, List.set_cons_succ, List.set_cons_zero]
          refine Agg.wp_region_later_lit (by kernel_rfl) (by kernel_rfl) ?_
          repeat (first | go_big_quiet_skip | ((first | (with_reducible refine Agg.wpQuiet_loadL HQ.out.all rfl _ rfl rfl ?_) | (with_reducible refine Agg.wpQuiet_loadL HQ2.out.all rfl _ rfl rfl ?_)); simp only [Act.put, List.setIfInBounds_toArray, List.set_cons_succ, List.set_cons_zero]) | go_big_quiet_step ((first | (go_at_call 52; with_reducible exact Agg.Calls.later (HSB.out _)))))
          refine wpQuiet_nil ?_
          intro _ hw'
          obtain ⟨x4, rfl⟩ := hw'
          go_wp2_with fail
          go_ret
          refine ⟨ret_bool (Eq.symm (decide_eq_false fun e => ?_)), Agg.belowThen HW.out (Nat.le_refl _) x4.h⟩
          have h1 := HX.out
          rw [e, HY.out] at h1
          exact of_decide_eq_false HE.out (Option.some.inj h1).symm
        | true =>
          go_wp2_with fail
          try simp only [Act.put, List.setIfInBounds_toArray, List.set_cons_succ, List.set_cons_zero]
          refine Agg.wp_region_later_lit (by kernel_rfl) (by kernel_rfl) ?_
          repeat (first | go_big_quiet_skip | ((first | (with_reducible refine Agg.wpQuiet_loadL HQ.out.all rfl _ rfl rfl ?_) | (with_reducible refine Agg.wpQuiet_loadL HQ2.out.all rfl _ rfl rfl ?_)); simp only [Act.put, List.setIfInBounds_toArray, List.set_cons_succ, List.set_cons_zero]) | go_big_quiet_step ((first | (go_at_call 52; with_reducible exact Agg.Calls.later (HSB.out _)))))
          refine wpQuiet_nil ?_
          intro _ hw'
          obtain ⟨x4, rfl⟩ := hw'
          go_wp2_with fail
          go_roundw
          case rel => exact ⟨k + 1, by omega, by go_num, alikeU_succ HA.out (by rw [HX.out, HY.out, of_decide_eq_true HE.out]), Agg.belowThen HW.out (Nat.le_refl _) x4.h⟩
          case measure => simp [intOf]; omega
      · obtain rfl : k = l.length := by omega
        go_wp2_with fail
        go_ret
        exact ⟨ret_bool (Eq.symm (decide_eq_true (alikeU_all (by simpa using hlm) (by simpa using HA.out)))), HW.out⟩
  · have hd0 : ((l.length : Int) != (m.length : Int)) = true := by simp; omega
    go_enter Tryz.func18, Tryz.ntmps18
    go_wp2_with fail
    go_ret
    exact ⟨ret_bool (Eq.symm (decide_eq_false fun e => hlm (by have := congrArg List.length e; simpa using this))), Below.refl _ _⟩
end Go.Proofs.YtniibcgomnjfgaaGreat
/-! Rows of builts; markBuilt. -/
namespace Go.Proofs.YtniibcgomnjfgaaGreat
open Go.RowKit Pl Go.Agg
def EUU : Elem Tryz.prog SV where
  ty := 22
  st := 48
  n := 1
  bytes := 24
  val := fun v => v.1
  zero := .slice none 0 0
  pos := by omega
  small := by omega
  size := fun v => by rw [sv_cells]; rfl
  one := fun v u hu => by
    rw [sv_cells] at hu
    obtain rfl : u = v.1 := by simpa using hu
    exact sv_one v
  zsize := rfl
  slice := by kernel_rfl
  info := info_of (by kernel_rfl) (by kernel_rfl) (by kernel_rfl)
  load := fun w a v hp h => LoadsL.of_cell (by have := h 0 v.1 (by rw [sv_cells]; rfl); rwa [show a.add 0 = a from rfl] at this) (by kernel_rfl : Tryz.prog.underlying 22 = some (.slice 29)) rfl
theorem xxlen_U {w : World} {v : Value} {l : List SV} (h : SliceOf EUU w v l) (W : World) : (Builtin.len_ #[48] 3 #[v]).run Tryz.prog W = .ok (.int .i64 (l.length : Int)) W := h.len W
theorem xlen_U {w : World} {v : Value} {l : List BuV} (h : SliceOf EBu w v l) (W : World) : (Builtin.len_ #[22] 3 #[v]).run Tryz.prog W = .ok (.int .i64 (l.length : Int)) W := h.len W
theorem rlen_U {w : World} {v : Value} {l : List BuV} (h : RoomN EBu w v l) (W : World) : (Builtin.len_ #[22] 3 #[v]).run Tryz.prog W = .ok (.int .i64 (l.length : Int)) W := h.slice.len W
theorem xxat_U {w : World} {v : Value} {l : List SV} (h : SliceOf EUU w v l) (k : Nat) (x : SV) (hx : l[k]? = some x) :
    ∃ p : Addr, (∀ W, (Instr.indexAt 48 v (.int .i64 (k : Int))).run Tryz.prog W = .ok (.pointer (some p)) W) ∧ LoadsL Tryz.prog w 22 (some p) x.1 := by
  obtain ⟨p, h1, _, _, h4⟩ := h.at_ k x hx
  exact ⟨p, h1, h4⟩
theorem xat_U {w : World} {v : Value} {l : List BuV} (h : SliceOf EBu w v l) (k : Nat) (x : BuV) (hx : l[k]? = some x) :
    ∃ p : Addr, (∀ W, (Instr.indexAt 22 v (.int .i64 (k : Int))).run Tryz.prog W = .ok (.pointer (some p)) W) ∧ LoadsL Tryz.prog w 29 (some p) (EBu.val x) := by
  obtain ⟨p, h1, _, _, h4⟩ := h.at_ k x hx
  exact ⟨p, h1, h4⟩
/-- the mark of a place -/
def mkM (k i : Nat) : Int := ((1000003 * (k + 7) + i : Nat) : Int)
def buS (m : Int) : BuV := (⟨⟨z20, rfl⟩, ⟨z20, rfl⟩, ⟨(z20, []), rfl⟩, m, []⟩, none, 0, 0)
def mkU (k i : Nat) : BuV := buS (mkM k i)
theorem build_built3 (m : Int) (w : World) : (Instr.build 29 #[(3, .int .i64 m)]).run Tryz.prog w = .ok (.agg (bC (buS m))) w := by kernel_rfl
set_option maxRecDepth 100000 in
set_option maxHeartbeats 1000000 in
theorem markBuilt_any (k i : Nat) (hk : k ≤ 16777216) (hi : i ≤ 16777216) (w : World) : Calls Tryz.prog 32 #[.int .i64 (k : Int), .int .i64 (i : Int)] w fun e w' => e = .returned (.agg (bC (buS (mkM (k) (i))))) ∧ Below w.heap.size w w' := by
  obtain ⟨m, hs⟩ : ∃ m, mkM k i = m := ⟨_, rfl⟩
  have HM := Lib.hid (fun W => (show Calls Tryz.prog 62 #[.int .i64 (k : Int), .int .i64 (i : Int)] W fun e w' => e = .returned (.int .i64 m) ∧ W = w' by have := mark_any k i hk hi W; rwa [show ((1000003 * (k + 7) + i : Nat) : Int) = m from hs] at this))
  rw [hs]
  clear hs
  go_enter Tryz.func32, Tryz.ntmps32
  go_wp2_with (first | (with_reducible refine Agg.wpList_zero rfl 29 rfl (bC (zB, none, 0, 0)) bC_zero ?_; intro g w1 hb1 hx1 hg1))
  refine (HM.out w1).mono ?_
  rintro e w2 ⟨rfl, rfl⟩
  go_wp2_with (first | (with_reducible refine Agg.wpList_build1 29 3 _ rfl rfl (.int .i64 m) rfl (.agg (bC (buS m))) (build_built3 m) ?_) | (with_reducible refine Agg.wpList_put rfl rfl 29 _ _ rfl g (bC (buS m)) (bC (zB, none, 0, 0)) rfl rfl hb1 (bC_info _) (by rw [bC_size, bC_size]) (bC_one _) ?_; intro w3 hb3 hx3 _ _))
  exact Agg.post_row rfl rfl hb3 bC_under rfl (bC_info _) rfl ⟨rfl, hx1.trans (hx3.mono hg1)⟩
theorem markSum_U (k a b : Nat) (hk : k ≤ 16777216) (hi : a + b ≤ 16777216) (w : World) : Calls Tryz.prog 32 #[.int .i64 (k : Int), .int .i64 ((a : Int) + (b : Int))] w fun e w' => e = .returned (.agg (bC (buS (mkM (k) (a + b))))) ∧ Below w.heap.size w w' := by
  rw [show ((a : Int) + (b : Int)) = ((a + b : Nat) : Int) by simp]
  exact markBuilt_any k (a + b) hk hi w
theorem markSumL_U (a b i : Nat) (hk : a + b ≤ 16777216) (hi : i ≤ 16777216) (w : World) : Calls Tryz.prog 32 #[.int .i64 ((a : Int) + (b : Int)), .int .i64 (i : Int)] w fun e w' => e = .returned (.agg (bC (buS (mkM (a + b) (i))))) ∧ Below w.heap.size w w' := by
  rw [show ((a : Int) + (b : Int)) = ((a + b : Nat) : Int) by simp]
  exact markBuilt_any (a + b) i hk hi w
theorem eqM_U (k i : Nat) (w : World) : Calls Tryz.prog 52 #[.agg (bC (buS (mkM (k) (i)))), .agg (bC (buS (mkM (k) (i))))] w fun e w' => e = .returned (.bool true) ∧ Below w.heap.size w w' := by
  have h := sameBu_any (buS (mkM k i)) (buS (mkM k i)) (by simp [buS]) w (SliceOf.nil _ _ _) (SliceOf.nil _ _ _)
  simpa using h
end Go.Proofs.YtniibcgomnjfgaaGreat
