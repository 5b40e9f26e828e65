/- spencekit.SameDrv, DrvOf -/
import Derived.Test.YtgekpghjlhcpkaaCAL
namespace Go.Proofs.Ytgekpghjlhcpkaa
open Go.RowKit Pl Go.Agg
theorem drv_eq (c d : Drv) : decide (c = d) = ((c.1 == d.1) && (decide (c.2.1 = d.2.1) && decide (c.2.2 = d.2.2))) := by
  rw [Bool.eq_iff_iff]
  simp [Prod.ext_iff]
set_option maxRecDepth 100000 in
set_option maxHeartbeats 2000000 in
theorem sameDrv_any (v u : Value) (c d : Drv) (hc1 : c.2.1.length ≤ 1048576) (hd1 : d.2.1.length ≤ 1048576) (hc2 : c.2.2.length ≤ 1048576) (hd2 : d.2.2.length ≤ 1048576) (w : World) (hc : DrvAt w v c) (hd : DrvAt w u d) :
    Calls Try.prog 39 #[v, u] w fun e w' => e = .returned (.bool (decide (c = d))) ∧ Below w.heap.size w w' := by
  obtain ⟨vi, vr, rfl, hvi, hvr⟩ := hc
  obtain ⟨ui, ur, rfl, hui, hur⟩ := hd
  have hta := Agg.bytes_toList c.1
  have htb := Agg.bytes_toList d.1
  have H1 := Lib.hid hvi
  have H2 := Lib.hid hvr
  have H3 := Lib.hid hui
  have H4 := Lib.hid hur
  have HE := Lib.hid (drv_eq c d)
  clear hvi hvr hui hur
  cases hn : c.1 == d.1 with
  | false =>
    have HR : Hid (decide (c = d) = false) := Lib.hid (by rw [HE.out, hn]; rfl)
    go_enter Try.func39, Try.ntmps39
    go_wp2_with (first | (with_reducible refine Agg.wpList_box rfl 25 _ rfl (#[.string ⟨c.1.toArray⟩, vi, vr]) rfl ?_; intro g w1 hb hx1 hg) | (with_reducible refine Agg.wpList_box rfl 25 _ rfl (#[.string ⟨d.1.toArray⟩, ui, ur]) rfl ?_; intro g2 w2 hb2 hx2 hg2) | (with_reducible refine Agg.wpList_loadL ((DrvL.of_blk hb).below hx2).name (by kernel_rfl) _ rfl rfl ?_) | (with_reducible refine Agg.wpList_loadL (DrvL.of_blk hb2).name (by kernel_rfl) _ rfl rfl ?_) | (with_reducible refine Agg.wpList_loadL ((DrvL.of_blk hb).below hx2).inp (by kernel_rfl) _ rfl rfl ?_) | (with_reducible refine Agg.wpList_loadL (DrvL.of_blk hb2).inp (by kernel_rfl) _ rfl rfl ?_))

    go_ret
    exact ⟨ret_bool HR.out.symm, Agg.belowThen hx1 (Nat.le_refl _) hx2⟩
  | true =>
    have HN := Lib.hid hn
    go_enter Try.func39, Try.ntmps39
    go_wp2_with (first | (with_reducible refine Agg.wpList_box rfl 25 _ rfl (#[.string ⟨c.1.toArray⟩, vi, vr]) rfl ?_; intro g w1 hb hx1 hg) | (with_reducible refine Agg.wpList_box rfl 25 _ rfl (#[.string ⟨d.1.toArray⟩, ui, ur]) rfl ?_; intro g2 w2 hb2 hx2 hg2) | (with_reducible refine Agg.wpList_loadL ((DrvL.of_blk hb).below hx2).name (by kernel_rfl) _ rfl rfl ?_) | (with_reducible refine Agg.wpList_loadL (DrvL.of_blk hb2).name (by kernel_rfl) _ rfl rfl ?_) | (with_reducible refine Agg.wpList_loadL ((DrvL.of_blk hb).below hx2).inp (by kernel_rfl) _ rfl rfl ?_) | (with_reducible refine Agg.wpList_loadL (DrvL.of_blk hb2).inp (by kernel_rfl) _ rfl rfl ?_))

    have hw2 := Agg.belowThen hx1 (Nat.le_refl _) hx2
    refine (sameNams_any _ _ _ _ hc1 hd1 _ (H1.out.below hw2) (H3.out.below hw2)).mono ?_
    rintro e w3 ⟨rfl, hx⟩
    have HD1 := Lib.hid (((DrvL.of_blk hb).below hx2).below hx)
    have HD2 := Lib.hid ((DrvL.of_blk hb2).below hx)
    have hw3 := Agg.belowThen hw2 (Nat.le_refl _) hx
    clear hx hb hb2 hx1 hx2 hg hg2 hw2
    cases hi : decide (c.2.1 = d.2.1) with
    | false =>
      have HR : Hid (decide (c = d) = false) := Lib.hid (by rw [HE.out, HN.out, hi]; rfl)
      clear hi
      go_wp2_with fail
      go_ret
      exact ⟨ret_bool HR.out.symm, hw3⟩
    | true =>
      have HR : Hid (decide (c = d) = decide (c.2.2 = d.2.2)) := Lib.hid (by rw [HE.out, HN.out, hi]; rfl)
      clear hi
      go_wp2_with (first | (with_reducible refine Agg.wpList_loadL HD1.out.rcp (by kernel_rfl) _ rfl rfl ?_) | (with_reducible refine Agg.wpList_loadL HD2.out.rcp (by kernel_rfl) _ rfl rfl ?_))

      refine (sameBytes_any _ _ _ _ hc2 hd2 _ (H2.out.below hw3) (H4.out.below hw3)).mono ?_
      rintro e w4 ⟨rfl, hx⟩
      have hw4 := Agg.belowThen hw3 (Nat.le_refl _) hx
      clear hx
      generalize decide (c.2.2 = d.2.2) = b at *
      go_wp2_with fail
      go_ret
      exact ⟨ret_bool HR.out.symm, hw4⟩
/-! DrvOf -/
theorem ret_nat {a b : Nat} (h : a = b) : Ending.returned (.int .i64 (a : Int)) = .returned (.int .i64 (b : Int)) := by rw [h]
def nmSz (x : Nam) : Nat := 1 + x.1.length + x.2.1.1.2.length
def drvGo (m : Nat) : Nat → List Nam → Nat
  | n, [] => n
  | n, x :: l => if n ≤ m then drvGo m (n + nmSz x) l else n
def drvN (m : Nat) (d : Drv) : Nat := drvGo m (1 + d.1.length + d.2.2.length) d.2.1
def namsSz (l : List Nam) : Nat := (l.map nmSz).sum
theorem drop_at {α : Type} {l : List α} {k : Nat} {x : α} (h : l[k]? = some x) : l.drop k = x :: l.drop (k + 1) := by
  obtain ⟨hk, rfl⟩ := List.getElem?_eq_some_iff.1 h
  exact List.drop_eq_getElem_cons hk
theorem drvGo_le (m : Nat) (l : List Nam) (n : Nat) : drvGo m n l ≤ n + namsSz l := by
  induction l generalizing n with
  | nil => simp [drvGo]
  | cons x l ih =>
    unfold drvGo
    split
    · have := ih (n + nmSz x)
      simp only [namsSz, List.map_cons, List.sum_cons] at this ⊢; omega
    · simp only [namsSz, List.map_cons, List.sum_cons]; omega
set_option maxRecDepth 100000 in
set_option maxHeartbeats 2000000 in
theorem drvOf_any (v : Value) (d : Drv) (m : Nat) (hm : m ≤ 1048576) (h1 : d.1.length ≤ 1048576) (h2 : d.2.2.length ≤ 1048576) (h3 : d.2.1.length ≤ 1048576) (h4 : namsSz d.2.1 ≤ 4194304) (w : World) (hd : DrvAt w v d) :
    Calls Try.prog 6 #[v, .int .i64 (m : Int)] w fun e w' => e = .returned (.int .i64 (drvN m d : Int)) ∧ Below w.heap.size w w' := by
  obtain ⟨vi, vr, rfl, hvi, hvr⟩ := hd
  have hli := nams_len hvi
  have hlr := bytes_len hvr
  have hls := str_len' d.1
  have HVI := Lib.hid hvi
  clear hvi hvr
  go_enter Try.func6, Try.ntmps6
  go_wp2_with (first | (with_reducible refine Agg.wpList_box rfl 25 _ rfl (#[.string ⟨d.1.toArray⟩, vi, vr]) rfl ?_; intro g w1 hb hx1 hg) | (with_reducible refine Agg.wpList_loadL (DrvL.of_blk hb).name (by kernel_rfl) _ rfl rfl ?_) | (with_reducible refine Agg.wpList_loadL (DrvL.of_blk hb).rcp (by kernel_rfl) _ rfl rfl ?_))

  have HD := Lib.hid (DrvL.of_blk hb)
  have HVI1 := Lib.hid (HVI.out.below hx1)
  have hw1 := hx1
  clear hb hx1 hg hls hlr
  obtain ⟨N0, hN0⟩ : ∃ n : Nat, n = 1 + d.1.length + d.2.2.length := ⟨_, rfl⟩
  have HN0 := Lib.hid hN0
  clear hN0
  go_loopw [5, 6] (fun n i wr => ∃ (k N : Nat), k ≤ d.2.1.length ∧ i = .int .i64 k ∧ n = .int .i64 (N : Int) ∧ drvGo m N (d.2.1.drop k) = drvN m d ∧ N + namsSz (d.2.1.drop k) ≤ 8388608 ∧ Below w1.heap.size w1 wr) (fun _ i _ => d.2.1.length - (intOf i).toNat)
  case atStart => exact ⟨0, N0, by omega, rfl, by rw [HN0.out]; simp, by rw [HN0.out]; rfl, by rw [HN0.out]; simp; omega, Below.refl _ _⟩
  case round =>
    obtain ⟨w2, rfl⟩ : ∃ w2 : World, w2 = wr := ⟨_, rfl⟩
    obtain ⟨k, N, hk, rfl, rfl, hgo, hbd, hx⟩ := hrel
    have HD2 := Lib.hid (HD.out.below hx)
    have hNb : N ≤ 8388608 := by omega
    by_cases hlt : k < d.2.1.length ∧ N ≤ m
    · obtain ⟨hlt, hNm⟩ := hlt
      obtain ⟨x, hxk⟩ : ∃ x, d.2.1[k]? = some x := ⟨_, List.getElem?_eq_getElem hlt⟩
      rw [drop_at hxk] at hgo hbd
      have hgo2 : drvGo m (N + nmSz x) (d.2.1.drop (k + 1)) = drvN m d := by rw [← hgo, drvGo, if_pos hNm]
      have hbd2 : N + nmSz x + namsSz (d.2.1.drop (k + 1)) ≤ 8388608 := by simp only [namsSz, List.map_cons, List.sum_cons] at hbd ⊢; omega
      have hbb : x.1.length + x.2.1.1.2.length ≤ 8388608 := by unfold nmSz at hbd2; omega
      have HG := Lib.hid hgo2
      have HBD := Lib.hid hbd2
      clear hgo hbd hgo2 hbd2
      obtain ⟨p, hadr, hld⟩ := nam_at (HVI1.out.below hx) k x hxk
      have HL := Lib.hid hld
      have hls1 := str_len' x.1
      have hls2 := str_len' x.2.1.1.2
      have hd1 : decide (k < d.2.1.length) = true := by simpa using hlt
      have hd2 : decide (N ≤ m) = true := by simpa using hNm
      clear hld hxk
      go_wp2_with (first | (with_reducible refine Agg.wpList_loadL HD2.out.inp (by kernel_rfl) _ rfl rfl ?_))

      try simp only [Act.put, List.setIfInBounds_toArray, List.set_cons_succ, List.set_cons_zero]
      refine Agg.wp_region_later_lit (by kernel_rfl) (by kernel_rfl) ?_
      repeat (first | go_big_quiet_skip | ((first | (with_reducible refine Agg.wpQuiet_loadL HD2.out.inp (by kernel_rfl) _ rfl rfl ?_) | (with_reducible refine Agg.wpQuiet_loadL HL.out.name (by kernel_rfl) _ rfl rfl ?_) | (with_reducible refine Agg.wpQuiet_loadL HL.out.sname (by kernel_rfl) _ rfl rfl ?_)); simp only [Act.put, List.setIfInBounds_toArray, List.set_cons_succ, List.set_cons_zero]) | go_big_quiet_step (fail))
      refine wpQuiet_nil ?_
      intro _ hw'
      obtain ⟨x1, rfl⟩ := hw'
      go_wp2_with fail
      go_roundw
      case rel => exact ⟨k + 1, N + nmSz x, by omega, by go_num, by unfold nmSz; go_num, HG.out, HBD.out, Agg.belowThen hx (Nat.le_refl _) x1.h⟩
      case measure => simp [intOf]; omega
    · have hres : drvN m d = N := by
        rw [← hgo]
        by_cases hk2 : k < d.2.1.length
        · obtain ⟨x, hxk⟩ : ∃ x, d.2.1[k]? = some x := ⟨_, List.getElem?_eq_getElem hk2⟩
          rw [drop_at hxk, drvGo, if_neg (fun h => hlt ⟨hk2, h⟩)]
        · rw [List.drop_eq_nil_of_le (by omega)]; rfl
      have HR := Lib.hid hres
      have hw2 := Agg.belowThen hw1 (Nat.le_refl _) hx
      clear hres hgo
      by_cases hk2 : k < d.2.1.length
      · have hNm : ¬ N ≤ m := fun h => hlt ⟨hk2, h⟩
        have hd1 : decide (k < d.2.1.length) = true := by simpa using hk2
        have hd2 : decide (N ≤ m) = false := by simpa using hNm
        clear hlt
        go_wp2_with (first | (with_reducible refine Agg.wpList_loadL HD2.out.inp (by kernel_rfl) _ rfl rfl ?_))

        go_ret
        exact ⟨ret_nat HR.out.symm, hw2⟩
      · have hd1 : decide (k < d.2.1.length) = false := by simpa using hk2
        clear hlt
        go_wp2_with (first | (with_reducible refine Agg.wpList_loadL HD2.out.inp (by kernel_rfl) _ rfl rfl ?_))

        go_ret
        exact ⟨ret_nat HR.out.symm, hw2⟩
end Go.Proofs.Ytgekpghjlhcpkaa
