/- A law that returns true and keeps all that was there: its row's proof; slices, bytes as arguments. (Several texts in one.) -/
import Derived.Test.YtpnolgliklmnmaaGreatGAI
import Derived.Test.YtpnolgliklmnmaaGreatGBE
import Derived.Test.YtpnolgliklmnmaaGreatGBK
import Derived.Test.YtpnolgliklmnmaaGreatGBN
import Derived.Test.YtpnolgliklmnmaaGreatShelf
import Derived.JoinedCond
import Derived.OpenShut
import Derived.Shelf.Vars
import Derived.Test.YtpnolgliklmnmaaGreatGAD
import Derived.Test.YtpnolgliklmnmaaGreatRows
import Derived.Carry
import Derived.Deep.Slices
/-! spencelaw28.WireRequests. -/
namespace Go.Proofs.YtpnolgliklmnmaaGreat
open Go.RowKit Pl Go.Agg
theorem rqOut_bs (b : List UInt8) : (rqOut b).bs.length ≤ 4096 := by
  unfold rqOut
  cases h : getRq b with
  | none => simp [Rq.zero]
  | some q =>
    obtain ⟨hr, _⟩ := put_get h
    exact (right_bounds (ph := q.ph) (pn := q.pn) (ch := q.ch) (k := q.k) (u := q.u) (wh := q.wh) (nm := q.nm) hr).2.2.2.2
theorem rqBytes_len {q : Rq} (hc : q.ch.length = 20) : (rqBytes q).length ≤ 5000 := by
  unfold rqBytes
  split
  · rename_i h; exact putRq_len h hc
  · simp
theorem lent_cell {base : Nat} {w : World} {u : Value} {l : List UInt8} (h : Lent EB (marks 1 12) base w u l) : ∃ p n c, u = .slice p n c := by
  obtain ⟨g, cap, rfl, _⟩ := h
  exact ⟨_, _, _, rfl⟩
set_option maxRecDepth 100000 in
set_option maxHeartbeats 8000000 in
theorem wireRequests_any (k u wh : Int) (nm : List UInt8) (vb : Value) (bs ph pn ch : List UInt8) (hl : ph.length = 20) (hc : ch.length = 20) (v : Value) (b : List UInt8) (m0 : Int)
    (h1 : nm.length ≤ 1048576) (h2 : bs.length ≤ 1048576) (h3 : pn.length ≤ 1048576) (h4 : b.length ≤ 1048576) (w : World) (hm : w.cell? ⟨0, 0, none⟩ = some (.int .i64 m0)) (hb : BytesAt w vb bs) (hv : BytesAt w v b) :
    Calls Tryz.prog 3 #[.agg (rqG k u wh nm vb ph pn ch), v] w fun x w' => x = .returned (.bool true) ∧ Below w.heap.size w w' := by
  have HM := Lib.hid hm
  have hbm := block_lt_of_cell hm
  have hlb := fun W => bytes_len hb W
  have hlv := fun W => bytes_len hv W
  have hln := str_len' nm
  have hlp := str_len' pn
  have VB_w := Lib.hid hb
  have V_w := Lib.hid hv
  have HOL := Lib.hid (rqOut_hash b)
  have HOB := Lib.hid (rqOut_bs b)
  have HBL := Lib.hid (rqBytes_len (q := (⟨k, u, wh, nm, bs, ph, pn, ch⟩ : Rq)) hc)
  clear hm hb hv
  by_cases hsum : 6000 < bs.length + nm.length + pn.length + b.length
  · have hI : (6000 : Int) < (bs.length : Int) + (nm.length : Int) + (pn.length : Int) + (b.length : Int) := by omega
    go_enter Tryz.func3, Tryz.ntmps3
    go_wp2_with (first | (with_reducible refine Agg.wpList_box rfl 29 _ rfl (rqG k u wh nm vb ph pn ch) rfl ?_; intro gq w1 hb1 hx hg1; have GQ_1 := Lib.hid hb1; have VB_1 := Lib.hid (VB_w.out.below hx); have V_1 := Lib.hid (V_w.out.below hx); have K_1 := Lib.hid hx; have s_w_1 := hx.size; have hlq1 := hb1.lt; clear hb1 hx hg1) | (with_reducible refine Agg.wpList_loadL (RqG.of_blk GQ_1.out hl hc).bytes rfl _ rfl rfl ?_) | (with_reducible refine Agg.wpList_loadL (RqG.of_blk GQ_1.out hl hc).name rfl _ rfl rfl ?_) | (with_reducible refine Agg.wpList_loadL (RqG.pname2 GQ_1.out hl) rfl _ rfl rfl ?_))
    refine (awake28_any _).mono ?_
    rintro x w3 ⟨rfl, hx⟩
    have K_3 := Lib.hid (Agg.belowThen K_1.out (Nat.le_refl _) hx)
    clear hx
    go_wp2_with fail
    go_ret
    exact ⟨rfl, K_3.out⟩
  have hI : ¬ (6000 : Int) < (bs.length : Int) + (nm.length : Int) + (pn.length : Int) + (b.length : Int) := by omega
  go_enter Tryz.func3, Tryz.ntmps3
  go_wp2_with (first | (with_reducible refine Agg.wpList_box rfl 29 _ rfl (rqG k u wh nm vb ph pn ch) rfl ?_; intro gq w1 hb1 hx hg1; have GQ_1 := Lib.hid hb1; have VB_1 := Lib.hid (VB_w.out.below hx); have V_1 := Lib.hid (V_w.out.below hx); have K_1 := Lib.hid hx; have s_w_1 := hx.size; have hlq1 := hb1.lt; clear hb1 hx hg1) | (with_reducible refine Agg.wpList_loadL (RqG.of_blk GQ_1.out hl hc).bytes rfl _ rfl rfl ?_) | (with_reducible refine Agg.wpList_loadL (RqG.of_blk GQ_1.out hl hc).name rfl _ rfl rfl ?_) | (with_reducible refine Agg.wpList_loadL (RqG.pname2 GQ_1.out hl) rfl _ rfl rfl ?_) | (with_reducible refine Agg.wpList_loadL (RqG.of_blk GQ_1.out hl hc).all rfl _ rfl rfl ?_))
  clear hI hlb hln hlp hlv
  refine (lentReq_any k u wh nm vb bs ph pn ch hl hc h2 _ VB_1.out).mono ?_
  rintro x w2 ⟨ub, rfl, hx, hlu⟩
  have UB_2 := Lib.hid hlu
  clear hlu
  have GQ_2 := Lib.hid (GQ_1.out.below hx)
  have VB_2 := Lib.hid (VB_1.out.below hx)
  have V_2 := Lib.hid (V_1.out.below hx)
  have K_2 := Lib.hid (Agg.belowThen K_1.out (Nat.le_refl _) hx)
  have s_1_2 := hx.size
  clear hx
  go_wp2_with fail
  refine (lentBytes_any v b h4 _ V_2.out).mono ?_
  rintro x w3 ⟨vi, rfl, hx, hlu⟩
  have VI_3 := Lib.hid hlu
  have UB_3 := Lib.hid (lent_below UB_2.out hx)
  clear hlu
  have GQ_3 := Lib.hid (GQ_2.out.below hx)
  have VB_3 := Lib.hid (VB_2.out.below hx)
  have V_3 := Lib.hid (V_2.out.below hx)
  have K_3 := Lib.hid (Agg.belowThen K_2.out (Nat.le_refl _) hx)
  have s_2_3 := hx.size
  clear hx
  go_wp2_with (first | (refine Agg.wpList_new rfl rfl rfl 29 5 37 rfl rfl rfl (by decide) (rqG 0 0 0 [] (.slice none 0 0) z20 [] z20) (rqG k u wh nm ub ph pn ch) rq_zero (by rw [rqG_size z20_length z20_length, rqG_size hl hc]) (rq_info hl hc) ((rq_one (sliceOf_lent UB_3.out) _ _ _ _ _ _ _)) rfl (by first | (simp; done) | simp [Act.put]) ?_; intro gx w4 hb hx hg; have GX_4 := Lib.hid hb; have hlx4 := hb.lt; have hgx4 := hg; have UB_4 := Lib.hid (lent_below UB_3.out hx); have VI_4 := Lib.hid (lent_below VI_3.out hx); have GQ_4 := Lib.hid (GQ_3.out.below hx); have VB_4 := Lib.hid (VB_3.out.below hx); have V_4 := Lib.hid (V_3.out.below hx); have K_4 := Lib.hid (Agg.belowThen K_3.out (Nat.le_refl _) hx); have K4_4 := Lib.hid (Below.refl w4.heap.size w4); have s_3_4 := hx.size; clear hb hx) | (with_reducible refine Agg.wpList_loadL (RqG.of_blk GX_4.out hl hc).all rfl _ rfl rfl ?_))
  obtain ⟨cd, hcd⟩ : ∃ x, rqCode (⟨k, u, wh, nm, bs, ph, pn, ch⟩ : Rq) = x := ⟨_, rfl⟩
  obtain ⟨ab, hab⟩ : ∃ x, rqBytes (⟨k, u, wh, nm, bs, ph, pn, ch⟩ : Rq) = x := ⟨_, rfl⟩
  have hblen : ab.length ≤ 5000 := by rw [← hab]; exact HBL.out
  refine (rput_of ⟨hcd, hab⟩ ub hl hc _ (sliceOf_lent UB_4.out)).mono ?_
  rintro x w5 ⟨va, rfl, ho, hx⟩
  obtain ⟨sa, rfl⟩ := own_sv ho
  have A_5 := Lib.hid ho
  have ra := own_in ho
  clear ho
  have UB_5 := Lib.hid (lent_below UB_4.out hx)
  have VI_5 := Lib.hid (lent_below VI_4.out hx)
  have GQ_5 := Lib.hid (GQ_4.out.below hx)
  have VB_5 := Lib.hid (VB_4.out.below hx)
  have V_5 := Lib.hid (V_4.out.below hx)
  have GX_5 := Lib.hid (GX_4.out.below hx)
  have K_5 := Lib.hid (Agg.belowThen K_4.out (Nat.le_refl _) hx)
  have K4_5 := Lib.hid (Agg.belowThen K4_4.out (Nat.le_refl _) hx)
  have s_4_5 := hx.size
  clear hx
  go_wp2_with (first | (with_reducible refine Agg.wpList_loadL (RqG.of_blk GQ_5.out hl hc).all rfl _ rfl rfl ?_))
  have hput := refPut_any k u wh nm vb bs ph pn ch hl hc h1 h3 _ VB_5.out
  rw [hcd, hab] at hput
  refine hput.mono ?_
  rintro x w6 ⟨vc, rfl, ho, hx⟩
  have C_6 := Lib.hid ho.slice
  clear ho hput
  have UB_6 := Lib.hid (lent_below UB_5.out hx)
  have VI_6 := Lib.hid (lent_below VI_5.out hx)
  have GQ_6 := Lib.hid (GQ_5.out.below hx)
  have VB_6 := Lib.hid (VB_5.out.below hx)
  have V_6 := Lib.hid (V_5.out.below hx)
  have GX_6 := Lib.hid (GX_5.out.below hx)
  have A_6 := Lib.hid (A_5.out.below hx)
  have K_6 := Lib.hid (Agg.belowThen K_5.out (Nat.le_refl _) hx)
  have K4_6 := Lib.hid (Agg.belowThen K4_5.out (Nat.le_refl _) hx)
  have s_5_6 := hx.size
  clear hx
  go_wp2_with (first | (with_reducible refine Agg.wpList_loadL (RqG.of_blk GX_6.out hl hc).all rfl _ rfl rfl ?_))
  refine (rput_of ⟨hcd, hab⟩ ub hl hc _ (sliceOf_lent UB_6.out)).mono ?_
  rintro x w7 ⟨va2, rfl, ho, hx⟩
  obtain ⟨sb, rfl⟩ := own_sv ho
  have B_7 := Lib.hid ho
  have rb := own_in ho
  clear ho
  have UB_7 := Lib.hid (lent_below UB_6.out hx)
  have VI_7 := Lib.hid (lent_below VI_6.out hx)
  have GQ_7 := Lib.hid (GQ_6.out.below hx)
  have VB_7 := Lib.hid (VB_6.out.below hx)
  have V_7 := Lib.hid (V_6.out.below hx)
  have GX_7 := Lib.hid (GX_6.out.below hx)
  have A_7 := Lib.hid (A_6.out.below hx)
  have C_7 := Lib.hid (C_6.out.below hx)
  have K_7 := Lib.hid (Agg.belowThen K_6.out (Nat.le_refl _) hx)
  have K4_7 := Lib.hid (Agg.belowThen K4_6.out (Nat.le_refl _) hx)
  have s_6_7 := hx.size
  clear hx
  go_wp2_with fail
  refine (rget_any vi b m0 _ (by omega) ((K_7.out.cell hbm).trans HM.out) (sliceOf_lent VI_7.out)).mono ?_
  rintro x w8 ⟨vd, rfl, ho, hx⟩
  obtain ⟨sd, rfl⟩ := own_sv ho
  have D_8 := Lib.hid ho
  have rd := own_in ho
  clear ho
  have UB_8 := Lib.hid (lent_below UB_7.out hx)
  have VI_8 := Lib.hid (lent_below VI_7.out hx)
  have GQ_8 := Lib.hid (GQ_7.out.below hx)
  have VB_8 := Lib.hid (VB_7.out.below hx)
  have V_8 := Lib.hid (V_7.out.below hx)
  have GX_8 := Lib.hid (GX_7.out.below hx)
  have A_8 := Lib.hid (A_7.out.below hx)
  have C_8 := Lib.hid (C_7.out.below hx)
  have B_8 := Lib.hid (B_7.out.below hx)
  have K_8 := Lib.hid (Agg.belowThen K_7.out (Nat.le_refl _) hx)
  have K4_8 := Lib.hid (Agg.belowThen K4_7.out (Nat.le_refl _) hx)
  have s_7_8 := hx.size
  clear hx
  go_wp2_with (first | (refine Agg.wpList_new rfl rfl rfl 29 13 58 rfl rfl rfl (by decide) (rqG 0 0 0 [] (.slice none 0 0) z20 [] z20) (rqG (rqOut b).k (rqOut b).u (rqOut b).wh (rqOut b).nm sd.1 (rqOut b).ph (rqOut b).pn (rqOut b).ch) rq_zero (by rw [rqG_size z20_length z20_length, rqG_size HOL.out.1 HOL.out.2]) (rq_info HOL.out.1 HOL.out.2) ((rq_one D_8.out.slice _ _ _ _ _ _ _)) rfl (by first | (simp; done) | simp [Act.put]) ?_; intro gd w9 hb hx hg; have GD_9 := Lib.hid hb; have hlgd := hb.lt; have UB_9 := Lib.hid (lent_below UB_8.out hx); have VI_9 := Lib.hid (lent_below VI_8.out hx); have GQ_9 := Lib.hid (GQ_8.out.below hx); have VB_9 := Lib.hid (VB_8.out.below hx); have V_9 := Lib.hid (V_8.out.below hx); have GX_9 := Lib.hid (GX_8.out.below hx); have A_9 := Lib.hid (A_8.out.below hx); have C_9 := Lib.hid (C_8.out.below hx); have B_9 := Lib.hid (B_8.out.below hx); have D_9 := Lib.hid (D_8.out.below hx); have K_9 := Lib.hid (Agg.belowThen K_8.out (Nat.le_refl _) hx); have K4_9 := Lib.hid (Agg.belowThen K4_8.out (Nat.le_refl _) hx); have s_8_9 := hx.size; clear hb hx))
  refine (refGet_any v b _ (by omega) V_9.out).mono ?_
  rintro x w10 ⟨vh, rfl, ho, hx⟩
  have H_10 := Lib.hid ho.slice
  clear ho
  have UB_10 := Lib.hid (lent_below UB_9.out hx)
  have VI_10 := Lib.hid (lent_below VI_9.out hx)
  have GQ_10 := Lib.hid (GQ_9.out.below hx)
  have VB_10 := Lib.hid (VB_9.out.below hx)
  have V_10 := Lib.hid (V_9.out.below hx)
  have GX_10 := Lib.hid (GX_9.out.below hx)
  have A_10 := Lib.hid (A_9.out.below hx)
  have C_10 := Lib.hid (C_9.out.below hx)
  have B_10 := Lib.hid (B_9.out.below hx)
  have D_10 := Lib.hid (D_9.out.below hx)
  have GD_10 := Lib.hid (GD_9.out.below hx)
  have K_10 := Lib.hid (Agg.belowThen K_9.out (Nat.le_refl _) hx)
  have K4_10 := Lib.hid (Agg.belowThen K4_9.out (Nat.le_refl _) hx)
  have s_9_10 := hx.size
  clear hx
  go_wp2_with (first | (refine Agg.wpList_new rfl rfl rfl 29 15 63 rfl rfl rfl (by decide) (rqG 0 0 0 [] (.slice none 0 0) z20 [] z20) (rqG (rqOut b).k (rqOut b).u (rqOut b).wh (rqOut b).nm vh (rqOut b).ph (rqOut b).pn (rqOut b).ch) rq_zero (by rw [rqG_size z20_length z20_length, rqG_size HOL.out.1 HOL.out.2]) (rq_info HOL.out.1 HOL.out.2) ((rq_one H_10.out _ _ _ _ _ _ _)) rfl (by first | (simp; done) | simp [Act.put]) ?_; intro gh w11 hb hx hg; have GH_11 := Lib.hid hb; have hlgh := hb.lt; have UB_11 := Lib.hid (lent_below UB_10.out hx); have VI_11 := Lib.hid (lent_below VI_10.out hx); have GQ_11 := Lib.hid (GQ_10.out.below hx); have VB_11 := Lib.hid (VB_10.out.below hx); have V_11 := Lib.hid (V_10.out.below hx); have GX_11 := Lib.hid (GX_10.out.below hx); have A_11 := Lib.hid (A_10.out.below hx); have C_11 := Lib.hid (C_10.out.below hx); have B_11 := Lib.hid (B_10.out.below hx); have D_11 := Lib.hid (D_10.out.below hx); have GD_11 := Lib.hid (GD_10.out.below hx); have H_11 := Lib.hid (H_10.out.below hx); have K_11 := Lib.hid (Agg.belowThen K_10.out (Nat.le_refl _) hx); have K4_11 := Lib.hid (Agg.belowThen K4_10.out (Nat.le_refl _) hx); have s_10_11 := hx.size; clear hb hx))
  refine (rget_any vi b m0 _ (by omega) ((K_11.out.cell hbm).trans HM.out) (sliceOf_lent VI_11.out)).mono ?_
  rintro x w12 ⟨ve, rfl, ho, hx⟩
  obtain ⟨se, rfl⟩ := own_sv ho
  have E_12 := Lib.hid ho
  have re := own_in ho
  clear ho
  have UB_12 := Lib.hid (lent_below UB_11.out hx)
  have VI_12 := Lib.hid (lent_below VI_11.out hx)
  have GQ_12 := Lib.hid (GQ_11.out.below hx)
  have VB_12 := Lib.hid (VB_11.out.below hx)
  have V_12 := Lib.hid (V_11.out.below hx)
  have GX_12 := Lib.hid (GX_11.out.below hx)
  have A_12 := Lib.hid (A_11.out.below hx)
  have C_12 := Lib.hid (C_11.out.below hx)
  have B_12 := Lib.hid (B_11.out.below hx)
  have D_12 := Lib.hid (D_11.out.below hx)
  have GD_12 := Lib.hid (GD_11.out.below hx)
  have H_12 := Lib.hid (H_11.out.below hx)
  have GH_12 := Lib.hid (GH_11.out.below hx)
  have K_12 := Lib.hid (Agg.belowThen K_11.out (Nat.le_refl _) hx)
  have K4_12 := Lib.hid (Agg.belowThen K4_11.out (Nat.le_refl _) hx)
  have s_11_12 := hx.size
  clear hx
  go_wp2_with (first | (refine Agg.wpList_new rfl rfl rfl 29 17 68 rfl rfl rfl (by decide) (rqG 0 0 0 [] (.slice none 0 0) z20 [] z20) (rqG (rqOut b).k (rqOut b).u (rqOut b).wh (rqOut b).nm se.1 (rqOut b).ph (rqOut b).pn (rqOut b).ch) rq_zero (by rw [rqG_size z20_length z20_length, rqG_size HOL.out.1 HOL.out.2]) (rq_info HOL.out.1 HOL.out.2) ((rq_one E_12.out.slice _ _ _ _ _ _ _)) rfl (by first | (simp; done) | simp [Act.put]) ?_; intro ge w13 hb hx hg; have GE_13 := Lib.hid hb; have hlge := hb.lt; have UB_13 := Lib.hid (lent_below UB_12.out hx); have VI_13 := Lib.hid (lent_below VI_12.out hx); have GQ_13 := Lib.hid (GQ_12.out.below hx); have VB_13 := Lib.hid (VB_12.out.below hx); have V_13 := Lib.hid (V_12.out.below hx); have GX_13 := Lib.hid (GX_12.out.below hx); have A_13 := Lib.hid (A_12.out.below hx); have C_13 := Lib.hid (C_12.out.below hx); have B_13 := Lib.hid (B_12.out.below hx); have D_13 := Lib.hid (D_12.out.below hx); have GD_13 := Lib.hid (GD_12.out.below hx); have H_13 := Lib.hid (H_12.out.below hx); have GH_13 := Lib.hid (GH_12.out.below hx); have E_13 := Lib.hid (E_12.out.below hx); have K_13 := Lib.hid (Agg.belowThen K_12.out (Nat.le_refl _) hx); have K4_13 := Lib.hid (Agg.belowThen K4_12.out (Nat.le_refl _) hx); have s_12_13 := hx.size; clear hb hx))
  obtain ⟨rr, hrr⟩ : ∃ x, rightN k u wh nm bs.length ph pn ch = x := ⟨_, rfl⟩
  have HR1 := Lib.hid (fun x : Later w13 => (show Calls Tryz.prog 13 #[.agg (rqG k u wh nm ub ph pn ch)] x.w fun e w' => e = .returned (.bool rr) ∧ Below x.w.heap.size x.w w' by have := right_any k u wh nm ub bs ph pn ch hl hc x.w ((sliceOf_lent UB_13.out).below x.h); rwa [hrr] at this))
  have HR2 := Lib.hid (fun x : Later w13 => (show Calls Tryz.prog 14 #[.agg (rqG k u wh nm vb ph pn ch)] x.w fun e w' => e = .returned (.bool rr) ∧ Below x.w.heap.size x.w w' by have := refRight_any k u wh nm vb bs ph pn ch hl hc h1 h3 x.w (VB_13.out.below x.h); rwa [hrr] at this))
  have HR3 := Lib.hid (fun x : Later w13 => (show Calls Tryz.prog 15 #[sa.1, vc] x.w fun e w' => e = .returned (.bool true) ∧ Below x.w.heap.size x.w w' by have := sameBytes_any sa.1 vc ab ab (by omega) (by omega) x.w (A_13.out.slice.below x.h) (C_13.out.below x.h); rwa [show decide (ab = ab) = true by simp] at this))
  have HR4 := Lib.hid (fun x : Later w13 => (show Calls Tryz.prog 16 #[.agg (rqG (rqOut b).k (rqOut b).u (rqOut b).wh (rqOut b).nm sd.1 (rqOut b).ph (rqOut b).pn (rqOut b).ch), .agg (rqG (rqOut b).k (rqOut b).u (rqOut b).wh (rqOut b).nm vh (rqOut b).ph (rqOut b).pn (rqOut b).ch)] x.w fun e w' => e = .returned (.bool true) ∧ Below x.w.heap.size x.w w' by have hob := HOB.out; have := sameRq_any (rqOut b).k (rqOut b).u (rqOut b).wh (rqOut b).nm sd.1 (rqOut b).bs (rqOut b).ph (rqOut b).pn (rqOut b).ch HOL.out.1 HOL.out.2 (rqOut b).k (rqOut b).u (rqOut b).wh (rqOut b).nm vh (rqOut b).bs (rqOut b).ph (rqOut b).pn (rqOut b).ch HOL.out.1 HOL.out.2 (by omega) (by omega) x.w (D_13.out.slice.below x.h) (H_13.out.below x.h); rwa [(sameRq_eq _ _).2 rfl] at this))
  obtain ⟨er, her⟩ : ∃ x, rqErr b = x := ⟨_, rfl⟩
  rw [her]
  have LX13 := Lib.hid (RqG.of_blk GX_13.out hl hc)
  have LQ13 := Lib.hid (RqG.of_blk GQ_13.out hl hc)
  have LD13 := Lib.hid (RqG.of_blk GD_13.out HOL.out.1 HOL.out.2)
  have LH13 := Lib.hid (RqG.of_blk GH_13.out HOL.out.1 HOL.out.2)
  have hrr2 : (rr != rr) = false := by cases rr <;> rfl
  have hcd2 : ((cd : Int) != (cd : Int)) = false := by simp
  have her2 : ((er : Int) != (er : Int)) = false := by simp
  clear hrr her
  try simp only [Act.put, List.setIfInBounds_toArray, List.set_cons_succ, List.set_cons_zero]
  refine Agg.wp_region_later_lit (by kernel_rfl) (by kernel_rfl) ?_
  repeat (first | go_big_quiet_skip | ((first | (with_reducible refine Agg.wpQuiet_loadL LX13.out.all rfl _ rfl rfl ?_) | (with_reducible refine Agg.wpQuiet_loadL LQ13.out.all rfl _ rfl rfl ?_) | (with_reducible refine Agg.wpQuiet_loadL LD13.out.all rfl _ rfl rfl ?_) | (with_reducible refine Agg.wpQuiet_loadL LH13.out.all rfl _ rfl rfl ?_)); simp only [Act.put, List.setIfInBounds_toArray, List.set_cons_succ, List.set_cons_zero]) | go_big_quiet_step ((first | (go_at_call 13; exact Agg.Calls.later (HR1.out _)) | (go_at_call 14; exact Agg.Calls.later (HR2.out _)) | (go_at_call 15; exact Agg.Calls.later (HR3.out _)) | (go_at_call 16; exact Agg.Calls.later (HR4.out _)))))
  refine wpQuiet_nil ?_
  intro _ hw'
  obtain ⟨x14, rfl⟩ := hw'
  clear HR1 HR2 HR3 HR4 hrr2 hcd2 her2 LX13 LQ13 LD13 LH13
  obtain ⟨w14, hw14⟩ : ∃ W, W = x14.w := ⟨_, rfl⟩
  have hx := x14.h
  rw [← hw14] at hx ⊢
  clear hw14
  have UB_14 := Lib.hid (lent_below UB_13.out hx)
  have VI_14 := Lib.hid (lent_below VI_13.out hx)
  have GQ_14 := Lib.hid (GQ_13.out.below hx)
  have VB_14 := Lib.hid (VB_13.out.below hx)
  have V_14 := Lib.hid (V_13.out.below hx)
  have GX_14 := Lib.hid (GX_13.out.below hx)
  have A_14 := Lib.hid (A_13.out.below hx)
  have C_14 := Lib.hid (C_13.out.below hx)
  have B_14 := Lib.hid (B_13.out.below hx)
  have D_14 := Lib.hid (D_13.out.below hx)
  have GD_14 := Lib.hid (GD_13.out.below hx)
  have H_14 := Lib.hid (H_13.out.below hx)
  have GH_14 := Lib.hid (GH_13.out.below hx)
  have E_14 := Lib.hid (E_13.out.below hx)
  have GE_14 := Lib.hid (GE_13.out.below hx)
  have K_14 := Lib.hid (Agg.belowThen K_13.out (Nat.le_refl _) hx)
  have K4_14 := Lib.hid (Agg.belowThen K4_13.out (Nat.le_refl _) hx)
  have s_13_14 := hx.size
  clear hx
  have LD14 := Lib.hid (RqG.of_blk GD_14.out HOL.out.1 HOL.out.2)
  have LE14 := Lib.hid (RqG.of_blk GE_14.out HOL.out.1 HOL.out.2)
  go_wp2_with (first | (with_reducible refine Agg.wpList_loadL LD14.out.bytes rfl _ rfl rfl ?_) | (with_reducible refine Agg.wpList_loadL LE14.out.bytes rfl _ rfl rfl ?_) | (refine wpList_rows4 rfl _ _ _ _ rfl sa sb sd se rfl rfl rfl rfl ?_; intro v15 w15 ho15 hx; have R_15 := Lib.hid ho15; clear ho15))
  have d2 : Dist ([sa] ++ [sb]) := (dist_one sa).append (dist_one sb) fun k h1 h2 => by
    have := ra k (ss_one h1); have := rb k (ss_one h2); omega
  have d3 : Dist ([sa] ++ [sb] ++ [sd]) := d2.append (dist_one sd) fun k h1 h2 => by
    have := rd k (ss_one h2)
    rcases ss_append h1 with h | h
    · have := ra k (ss_one h); omega
    · have := rb k (ss_one h); omega
  have d4 : Dist ([sa] ++ [sb] ++ [sd] ++ [se]) := d3.append (dist_one se) fun k h1 h2 => by
    have := re k (ss_one h2)
    rcases ss_append h1 with h | h
    · rcases ss_append h with h | h
      · have := ra k (ss_one h); omega
      · have := rb k (ss_one h); omega
    · have := rd k (ss_one h); omega
  have low4 : ∀ k, SS ([sa] ++ [sb] ++ [sd] ++ [se]) k → w4.heap.size ≤ k ∧ k ≠ gx := fun k h => by
    rcases ss_append h with h | h
    · rcases ss_append h with h | h
      · rcases ss_append h with h | h
        · have := ra k (ss_one h); omega
        · have := rb k (ss_one h); omega
      · have := rd k (ss_one h); omega
    · have := re k (ss_one h); omega
  have rooms : RoomsL EB w15 ([sa] ++ [sb] ++ [sd] ++ [se]) ([ab] ++ [ab] ++ [(rqOut b).bs] ++ [(rqOut b).bs]) :=
    (((RoomsL.one (RoomN.of_own (A_14.out.below hx))).append (RoomsL.one (RoomN.of_own (B_14.out.below hx)))).append (RoomsL.one (RoomN.of_own (D_14.out.below hx)))).append (RoomsL.one (RoomN.of_own (E_14.out.below hx)))
  have hbound : ∀ j : Nat, ((([ab] ++ [ab] ++ [(rqOut b).bs] ++ [(rqOut b).bs])[j]?).getD []).length ≤ 8388608 := fun j => by
    have hob := HOB.out
    cases hj : ([ab] ++ [ab] ++ [(rqOut b).bs] ++ [(rqOut b).bs])[j]? with
    | none => simp
    | some l =>
      have hm := List.mem_of_getElem? hj
      simp only [List.mem_append, List.mem_singleton] at hm
      show l.length ≤ 8388608
      rcases hm with ((rfl | rfl) | rfl) | rfl <;> omega
  have HAP := Lib.hid (apartBytes_any v15 ([sa] ++ [sb] ++ [sd] ++ [se]) _ w15 R_15.out.slice rooms.of d4 (by simp) hbound)
  have HLOW := Lib.hid low4
  clear ra rb rd re d2 d3 d4 low4 rooms hbound
  have UB_15 := Lib.hid (lent_below UB_14.out hx)
  have VI_15 := Lib.hid (lent_below VI_14.out hx)
  have GQ_15 := Lib.hid (GQ_14.out.below hx)
  have VB_15 := Lib.hid (VB_14.out.below hx)
  have V_15 := Lib.hid (V_14.out.below hx)
  have GX_15 := Lib.hid (GX_14.out.below hx)
  have A_15 := Lib.hid (A_14.out.below hx)
  have C_15 := Lib.hid (C_14.out.below hx)
  have B_15 := Lib.hid (B_14.out.below hx)
  have D_15 := Lib.hid (D_14.out.below hx)
  have GD_15 := Lib.hid (GD_14.out.below hx)
  have H_15 := Lib.hid (H_14.out.below hx)
  have GH_15 := Lib.hid (GH_14.out.below hx)
  have E_15 := Lib.hid (E_14.out.below hx)
  have GE_15 := Lib.hid (GE_14.out.below hx)
  have K_15 := Lib.hid (Agg.belowThen K_14.out (Nat.le_refl _) hx)
  have K4_15 := Lib.hid (Agg.belowThen K4_14.out (Nat.le_refl _) hx)
  have s_14_15 := hx.size
  clear hx
  refine HAP.out.mono ?_
  rintro e w16 ⟨rfl, ho16⟩
  have K4_16 := Lib.hid (only_below K4_15.out ho16 fun k h => (HLOW.out k h).1)
  have GX_16 := Lib.hid (GX_15.out.only ho16 fun h => (HLOW.out _ h).2 rfl)
  have GQ_16 := Lib.hid (GQ_4.out.below K4_16.out)
  have VB_16 := Lib.hid (VB_4.out.below K4_16.out)
  have V_16 := Lib.hid (V_4.out.below K4_16.out)
  have UB_16 := Lib.hid (lent_below UB_4.out K4_16.out)
  have VI_16 := Lib.hid (lent_below VI_4.out K4_16.out)
  clear ho16
  have LX16 := Lib.hid (RqG.of_blk GX_16.out hl hc)
  have LQ16 := Lib.hid (RqG.of_blk GQ_16.out hl hc)
  go_wp2_with (first | (with_reducible refine Agg.wpList_loadL LX16.out.all rfl _ rfl rfl ?_) | (with_reducible refine Agg.wpList_loadL LQ16.out.all rfl _ rfl rfl ?_))
  refine (keptReq_any k u wh nm ub vb bs ph pn ch hl hc h2 _ w16 UB_16.out VB_16.out).mono ?_
  rintro e w17 ⟨rfl, hx⟩
  have K4_17 := Lib.hid (Agg.belowThen K4_16.out (Nat.le_refl _) hx)
  have V_17 := Lib.hid (V_16.out.below hx)
  have VI_17 := Lib.hid (lent_below VI_16.out hx)
  clear hx
  go_wp2_with fail
  refine (keptBytes_any vi v b h4 _ w17 VI_17.out V_17.out).mono ?_
  rintro e w18 ⟨rfl, hx⟩
  have K4_18 := Lib.hid (Agg.belowThen K4_17.out (Nat.le_refl _) hx)
  clear hx
  go_wp2_with fail
  refine (awake28_any w18).mono ?_
  rintro e w19 ⟨rfl, hx⟩
  have K4_19 := Lib.hid (Agg.belowThen K4_18.out (Nat.le_refl _) hx)
  have K_19 := Lib.hid (Agg.belowThen K_4.out (Nat.le_refl _) K4_19.out)
  clear hx
  go_wp2_with fail
  go_ret
  exact ⟨rfl, K_19.out⟩
end Go.Proofs.YtpnolgliklmnmaaGreat
/-! A row's argument of bytes, read and laid again; the wrap for a row of the second form with the world's shape. -/
namespace Go.Agg
open Go.RowKit Go.ChangeShapes Go.WideShapes Go.ChangeAt
section
variable {H : Type} {enc : TypeId × Value → H} {P : Program} {w : World} {base : Nat} {sp : Nat → Bool} {held : Bool}
/-- bytes, as data -/
def byteData {H : Type} (l : List UInt8) : List (DataW H) := l.map fun c => .lit (.int .u8 (c.toNat : Int))
theorem open_bytes {t e : TypeId} {n fuel : Nat} {cs : List Value} {x : DataW H × List MemPlace} (ht : P.underlying t = some (.array n e)) (he : P.underlying e = some (.int .u8)) (hc : P.cellsOf e = 1) (hn : P.cellsOf t = n)
    (h : DataW.trod enc P w base sp held fuel t cs = some x) : ∃ l : List UInt8, l.length = n ∧ cs = Lib.byteCells l ∧ x = (.agg (byteData l), []) := by
  obtain ⟨xs, m, rfl, rfl, hl, hx, ha⟩ := DataW.trod_array ht h
  have key : ∀ i, i < n → ∃ c : UInt8, cs[i]? = some (.int .u8 (c.toNat : Int)) ∧ xs[i]? = some (.lit (.int .u8 (c.toNat : Int)), []) := fun i hi => by
    have hxi : xs[i]? = some xs[i] := List.getElem?_eq_getElem (by omega)
    have h1 := (ha i hi).trans hxi
    rw [hc] at h1
    obtain ⟨k, hk, hd, hw⟩ := DataW.trod_int he h1
    have hb := bounds_u8 hw
    refine ⟨UInt8.ofNat k.toNat, ?_, ?_⟩
    · have : (cs.drop (i * 1)).take 1 = [.int .u8 k] := hk
      have h2 := congrArg (·[0]?) this
      simp at h2
      rw [h2]
      simp; omega
    · rw [hxi, hd]
      simp; omega
  have hlen : cs.length = n := hl.trans hn
  refine ⟨cs.map fun | .int _ k => UInt8.ofNat k.toNat | _ => 0, by simp [hlen], ?_, ?_⟩
  · refine List.ext_getElem? fun i => ?_
    by_cases hi : i < n
    · obtain ⟨c, h1, _⟩ := key i hi
      simp [Lib.byteCells, h1]
    · rw [List.getElem?_eq_none (by omega), List.getElem?_eq_none (by simp [Lib.byteCells]; omega)]
  · have hfst : xs.map (·.1) = byteData (cs.map fun | .int _ k => UInt8.ofNat k.toNat | _ => 0) := by
      refine List.ext_getElem? fun i => ?_
      by_cases hi : i < n
      · obtain ⟨c, h1, h2⟩ := key i hi
        simp [byteData, h1, h2]
      · rw [List.getElem?_eq_none (by simp; omega), List.getElem?_eq_none (by simp [byteData]; omega)]
    have hsnd : xs.flatMap (·.2) = [] := by
      rw [List.flatMap_eq_nil_iff]
      intro y hy
      obtain ⟨i, hi, rfl⟩ := List.getElem_of_mem hy
      obtain ⟨c, _, h2⟩ := key i (by omega)
      rw [List.getElem?_eq_getElem hi] at h2
      rw [Option.some.inj h2]
    rw [hfst, hsnd]
theorem mapM_each {β : Type} {f : Nat → Option β} : ∀ (is : List Nat) (ys : List β), is.length = ys.length → (∀ (k i : Nat) (y : β), is[k]? = some i → ys[k]? = some y → f i = some y) → is.mapM f = some ys
  | [], [], _, _ => by simp
  | i :: is, y :: ys, hl, h => by
    have h0 := h 0 i y rfl rfl
    have ih := mapM_each (f := f) is ys (by simpa using hl) (fun k i y hi hy => h (k + 1) i y (by simpa using hi) (by simpa using hy))
    simp [List.mapM_cons, h0, ih]
  | [], _ :: _, hl, _ => by simp at hl
  | _ :: _, [], hl, _ => by simp at hl
theorem shut_bytes {t e : TypeId} {n : Nat} (ht : P.underlying t = some (.array n e)) (he : P.underlying e = some (.int .u8)) (hc : P.cellsOf e = 1) (hn : P.cellsOf t = n) (l : List UInt8) (hl : l.length = n) :
    DataW.trod enc P w base sp held 2 t (Lib.byteCells l) = some (.agg (byteData l), []) := by
  have hm : (List.range n).mapM (fun i => DataW.trod enc P w base sp held 1 e (((Lib.byteCells l).drop (i * P.cellsOf e)).take (P.cellsOf e))) = some (l.map fun c => ((.lit (.int .u8 (c.toNat : Int)) : DataW H), ([] : List MemPlace))) := by
    refine mapM_each _ _ (by simp [hl]) fun k i y hi hy => ?_
    obtain ⟨hk, rfl⟩ := List.getElem?_eq_some_iff.1 hi
    have hk' : k < l.length := by simpa [hl] using hk
    obtain rfl : y = (.lit (.int .u8 (l[k].toNat : Int)), []) := by simpa [hk', eq_comm] using hy
    have : ((Lib.byteCells l).drop (k * 1)).take 1 = [.int .u8 (l[k].toNat : Int)] := by
      apply List.ext_getElem?
      intro j
      cases j with
      | zero => simp [Lib.byteCells, hk']
      | succ j => simp; omega
    rw [List.getElem_range, hc, this]
    have hlt := l[k].toNat_lt
    simp only [DataW.trod, he]
    rw [if_pos ⟨trivial, by simp [Lit.wf, IntKind.min, IntKind.max, IntKind.signed, IntKind.bits]; omega⟩]
  have hcl : (Lib.byteCells l).length = P.cellsOf t := by simp [Lib.byteCells, hl, hn]
  unfold DataW.trod
  rw [ht]
  split <;> simp_all
  · simp [byteData]
end
/-- 'post_of_same' behind a call that keeps what was there -/
theorem post_below {H : Type} {enc : TypeId × Value → H} {P : Program} {f : Func} {s : ChangeSpec} {apart fresh handsOn again : Bool} {W W' : World} {args : Array Value} {v : Value} {ds gs : List (DataW H)} {before pa pv : List MemPlace}
    (hW : DataW.Whole enc P f.params.toList s.vars apart W args.toList ds gs before)
    (hres : ∀ (b : Nat) (sp : Nat → Bool) (hd : Bool), DataW.TrodAll enc P W' b sp hd f.resultTypes.toList (v.resultList f.resultTypes.size) (s.fn H (ds ++ gs)).results [])
    (hargs : ∀ sp : Nat → Bool, (∀ p ∈ before, sp p.block = true) → DataW.TrodAll enc P W' 0 sp true f.params.toList args.toList (s.fn H (ds ++ gs)).args pa)
    (hvars : ∀ sp : Nat → Bool, (∀ p ∈ before, sp p.block = true) → DataW.TrodVars enc P W' sp s.vars (s.fn H (ds ++ gs)).vars pv)
    (hps : before = pa ++ pv) (hg : Below W.heap.size W W')
    (hok : ∀ (j : Nat) (t : TypeId) (r : Value), f.resultTypes[j]? = some t → (v.resultList f.resultTypes.size)[j]? = some r → Value.okWide P W' .any 0 t r) :
    s.post enc P f apart fresh handsOn again W args v W' := by
  have hold : ∀ p ∈ before, (fun b => decide (b < W.heap.size)) p.block = true := fun p hp => by simpa using hW.lt p hp
  refine ⟨ds, gs, before, [], pa, pv, hW, hres _ _ _, hargs _ hold, hvars _ hold, World.keptBut_mono (fun p hp => ⟨hp, ?_⟩) (hg.frame (· ∈ before)), fun _ => ?_⟩
  · rw [hps, List.mem_append] at hp
    exact Or.inr hp
  · have hlt := hW.lt
    obtain ⟨_, _, _, _, _, hz, hn⟩ := hW
    refine ⟨hok, _, _, ([] ++ pa) ++ pv, ⟨[] ++ pa, pv, trodAll_append (hargs _ (fun _ _ => rfl)) (hres _ _ _), hvars _ (fun _ _ => rfl), rfl, ?_, ?_⟩, ?_⟩
    · intro b off hp
      have hp' : MemPlace.cell b off ∈ before := by rw [hps]; simpa using hp
      rw [hg.frozen (hlt _ hp')]
      exact hz b off hp'
    · intro ha
      have := hn ha
      rw [hps] at this
      simpa using this
    · intro p hp _
      rw [hps]
      simpa using hp
/-- 'returnsInHanded_of_cond', the world's shape kept -/
theorem handed_cond_shaped {H : Type} {enc : TypeId × Value → H} {a : Assume} {C : Checked} {os : Os} {f : FuncId} {fn : Func} {s : OpenSpec} {k : (H : Type) → List (DataW H) → Bool} (hk : s.cond = some k) {F : Stop.Interp} {conds : List PathCond} {apart fresh handsOn again : Bool}
    (own : ownKnob C.prog.godebug = none) (started : os.Started) (noInit : C.prog.inits.idxOf? f = none) (hfn : C.prog.funcs[f]? = some fn)
    (witness : ∃ (w : World) (tape : Tape) (i : Input), w.os = os ∧ (w.forCall tape i).Shaped C.prog ∧ i.vars = [] ∧ Input.okWide C.prog (w.forCall tape i) .any w.heap.size f i ∧
      s.pre6 enc C.prog fn conds apart (w.forCall tape i).memory i.args ∧ a.holds C.prog (lone (Frame.enter C.prog f i.args .normal) [] (w.forCall tape i)))
    (contract : ∀ (W : World) (base : Nat) (args : Array Value) (ds gs : List (DataW H)) (before : List MemPlace),
      (∀ (j : Nat) t v, fn.params[j]? = some t → args[j]? = some v → Value.okWide C.prog W .any base t v) →
      DataW.Whole enc C.prog fn.params.toList s.vars apart W args.toList ds gs before → k H (ds ++ gs) = true → W.ShapedOpen C.prog →
      Calls C.prog f args W fun e W' => ∃ v, e = .returned v ∧ (s.at F).post enc C.prog fn apart fresh handsOn again W args v W') :
    ReturnsInHanded a C os f .any (s.pre6 enc C.prog fn conds apart) ((s.at F).post enc C.prog fn apart fresh handsOn again) := by
  refine returnsInHanded_of_calls own started noInit witness ?_
  intro w tape i _ hsh _ hok hpre _
  obtain ⟨_, _, _, fn', hfn', _, _, _, _, hval⟩ := hok
  obtain rfl : fn' = fn := Option.some.inj (hfn'.symm.trans hfn)
  obtain ⟨ds, gs, before, hw, _, hkk⟩ := (OpenSpec.pre_some hk conds apart _ _).1 hpre.1
  refine (contract (w.forCall tape i) w.heap.size i.args ds gs before hval (DataW.Whole.of_heap (w' := w.forCall tape i) (by rfl) hw) hkk hsh).mono fun e W' ⟨v, he, hp⟩ => ?_
  subst he
  exact ChangeSpec.post_blind hp
end Go.Agg
/-! A law that returns true and keeps all that was there: its row's proof; slices, bytes as arguments. -/
namespace Go.Agg
open Go.RowKit Go.ChangeShapes Go.WideShapes Go.ChangeAt
section
variable {H : Type} {enc : TypeId × Value → H} {P : Program}
theorem trodAll_stays (hl : laidOutB P = true) : ∀ {ts : List TypeId}, (∀ t ∈ ts, P.readableRec t = true ∧ t < P.types.size) → ∀ {W W' : World} {base : Nat} {sp' : Nat → Bool} {vs : List Value} {ds : List (DataW H)} {ps : List MemPlace},
    DataW.TrodAll enc P W base (fun _ => true) true ts vs ds ps → (∀ p ∈ ps, W.sameAt W' p) → (∀ p ∈ ps, sp' p.block = true) → DataW.TrodAll enc P W' base sp' true ts vs ds ps
  | [], _, _, _, _, _, _, _, _, h, _, _ => by
    obtain ⟨rfl, rfl, rfl⟩ := trodAll_nil h
    exact trodAll_mk0
  | t :: ts, hr, _, _, _, _, _, _, _, h, hs, hp => by
    obtain ⟨v, vs', d, ds', p, q, rfl, rfl, rfl, h1, h2⟩ := trodAll_cons h
    exact trodAll_cons_mk (WideElems.Trod_stays hl (hr t (by simp)).1 (hr t (by simp)).2 h1 (fun x hx => hs x (by simp [hx])) (fun x hx => hp x (by simp [hx])))
      (trodAll_stays hl (fun t ht => hr t (by simp [ht])) h2 (fun x hx => hs x (by simp [hx])) (fun x hx => hp x (by simp [hx])))
/-- what a law's row says behind a call that returned true and kept what was there -/
theorem post_law {f : Func} {s : ChangeSpec} {apart fresh handsOn again : Bool} {W W' : World} {args : Array Value} {ds gs : List (DataW H)} {before : List MemPlace} {bt : TypeId}
    (hW : DataW.Whole enc P f.params.toList s.vars apart W args.toList ds gs before) (hv : s.vars = []) (hl : laidOutB P = true) (hr : ∀ t ∈ f.params.toList, P.readableRec t = true ∧ t < P.types.size)
    (hfr : (s.fn H (ds ++ gs)).results = [.lit (.bool true)]) (hfa : (s.fn H (ds ++ gs)).args = ds) (hfv : (s.fn H (ds ++ gs)).vars = []) (hrt : f.resultTypes = #[bt]) (hbt : P.underlying bt = some .bool) (hg : Below W.heap.size W W') :
    s.post enc P f apart fresh handsOn again W args (.bool true) W' := by
  obtain ⟨p, q, hA, hV, rfl, hfz, hnd⟩ := id hW
  rw [hv] at hV
  obtain ⟨rfl, rfl⟩ := trodVars_none hV
  have hlt := hW.lt
  have hst : ∀ sp : Nat → Bool, (∀ x ∈ p ++ [], sp x.block = true) → DataW.TrodAll enc P W' 0 sp true f.params.toList args.toList ds p := fun sp hsp =>
    trodAll_stays hl hr hA (fun x hx => hg.same (hlt x (by simp [hx]))) (fun x hx => hsp x (by simp [hx]))
  refine post_below (pa := p) (pv := []) hW ?_ (fun sp hsp => by rw [hfa]; exact hst sp hsp) (fun sp hsp => by rw [hfv, hv]; rfl) rfl hg ?_
  · intro b sp hd
    rw [hfr, hrt]
    exact trodAll_mk1 (shut_bool hbt _)
  · exact ok_one hrt rfl (okWide_bool_mk hbt _)
end
/-- elements, and how they read -/
structure ElemD (P : Program) (α : Type) extends Elem P α where
  cellsOf : P.cellsOf ty = n
  data : (H : Type) → α → DataW H
  open_ : ∀ (H : Type) (enc : TypeId × Value → H) (w : World) (base : Nat) (sp : Nat → Bool) (held : Bool) (fuel : Nat) (cs : List Value) (x : DataW H × List MemPlace),
    DataW.trod enc P w base sp held fuel ty cs = some x → ∃ a, cs = (val a).cells.toList ∧ x = (data H a, [])
theorem open_sliceE {P : Program} {α : Type} [Inhabited α] (E : ElemD P α) {H : Type} {enc : TypeId × Value → H} {w : World} {base : Nat} {sp : Nat → Bool} {held : Bool} {fuel : Nat} {cs : List Value} {x : DataW H × List MemPlace}
    (h : DataW.trod enc P w base sp held fuel E.st cs = some x) : ∃ (v : Value) (l : List α), cs = [v] ∧ SliceOf E.toElem w v l ∧ ((l = [] ∧ x.1 = .nil) ∨ ∃ rest, x.1 = .slice (l.map (E.data H)) rest) := by
  rcases Go.Deep.open_slice E.slice h with ⟨rfl, rfl⟩ | ⟨a, len, cap, m, n, D, Pl, rfl, _, hlc, _, hm, rfl, hel⟩
  · exact ⟨_, [], rfl, SliceOf.nil _ _ _, .inl ⟨rfl, rfl⟩⟩
  · have hlm : len ≤ m := by rw [hm]; split <;> omega
    have each : ∀ i, i < len → ∃ b : α, (∀ j u, (E.val b).cells[j]? = some u → w.cell? ((a.add (i * E.n)).add j) = some u) ∧ D i = E.data H b := fun i hi => by
      obtain ⟨cs', hc, ht⟩ := hel i (by omega)
      rw [E.cellsOf] at hc
      obtain ⟨b, rfl, hx⟩ := E.open_ H enc w base sp held n cs' _ ht
      obtain ⟨_, hcl, hat⟩ := World.cells?_some hc
      refine ⟨b, fun j u hj => ?_, congrArg Prod.fst hx⟩
      have hjn : j < E.n := by have := (Array.getElem?_eq_some_iff.1 hj).1; rw [E.size] at this; exact this
      rw [hat j hjn]
      simpa using hj
    obtain ⟨f, hf⟩ := Go.Deep.choose_lt each
    refine ⟨_, (List.range len).map f, rfl, ?_, .inr ⟨(List.range (m - len)).map fun j => D (len + j), ?_⟩⟩
    · by_cases h0 : len = 0
      · subst h0; exact SliceOf.nil _ _ _
      · have hb : a.block < w.heap.size := by
          have hpos := E.pos
          have hc0 := (hf 0 (by omega)).1 0 _ (Array.getElem?_eq_getElem (by rw [E.size]; exact hpos))
          have := block_lt_of_cell hc0
          rwa [add_block, add_block] at this
        refine .inr ⟨a, cap, by simp, hb, fun j u hj => ?_⟩
        obtain ⟨k, b, i, h1, h2, rfl⟩ := Elem.flat_all E.toElem _ j u hj
        obtain ⟨hk, hkb⟩ := List.getElem?_eq_some_iff.1 h1
        have hkl : k < len := by simpa using hk
        have hfb : f k = b := by simpa using hkb
        subst hfb
        rw [← add_add]
        exact (hf k hkl).1 i u h2
    · simp only [List.map_map]
      congr 1
      refine List.map_congr_left fun i hi => ?_
      exact (hf i (List.mem_range.1 hi)).2
end Go.Agg
namespace Go.Proofs.YtpnolgliklmnmaaGreat
open Go.RowKit Go.Agg Go.ChangeMaps Go.ChangeShapes Go.WideShapes
theorem own : ownKnob Tryz.prog.godebug = none := by kernel_rfl
theorem cells_byte : Tryz.prog.cellsOf 5 = 1 := by kernel_rfl
theorem laidOut : laidOutB Tryz.prog = true := by kernel_rfl
theorem bulkAll_append {H : Type} (a b : List (DataW H)) : Rows.uptoBulkAll (a ++ b) = Rows.uptoBulkAll a + Rows.uptoBulkAll b := by
  induction a with
  | nil => simp [Rows.uptoBulkAll]
  | cons d a ih => simp only [List.cons_append, Rows.uptoBulkAll, ih]; omega
theorem bulkAll_map {H : Type} {α : Type} (f : α → DataW H) (sz : α → Nat) (h : ∀ a, sz a + 1 ≤ Rows.uptoBulk (f a)) (l : List α) : (l.map sz).sum + l.length ≤ Rows.uptoBulkAll (l.map f) := by
  induction l with
  | nil => simp [Rows.uptoBulkAll]
  | cons a l ih =>
    have := h a
    simp only [List.map_cons, List.sum_cons, List.length_cons, Rows.uptoBulkAll]; omega
theorem bulk_slice {H : Type} {α : Type} {x : DataW H} {l : List α} {f : α → DataW H} (hx : (l = [] ∧ x = .nil) ∨ ∃ rest, x = .slice (l.map f) rest) (sz : α → Nat) (h : ∀ a, sz a + 1 ≤ Rows.uptoBulk (f a)) : (l.map sz).sum + l.length + 1 ≤ Rows.uptoBulk x := by
  rcases hx with ⟨rfl, rfl⟩ | ⟨rest, rfl⟩
  · simp [Rows.uptoBulk]
  · have := bulkAll_map f sz h l
    simp only [Rows.uptoBulk]; omega
/-- bytes, read -/
def DB : ElemD Tryz.prog UInt8 where
  toElem := EB
  cellsOf := cells_byte
  data := fun _ c => .lit (.int .u8 (c.toNat : Int))
  open_ := fun H enc w base sp held fuel cs x h => by
    obtain ⟨k, rfl, e2, hw⟩ := DataW.trod_int Tryz.underlying5 h
    have hb := bounds_u8 hw
    refine ⟨UInt8.ofNat k.toNat, ?_, ?_⟩
    · have : ((UInt8.ofNat k.toNat).toNat : Int) = k := by simp; omega
      show [Value.int .u8 k] = [Value.int .u8 ((UInt8.ofNat k.toNat).toNat : Int)]
      rw [this]
    · have : ((UInt8.ofNat k.toNat).toNat : Int) = k := by simp; omega
      rw [e2, this]
theorem bulk_byte {H : Type} (x : UInt8) : 0 + 1 ≤ Rows.uptoBulk (DB.data H x) := by
  show 0 + 1 ≤ Rows.uptoBulk (DataW.lit _)
  simp [Rows.uptoBulk]
theorem sum_zero (l : List UInt8) : (l.map fun _ => 0).sum = 0 := by
  induction l with
  | nil => rfl
  | cons c l ih => simp [ih]
section
variable {H : Type} {enc : TypeId × Value → H} {w : World} {base : Nat} {sp : Nat → Bool} {held : Bool} {r : Reach} {b0 : Nat} {v : Value} {d : DataW H} {ps : List MemPlace}
set_option maxRecDepth 100000 in
theorem open_bytesB (hval : Value.okWide Tryz.prog w r b0 23 v) (hd : DataW.Trod enc Tryz.prog w base sp held 23 v d ps) : ∃ l : List UInt8, BytesAt w v l ∧ l.length + 1 ≤ Rows.uptoBulk d := by
  obtain ⟨fuel, hf⟩ := hd
  obtain ⟨u, l, e, hs, hx⟩ := open_sliceE DB (x := (d, ps)) hf
  obtain ⟨a, n, c, rfl⟩ := okWide_slice (by kernel_rfl : Tryz.prog.underlying 23 = some (.slice 5)) hval
  obtain rfl : Value.slice a n c = u := by simpa [Value.cells] using e
  have := bulk_slice hx (fun _ => 0) bulk_byte
  rw [sum_zero] at this
  exact ⟨l, hs, by simpa using this⟩
end
end Go.Proofs.YtpnolgliklmnmaaGreat
