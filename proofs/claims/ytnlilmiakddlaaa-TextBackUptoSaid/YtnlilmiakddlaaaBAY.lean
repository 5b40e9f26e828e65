/- spencelaw17.TextBack: what is written is read; a text of which one is read is just its own. -/
import Derived.Test.YtnlilmiakddlaaaBAW
import Derived.Test.YtnlilmiakddlaaaBAX
namespace Go.Proofs.Ytnlilmiakddlaaa
open Go.RowKit Pl Go.Agg
theorem runHighT (p : Option Addr) (n c k : Nat) (hk : k ≤ c) (W : World) : (Instr.sliceAt 23 (.slice p n c) none (some (.int .i64 (k : Int))) none).run Try.prog W = .ok (.slice p k c) W := by
  have hu : Try.prog.underlying 23 = some (.slice 5) := by kernel_rfl
  have hp : (p.map fun x => x.add 0) = p := by cases p <;> rfl
  simp [Instr.sliceAt, Instr.slice, Instr.sliceBounds, Instr.sliceBound, run_underlying hu, Sem.run_bind, asIntOf, hk, hp]
theorem takenT {w : World} {p : Option Addr} {c : Nat} {l : List UInt8} (h : BytesAt w (.slice p l.length c) l) (n : Nat) (hn : n ≤ l.length) : BytesAt w (.slice p n c) (l.take n) := by
  rcases h with ⟨q, d, e, rfl⟩ | ⟨q, d, e, hq, hc⟩
  · obtain rfl : n = 0 := by simpa using hn
    exact SliceOf.nil _ _ _
  · simp only [Value.slice.injEq] at e
    obtain ⟨rfl, _, rfl⟩ := e
    refine .inr ⟨q, c, by rw [List.length_take, Nat.min_eq_left hn], hq, fun j u hj => hc j u ?_⟩
    have : EB.flat l = EB.flat (l.take n) ++ EB.flat (l.drop n) := by rw [← Elem.flat_append, List.take_append_drop]
    rw [this, List.getElem?_append_left (List.getElem?_eq_some_iff.1 hj).1]
    exact hj
theorem putOut_cap {w w' : World} {v : Value} {s : List UInt8} (h : PutOut w w' v s) : ∀ p n c, v = .slice p n c → n ≤ c := by
  rcases h with ⟨rfl, _⟩ | ⟨w1, _, cap, fr, rfl, hle, _⟩
  · intro p n c e; cases e; omega
  · intro p n c e; cases e; exact hle
theorem cut_high {w : World} {v : Value} {l : List UInt8} (h : BytesAt w v l) (hc : ∀ p n c, v = .slice p n c → n ≤ c) (k : Nat) (hk : k ≤ l.length) : ∃ vx, (∀ W, (Instr.sliceAt 23 v none (some (.int .i64 (k : Int))) none).run Try.prog W = .ok vx W) ∧ BytesAt w vx (l.take k) := by
  obtain ⟨p, c, rfl⟩ := h.form
  have h2 := hc _ _ _ rfl
  exact ⟨_, fun W => runHighT p l.length c k (by omega) W, takenT h k hk⟩
theorem exec_highT {o : Oper} {a : Act} {w : World} {t : TypeId} {x y : Operand} {v hi r : Value} (ho : o.op = .slice t x none (some y) none) (hx : a.eval x = v) (hy : a.eval y = hi) (hrun : (Instr.sliceAt t v none (some hi) none).run Try.prog w = .ok r w) : (execOp a.eval o).run Try.prog w = .ok (.value r) w := by
  simp [execOp, ho, hx, hy, hrun]
theorem drv_one3 {w : World} {n : ByteArray} {vi vr : Value} {l : List Nam} {r : List UInt8} (h1 : NamsAt w vi l) (h2 : BytesAt w vr r) : (#[.string n, vi, vr] : Array Value).all (·.oneCell') = true := by
  obtain ⟨p1, c1, e1⟩ := h1.form
  obtain ⟨p2, c2, e2⟩ := h2.form
  rw [e1, e2]; simp [Value.oneCell']
set_option maxRecDepth 100000 in
set_option maxHeartbeats 64000000 in
theorem textBack_any (vd vb vm : Value) (d : Drv) (b more : List UInt8) (hd1 : d.1.length ≤ 1048576) (hd2 : d.2.1.length ≤ 1048576) (hd3 : d.2.2.length ≤ 1048576) (hd4 : namsSz d.2.1 ≤ 4194304) (hbl : b.length ≤ 1048576) (hml : more.length ≤ 1048576) (m : Int) (w : World)
    (hm : w.cell? ⟨0, 0, none⟩ = some (.int .i64 m)) (hd : DrvAt w vd d) (hb : BytesAt w vb b) (hmo : BytesAt w vm more) :
    Calls Try.prog 3 #[vd, vb, vm] w fun e w' => e = .returned (.bool true) ∧ Below w.heap.size w w' := by
  have HD0 := Lib.hid hd
  have HB0 := Lib.hid hb
  have HMo0 := Lib.hid hmo
  have HM0 := Lib.hid hm
  obtain ⟨di, dr, rfl, _, _⟩ := hd
  have hN : drvN 5000 d ≤ 8388608 := by
    have := drvGo_le 5000 d.2.1 (1 + d.1.length + d.2.2.length)
    unfold drvN; omega
  have hlb := fun W => bytes_len hb W
  have hlm := fun W => bytes_len hmo W
  clear hb hmo hm
  go_enter Try.func3, Try.ntmps3
  go_wp2_with (first | (with_reducible refine Agg.wpList_box rfl 25 _ rfl (#[.string ⟨d.1.toArray⟩, di, dr]) rfl ?_; intro g3 w1 hb1 hx1 hg1; have G3 := Lib.hid hb1; have X1 := Lib.hid hx1; have HD := Lib.hid (HD0.out.below hx1); have HB := Lib.hid (SliceOf.below HB0.out hx1); have HMo := Lib.hid (SliceOf.below HMo0.out hx1); have HM := Lib.hid ((hx1.cell (block_lt_of_cell HM0.out)).trans HM0.out); have Y_1 := Lib.hid (Below.refl w1.heap.size w1); clear hb1 hx1 hg1))
  refine (awake17_any w1).mono ?_
  rintro e w2 ⟨rfl, hx⟩
  have Y_2 := Lib.hid (Agg.belowThen Y_1.out (Nat.le_refl _) hx)
  clear hx HD0 HB0 HMo0 HM0
  go_wp2_with (first | (with_reducible refine Agg.wpList_loadL (DrvL.of_blk (G3.out.below Y_2.out)).all rfl _ rfl rfl ?_))
  refine (drvOf_any _ d 5000 (by omega) hd1 hd3 hd2 hd4 w2 (HD.out.below Y_2.out)).mono ?_
  rintro e w3 ⟨rfl, hx⟩
  have Y_3 := Lib.hid (Agg.belowThen Y_2.out (Nat.le_refl _) hx)
  clear hx
  obtain ⟨nd, hnd⟩ : ∃ x, drvN 5000 d = x := ⟨_, rfl⟩
  rw [hnd] at hN ⊢
  clear hnd
  by_cases hbig : 5000 < nd
  · have hd5 : decide (5000 < (nd : Int)) = true := by simp; omega
    go_wp2_with fail
    go_ret
    exact ⟨rfl, Agg.belowThen X1.out (Nat.le_refl _) Y_3.out⟩
  have hd5 : decide (5000 < (nd : Int)) = false := by simp; omega
  by_cases hsum : 5000 < b.length + more.length
  · have hd6 : decide (5000 < (((b.length + more.length : Nat)) : Int)) = true := decide_eq_true (by omega)
    go_wp2_with (first | (refine Agg.wpList_valw rfl (exec_addI (m := b.length) (n := more.length) (by omega) rfl rfl rfl) ?_))
    go_ret
    exact ⟨rfl, Agg.belowThen X1.out (Nat.le_refl _) Y_3.out⟩
  have hd6 : decide (5000 < (((b.length + more.length : Nat)) : Int)) = false := decide_eq_false (by omega)
  have hpu := fun W hW => put_any (.agg #[.string ⟨d.1.toArray⟩, di, dr]) d hd2 W hW
  have hca := fun W hW => textCan_any (.agg #[.string ⟨d.1.toArray⟩, di, dr]) d hd2 W hW
  obtain ⟨T, hT⟩ : ∃ l, putB d = l := ⟨_, rfl⟩
  rw [hT] at hpu
  have HT := Lib.hid hT
  clear hT
  cases hc : canDrv d with
  | false =>
    have hE : putE d = 2 := by rw [putE, hc]; simp
    rw [hE] at hpu
    rw [hc] at hca
    have HPU := Lib.hid hpu
    have HCA := Lib.hid hca
    clear hpu hca hE hc
    go_wp2_with (first | (refine Agg.wpList_valw rfl (exec_addI (m := b.length) (n := more.length) (by omega) rfl rfl rfl) ?_) | (with_reducible refine Agg.wpList_loadL (DrvL.of_blk (G3.out.below Y_3.out)).all rfl _ rfl rfl ?_))
    refine (HPU.out w3 (HD.out.below Y_3.out)).mono ?_
    rintro e w4 ⟨vt, rfl, hot, hx⟩
    have Y_4 := Lib.hid (Agg.belowThen Y_3.out (Nat.le_refl _) hx)
    have VT_4 := Lib.hid hot.slice
    have hcapT := putOut_cap hot
    clear hx hot HPU
    go_wp2_with (first | (with_reducible refine Agg.wpList_loadL (DrvL.of_blk (G3.out.below Y_4.out)).all rfl _ rfl rfl ?_))
    refine (HCA.out w4 (HD.out.below Y_4.out)).mono ?_
    rintro e w5 ⟨rfl, hx⟩
    have Y_5 := Lib.hid (Agg.belowThen Y_4.out (Nat.le_refl _) hx)
    have VT_5 := Lib.hid (SliceOf.below VT_4.out hx)
    clear hx HCA
    clear hcapT VT_5 HT
    have hG := fun W hv hm => tget_any vb b m W (by omega) hm hv
    by_cases h0 : tgE b = 0
    · obtain ⟨hp0, hc0, hpb⟩ := back_get h0
      obtain ⟨e0, he0⟩ : ∃ e, tgB b = e := ⟨_, rfl⟩
      rw [he0] at hp0 hc0 hpb
      simp only [h0, he0] at hG
      have hpp := canDrv_parts hc0
      have hl1 : e0.2.1.length ≤ 1048576 := by omega
      have hl2 : e0.2.2.length ≤ 1048576 := by omega
      have HG := Lib.hid hG
      clear hG
      go_wp2_with fail
      refine (HG.out w5 (SliceOf.below HB.out Y_5.out) ((Y_5.out.cell (block_lt_of_cell HM.out)).trans HM.out)).mono ?_
      rintro e w6 ⟨hx, ie, re, rfl, ho1, ho2⟩
      have Y_6 := Lib.hid (Agg.belowThen Y_5.out (Nat.le_refl _) hx)
      have A1 := Lib.hid ho1.slice
      have B1 := Lib.hid ho2.slice
      clear hx ho1 ho2 HG
      have hone := drv_one3 A1.out B1.out (n := ⟨e0.1.toArray⟩)
      have DA_6 := Lib.hid (show DrvAt w6 (.agg #[.string ⟨e0.1.toArray⟩, ie, re]) e0 from ⟨ie, re, rfl, A1.out, B1.out⟩)
      clear A1 B1
      go_wp2_with (first | (refine Agg.wpList_new rfl rfl rfl 25 15 99 rfl rfl rfl (by decide) drvZ #[.string ⟨e0.1.toArray⟩, ie, re] drv_zeroT rfl drv_info3T hone rfl (by first | (simp; done) | simp [Act.put]) ?_; intro g15 w7 hb hx hg; have Y_7 := Lib.hid (Agg.belowThen Y_6.out (Nat.le_refl _) hx); have G15_7 := Lib.hid (DrvL.of_blk hb); have DA_7 := Lib.hid (DA_6.out.below hx); clear hb hx hg) | (with_reducible refine Agg.wpList_loadL G15_7.out.all rfl _ rfl rfl ?_))
      refine (put_any _ e0 hl1 w7 DA_7.out).mono ?_
      rintro e w8 ⟨vu, rfl, hou, hx⟩
      have Y_8 := Lib.hid (Agg.belowThen Y_7.out (Nat.le_refl _) hx)
      have G15_8 := Lib.hid (G15_7.out.below hx)
      have DA_8 := Lib.hid (DA_7.out.below hx)
      have U_8 := Lib.hid hou.slice
      clear hx hou
      rw [hp0]
      rw [hpb] at U_8
      go_wp2_with (first | (with_reducible refine Agg.wpList_loadL G15_8.out.all rfl _ rfl rfl ?_))
      refine (textCan_any _ e0 hl1 w8 DA_8.out).mono ?_
      rintro e w9 ⟨rfl, hx⟩
      have Y_9 := Lib.hid (Agg.belowThen Y_8.out (Nat.le_refl _) hx)
      have U_9 := Lib.hid (SliceOf.below U_8.out hx)
      rw [hc0]
      clear hx
      go_wp2_with fail
      refine (sameBytes_any vu vb b b (by omega) (by omega) w9 U_9.out (SliceOf.below HB.out Y_9.out)).mono ?_
      rintro e w10 ⟨rfl, hx⟩
      have Y_10 := Lib.hid (Agg.belowThen Y_9.out (Nat.le_refl _) hx)
      rw [show decide (b = b) = true by simp]
      clear hx
      go_wp2_with fail
      go_ret
      exact ⟨rfl, Agg.belowThen X1.out (Nat.le_refl _) Y_10.out⟩
    · have he0 := tgB_not h0
      obtain ⟨e0, hee⟩ : ∃ e : Drv, e = ([], [], []) := ⟨_, rfl⟩
      rw [← hee] at he0
      obtain ⟨ne, hne⟩ : ∃ k, tgE b = k := ⟨_, rfl⟩
      simp only [hne, he0] at hG
      rw [hne] at h0
      have hq1 : ((ne : Int) != 0) = true := by rw [bne_iff_ne]; omega
      have hq2 : ((ne : Int) == 0) = false := by rw [beq_eq_false_iff_ne]; omega
      have hq3 : decide ((ne : Int) = 0) = false := decide_eq_false (by omega)
      have hq4 : decide (¬ (ne : Int) = 0) = true := decide_eq_true (by omega)
      have hl1 : e0.2.1.length ≤ 1048576 := by rw [hee]; simp
      have hl2 : e0.2.2.length ≤ 1048576 := by rw [hee]; simp
      have HEE := Lib.hid hee
      clear hne he0 hee
      have HG := Lib.hid hG
      clear hG
      go_wp2_with fail
      refine (HG.out w5 (SliceOf.below HB.out Y_5.out) ((Y_5.out.cell (block_lt_of_cell HM.out)).trans HM.out)).mono ?_
      rintro e w6 ⟨hx, ie, re, rfl, ho1, ho2⟩
      have Y_6 := Lib.hid (Agg.belowThen Y_5.out (Nat.le_refl _) hx)
      have A1 := Lib.hid ho1.slice
      have B1 := Lib.hid ho2.slice
      clear hx ho1 ho2 HG
      have hone := drv_one3 A1.out B1.out (n := ⟨e0.1.toArray⟩)
      have DA_6 := Lib.hid (show DrvAt w6 (.agg #[.string ⟨e0.1.toArray⟩, ie, re]) e0 from ⟨ie, re, rfl, A1.out, B1.out⟩)
      clear A1 B1
      go_wp2_with (first | (refine Agg.wpList_new rfl rfl rfl 25 15 99 rfl rfl rfl (by decide) drvZ #[.string ⟨e0.1.toArray⟩, ie, re] drv_zeroT rfl drv_info3T hone rfl (by first | (simp; done) | simp [Act.put]) ?_; intro g15 w7 hb hx hg; have Y_7 := Lib.hid (Agg.belowThen Y_6.out (Nat.le_refl _) hx); have G15_7 := Lib.hid (DrvL.of_blk hb); have DA_7 := Lib.hid (DA_6.out.below hx); clear hb hx hg) | (with_reducible refine Agg.wpList_loadL G15_7.out.all rfl _ rfl rfl ?_))
      refine (put_any _ e0 hl1 w7 DA_7.out).mono ?_
      rintro e w8 ⟨vu, rfl, hou, hx⟩
      have Y_8 := Lib.hid (Agg.belowThen Y_7.out (Nat.le_refl _) hx)
      have G15_8 := Lib.hid (G15_7.out.below hx)
      have DA_8 := Lib.hid (DA_7.out.below hx)
      have U_8 := Lib.hid hou.slice
      clear hx hou
      obtain ⟨pe, hpe⟩ : ∃ k, putE e0 = k := ⟨_, rfl⟩
      rw [hpe]
      clear hpe
      go_wp2_with (first | (with_reducible refine Agg.wpList_loadL G15_8.out.all rfl _ rfl rfl ?_) | (with_reducible refine Agg.wpList_build0 25 rfl rfl (.agg drvZ) drv_build0T ?_))
      refine (sameDrv_any _ _ e0 ([], [], []) hl1 (by simp) hl2 (by simp) w8 DA_8.out ⟨_, _, rfl, SliceOf.nil _ _ _, SliceOf.nil _ _ _⟩).mono ?_
      rintro e w9 ⟨rfl, hx⟩
      have Y_9 := Lib.hid (Agg.belowThen Y_8.out (Nat.le_refl _) hx)
      rw [show decide (e0 = ([], [], [])) = true by rw [HEE.out]; simp]
      clear hx
      go_wp2_with fail
      go_ret
      exact ⟨rfl, Agg.belowThen X1.out (Nat.le_refl _) Y_9.out⟩
  | true =>
    by_cases h2k : (textD d).length ≤ 2000
    · have hE : putE d = 0 := by rw [putE, if_pos hc, if_pos h2k]
      obtain ⟨b1, b2, b3, b4, b5, b6⟩ := back_put hE
      rw [HT.out] at b1 b2 b3 b4 b5 b6
      rw [hE] at hpu
      rw [hc] at hca
      have HPU := Lib.hid hpu
      have HCA := Lib.hid hca
      clear hpu hca hE hc
      go_wp2_with (first | (refine Agg.wpList_valw rfl (exec_addI (m := b.length) (n := more.length) (by omega) rfl rfl rfl) ?_) | (with_reducible refine Agg.wpList_loadL (DrvL.of_blk (G3.out.below Y_3.out)).all rfl _ rfl rfl ?_))
      refine (HPU.out w3 (HD.out.below Y_3.out)).mono ?_
      rintro e w4 ⟨vt, rfl, hot, hx⟩
      have Y_4 := Lib.hid (Agg.belowThen Y_3.out (Nat.le_refl _) hx)
      have VT_4 := Lib.hid hot.slice
      have hcapT := putOut_cap hot
      clear hx hot HPU
      go_wp2_with (first | (with_reducible refine Agg.wpList_loadL (DrvL.of_blk (G3.out.below Y_4.out)).all rfl _ rfl rfl ?_))
      refine (HCA.out w4 (HD.out.below Y_4.out)).mono ?_
      rintro e w5 ⟨rfl, hx⟩
      have Y_5 := Lib.hid (Agg.belowThen Y_4.out (Nat.le_refl _) hx)
      have VT_5 := Lib.hid (SliceOf.below VT_4.out hx)
      clear hx HCA
      have hlt := fun W => bytes_len VT_5.out W
      obtain ⟨nt, hnt⟩ : ∃ k, T.length = k := ⟨_, rfl⟩
      rw [hnt] at hlt b1
      have hd7 : decide (2000 < (nt : Int)) = false := decide_eq_false (by omega)
      have hnt1 : 1 ≤ nt := by have := List.length_pos_iff.2 b2; omega
      obtain ⟨vh, hh, hha⟩ := cut_high VT_5.out hcapT (nt - 1) (by omega)
      have HH := Lib.hid hh
      have HHA := Lib.hid hha
      clear hh hha hcapT
      obtain ⟨wq, hwq⟩ : ∃ X, X = w5 := ⟨_, rfl⟩
      have VTq := Lib.hid (show SliceOf EB wq vt T from hwq ▸ VT_5.out)
      have HHq := Lib.hid (show BytesAt wq vh (T.take (nt - 1)) from hwq ▸ HHA.out)
      have Yq := Lib.hid (show Below wq.heap.size wq w5 from hwq ▸ Below.refl _ _)
      clear hwq HHA
      go_wp2_with fail
      refine (tget_any vt T m w5 (by omega) ((Y_5.out.cell (block_lt_of_cell HM.out)).trans HM.out) VT_5.out).mono ?_
      rintro e w6 ⟨hx, i9, r9, rfl, ho1, ho2⟩
      rw [b4] at ho1 ho2 ⊢
      rw [b3]
      have Y_6 := Lib.hid (Agg.belowThen Y_5.out (Nat.le_refl _) hx)
      have Q_6 := Lib.hid (Agg.belowThen Yq.out (Nat.le_refl _) hx)
      have hone9 := drv_one3 ho1.slice ho2.slice (n := ⟨d.1.toArray⟩)
      have D9_6 := Lib.hid (show DrvAt w6 (.agg #[.string ⟨d.1.toArray⟩, i9, r9]) d from ⟨i9, r9, rfl, ho1.slice, ho2.slice⟩)
      clear hx ho1 ho2
      go_wp2_with (first | (refine Agg.wpList_new rfl rfl rfl 25 9 56 rfl rfl rfl (by decide) drvZ #[.string ⟨d.1.toArray⟩, i9, r9] drv_zeroT rfl drv_info3T hone9 rfl (by first | (simp; done) | simp [Act.put]) ?_; intro g9 w7 hb hx hg; have Y_7 := Lib.hid (Agg.belowThen Y_6.out (Nat.le_refl _) hx); have Q_7 := Lib.hid (Agg.belowThen Q_6.out (Nat.le_refl _) hx); have G9 := Lib.hid (DrvL.of_blk hb); have D9_7 := Lib.hid (D9_6.out.below hx); have Z9 := Lib.hid (Below.refl w7.heap.size w7); clear hb hx hg) | (refine Agg.wpList_valw rfl (exec_subI (m := nt) (n := 1) hnt1 (by omega) rfl rfl rfl) ?_) | (refine Agg.wpList_valw rfl (exec_highT rfl rfl rfl (HH.out _)) ?_))
      obtain ⟨ng, hng⟩ : ∃ k, tgE (T.take (nt - 1)) = k := ⟨_, rfl⟩
      rw [hnt, hng] at b5
      have hg1 : ((ng : Int) == 0) = false := by rw [beq_eq_false_iff_ne]; omega
      have hg2 : decide ((ng : Int) = 0) = false := decide_eq_false (by omega)
      refine (tget_any vh (T.take (nt - 1)) m w7 (by simp; omega) ((Y_7.out.cell (block_lt_of_cell HM.out)).trans HM.out) (SliceOf.below HHq.out Q_7.out)).mono ?_
      rintro e w8 ⟨hx, i11, r11, rfl, ho1, ho2⟩
      rw [hng]
      obtain ⟨d11, hd11⟩ : ∃ x, tgB (T.take (nt - 1)) = x := ⟨_, rfl⟩
      rw [hd11] at ho1 ho2 ⊢
      have Y_8 := Lib.hid (Agg.belowThen Y_7.out (Nat.le_refl _) hx)
      have Q_8 := Lib.hid (Agg.belowThen Q_7.out (Nat.le_refl _) hx)
      have Z_8 := Lib.hid (Agg.belowThen Z9.out (Nat.le_refl _) hx)
      have hone11 := drv_one3 ho1.slice ho2.slice (n := ⟨d11.1.toArray⟩)
      clear hx ho1 ho2 hd11 hng
      have HYZ := Lib.hid (show w1.heap.size ≤ w7.heap.size ∧ wq.heap.size ≤ w7.heap.size from ⟨Y_7.out.size, Q_7.out.size⟩)
      go_wp2_with (first | (refine Agg.wpList_new rfl rfl rfl 25 11 65 rfl rfl rfl (by decide) drvZ #[.string ⟨d11.1.toArray⟩, i11, r11] drv_zeroT rfl drv_info3T hone11 rfl (by first | (simp; done) | simp [Act.put]) ?_; intro g11 w9 hb hx hg; have Y_9 := Lib.hid (Agg.belowThen Y_8.out (Nat.le_refl _) hx); have Q_9 := Lib.hid (Agg.belowThen Q_8.out (Nat.le_refl _) hx); have Z_9 := Lib.hid (Agg.belowThen Z_8.out (Nat.le_refl _) hx); clear hb hx hg) | (refine Agg.wpList_slice0 EB rfl rfl (Nat.le_refl _) ?_; intro v0 w10 ho hx _; have O_10 := Lib.hid (ho.lower Z_9.out.size); have Y_10 := Lib.hid (Agg.belowThen Y_9.out (Nat.le_refl _) hx); have Q_10 := Lib.hid (Agg.belowThen Q_9.out (Nat.le_refl _) hx); have Z_10 := Lib.hid (Agg.belowThen Z_9.out (Nat.le_refl _) hx); clear ho hx) | (refine Agg.wpList_appendS (E := EB) rfl _ _ rfl vt rfl rfl (T) O_10.out (SliceOf.below VTq.out Q_10.out) (by simp; omega) (by decide) Z_10.out.size ?_; intro v11 w11 ho hp _; have O_11 := Lib.hid ho; have hz := hp.below _ (Nat.le_refl _) Z_10.out.size; have Z_11 := Lib.hid (Z_10.out.trans hz); have Y_11 := Lib.hid (Y_10.out.trans (hz.mono HYZ.out.1)); have Q_11 := Lib.hid (Q_10.out.trans (hz.mono HYZ.out.2)); clear ho hp hz) | (refine Agg.wpList_appendS (E := EB) rfl _ _ rfl vm rfl rfl (more) O_11.out (SliceOf.below HMo.out Y_11.out) (by simp; omega) (by decide) Z_11.out.size ?_; intro v12 w12 ho hp _; have O_12 := Lib.hid ho; have hz := hp.below _ (Nat.le_refl _) Z_11.out.size; have Z_12 := Lib.hid (Z_11.out.trans hz); have Y_12 := Lib.hid (Y_11.out.trans (hz.mono HYZ.out.1)); have Q_12 := Lib.hid (Q_11.out.trans (hz.mono HYZ.out.2)); clear ho hp hz))
      obtain ⟨nh, hnh⟩ : ∃ k, tgE (T ++ more) = k := ⟨_, rfl⟩
      have hb6 := b6 more
      rw [hnh] at hb6
      obtain ⟨vz, hvz⟩ : ∃ x, x = v12 := ⟨_, rfl⟩
      have OZ := Lib.hid (show BytesAt w12 vz (T ++ more) from hvz ▸ (show BytesAt w12 v12 ([] ++ T ++ more) from O_12.out.slice))
      rw [← hvz]
      clear hvz
      refine (tget_any vz (T ++ more) m w12 (by simp; omega) ((Y_12.out.cell (block_lt_of_cell HM.out)).trans HM.out) OZ.out).mono ?_
      rintro e w13 ⟨hx, i13, r13, rfl, ho1, ho2⟩
      rw [hnh]
      obtain ⟨d13, hd13⟩ : ∃ x, tgB (T ++ more) = x := ⟨_, rfl⟩
      rw [hd13] at ho1 ho2 ⊢
      have Y_13 := Lib.hid (Agg.belowThen Y_12.out (Nat.le_refl _) hx)
      have Q_13 := Lib.hid (Agg.belowThen Q_12.out (Nat.le_refl _) hx)
      have Z_13 := Lib.hid (Agg.belowThen Z_12.out (Nat.le_refl _) hx)
      have hone13 := drv_one3 ho1.slice ho2.slice (n := ⟨d13.1.toArray⟩)
      clear hx ho1 ho2 hd13 hnh OZ
      go_wp2_with (first | (refine Agg.wpList_new rfl rfl rfl 25 13 74 rfl rfl rfl (by decide) drvZ #[.string ⟨d13.1.toArray⟩, i13, r13] drv_zeroT rfl drv_info3T hone13 rfl (by first | (simp; done) | simp [Act.put]) ?_; intro g13 w14 hb hx hg; have Y_14 := Lib.hid (Agg.belowThen Y_13.out (Nat.le_refl _) hx); have Q_14 := Lib.hid (Agg.belowThen Q_13.out (Nat.le_refl _) hx); have Z_14 := Lib.hid (Agg.belowThen Z_13.out (Nat.le_refl _) hx); clear hb hx hg) | (with_reducible refine Agg.wpList_loadL (G9.out.below Z_14.out).all rfl _ rfl rfl ?_) | (with_reducible refine Agg.wpList_loadL (DrvL.of_blk (G3.out.below Y_14.out)).all rfl _ rfl rfl ?_))
      refine (sameDrv_any _ _ d d hd2 hd2 hd3 hd3 w14 (DrvAt.below D9_7.out Z_14.out) (HD.out.below Y_14.out)).mono ?_
      rintro e w15 ⟨rfl, hx⟩
      have Y_15 := Lib.hid (Agg.belowThen Y_14.out (Nat.le_refl _) hx)
      rw [show decide (d = d) = true by simp]
      clear hx
      by_cases hmore : more = []
      · have hnh0 : nh = 0 := hb6.2 hmore
        have hml : more.length = 0 := by rw [hmore]; rfl
        obtain ⟨nm, hnm⟩ : ∃ k, more.length = k := ⟨_, rfl⟩
        rw [hnm] at hlm hml
        have hh1 : ((nh : Int) == 0) = true := by rw [beq_iff_eq]; omega
        have hh2 : decide ((nh : Int) = 0) = true := decide_eq_true (by omega)
        have hm1 : ((nm : Int) == 0) = true := by rw [beq_iff_eq]; omega
        have hm2 : decide ((nm : Int) = 0) = true := decide_eq_true (by omega)
        have HH0 := Lib.hid hnh0
        have HM0 := Lib.hid hml
        clear hnh0 hml
        have hG := fun W hv hm => tget_any vb b m W (by omega) hm hv
        by_cases h0 : tgE b = 0
        · obtain ⟨hp0, hc0, hpb⟩ := back_get h0
          obtain ⟨e0, he0⟩ : ∃ e, tgB b = e := ⟨_, rfl⟩
          rw [he0] at hp0 hc0 hpb
          simp only [h0, he0] at hG
          have hpp := canDrv_parts hc0
          have hl1 : e0.2.1.length ≤ 1048576 := by omega
          have hl2 : e0.2.2.length ≤ 1048576 := by omega
          have HG := Lib.hid hG
          clear hG
          go_wp2_with fail
          refine (HG.out w15 (SliceOf.below HB.out Y_15.out) ((Y_15.out.cell (block_lt_of_cell HM.out)).trans HM.out)).mono ?_
          rintro e w16 ⟨hx, ie, re, rfl, ho1, ho2⟩
          have Y_16 := Lib.hid (Agg.belowThen Y_15.out (Nat.le_refl _) hx)
          have A1 := Lib.hid ho1.slice
          have B1 := Lib.hid ho2.slice
          clear hx ho1 ho2 HG
          have hone := drv_one3 A1.out B1.out (n := ⟨e0.1.toArray⟩)
          have DA_16 := Lib.hid (show DrvAt w16 (.agg #[.string ⟨e0.1.toArray⟩, ie, re]) e0 from ⟨ie, re, rfl, A1.out, B1.out⟩)
          clear A1 B1
          go_wp2_with (first | (refine Agg.wpList_new rfl rfl rfl 25 15 99 rfl rfl rfl (by decide) drvZ #[.string ⟨e0.1.toArray⟩, ie, re] drv_zeroT rfl drv_info3T hone rfl (by first | (simp; done) | simp [Act.put]) ?_; intro g15 w17 hb hx hg; have Y_17 := Lib.hid (Agg.belowThen Y_16.out (Nat.le_refl _) hx); have G15_17 := Lib.hid (DrvL.of_blk hb); have DA_17 := Lib.hid (DA_16.out.below hx); clear hb hx hg) | (with_reducible refine Agg.wpList_loadL G15_17.out.all rfl _ rfl rfl ?_))
          refine (put_any _ e0 hl1 w17 DA_17.out).mono ?_
          rintro e w18 ⟨vu, rfl, hou, hx⟩
          have Y_18 := Lib.hid (Agg.belowThen Y_17.out (Nat.le_refl _) hx)
          have G15_18 := Lib.hid (G15_17.out.below hx)
          have DA_18 := Lib.hid (DA_17.out.below hx)
          have U_18 := Lib.hid hou.slice
          clear hx hou
          rw [hp0]
          rw [hpb] at U_18
          go_wp2_with (first | (with_reducible refine Agg.wpList_loadL G15_18.out.all rfl _ rfl rfl ?_))
          refine (textCan_any _ e0 hl1 w18 DA_18.out).mono ?_
          rintro e w19 ⟨rfl, hx⟩
          have Y_19 := Lib.hid (Agg.belowThen Y_18.out (Nat.le_refl _) hx)
          have U_19 := Lib.hid (SliceOf.below U_18.out hx)
          rw [hc0]
          clear hx
          go_wp2_with fail
          refine (sameBytes_any vu vb b b (by omega) (by omega) w19 U_19.out (SliceOf.below HB.out Y_19.out)).mono ?_
          rintro e w20 ⟨rfl, hx⟩
          have Y_20 := Lib.hid (Agg.belowThen Y_19.out (Nat.le_refl _) hx)
          rw [show decide (b = b) = true by simp]
          clear hx
          go_wp2_with fail
          go_ret
          exact ⟨rfl, Agg.belowThen X1.out (Nat.le_refl _) Y_20.out⟩
        · have he0 := tgB_not h0
          obtain ⟨e0, hee⟩ : ∃ e : Drv, e = ([], [], []) := ⟨_, rfl⟩
          rw [← hee] at he0
          obtain ⟨ne, hne⟩ : ∃ k, tgE b = k := ⟨_, rfl⟩
          simp only [hne, he0] at hG
          rw [hne] at h0
          have hq1 : ((ne : Int) != 0) = true := by rw [bne_iff_ne]; omega
          have hq2 : ((ne : Int) == 0) = false := by rw [beq_eq_false_iff_ne]; omega
          have hq3 : decide ((ne : Int) = 0) = false := decide_eq_false (by omega)
          have hq4 : decide (¬ (ne : Int) = 0) = true := decide_eq_true (by omega)
          have hl1 : e0.2.1.length ≤ 1048576 := by rw [hee]; simp
          have hl2 : e0.2.2.length ≤ 1048576 := by rw [hee]; simp
          have HEE := Lib.hid hee
          clear hne he0 hee
          have HG := Lib.hid hG
          clear hG
          go_wp2_with fail
          refine (HG.out w15 (SliceOf.below HB.out Y_15.out) ((Y_15.out.cell (block_lt_of_cell HM.out)).trans HM.out)).mono ?_
          rintro e w16 ⟨hx, ie, re, rfl, ho1, ho2⟩
          have Y_16 := Lib.hid (Agg.belowThen Y_15.out (Nat.le_refl _) hx)
          have A1 := Lib.hid ho1.slice
          have B1 := Lib.hid ho2.slice
          clear hx ho1 ho2 HG
          have hone := drv_one3 A1.out B1.out (n := ⟨e0.1.toArray⟩)
          have DA_16 := Lib.hid (show DrvAt w16 (.agg #[.string ⟨e0.1.toArray⟩, ie, re]) e0 from ⟨ie, re, rfl, A1.out, B1.out⟩)
          clear A1 B1
          go_wp2_with (first | (refine Agg.wpList_new rfl rfl rfl 25 15 99 rfl rfl rfl (by decide) drvZ #[.string ⟨e0.1.toArray⟩, ie, re] drv_zeroT rfl drv_info3T hone rfl (by first | (simp; done) | simp [Act.put]) ?_; intro g15 w17 hb hx hg; have Y_17 := Lib.hid (Agg.belowThen Y_16.out (Nat.le_refl _) hx); have G15_17 := Lib.hid (DrvL.of_blk hb); have DA_17 := Lib.hid (DA_16.out.below hx); clear hb hx hg) | (with_reducible refine Agg.wpList_loadL G15_17.out.all rfl _ rfl rfl ?_))
          refine (put_any _ e0 hl1 w17 DA_17.out).mono ?_
          rintro e w18 ⟨vu, rfl, hou, hx⟩
          have Y_18 := Lib.hid (Agg.belowThen Y_17.out (Nat.le_refl _) hx)
          have G15_18 := Lib.hid (G15_17.out.below hx)
          have DA_18 := Lib.hid (DA_17.out.below hx)
          have U_18 := Lib.hid hou.slice
          clear hx hou
          obtain ⟨pe, hpe⟩ : ∃ k, putE e0 = k := ⟨_, rfl⟩
          rw [hpe]
          clear hpe
          go_wp2_with (first | (with_reducible refine Agg.wpList_loadL G15_18.out.all rfl _ rfl rfl ?_) | (with_reducible refine Agg.wpList_build0 25 rfl rfl (.agg drvZ) drv_build0T ?_))
          refine (sameDrv_any _ _ e0 ([], [], []) hl1 (by simp) hl2 (by simp) w18 DA_18.out ⟨_, _, rfl, SliceOf.nil _ _ _, SliceOf.nil _ _ _⟩).mono ?_
          rintro e w19 ⟨rfl, hx⟩
          have Y_19 := Lib.hid (Agg.belowThen Y_18.out (Nat.le_refl _) hx)
          rw [show decide (e0 = ([], [], [])) = true by rw [HEE.out]; simp]
          clear hx
          go_wp2_with fail
          go_ret
          exact ⟨rfl, Agg.belowThen X1.out (Nat.le_refl _) Y_19.out⟩
      · have hnh0 : nh ≠ 0 := fun e => hmore (hb6.1 e)
        have hml : more.length ≠ 0 := fun e => hmore (List.length_eq_zero_iff.1 e)
        obtain ⟨nm, hnm⟩ : ∃ k, more.length = k := ⟨_, rfl⟩
        rw [hnm] at hlm hml
        have hh1 : ((nh : Int) == 0) = false := by rw [beq_eq_false_iff_ne]; omega
        have hh2 : decide ((nh : Int) = 0) = false := decide_eq_false (by omega)
        have hm1 : ((nm : Int) == 0) = false := by rw [beq_eq_false_iff_ne]; omega
        have hm2 : decide ((nm : Int) = 0) = false := decide_eq_false (by omega)
        have hG := fun W hv hm => tget_any vb b m W (by omega) hm hv
        by_cases h0 : tgE b = 0
        · obtain ⟨hp0, hc0, hpb⟩ := back_get h0
          obtain ⟨e0, he0⟩ : ∃ e, tgB b = e := ⟨_, rfl⟩
          rw [he0] at hp0 hc0 hpb
          simp only [h0, he0] at hG
          have hpp := canDrv_parts hc0
          have hl1 : e0.2.1.length ≤ 1048576 := by omega
          have hl2 : e0.2.2.length ≤ 1048576 := by omega
          have HG := Lib.hid hG
          clear hG
          go_wp2_with fail
          refine (HG.out w15 (SliceOf.below HB.out Y_15.out) ((Y_15.out.cell (block_lt_of_cell HM.out)).trans HM.out)).mono ?_
          rintro e w16 ⟨hx, ie, re, rfl, ho1, ho2⟩
          have Y_16 := Lib.hid (Agg.belowThen Y_15.out (Nat.le_refl _) hx)
          have A1 := Lib.hid ho1.slice
          have B1 := Lib.hid ho2.slice
          clear hx ho1 ho2 HG
          have hone := drv_one3 A1.out B1.out (n := ⟨e0.1.toArray⟩)
          have DA_16 := Lib.hid (show DrvAt w16 (.agg #[.string ⟨e0.1.toArray⟩, ie, re]) e0 from ⟨ie, re, rfl, A1.out, B1.out⟩)
          clear A1 B1
          go_wp2_with (first | (refine Agg.wpList_new rfl rfl rfl 25 15 99 rfl rfl rfl (by decide) drvZ #[.string ⟨e0.1.toArray⟩, ie, re] drv_zeroT rfl drv_info3T hone rfl (by first | (simp; done) | simp [Act.put]) ?_; intro g15 w17 hb hx hg; have Y_17 := Lib.hid (Agg.belowThen Y_16.out (Nat.le_refl _) hx); have G15_17 := Lib.hid (DrvL.of_blk hb); have DA_17 := Lib.hid (DA_16.out.below hx); clear hb hx hg) | (with_reducible refine Agg.wpList_loadL G15_17.out.all rfl _ rfl rfl ?_))
          refine (put_any _ e0 hl1 w17 DA_17.out).mono ?_
          rintro e w18 ⟨vu, rfl, hou, hx⟩
          have Y_18 := Lib.hid (Agg.belowThen Y_17.out (Nat.le_refl _) hx)
          have G15_18 := Lib.hid (G15_17.out.below hx)
          have DA_18 := Lib.hid (DA_17.out.below hx)
          have U_18 := Lib.hid hou.slice
          clear hx hou
          rw [hp0]
          rw [hpb] at U_18
          go_wp2_with (first | (with_reducible refine Agg.wpList_loadL G15_18.out.all rfl _ rfl rfl ?_))
          refine (textCan_any _ e0 hl1 w18 DA_18.out).mono ?_
          rintro e w19 ⟨rfl, hx⟩
          have Y_19 := Lib.hid (Agg.belowThen Y_18.out (Nat.le_refl _) hx)
          have U_19 := Lib.hid (SliceOf.below U_18.out hx)
          rw [hc0]
          clear hx
          go_wp2_with fail
          refine (sameBytes_any vu vb b b (by omega) (by omega) w19 U_19.out (SliceOf.below HB.out Y_19.out)).mono ?_
          rintro e w20 ⟨rfl, hx⟩
          have Y_20 := Lib.hid (Agg.belowThen Y_19.out (Nat.le_refl _) hx)
          rw [show decide (b = b) = true by simp]
          clear hx
          go_wp2_with fail
          go_ret
          exact ⟨rfl, Agg.belowThen X1.out (Nat.le_refl _) Y_20.out⟩
        · have he0 := tgB_not h0
          obtain ⟨e0, hee⟩ : ∃ e : Drv, e = ([], [], []) := ⟨_, rfl⟩
          rw [← hee] at he0
          obtain ⟨ne, hne⟩ : ∃ k, tgE b = k := ⟨_, rfl⟩
          simp only [hne, he0] at hG
          rw [hne] at h0
          have hq1 : ((ne : Int) != 0) = true := by rw [bne_iff_ne]; omega
          have hq2 : ((ne : Int) == 0) = false := by rw [beq_eq_false_iff_ne]; omega
          have hq3 : decide ((ne : Int) = 0) = false := decide_eq_false (by omega)
          have hq4 : decide (¬ (ne : Int) = 0) = true := decide_eq_true (by omega)
          have hl1 : e0.2.1.length ≤ 1048576 := by rw [hee]; simp
          have hl2 : e0.2.2.length ≤ 1048576 := by rw [hee]; simp
          have HEE := Lib.hid hee
          clear hne he0 hee
          have HG := Lib.hid hG
          clear hG
          go_wp2_with fail
          refine (HG.out w15 (SliceOf.below HB.out Y_15.out) ((Y_15.out.cell (block_lt_of_cell HM.out)).trans HM.out)).mono ?_
          rintro e w16 ⟨hx, ie, re, rfl, ho1, ho2⟩
          have Y_16 := Lib.hid (Agg.belowThen Y_15.out (Nat.le_refl _) hx)
          have A1 := Lib.hid ho1.slice
          have B1 := Lib.hid ho2.slice
          clear hx ho1 ho2 HG
          have hone := drv_one3 A1.out B1.out (n := ⟨e0.1.toArray⟩)
          have DA_16 := Lib.hid (show DrvAt w16 (.agg #[.string ⟨e0.1.toArray⟩, ie, re]) e0 from ⟨ie, re, rfl, A1.out, B1.out⟩)
          clear A1 B1
          go_wp2_with (first | (refine Agg.wpList_new rfl rfl rfl 25 15 99 rfl rfl rfl (by decide) drvZ #[.string ⟨e0.1.toArray⟩, ie, re] drv_zeroT rfl drv_info3T hone rfl (by first | (simp; done) | simp [Act.put]) ?_; intro g15 w17 hb hx hg; have Y_17 := Lib.hid (Agg.belowThen Y_16.out (Nat.le_refl _) hx); have G15_17 := Lib.hid (DrvL.of_blk hb); have DA_17 := Lib.hid (DA_16.out.below hx); clear hb hx hg) | (with_reducible refine Agg.wpList_loadL G15_17.out.all rfl _ rfl rfl ?_))
          refine (put_any _ e0 hl1 w17 DA_17.out).mono ?_
          rintro e w18 ⟨vu, rfl, hou, hx⟩
          have Y_18 := Lib.hid (Agg.belowThen Y_17.out (Nat.le_refl _) hx)
          have G15_18 := Lib.hid (G15_17.out.below hx)
          have DA_18 := Lib.hid (DA_17.out.below hx)
          have U_18 := Lib.hid hou.slice
          clear hx hou
          obtain ⟨pe, hpe⟩ : ∃ k, putE e0 = k := ⟨_, rfl⟩
          rw [hpe]
          clear hpe
          go_wp2_with (first | (with_reducible refine Agg.wpList_loadL G15_18.out.all rfl _ rfl rfl ?_) | (with_reducible refine Agg.wpList_build0 25 rfl rfl (.agg drvZ) drv_build0T ?_))
          refine (sameDrv_any _ _ e0 ([], [], []) hl1 (by simp) hl2 (by simp) w18 DA_18.out ⟨_, _, rfl, SliceOf.nil _ _ _, SliceOf.nil _ _ _⟩).mono ?_
          rintro e w19 ⟨rfl, hx⟩
          have Y_19 := Lib.hid (Agg.belowThen Y_18.out (Nat.le_refl _) hx)
          rw [show decide (e0 = ([], [], [])) = true by rw [HEE.out]; simp]
          clear hx
          go_wp2_with fail
          go_ret
          exact ⟨rfl, Agg.belowThen X1.out (Nat.le_refl _) Y_19.out⟩
    · have hE : putE d = 3 := by rw [putE, if_pos hc, if_neg h2k]
      rw [hE] at hpu
      rw [hc] at hca
      have HPU := Lib.hid hpu
      have HCA := Lib.hid hca
      clear hpu hca hE hc
      go_wp2_with (first | (refine Agg.wpList_valw rfl (exec_addI (m := b.length) (n := more.length) (by omega) rfl rfl rfl) ?_) | (with_reducible refine Agg.wpList_loadL (DrvL.of_blk (G3.out.below Y_3.out)).all rfl _ rfl rfl ?_))
      refine (HPU.out w3 (HD.out.below Y_3.out)).mono ?_
      rintro e w4 ⟨vt, rfl, hot, hx⟩
      have Y_4 := Lib.hid (Agg.belowThen Y_3.out (Nat.le_refl _) hx)
      have VT_4 := Lib.hid hot.slice
      have hcapT := putOut_cap hot
      clear hx hot HPU
      go_wp2_with (first | (with_reducible refine Agg.wpList_loadL (DrvL.of_blk (G3.out.below Y_4.out)).all rfl _ rfl rfl ?_))
      refine (HCA.out w4 (HD.out.below Y_4.out)).mono ?_
      rintro e w5 ⟨rfl, hx⟩
      have Y_5 := Lib.hid (Agg.belowThen Y_4.out (Nat.le_refl _) hx)
      have VT_5 := Lib.hid (SliceOf.below VT_4.out hx)
      clear hx HCA
      clear hcapT VT_5 HT h2k
      have hG := fun W hv hm => tget_any vb b m W (by omega) hm hv
      by_cases h0 : tgE b = 0
      · obtain ⟨hp0, hc0, hpb⟩ := back_get h0
        obtain ⟨e0, he0⟩ : ∃ e, tgB b = e := ⟨_, rfl⟩
        rw [he0] at hp0 hc0 hpb
        simp only [h0, he0] at hG
        have hpp := canDrv_parts hc0
        have hl1 : e0.2.1.length ≤ 1048576 := by omega
        have hl2 : e0.2.2.length ≤ 1048576 := by omega
        have HG := Lib.hid hG
        clear hG
        go_wp2_with fail
        refine (HG.out w5 (SliceOf.below HB.out Y_5.out) ((Y_5.out.cell (block_lt_of_cell HM.out)).trans HM.out)).mono ?_
        rintro e w6 ⟨hx, ie, re, rfl, ho1, ho2⟩
        have Y_6 := Lib.hid (Agg.belowThen Y_5.out (Nat.le_refl _) hx)
        have A1 := Lib.hid ho1.slice
        have B1 := Lib.hid ho2.slice
        clear hx ho1 ho2 HG
        have hone := drv_one3 A1.out B1.out (n := ⟨e0.1.toArray⟩)
        have DA_6 := Lib.hid (show DrvAt w6 (.agg #[.string ⟨e0.1.toArray⟩, ie, re]) e0 from ⟨ie, re, rfl, A1.out, B1.out⟩)
        clear A1 B1
        go_wp2_with (first | (refine Agg.wpList_new rfl rfl rfl 25 15 99 rfl rfl rfl (by decide) drvZ #[.string ⟨e0.1.toArray⟩, ie, re] drv_zeroT rfl drv_info3T hone rfl (by first | (simp; done) | simp [Act.put]) ?_; intro g15 w7 hb hx hg; have Y_7 := Lib.hid (Agg.belowThen Y_6.out (Nat.le_refl _) hx); have G15_7 := Lib.hid (DrvL.of_blk hb); have DA_7 := Lib.hid (DA_6.out.below hx); clear hb hx hg) | (with_reducible refine Agg.wpList_loadL G15_7.out.all rfl _ rfl rfl ?_))
        refine (put_any _ e0 hl1 w7 DA_7.out).mono ?_
        rintro e w8 ⟨vu, rfl, hou, hx⟩
        have Y_8 := Lib.hid (Agg.belowThen Y_7.out (Nat.le_refl _) hx)
        have G15_8 := Lib.hid (G15_7.out.below hx)
        have DA_8 := Lib.hid (DA_7.out.below hx)
        have U_8 := Lib.hid hou.slice
        clear hx hou
        rw [hp0]
        rw [hpb] at U_8
        go_wp2_with (first | (with_reducible refine Agg.wpList_loadL G15_8.out.all rfl _ rfl rfl ?_))
        refine (textCan_any _ e0 hl1 w8 DA_8.out).mono ?_
        rintro e w9 ⟨rfl, hx⟩
        have Y_9 := Lib.hid (Agg.belowThen Y_8.out (Nat.le_refl _) hx)
        have U_9 := Lib.hid (SliceOf.below U_8.out hx)
        rw [hc0]
        clear hx
        go_wp2_with fail
        refine (sameBytes_any vu vb b b (by omega) (by omega) w9 U_9.out (SliceOf.below HB.out Y_9.out)).mono ?_
        rintro e w10 ⟨rfl, hx⟩
        have Y_10 := Lib.hid (Agg.belowThen Y_9.out (Nat.le_refl _) hx)
        rw [show decide (b = b) = true by simp]
        clear hx
        go_wp2_with fail
        go_ret
        exact ⟨rfl, Agg.belowThen X1.out (Nat.le_refl _) Y_10.out⟩
      · have he0 := tgB_not h0
        obtain ⟨e0, hee⟩ : ∃ e : Drv, e = ([], [], []) := ⟨_, rfl⟩
        rw [← hee] at he0
        obtain ⟨ne, hne⟩ : ∃ k, tgE b = k := ⟨_, rfl⟩
        simp only [hne, he0] at hG
        rw [hne] at h0
        have hq1 : ((ne : Int) != 0) = true := by rw [bne_iff_ne]; omega
        have hq2 : ((ne : Int) == 0) = false := by rw [beq_eq_false_iff_ne]; omega
        have hq3 : decide ((ne : Int) = 0) = false := decide_eq_false (by omega)
        have hq4 : decide (¬ (ne : Int) = 0) = true := decide_eq_true (by omega)
        have hl1 : e0.2.1.length ≤ 1048576 := by rw [hee]; simp
        have hl2 : e0.2.2.length ≤ 1048576 := by rw [hee]; simp
        have HEE := Lib.hid hee
        clear hne he0 hee
        have HG := Lib.hid hG
        clear hG
        go_wp2_with fail
        refine (HG.out w5 (SliceOf.below HB.out Y_5.out) ((Y_5.out.cell (block_lt_of_cell HM.out)).trans HM.out)).mono ?_
        rintro e w6 ⟨hx, ie, re, rfl, ho1, ho2⟩
        have Y_6 := Lib.hid (Agg.belowThen Y_5.out (Nat.le_refl _) hx)
        have A1 := Lib.hid ho1.slice
        have B1 := Lib.hid ho2.slice
        clear hx ho1 ho2 HG
        have hone := drv_one3 A1.out B1.out (n := ⟨e0.1.toArray⟩)
        have DA_6 := Lib.hid (show DrvAt w6 (.agg #[.string ⟨e0.1.toArray⟩, ie, re]) e0 from ⟨ie, re, rfl, A1.out, B1.out⟩)
        clear A1 B1
        go_wp2_with (first | (refine Agg.wpList_new rfl rfl rfl 25 15 99 rfl rfl rfl (by decide) drvZ #[.string ⟨e0.1.toArray⟩, ie, re] drv_zeroT rfl drv_info3T hone rfl (by first | (simp; done) | simp [Act.put]) ?_; intro g15 w7 hb hx hg; have Y_7 := Lib.hid (Agg.belowThen Y_6.out (Nat.le_refl _) hx); have G15_7 := Lib.hid (DrvL.of_blk hb); have DA_7 := Lib.hid (DA_6.out.below hx); clear hb hx hg) | (with_reducible refine Agg.wpList_loadL G15_7.out.all rfl _ rfl rfl ?_))
        refine (put_any _ e0 hl1 w7 DA_7.out).mono ?_
        rintro e w8 ⟨vu, rfl, hou, hx⟩
        have Y_8 := Lib.hid (Agg.belowThen Y_7.out (Nat.le_refl _) hx)
        have G15_8 := Lib.hid (G15_7.out.below hx)
        have DA_8 := Lib.hid (DA_7.out.below hx)
        have U_8 := Lib.hid hou.slice
        clear hx hou
        obtain ⟨pe, hpe⟩ : ∃ k, putE e0 = k := ⟨_, rfl⟩
        rw [hpe]
        clear hpe
        go_wp2_with (first | (with_reducible refine Agg.wpList_loadL G15_8.out.all rfl _ rfl rfl ?_) | (with_reducible refine Agg.wpList_build0 25 rfl rfl (.agg drvZ) drv_build0T ?_))
        refine (sameDrv_any _ _ e0 ([], [], []) hl1 (by simp) hl2 (by simp) w8 DA_8.out ⟨_, _, rfl, SliceOf.nil _ _ _, SliceOf.nil _ _ _⟩).mono ?_
        rintro e w9 ⟨rfl, hx⟩
        have Y_9 := Lib.hid (Agg.belowThen Y_8.out (Nat.le_refl _) hx)
        rw [show decide (e0 = ([], [], [])) = true by rw [HEE.out]; simp]
        clear hx
        go_wp2_with fail
        go_ret
        exact ⟨rfl, Agg.belowThen X1.out (Nat.le_refl _) Y_9.out⟩
end Go.Proofs.Ytnlilmiakddlaaa
