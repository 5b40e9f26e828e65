/- spencelaw08.TreeWays. -/
import Derived.Test.YtfiadgdinhmgbaaDoorYBE
import Derived.Test.YtfiadgdinhmgbaaDoorYBF
import Derived.Test.YtfiadgdinhmgbaaDoorYBG
import Derived.Test.YtfiadgdinhmgbaaDoorYBH
namespace Go.Tr
open Go.Proofs.YtfiadgdinhmgbaaDoor
theorem deep_posW (t : T) : 1 ≤ deep t := by obtain ⟨k, b, l⟩ := t; simp [deep]
/-- the bytes at the first k ways -/
def szS (t : T) (k : Nat) : Nat := (((wysT t).take k).map fun s => (fdT t s).bytes.length).sum
theorem szS_succ (t : T) {k : Nat} {s : List UInt8} (h : (wysT t)[k]? = some s) : szS t (k + 1) = szS t k + (fdT t s).bytes.length := by
  rw [szS, szS, List.take_add_one, h]
  simp
theorem szS_le {t : T} (h : right t = true) : ∀ k, szS t k ≤ 2048 * k := by
  intro k
  induction k with
  | zero => simp [szS]
  | succ k ih =>
    cases hz : (wysT t)[k]? with
    | none =>
      have hl := List.getElem?_eq_none_iff.1 hz
      have e : szS t (k + 1) = szS t k := by rw [szS, szS, List.take_of_length_le (by omega), List.take_of_length_le hl]
      omega
    | some s =>
      obtain ⟨x, ws, _, h2, h3, _⟩ := wysT_mem h (List.mem_append.2 (.inl (List.mem_of_getElem? hz)))
      have := ok_bytes (right_ok (find_right h h3))
      rw [szS_succ t hz, h2]
      omega
theorem szS_all {t : T} (h : right t = true) : szS t (wysT t).length = size t := by
  rw [szS, List.take_length, wysT_size h]
end Go.Tr
namespace Go.Proofs.YtfiadgdinhmgbaaDoor
open Go.RowKit Pl Go.Agg Go.Tr
theorem strs_load {W : World} {v : Value} {l : List (List UInt8)} {k : Nat} {s : List UInt8} {p : Addr} (h : SliceOf ES W v l) (hs : l[k]? = some s) (hadr : ∀ W, (Instr.indexAt 37 v (.int .i64 (k : Int))).run Tryd.prog W = .ok (.pointer (some p)) W) : LoadsL Tryd.prog W 9 (some p) (.string ⟨s.toArray⟩) := by
  obtain ⟨q, h1, h2⟩ := strs_at h k s hs
  have h3 := (hadr W).symm.trans (h1 W)
  simp only [Result.ok.injEq, Value.pointer.injEq, Option.some.injEq, and_true] at h3
  rw [h3]; exact h2
theorem by14 {w : World} {x : NdV} {t : T} (h : NodeAt w (.agg (ndC x)) t) : BytesAt w x.2.1.1 t.bytes := by
  obtain ⟨y, e, hy⟩ := h
  obtain ⟨k, b, l⟩ := t
  obtain ⟨_, h2, _⟩ := hy
  simp only [Value.agg.injEq, ndC, Array.mk.injEq, List.cons.injEq, and_true] at e
  rw [e.2.1]
  exact h2
theorem add1_run {o : Oper} {a : Act} {t u : TypeId} {x y : Operand} (m : Nat) (hm : m + 1 < 9223372036854775808) (ho : o.op = .binOp .add t x y u) (hx : a.eval x = .int .i64 (m : Int)) (hy : a.eval y = .int .i64 1) (w : World) : (execOp a.eval o).run Tryd.prog w = .ok (.value (.int .i64 ((m : Int) + 1))) w := by
  have h := exec_addI (P := Tryd.prog) (w := w) (m := m) (n := 1) hm ho hx hy
  rwa [show ((m + 1 : Nat) : Int) = (m : Int) + 1 by omega] at h
theorem exec_sliceS {o : Oper} {a : Act} {w : World} {t : TypeId} {x y : Operand} {v lo r : Value} (ho : o.op = .slice t x (some y) none none) (hx : a.eval x = v) (hy : a.eval y = lo) (hrun : (Instr.sliceAt t v (some lo) none none).run Tryd.prog w = .ok r w) : (execOp a.eval o).run Tryd.prog w = .ok (.value r) w := by
  simp [execOp, ho, hx, hy, hrun]
theorem exec_sameI {o : Oper} {a : Act} {t u : TypeId} {x y : Operand} (m : Int) (ho : o.op = .binOp .eql t x y u) (hx : a.eval x = .int .i64 m) (hy : a.eval y = .int .i64 m) (w : World) : (execOp a.eval o).run Tryd.prog w = .ok (.value (.bool true)) w := by
  simp [execOp, ho, hx, hy, binOp, Op.intCmp, eqGuard]
set_option maxRecDepth 100000 in
set_option maxHeartbeats 64000000 in
theorem treeWays_any (v : Value) (t : T) (at0 : Int) (hm : msz t ≤ 1048576) (w : World) (hv : NodeAt w v t) :
    Calls Tryd.prog 4 #[v, .int .i64 at0] w fun e w' => e = .returned (.bool true) ∧ Below w.heap.size w w' := by
  have Y_0 := Lib.hid (Below.refl w.heap.size w)
  obtain ⟨xn, rfl, hx⟩ := hv
  have XN_0 := Lib.hid (show NodeAt w (.agg (ndC xn)) t from ⟨xn, rfl, hx⟩)
  clear hx
  obtain ⟨w0, hw0⟩ : ∃ W, W = w := ⟨_, rfl⟩
  rw [← hw0] at Y_0 XN_0 ⊢
  clear hw0
  go_enter Tryd.func4, Tryd.ntmps4
  go_wp2_with (first | (refine Agg.wpList_box rfl 26 _ rfl (ndC xn) rfl ?_; intro g2 w1 hb hx hg; have Y_1 := Lib.hid (Agg.belowThen Y_0.out (Nat.le_refl _) hx); have XN_1 := Lib.hid (XN_0.out.below hx); have GA_1 := Lib.hid hb; clear hb hx hg Y_0 XN_0))
  refine (awake08_any _).mono ?_
  rintro e w2 ⟨rfl, hx⟩
  have Y_2 := Lib.hid (Agg.belowThen Y_1.out (Nat.le_refl _) hx)
  have XN_2 := Lib.hid (XN_1.out.below hx)
  have GA_2 := Lib.hid (GA_1.out.below hx)
  clear hx  Y_1 XN_1 GA_1
  go_wp2_with (first | (with_reducible refine Agg.wpList_loadL (NdL.of_blk GA_2.out).all rfl _ rfl rfl ?_))
  refine (size08_any (count t) t (Nat.le_refl _) hm 1500 (by omega) _ _ XN_2.out).mono ?_
  rintro e w3 ⟨rfl, hx⟩
  have Y_3 := Lib.hid (Agg.belowThen Y_2.out (Nat.le_refl _) hx)
  have XN_3 := Lib.hid (XN_2.out.below hx)
  have GA_3 := Lib.hid (GA_2.out.below hx)
  clear hx  Y_2 XN_2 GA_2
  obtain ⟨z, hz⟩ : ∃ z, szT t 1500 = z := ⟨_, rfl⟩
  rw [hz]
  clear hz
  by_cases hgr : 1500 < z
  · have hd : decide (1500 < (z : Int)) = true := by simp; omega
    go_wp2_with fail
    go_ret
    exact ⟨rfl, Y_3.out⟩
  have hd : decide (1500 < (z : Int)) = false := by simp; omega
  go_wp2_with (first | (with_reducible refine Agg.wpList_loadL (NdL.of_blk GA_3.out).all rfl _ rfl rfl ?_))
  refine (ways_any _ t _ XN_3.out).mono ?_
  rintro e w4 ⟨vl, rfl, ho, hx⟩
  have Y_4 := Lib.hid (Agg.belowThen Y_3.out (Nat.le_refl _) hx)
  have XN_4 := Lib.hid (XN_3.out.below hx)
  have GA_4 := Lib.hid (GA_3.out.below hx)
  have WL_4 := Lib.hid (ho.slice)
  clear hx ho Y_3 XN_3 GA_3
  go_wp2_with (first | (with_reducible refine Agg.wpList_loadL (NdL.of_blk GA_4.out).all rfl _ rfl rfl ?_))
  refine (count_any _ t _ XN_4.out).mono ?_
  rintro e w5 ⟨rfl, hx⟩
  have Y_5 := Lib.hid (Agg.belowThen Y_4.out (Nat.le_refl _) hx)
  have XN_5 := Lib.hid (XN_4.out.below hx)
  have GA_5 := Lib.hid (GA_4.out.below hx)
  have WL_5 := Lib.hid (SliceOf.below WL_4.out hx)
  clear hx  Y_4 XN_4 GA_4 WL_4
  go_wp2_with (first | (with_reducible refine Agg.wpList_loadL (NdL.of_blk GA_5.out).all rfl _ rfl rfl ?_))
  refine (tright_any _ t _ XN_5.out).mono ?_
  rintro e w6 ⟨rfl, hx⟩
  have Y_6 := Lib.hid (Agg.belowThen Y_5.out (Nat.le_refl _) hx)
  have XN_6 := Lib.hid (XN_5.out.below hx)
  have GA_6 := Lib.hid (GA_5.out.below hx)
  have WL_6 := Lib.hid (SliceOf.below WL_5.out hx)
  clear hx  Y_5 XN_5 GA_5 WL_5
  cases hr : right t with
  | false =>
    have e1 : cnN t = 0 ∧ cnD t = 0 ∧ cnS t = 0 ∧ wysR t = [] := by simp [cnN, cnD, cnS, wysR, hr]
    have ho9 := WL_6.out
    rw [e1.2.2.2] at ho9
    have hll := fun W => strs_len ho9 W
    rw [e1.1, e1.2.1, e1.2.2.1]
    clear ho9 e1 hr
    go_wp2_with fail
    go_ret
    exact ⟨rfl, Y_6.out⟩
  | true =>
    have HRT := Lib.hid hr
    have e1 : cnN t = count t ∧ cnD t = deep t ∧ cnS t = size t ∧ wysR t = wysT t := by simp [cnN, cnD, cnS, wysR, hr]
    rw [e1.1, e1.2.1, e1.2.2.1]
    have h200 := right_countW hr
    have hdp := right_deep hr
    have hd0 := deep_posW t
    have hc0 := count_pos t
    obtain ⟨LL, hLL⟩ : ∃ LL, wysT t = LL := ⟨_, rfl⟩
    obtain ⟨nn, hnn⟩ : ∃ nn, count t = nn := ⟨_, rfl⟩
    obtain ⟨dd, hdd⟩ : ∃ dd, deep t = dd := ⟨_, rfl⟩
    obtain ⟨ss, hss⟩ : ∃ ss, size t = ss := ⟨_, rfl⟩
    have hln : LL.length = nn := by rw [← hLL, wysT_length, hnn]
    have WLK := WL_6.out
    rw [e1.2.2.2, hLL] at WLK
    have HWL := Lib.hid WLK
    have hll := fun W => strs_len WLK W
    rw [hln] at hll
    rw [hnn, hdd, hss]
    rw [hnn] at h200 hc0
    rw [hdd] at hdp hd0
    have HLL := Lib.hid hLL
    have HSS := Lib.hid hss
    clear e1 hLL WLK hr hnn hdd hss
    clear WL_6
    have WL_6 := HWL
    clear HWL
    have hda : decide ((dd : Int) < 1) = false := by simp; omega
    have hdb : decide (8 < (dd : Int)) = false := by simp; omega
    go_wp2_with fail
    refine (pick_any at0 nn (by omega) (by omega) _).mono ?_
    rintro e w9 ⟨⟨kk, hkk, rfl⟩, rfl⟩
    obtain ⟨way, hway⟩ : ∃ s, LL[kk]? = some s := ⟨_, List.getElem?_eq_getElem (by omega)⟩
    obtain ⟨pp, hadr, hld⟩ := strs_at WL_6.out kk way hway
    have HLD := Lib.hid hld
    have HWY := Lib.hid (show way ∈ wysT t by rw [HLL.out]; exact List.mem_of_getElem? hway)
    obtain ⟨u, wsu, hue, hut, huf, hul, _⟩ := wysT_mem HRT.out (List.mem_append.2 (.inl HWY.out))
    have HU := Lib.hid (And.intro hue hut)
    have HUR := Lib.hid (find_right HRT.out huf)
    clear hld hway hue hut huf
    go_wp2_with (first | (with_reducible refine Agg.wpList_loadL HLD.out rfl _ rfl rfl ?_) | (with_reducible refine Agg.wpList_loadL (NdL.of_blk GA_6.out).all rfl _ rfl rfl ?_))
    clear hadr HLD
    refine (tfind_any t way (by omega) _ _ XN_6.out).mono ?_
    rintro e w7 ⟨x10, rfl, hon, hx⟩
    have Y_7 := Lib.hid (Agg.belowThen Y_6.out (Nat.le_refl _) hx)
    have XN_7 := Lib.hid (XN_6.out.below hx)
    have GA_7 := Lib.hid (GA_6.out.below hx)
    have WL_7 := Lib.hid (SliceOf.below WL_6.out hx)
    have XT_7 := Lib.hid (show NodeAt _ (.agg (ndC x10)) u from ⟨x10, rfl, HU.out.2 ▸ hon.reads⟩)
    clear hx hon Y_6 XN_6 GA_6 WL_6
    rw [HU.out.1]
    go_wp2_with (first | (refine Agg.wpList_new rfl rfl rfl 26 10 68 rfl rfl rfl (by decide) (ndC ndZ) (ndC x10) nd_zero (rfl) (nd_info _) (ndC_one _) rfl (by first | (simp; done) | simp [Act.put]) ?_; intro g10 w8 hb hx hg; have Y_8 := Lib.hid (Agg.belowThen Y_7.out (Nat.le_refl _) hx); have XN_8 := Lib.hid (XN_7.out.below hx); have GA_8 := Lib.hid (GA_7.out.below hx); have WL_8 := Lib.hid (SliceOf.below WL_7.out hx); have XT_8 := Lib.hid (XT_7.out.below hx); have GT_8 := Lib.hid (hb); clear hb hx hg Y_7 XN_7 GA_7 WL_7 XT_7))
    have HZN := Lib.hid (Below.refl w8.heap.size w8)
    go_loopw [12, 13] (fun s i wr => ∃ k : Nat, k ≤ nn ∧ s = .int .i64 (szS t k : Int) ∧ i = .int .i64 (k : Int) ∧ Below w8.heap.size w8 wr) (fun _ i _ => nn - (intOf i).toNat)
    case atStart => exact ⟨0, by omega, rfl, rfl, HZN.out⟩
    case round =>
      obtain ⟨w20, rfl⟩ : ∃ y : World, y = wr := ⟨_, rfl⟩
      obtain ⟨k, hk, rfl, rfl, hb⟩ := hrel
      have HR := Lib.hid hb
      clear hb
      have Y_20 := Lib.hid (Agg.belowThen Y_8.out (Nat.le_refl _) HR.out)
      have XN_20 := Lib.hid (XN_8.out.below HR.out)
      have GA_20 := Lib.hid (GA_8.out.below HR.out)
      have WL_20 := Lib.hid (SliceOf.below WL_8.out HR.out)
      have XT_20 := Lib.hid (XT_8.out.below HR.out)
      have GT_20 := Lib.hid (GT_8.out.below HR.out)
      have HRX_20 := HR
      clear HR HZN
      by_cases hlt : k < nn
      case neg =>
        obtain rfl : k = nn := by omega
        have hlq : decide ((k : Int) < (k : Int)) = false := by simp
        have HSZ := Lib.hid (show szS t k = ss by rw [← hln, ← HLL.out, szS_all HRT.out, HSS.out])
        rw [HSZ.out]
        have HEQ := Lib.hid (enters_of Tryd.func24 (by kernel_rfl) rfl : ∀ args w, (callFunc 24 args).run Tryd.prog w = .ok (.enter 24 args) w)
        have HEC := Lib.hid (enters_of Tryd.func25 (by kernel_rfl) rfl : ∀ args w, (callFunc 25 args).run Tryd.prog w = .ok (.enter 25 args) w)
        have HSAM := Lib.hid (show (right t && (right t && same t t)) = true by rw [HRT.out, (same_iff t t).2 rfl]; rfl)
        have HCP := Lib.hid (show cpT t = t by simp [cpT, HRT.out])
        go_wp2_with fail
        refine Agg.wp_cutR (fun a0 a' w' => Below w0.heap.size w0 w' ∧ ExPut [151, 152, 153, 154, 155, 156, 157, 158, 159, 160, 161, 162, 163, 164] (a0.put (some 4) (.bool true)) a') ?_ ?_
        · try simp only [Act.put, List.setIfInBounds_toArray, List.set_cons_succ, List.set_cons_zero]
          obtain ⟨wa, hwa⟩ : ∃ X, X = w20.drew := ⟨_, rfl⟩
          have hda9 : Below w20.heap.size w20 wa := by rw [hwa]; exact (Below.refl _ _).drew
          have X_ := Lib.hid (XN_20.out.below hda9)
          have G_ := Lib.hid (GA_20.out.below hda9)
          have Y_ := Lib.hid (Agg.belowThen Y_20.out (Nat.le_refl _) hda9)
          refine wp_region_held_drew (S := fun W => Blk W g2 26 (ndC xn)) (by kernel_rfl) (by rw [← hwa]; exact G_.out) (fun hHeld => ?_)
          rw [← hwa] at hHeld ⊢
          clear hwa hda9
          refine Agg.held_take 0 (.int .i64 (ss : Int)) rfl (by kernel_rfl) (fun _ _ _ h => h) rfl (fun W _ => by first | kernel_rfl | rfl | simp [execOp]) (by assumption) ?_
          try simp only [Act.put, List.setIfInBounds_toArray, List.set_cons_succ, List.set_cons_zero]
          refine Agg.held_take 1 (.int .i64 (ss : Int)) rfl (by kernel_rfl) (fun _ _ _ h => h) rfl (fun W _ => by first | kernel_rfl | rfl | simp [execOp]) (by assumption) ?_
          try simp only [Act.put, List.setIfInBounds_toArray, List.set_cons_succ, List.set_cons_zero]
          refine Agg.held_take 2 (.bool true) rfl (by kernel_rfl) (fun _ _ _ h => h) rfl (fun W _ => exec_sameI (ss : Int) rfl rfl rfl W) (by assumption) ?_
          try simp only [Act.put, List.setIfInBounds_toArray, List.set_cons_succ, List.set_cons_zero]
          refine Agg.held_take 3 (.bool true) rfl (by kernel_rfl) (fun _ _ _ h => h) rfl (fun W _ => by first | kernel_rfl | rfl | simp [execOp]) (by assumption) ?_
          try simp only [Act.put, List.setIfInBounds_toArray, List.set_cons_succ, List.set_cons_zero]
          refine Agg.held_take 4 (.agg (ndC xn)) rfl (by kernel_rfl) (fun _ _ _ h => h) rfl (fun W hS => exec_loadB rfl rfl (NdL.of_blk hS).all.now) (by assumption) ?_
          try simp only [Act.put, List.setIfInBounds_toArray, List.set_cons_succ, List.set_cons_zero]
          refine Agg.held_take 5 (.agg (ndC xn)) rfl (by kernel_rfl) (fun _ _ _ h => h) rfl (fun W hS => exec_loadB rfl rfl (NdL.of_blk hS).all.now) (by assumption) ?_
          try simp only [Act.put, List.setIfInBounds_toArray, List.set_cons_succ, List.set_cons_zero]
          refine Agg.held_ready [6] (by kernel_rfl) (by simp) ?_
          refine Agg.held_cons rfl ?_ ?_
          · refine Agg.step_callW rfl 24 _ _ rfl #[.agg (ndC xn), .agg (ndC xn)] (by simp only [List.map_toArray, List.map_cons, List.map_nil]; rfl) (fun W => HEQ.out _ W) ?_
            refine (equal_any t t _ _ _ X_.out X_.out).mono ?_
            rintro e wa_6 ⟨rfl, hx⟩
            rw [HSAM.out]
            have X_6 := Lib.hid (X_.out.below hx)
            have G_6 := Lib.hid (G_.out.below hx)
            have Y_6 := Lib.hid (Agg.belowThen Y_.out (Nat.le_refl _) hx)
            have hS_6 : Blk wa_6 g2 26 (ndC xn) := G_6.out
            clear hx
            refine ⟨_, rfl, ?_⟩
            refine ⟨hS_6, ?_⟩
            try simp only [Act.put, List.setIfInBounds_toArray, List.set_cons_succ, List.set_cons_zero]
            refine Agg.held_take 7 (.bool true) rfl (by kernel_rfl) (fun _ _ _ h => h) rfl (fun W _ => by first | kernel_rfl | rfl | simp [execOp]) (by assumption) ?_
            try simp only [Act.put, List.setIfInBounds_toArray, List.set_cons_succ, List.set_cons_zero]
            refine Agg.held_take 8 (.bool true) rfl (by kernel_rfl) (fun _ _ _ h => h) rfl (fun W _ => by first | kernel_rfl | rfl | simp [execOp]) (by assumption) ?_
            try simp only [Act.put, List.setIfInBounds_toArray, List.set_cons_succ, List.set_cons_zero]
            refine Agg.held_take 9 (.agg (ndC xn)) rfl (by kernel_rfl) (fun _ _ _ h => h) rfl (fun W hS => exec_loadB rfl rfl (NdL.of_blk hS).all.now) (by assumption) ?_
            try simp only [Act.put, List.setIfInBounds_toArray, List.set_cons_succ, List.set_cons_zero]
            refine Agg.held_take 11 (.agg (ndC xn)) rfl (by kernel_rfl) (fun _ _ _ h => h) rfl (fun W hS => exec_loadB rfl rfl (NdL.of_blk hS).all.now) (by assumption) ?_
            try simp only [Act.put, List.setIfInBounds_toArray, List.set_cons_succ, List.set_cons_zero]
            refine Agg.held_ready [10] (by kernel_rfl) (by simp) ?_
            refine Agg.held_cons rfl ?_ ?_
            · refine Agg.step_callW rfl 25 _ _ rfl #[.agg (ndC xn)] (by simp only [List.map_toArray, List.map_cons, List.map_nil]; rfl) (fun W => HEC.out _ W) ?_
              refine (tcopy_any _ t _ X_6.out).mono ?_
              rintro e wa_6_10 ⟨xc, rfl, hon, hx⟩
              rw [HCP.out] at hon
              have C_6_10 := Lib.hid (show NodeAt wa_6_10 (.agg (ndC xc)) t from ⟨xc, rfl, hon.reads⟩)
              have X_6_10 := Lib.hid (X_6.out.below hx)
              have G_6_10 := Lib.hid (G_6.out.below hx)
              have Y_6_10 := Lib.hid (Agg.belowThen Y_6.out (Nat.le_refl _) hx)
              have hS_6_10 : Blk wa_6_10 g2 26 (ndC xn) := G_6_10.out
              clear hx hon
              refine ⟨_, rfl, ?_⟩
              refine ⟨hS_6_10, ?_⟩
              try simp only [Act.put, List.setIfInBounds_toArray, List.set_cons_succ, List.set_cons_zero]
              refine Agg.held_ready [12] (by kernel_rfl) (by simp) ?_
              refine Agg.held_cons rfl ?_ ?_
              · refine Agg.step_callW rfl 24 _ _ rfl #[.agg (ndC xc), .agg (ndC xn)] (by simp only [List.map_toArray, List.map_cons, List.map_nil]; rfl) (fun W => HEQ.out _ W) ?_
                refine (equal_any t t _ _ _ C_6_10.out X_6_10.out).mono ?_
                rintro e wa_6_10_12 ⟨rfl, hx⟩
                rw [HSAM.out]
                have X_6_10_12 := Lib.hid (X_6_10.out.below hx)
                have G_6_10_12 := Lib.hid (G_6_10.out.below hx)
                have Y_6_10_12 := Lib.hid (Agg.belowThen Y_6_10.out (Nat.le_refl _) hx)
                have hS_6_10_12 : Blk wa_6_10_12 g2 26 (ndC xn) := G_6_10_12.out
                clear hx
                refine ⟨_, rfl, ?_⟩
                refine ⟨hS_6_10_12, ?_⟩
                try simp only [Act.put, List.setIfInBounds_toArray, List.set_cons_succ, List.set_cons_zero]
                refine Agg.held_take 13 (.bool true) rfl (by kernel_rfl) (fun _ _ _ h => h) rfl (fun W _ => by first | kernel_rfl | rfl | simp [execOp]) (by assumption) ?_
                try simp only [Act.put, List.setIfInBounds_toArray, List.set_cons_succ, List.set_cons_zero]
                refine Agg.held_take 14 (.bool true) rfl (by kernel_rfl) (fun _ _ _ h => h) rfl (fun W _ => by first | kernel_rfl | rfl | simp [execOp]) (by assumption) ?_
                try simp only [Act.put, List.setIfInBounds_toArray, List.set_cons_succ, List.set_cons_zero]
                refine Agg.held_end (by kernel_rfl) ?_
                simp only [Agg.ExPut, Act.put, List.setIfInBounds_toArray, List.set_cons_succ, List.set_cons_zero]
                exact ⟨Y_6_10_12.out, _, _, _, _, _, _, _, _, _, _, _, _, _, _, rfl⟩
              exact AllReadyH.nil
            exact AllReadyH.nil
          exact AllReadyH.nil
        · rintro a' wb ⟨hy, hex⟩
          simp only [Agg.ExPut, Act.put, List.setIfInBounds_toArray, List.set_cons_succ, List.set_cons_zero] at hex
          obtain ⟨y151, y152, y153, y154, y155, y156, y157, y158, y159, y160, y161, y162, y163, y164, rfl⟩ := hex
          go_wp2_with fail
          go_ret
          exact ⟨rfl, hy⟩
      case pos =>
        have hlq : decide ((k : Int) < (nn : Int)) = true := by simp; omega
        obtain ⟨sk, hsk⟩ : ∃ s, LL[k]? = some s := ⟨_, List.getElem?_eq_getElem (by omega)⟩
        have HSK := Lib.hid hsk
        have HSM := Lib.hid (show sk ∈ wysT t by rw [HLL.out]; exact List.mem_of_getElem? hsk)
        obtain ⟨xk, wsk, hke, hkt, hkf, hkl, _⟩ := wysT_mem HRT.out (List.mem_append.2 (.inl HSM.out))
        have HXK := Lib.hid (And.intro hke hkt)
        have HXR := Lib.hid (find_right HRT.out hkf)
        obtain ⟨pk, hadrk, _⟩ := strs_at WL_20.out k sk hsk
        have HADK := Lib.hid hadrk
        have hsz := szS_succ t (show (wysT t)[k]? = some sk by rw [HLL.out]; exact hsk)
        rw [hkt] at hsz
        have HSZ := Lib.hid hsz
        have hszl := szS_le HRT.out k
        have hbk := ok_bytes (right_ok (find_right HRT.out hkf))
        clear hsk hke hkt hkf hsz hadrk
        have HEF := Lib.hid (enters_of Tryd.func10 (by kernel_rfl) rfl : ∀ args w, (callFunc 10 args).run Tryd.prog w = .ok (.enter 10 args) w)
        go_wp2_with fail
        have HFE := Lib.hid (show fdE t sk = 0 ∧ fdT t sk = xk from HXK.out)
        refine Agg.wp_cutR (fun a0 a' w' => ∃ (g14 : Nat) (x14 : NdV), Blk w' g14 26 (ndC x14) ∧ NodeAt w' (.agg (ndC x14)) xk ∧ Below w20.heap.size w20 w' ∧ ExPut [76, 77, 78, 79, 80, 81, 82, 83, 84] ((a0.put (some 14) (.pointer (some ⟨g14, 0, none⟩))).put (some 15) (.int .i64 0)) a') ?_ ?_
        · try simp only [Act.put, List.setIfInBounds_toArray, List.set_cons_succ, List.set_cons_zero]
          obtain ⟨wa, hwa⟩ : ∃ X, X = w20.drew := ⟨_, rfl⟩
          have hda9 : Below w20.heap.size w20 wa := by rw [hwa]; exact (Below.refl _ _).drew
          have X_ := Lib.hid (XN_20.out.below hda9)
          have G_ := Lib.hid (GA_20.out.below hda9)
          have V_ := Lib.hid (SliceOf.below WL_20.out hda9)
          have Q_ := Lib.hid hda9
          have Z_ := Lib.hid (Nat.le_refl wa.heap.size)
          refine wp_region_held_drew (S := fun W => Blk W g2 26 (ndC xn) ∧ SliceOf ES W vl LL) (by kernel_rfl) (by rw [← hwa]; exact ⟨G_.out, V_.out⟩) (fun hHeld => ?_)
          rw [← hwa] at hHeld ⊢
          clear hwa hda9
          have HW0 := Lib.hid (show w20.heap.size ≤ wa.heap.size from Q_.out.size)
          refine Agg.held_take 0 (.agg (ndC xn)) rfl (by kernel_rfl) (fun _ _ _ h => h) rfl (fun W hS => exec_loadB rfl rfl (NdL.of_blk hS.1).all.now) (by assumption) ?_
          try simp only [Act.put, List.setIfInBounds_toArray, List.set_cons_succ, List.set_cons_zero]
          refine Agg.held_take 1 (vl) rfl (by kernel_rfl) (fun _ _ _ h => h) rfl (fun W _ => by first | kernel_rfl | rfl | simp [execOp]) (by assumption) ?_
          try simp only [Act.put, List.setIfInBounds_toArray, List.set_cons_succ, List.set_cons_zero]
          refine Agg.held_take 2 (.int .i64 (k : Int)) rfl (by kernel_rfl) (fun _ _ _ h => h) rfl (fun W _ => by first | kernel_rfl | rfl | simp [execOp]) (by assumption) ?_
          try simp only [Act.put, List.setIfInBounds_toArray, List.set_cons_succ, List.set_cons_zero]
          refine Agg.held_take 3 (.pointer (some pk)) rfl (by kernel_rfl) (fun _ _ _ h => h) rfl (fun W _ => exec_idx rfl rfl rfl (HADK.out W)) (by assumption) ?_
          try simp only [Act.put, List.setIfInBounds_toArray, List.set_cons_succ, List.set_cons_zero]
          refine Agg.held_take 4 (.string ⟨sk.toArray⟩) rfl (by kernel_rfl) (fun _ _ _ h => h) rfl (fun W hS => exec_loadB rfl rfl (strs_load hS.2 HSK.out HADK.out).now) (by assumption) ?_
          try simp only [Act.put, List.setIfInBounds_toArray, List.set_cons_succ, List.set_cons_zero]
          refine Agg.held_ready [5, 9] (by kernel_rfl) (by simp) ?_
          refine Agg.held_cons rfl ?_ ?_
          · refine Agg.step_call rfl 10 _ _ rfl #[.agg (ndC xn), .string ⟨sk.toArray⟩] (by simp only [List.map_toArray, List.map_cons, List.map_nil]; rfl) (fun W => HEF.out _ W) ?_
            refine (tfind_any t sk (by omega) _ _ X_.out).mono ?_
            rintro e wa_5 ⟨x14, rfl, hon, hx⟩
            rw [HFE.out.2] at hon
            rw [HFE.out.1]
            obtain ⟨bs, hot, _⟩ := hon
            have T_5 := Lib.hid hot
            have HRB := Lib.hid (OwnT.range _ _ _ hot)
            have X_5 := Lib.hid (X_.out.below hx)
            have G_5 := Lib.hid (G_.out.below hx)
            have V_5 := Lib.hid (SliceOf.below V_.out hx)
            have Q_5 := Lib.hid (Agg.belowThen Q_.out (Nat.le_refl _) hx)
            have Z_5 := Lib.hid (Nat.le_trans Z_.out hx.size)
            have hS_5 : Blk wa_5 g2 26 (ndC xn) ∧ SliceOf ES wa_5 vl LL := ⟨G_5.out, V_5.out⟩
            clear hx hot
            refine ⟨_, rfl, ?_⟩
            refine ⟨hS_5, ?_⟩
            try simp only [Act.put, List.setIfInBounds_toArray, List.set_cons_succ, List.set_cons_zero]
            refine Agg.held_take 6 (.tuple #[.agg (ndC x14), .int .i64 ((0 : Nat) : Int)]) rfl (by kernel_rfl) (fun _ _ _ h => h) rfl (fun W _ => by first | kernel_rfl | rfl | simp [execOp]) (by assumption) ?_
            try simp only [Act.put, List.setIfInBounds_toArray, List.set_cons_succ, List.set_cons_zero]
            refine Agg.held_take 7 (.agg (ndC x14)) rfl (by kernel_rfl) (fun _ _ _ h => h) rfl (fun W _ => by first | kernel_rfl | rfl | simp [execOp]) (by assumption) ?_
            try simp only [Act.put, List.setIfInBounds_toArray, List.set_cons_succ, List.set_cons_zero]
            refine Agg.held_take 8 (.int .i64 0) rfl (by kernel_rfl) (fun _ _ _ h => h) rfl (fun W _ => by first | kernel_rfl | rfl | simp [execOp]) (by assumption) ?_
            try simp only [Act.put, List.setIfInBounds_toArray, List.set_cons_succ, List.set_cons_zero]
            refine Agg.held_ready [9] (by kernel_rfl) (by simp) ?_
            refine Agg.held_cons rfl ?_ ?_
            · refine step_zero rfl 26 rfl (ndC ndZ) nd_zero ?_
              intro g14 wa_5_9 hb hx hg
              have N_5_9 := Lib.hid hb
              have HGG := Lib.hid (show wa_5.heap.size ≤ g14 ∧ g14 < wa_5_9.heap.size ∧ wa.heap.size ≤ g14 from ⟨hg, hb.lt, Nat.le_trans Z_5.out hg⟩)
              have T_5_9 := Lib.hid (OwnT.below hx T_5.out)
              have X_5_9 := Lib.hid (X_5.out.below hx)
              have G_5_9 := Lib.hid (G_5.out.below hx)
              have V_5_9 := Lib.hid (SliceOf.below V_5.out hx)
              have Q_5_9 := Lib.hid (Agg.belowThen Q_5.out (Nat.le_refl _) hx)
              have Z_5_9 := Lib.hid (Nat.le_trans Z_5.out hx.size)
              have hS_5_9 : Blk wa_5_9 g2 26 (ndC xn) ∧ SliceOf ES wa_5_9 vl LL := ⟨G_5_9.out, V_5_9.out⟩
              clear hb hx hg
              refine ⟨hS_5_9, ?_⟩
              try simp only [Act.put, List.setIfInBounds_toArray, List.set_cons_succ, List.set_cons_zero]
              refine Agg.held_ready [10] (by kernel_rfl) (by simp) ?_
              refine Agg.held_cons rfl ?_ ?_
              · refine step_put rfl rfl 26 _ _ rfl g14 (ndC x14) (ndC ndZ) rfl rfl N_5_9.out (nd_info _) rfl (ndC_one _) ?_
                intro wa_5_9_10 hb hx hs hk9
                have ho := Only.of_eq (S := (· = g14)) hx hs hk9 rfl
                have N_5_9_10 := Lib.hid hb
                have T_5_9_10 := Lib.hid (OwnT.only ho _ _ _ T_5_9.out (fun j hj e => by have h1 := HRB.out j hj; have h2 := HGG.out; omega))
                have G_5_9_10 := Lib.hid (Agg.Blk.keepO G_5_9.out ho (fun e => by have h1 := G_.out.lt; have h2 := HGG.out; have h3 := HW0.out; omega))
                have Q_5_9_10 := Lib.hid (Q_5_9.out.trans (hx.mono (by have h2 := HGG.out; have h3 := HW0.out; omega)))
                have V_5_9_10 := Lib.hid (SliceOf.below WL_20.out Q_5_9_10.out)
                clear hb hx hs hk9 ho
                have hS_5_9_10 : Blk wa_5_9_10 g2 26 (ndC xn) ∧ SliceOf ES wa_5_9_10 vl LL := ⟨G_5_9_10.out, V_5_9_10.out⟩
                refine ⟨hS_5_9_10, ?_⟩
                try simp only [Act.put, List.setIfInBounds_toArray, List.set_cons_succ, List.set_cons_zero]
                refine Agg.held_take 11 (.int .i64 0) rfl (by kernel_rfl) (fun _ _ _ h => h) rfl (fun W _ => by first | kernel_rfl | rfl | simp [execOp]) (by assumption) ?_
                try simp only [Act.put, List.setIfInBounds_toArray, List.set_cons_succ, List.set_cons_zero]
                refine Agg.held_end (by kernel_rfl) ?_
                simp only [Agg.ExPut, Act.put, List.setIfInBounds_toArray, List.set_cons_succ, List.set_cons_zero]
                exact ⟨g14, x14, N_5_9_10.out, ⟨x14, rfl, OwnT.reads _ _ _ T_5_9_10.out⟩, Q_5_9_10.out, _, _, _, _, _, _, _, _, _, rfl⟩
              exact AllReadyH.nil
            exact AllReadyH.nil
          refine Agg.held_cons rfl ?_ ?_
          · refine step_zero rfl 26 rfl (ndC ndZ) nd_zero ?_
            intro g14 wa_9 hb hx hg
            have N_9 := Lib.hid hb
            have HGG := Lib.hid (show wa.heap.size ≤ g14 ∧ g14 < wa_9.heap.size ∧ wa.heap.size ≤ g14 from ⟨hg, hb.lt, Nat.le_trans Z_.out hg⟩)
            have X_9 := Lib.hid (X_.out.below hx)
            have G_9 := Lib.hid (G_.out.below hx)
            have V_9 := Lib.hid (SliceOf.below V_.out hx)
            have Q_9 := Lib.hid (Agg.belowThen Q_.out (Nat.le_refl _) hx)
            have Z_9 := Lib.hid (Nat.le_trans Z_.out hx.size)
            have hS_9 : Blk wa_9 g2 26 (ndC xn) ∧ SliceOf ES wa_9 vl LL := ⟨G_9.out, V_9.out⟩
            clear hb hx hg
            refine ⟨hS_9, ?_⟩
            try simp only [Act.put, List.setIfInBounds_toArray, List.set_cons_succ, List.set_cons_zero]
            refine Agg.held_ready [5] (by kernel_rfl) (by simp) ?_
            refine Agg.held_cons rfl ?_ ?_
            · refine Agg.step_call rfl 10 _ _ rfl #[.agg (ndC xn), .string ⟨sk.toArray⟩] (by simp only [List.map_toArray, List.map_cons, List.map_nil]; rfl) (fun W => HEF.out _ W) ?_
              refine (tfind_any t sk (by omega) _ _ X_9.out).mono ?_
              rintro e wa_5_9 ⟨x14, rfl, hon, hx⟩
              rw [HFE.out.2] at hon
              rw [HFE.out.1]
              obtain ⟨bs, hot, _⟩ := hon
              have T_5_9 := Lib.hid hot
              have HRB := Lib.hid (OwnT.range _ _ _ hot)
              have N_5_9 := Lib.hid (N_9.out.below hx)
              have X_5_9 := Lib.hid (X_9.out.below hx)
              have G_5_9 := Lib.hid (G_9.out.below hx)
              have V_5_9 := Lib.hid (SliceOf.below V_9.out hx)
              have Q_5_9 := Lib.hid (Agg.belowThen Q_9.out (Nat.le_refl _) hx)
              have Z_5_9 := Lib.hid (Nat.le_trans Z_9.out hx.size)
              have hS_5_9 : Blk wa_5_9 g2 26 (ndC xn) ∧ SliceOf ES wa_5_9 vl LL := ⟨G_5_9.out, V_5_9.out⟩
              clear hx hot
              refine ⟨_, rfl, ?_⟩
              refine ⟨hS_5_9, ?_⟩
              try simp only [Act.put, List.setIfInBounds_toArray, List.set_cons_succ, List.set_cons_zero]
              refine Agg.held_take 6 (.tuple #[.agg (ndC x14), .int .i64 ((0 : Nat) : Int)]) rfl (by kernel_rfl) (fun _ _ _ h => h) rfl (fun W _ => by first | kernel_rfl | rfl | simp [execOp]) (by assumption) ?_
              try simp only [Act.put, List.setIfInBounds_toArray, List.set_cons_succ, List.set_cons_zero]
              refine Agg.held_take 7 (.agg (ndC x14)) rfl (by kernel_rfl) (fun _ _ _ h => h) rfl (fun W _ => by first | kernel_rfl | rfl | simp [execOp]) (by assumption) ?_
              try simp only [Act.put, List.setIfInBounds_toArray, List.set_cons_succ, List.set_cons_zero]
              refine Agg.held_take 8 (.int .i64 0) rfl (by kernel_rfl) (fun _ _ _ h => h) rfl (fun W _ => by first | kernel_rfl | rfl | simp [execOp]) (by assumption) ?_
              try simp only [Act.put, List.setIfInBounds_toArray, List.set_cons_succ, List.set_cons_zero]
              refine Agg.held_ready [10] (by kernel_rfl) (by simp) ?_
              refine Agg.held_cons rfl ?_ ?_
              · refine step_put rfl rfl 26 _ _ rfl g14 (ndC x14) (ndC ndZ) rfl rfl N_5_9.out (nd_info _) rfl (ndC_one _) ?_
                intro wa_5_9_10 hb hx hs hk9
                have ho := Only.of_eq (S := (· = g14)) hx hs hk9 rfl
                have N_5_9_10 := Lib.hid hb
                have T_5_9_10 := Lib.hid (OwnT.only ho _ _ _ T_5_9.out (fun j hj e => by have h1 := HRB.out j hj; have h2 := HGG.out; omega))
                have G_5_9_10 := Lib.hid (Agg.Blk.keepO G_5_9.out ho (fun e => by have h1 := G_.out.lt; have h2 := HGG.out; have h3 := HW0.out; omega))
                have Q_5_9_10 := Lib.hid (Q_5_9.out.trans (hx.mono (by have h2 := HGG.out; have h3 := HW0.out; omega)))
                have V_5_9_10 := Lib.hid (SliceOf.below WL_20.out Q_5_9_10.out)
                clear hb hx hs hk9 ho
                have hS_5_9_10 : Blk wa_5_9_10 g2 26 (ndC xn) ∧ SliceOf ES wa_5_9_10 vl LL := ⟨G_5_9_10.out, V_5_9_10.out⟩
                refine ⟨hS_5_9_10, ?_⟩
                try simp only [Act.put, List.setIfInBounds_toArray, List.set_cons_succ, List.set_cons_zero]
                refine Agg.held_take 11 (.int .i64 0) rfl (by kernel_rfl) (fun _ _ _ h => h) rfl (fun W _ => by first | kernel_rfl | rfl | simp [execOp]) (by assumption) ?_
                try simp only [Act.put, List.setIfInBounds_toArray, List.set_cons_succ, List.set_cons_zero]
                refine Agg.held_end (by kernel_rfl) ?_
                simp only [Agg.ExPut, Act.put, List.setIfInBounds_toArray, List.set_cons_succ, List.set_cons_zero]
                exact ⟨g14, x14, N_5_9_10.out, ⟨x14, rfl, OwnT.reads _ _ _ T_5_9_10.out⟩, Q_5_9_10.out, _, _, _, _, _, _, _, _, _, rfl⟩
              exact AllReadyH.nil
            exact AllReadyH.nil
          exact AllReadyH.nil
        · rintro a' w21 ⟨g14, x14, hb, hn, hx, hex⟩
          simp only [Agg.ExPut, Act.put, List.setIfInBounds_toArray, List.set_cons_succ, List.set_cons_zero] at hex
          obtain ⟨y76, y77, y78, y79, y80, y81, y82, y83, y84, rfl⟩ := hex
          have Y_21 := Lib.hid (Agg.belowThen Y_20.out (Nat.le_refl _) hx)
          have XN_21 := Lib.hid (XN_20.out.below hx)
          have GA_21 := Lib.hid (GA_20.out.below hx)
          have WL_21 := Lib.hid (SliceOf.below WL_20.out hx)
          have XT_21 := Lib.hid (XT_20.out.below hx)
          have GT_21 := Lib.hid (GT_20.out.below hx)
          have HRX_21 := Lib.hid (Agg.belowThen HRX_20.out (Nat.le_refl _) hx)
          have Gg14_21 := Lib.hid hb
          have Xg14_21 := Lib.hid hn
          clear hb hn hx Y_20 XN_20 GA_20 WL_20 XT_20 GT_20 HRX_20
          by_cases hk0 : k = 0
          case pos =>
            have hgt : decide (0 < (k : Int)) = false := by simp; omega
            have hgt2 : decide (0 < k) = false := decide_eq_false (by omega)
            have hgt3 : decide (k = 0) = true := decide_eq_true hk0
            have HGT := Lib.hid hgt
            clear hk0
            have hadrk := HADK.out
            have HLDK := Lib.hid (strs_load WL_21.out HSK.out HADK.out)
            go_wp2_with fail
            try simp only [Act.put, List.setIfInBounds_toArray, List.set_cons_succ, List.set_cons_zero]
            try simp only [List.append_eq, List.cons_append, List.nil_append]
            refine Agg.wp_region_later_lit (by kernel_rfl) (by kernel_rfl) ?_
            repeat (first | go_big_quiet_skip | go_big_quiet_step (fail))
            refine wpQuiet_nil ?_
            intro _ hw'
            obtain ⟨x1, rfl⟩ := hw'
            obtain ⟨w22, hww⟩ : ∃ W, W = x1.w := ⟨_, rfl⟩
            have hx : Below w21.heap.size w21 w22 := by rw [hww]; exact x1.h
            rw [← hww]
            clear hww x1
            have Y_22 := Lib.hid (Agg.belowThen Y_21.out (Nat.le_refl _) hx)
            have XN_22 := Lib.hid (XN_21.out.below hx)
            have GA_22 := Lib.hid (GA_21.out.below hx)
            have WL_22 := Lib.hid (SliceOf.below WL_21.out hx)
            have XT_22 := Lib.hid (XT_21.out.below hx)
            have GT_22 := Lib.hid (GT_21.out.below hx)
            have HRX_22 := Lib.hid (Agg.belowThen HRX_21.out (Nat.le_refl _) hx)
            have Gg14_22 := Lib.hid (Gg14_21.out.below hx)
            have Xg14_22 := Lib.hid (Xg14_21.out.below hx)
            clear hx HLDK Y_21 XN_21 GA_21 WL_21 XT_21 GT_21 HRX_21 Gg14_21 Xg14_21
            have HLDK := Lib.hid (strs_load WL_22.out HSK.out HADK.out)
            have hbv := by14 Xg14_22.out
            have hlb := fun W => bytes_len hbv W
            clear hbv
            have hee : ∀ q : Bool, q = true ∨ q = false := fun q => by cases q <;> simp
            by_cases hw0 : way = []
            · have hwd : (!decide (way = ([] : List UInt8))) = false := by simp [hw0]
              have HWD := Lib.hid hwd
              clear hwd hw0
              go_wp2_with (first | (refine Agg.wpList_valw rfl (exec_addI (m := szS t k) (n := xk.bytes.length) (by omega) rfl rfl rfl) ?_) | (with_reducible refine Agg.wpList_loadL (NdL.of_blk Gg14_22.out).bytes rfl _ rfl rfl ?_) | (refine wpList_neqS (s := way) (r := []) rfl rfl rfl rfl false HWD.out ?_))
              go_roundw
              case rel => exact ⟨k + 1, by omega, by rw [HSZ.out]; go_num, by go_num, HRX_22.out⟩
              case measure => simp [intOf] <;> omega
            have hwd : (!decide (way = ([] : List UInt8))) = true := by simp [hw0]
            have HWD := Lib.hid hwd
            clear hwd
            go_wp2_with (first | (refine Agg.wpList_valw rfl (exec_addI (m := szS t k) (n := xk.bytes.length) (by omega) rfl rfl rfl) ?_) | (with_reducible refine Agg.wpList_loadL (NdL.of_blk Gg14_22.out).bytes rfl _ rfl rfl ?_) | (refine wpList_neqS (s := way) (r := []) rfl rfl rfl rfl true HWD.out ?_) | (with_reducible refine Agg.wpList_loadL HLDK.out rfl _ rfl rfl ?_))
            refine (begins_any sk way (by omega) _).mono ?_
            rintro e wq9 ⟨rfl, hq9⟩
            obtain rfl : w22 = wq9 := hq9.symm
            cases hbg : begins sk way with
            | false =>
              go_wp2_with fail
              go_roundw
              case rel => exact ⟨k + 1, by omega, by rw [HSZ.out]; go_num, by go_num, HRX_22.out⟩
              case measure => simp [intOf] <;> omega
            | true =>
              by_cases hsw : sk = way
              · have HSW := Lib.hid (show (!decide (sk = way)) = false by simp [hsw])
                clear hsw
                go_wp2_with (first | (with_reducible refine Agg.wpList_loadL HLDK.out rfl _ rfl rfl ?_) | (refine wpList_neqS (s := sk) (r := way) rfl rfl rfl rfl false HSW.out ?_))
                go_roundw
                case rel => exact ⟨k + 1, by omega, by rw [HSZ.out]; go_num, by go_num, HRX_22.out⟩
                case measure => simp [intOf] <;> omega
              have HSW := Lib.hid (show (!decide (sk = way)) = true by simp [hsw])
              obtain ⟨hbl, hbe, hbt⟩ := wysT_below HRT.out HSM.out HWY.out hw0 hbg hsw
              clear hsw hw0
              have HFE := Lib.hid (show fdE u (sk.drop (way.length + 1)) = 0 ∧ fdT u (sk.drop (way.length + 1)) = xk by rw [← HU.out.2]; exact ⟨hbe, hbt.trans HXK.out.2⟩)
              have HLW := Lib.hid (str_lenT way)
              have HSLI := Lib.hid (show ∀ W, (Instr.sliceAt 9 (.string ⟨sk.toArray⟩) (some (.int .i64 ((way.length : Int) + 1))) none none).run Tryd.prog W = .ok (.string ⟨(sk.drop (way.length + 1)).toArray⟩) W from fun W => by
                have h := slice_from W Tryd.underlying9 sk .i64 (way.length + 1) (by omega)
                rwa [show ((way.length + 1 : Nat) : Int) = (way.length : Int) + 1 by omega] at h)
              go_wp2_with (first | (with_reducible refine Agg.wpList_loadL HLDK.out rfl _ rfl rfl ?_) | (refine wpList_neqS (s := sk) (r := way) rfl rfl rfl rfl true HSW.out ?_))
              refine Agg.wp_cutR (fun a0 a' w' => ∃ (g16 : Nat) (x16 : NdV), Blk w' g16 26 (ndC x16) ∧ NodeAt w' (.agg (ndC x16)) xk ∧ Below w22.heap.size w22 w' ∧ ExPut [130, 131, 132, 133, 134, 135, 136, 137, 138, 139, 140, 141, 142] ((a0.put (some 16) (.pointer (some ⟨g16, 0, none⟩))).put (some 17) (.int .i64 0)) a') ?_ ?_
              · try simp only [Act.put, List.setIfInBounds_toArray, List.set_cons_succ, List.set_cons_zero]
                obtain ⟨wa, hwa⟩ : ∃ X, X = w22.drew := ⟨_, rfl⟩
                have hda9 : Below w22.heap.size w22 wa := by rw [hwa]; exact (Below.refl _ _).drew
                have X_ := Lib.hid (XT_22.out.below hda9)
                have G_ := Lib.hid (GT_22.out.below hda9)
                have V_ := Lib.hid (SliceOf.below WL_22.out hda9)
                have Q_ := Lib.hid hda9
                have Z_ := Lib.hid (Nat.le_refl wa.heap.size)
                refine wp_region_held_drew (S := fun W => Blk W g10 26 (ndC x10) ∧ SliceOf ES W vl LL) (by kernel_rfl) (by rw [← hwa]; exact ⟨G_.out, V_.out⟩) (fun hHeld => ?_)
                rw [← hwa] at hHeld ⊢
                clear hwa hda9
                have HW0 := Lib.hid (show w22.heap.size ≤ wa.heap.size from Q_.out.size)
                refine Agg.held_take 0 (.agg (ndC x10)) rfl (by kernel_rfl) (fun _ _ _ h => h) rfl (fun W hS => exec_loadB rfl rfl (NdL.of_blk hS.1).all.now) (by assumption) ?_
                try simp only [Act.put, List.setIfInBounds_toArray, List.set_cons_succ, List.set_cons_zero]
                refine Agg.held_take 1 (vl) rfl (by kernel_rfl) (fun _ _ _ h => h) rfl (fun W _ => by first | kernel_rfl | rfl | simp [execOp]) (by assumption) ?_
                try simp only [Act.put, List.setIfInBounds_toArray, List.set_cons_succ, List.set_cons_zero]
                refine Agg.held_take 2 (.int .i64 (k : Int)) rfl (by kernel_rfl) (fun _ _ _ h => h) rfl (fun W _ => by first | kernel_rfl | rfl | simp [execOp]) (by assumption) ?_
                try simp only [Act.put, List.setIfInBounds_toArray, List.set_cons_succ, List.set_cons_zero]
                refine Agg.held_take 3 (.pointer (some pk)) rfl (by kernel_rfl) (fun _ _ _ h => h) rfl (fun W _ => exec_idx rfl rfl rfl (HADK.out W)) (by assumption) ?_
                try simp only [Act.put, List.setIfInBounds_toArray, List.set_cons_succ, List.set_cons_zero]
                refine Agg.held_take 4 (.string ⟨sk.toArray⟩) rfl (by kernel_rfl) (fun _ _ _ h => h) rfl (fun W hS => exec_loadB rfl rfl (strs_load hS.2 HSK.out HADK.out).now) (by assumption) ?_
                try simp only [Act.put, List.setIfInBounds_toArray, List.set_cons_succ, List.set_cons_zero]
                refine Agg.held_take 5 (.string ⟨way.toArray⟩) rfl (by kernel_rfl) (fun _ _ _ h => h) rfl (fun W _ => by first | kernel_rfl | rfl | simp [execOp]) (by assumption) ?_
                try simp only [Act.put, List.setIfInBounds_toArray, List.set_cons_succ, List.set_cons_zero]
                refine Agg.held_take 6 (.int .i64 (way.length : Int)) rfl (by kernel_rfl) (fun _ _ _ h => h) rfl (fun W _ => exec_lenC rfl rfl (HLW.out W)) (by assumption) ?_
                try simp only [Act.put, List.setIfInBounds_toArray, List.set_cons_succ, List.set_cons_zero]
                refine Agg.held_take 7 (.int .i64 ((way.length : Int) + 1)) rfl (by kernel_rfl) (fun _ _ _ h => h) rfl (fun W _ => add1_run way.length (by omega) rfl rfl rfl W) (by assumption) ?_
                try simp only [Act.put, List.setIfInBounds_toArray, List.set_cons_succ, List.set_cons_zero]
                refine Agg.held_take 8 (.string ⟨(sk.drop (way.length + 1)).toArray⟩) rfl (by kernel_rfl) (fun _ _ _ h => h) rfl (fun W _ => exec_sliceS rfl rfl rfl (HSLI.out W)) (by assumption) ?_
                try simp only [Act.put, List.setIfInBounds_toArray, List.set_cons_succ, List.set_cons_zero]
                refine Agg.held_ready [9, 13] (by kernel_rfl) (by simp) ?_
                refine Agg.held_cons rfl ?_ ?_
                · refine Agg.step_call rfl 10 _ _ rfl #[.agg (ndC x10), .string ⟨(sk.drop (way.length + 1)).toArray⟩] (by simp only [List.map_toArray, List.map_cons, List.map_nil]; rfl) (fun W => HEF.out _ W) ?_
                  refine (tfind_any u (sk.drop (way.length + 1)) (by rw [List.length_drop]; omega) _ _ X_.out).mono ?_
                  rintro e wa_9 ⟨x16, rfl, hon, hx⟩
                  rw [HFE.out.2] at hon
                  rw [HFE.out.1]
                  obtain ⟨bs, hot, _⟩ := hon
                  have T_9 := Lib.hid hot
                  have HRB := Lib.hid (OwnT.range _ _ _ hot)
                  have X_9 := Lib.hid (X_.out.below hx)
                  have G_9 := Lib.hid (G_.out.below hx)
                  have V_9 := Lib.hid (SliceOf.below V_.out hx)
                  have Q_9 := Lib.hid (Agg.belowThen Q_.out (Nat.le_refl _) hx)
                  have Z_9 := Lib.hid (Nat.le_trans Z_.out hx.size)
                  have hS_9 : Blk wa_9 g10 26 (ndC x10) ∧ SliceOf ES wa_9 vl LL := ⟨G_9.out, V_9.out⟩
                  clear hx hot
                  refine ⟨_, rfl, ?_⟩
                  refine ⟨hS_9, ?_⟩
                  try simp only [Act.put, List.setIfInBounds_toArray, List.set_cons_succ, List.set_cons_zero]
                  refine Agg.held_take 10 (.tuple #[.agg (ndC x16), .int .i64 ((0 : Nat) : Int)]) rfl (by kernel_rfl) (fun _ _ _ h => h) rfl (fun W _ => by first | kernel_rfl | rfl | simp [execOp]) (by assumption) ?_
                  try simp only [Act.put, List.setIfInBounds_toArray, List.set_cons_succ, List.set_cons_zero]
                  refine Agg.held_take 11 (.agg (ndC x16)) rfl (by kernel_rfl) (fun _ _ _ h => h) rfl (fun W _ => by first | kernel_rfl | rfl | simp [execOp]) (by assumption) ?_
                  try simp only [Act.put, List.setIfInBounds_toArray, List.set_cons_succ, List.set_cons_zero]
                  refine Agg.held_take 12 (.int .i64 0) rfl (by kernel_rfl) (fun _ _ _ h => h) rfl (fun W _ => by first | kernel_rfl | rfl | simp [execOp]) (by assumption) ?_
                  try simp only [Act.put, List.setIfInBounds_toArray, List.set_cons_succ, List.set_cons_zero]
                  refine Agg.held_ready [13] (by kernel_rfl) (by simp) ?_
                  refine Agg.held_cons rfl ?_ ?_
                  · refine step_zero rfl 26 rfl (ndC ndZ) nd_zero ?_
                    intro g16 wa_9_13 hb hx hg
                    have N_9_13 := Lib.hid hb
                    have HGG := Lib.hid (show wa_9.heap.size ≤ g16 ∧ g16 < wa_9_13.heap.size ∧ wa.heap.size ≤ g16 from ⟨hg, hb.lt, Nat.le_trans Z_9.out hg⟩)
                    have T_9_13 := Lib.hid (OwnT.below hx T_9.out)
                    have X_9_13 := Lib.hid (X_9.out.below hx)
                    have G_9_13 := Lib.hid (G_9.out.below hx)
                    have V_9_13 := Lib.hid (SliceOf.below V_9.out hx)
                    have Q_9_13 := Lib.hid (Agg.belowThen Q_9.out (Nat.le_refl _) hx)
                    have Z_9_13 := Lib.hid (Nat.le_trans Z_9.out hx.size)
                    have hS_9_13 : Blk wa_9_13 g10 26 (ndC x10) ∧ SliceOf ES wa_9_13 vl LL := ⟨G_9_13.out, V_9_13.out⟩
                    clear hb hx hg
                    refine ⟨hS_9_13, ?_⟩
                    try simp only [Act.put, List.setIfInBounds_toArray, List.set_cons_succ, List.set_cons_zero]
                    refine Agg.held_ready [14] (by kernel_rfl) (by simp) ?_
                    refine Agg.held_cons rfl ?_ ?_
                    · refine step_put rfl rfl 26 _ _ rfl g16 (ndC x16) (ndC ndZ) rfl rfl N_9_13.out (nd_info _) rfl (ndC_one _) ?_
                      intro wa_9_13_14 hb hx hs hk9
                      have ho := Only.of_eq (S := (· = g16)) hx hs hk9 rfl
                      have N_9_13_14 := Lib.hid hb
                      have T_9_13_14 := Lib.hid (OwnT.only ho _ _ _ T_9_13.out (fun j hj e => by have h1 := HRB.out j hj; have h2 := HGG.out; omega))
                      have G_9_13_14 := Lib.hid (Agg.Blk.keepO G_9_13.out ho (fun e => by have h1 := G_.out.lt; have h2 := HGG.out; have h3 := HW0.out; omega))
                      have Q_9_13_14 := Lib.hid (Q_9_13.out.trans (hx.mono (by have h2 := HGG.out; have h3 := HW0.out; omega)))
                      have V_9_13_14 := Lib.hid (SliceOf.below WL_22.out Q_9_13_14.out)
                      clear hb hx hs hk9 ho
                      have hS_9_13_14 : Blk wa_9_13_14 g10 26 (ndC x10) ∧ SliceOf ES wa_9_13_14 vl LL := ⟨G_9_13_14.out, V_9_13_14.out⟩
                      refine ⟨hS_9_13_14, ?_⟩
                      try simp only [Act.put, List.setIfInBounds_toArray, List.set_cons_succ, List.set_cons_zero]
                      refine Agg.held_take 15 (.int .i64 0) rfl (by kernel_rfl) (fun _ _ _ h => h) rfl (fun W _ => by first | kernel_rfl | rfl | simp [execOp]) (by assumption) ?_
                      try simp only [Act.put, List.setIfInBounds_toArray, List.set_cons_succ, List.set_cons_zero]
                      refine Agg.held_end (by kernel_rfl) ?_
                      simp only [Agg.ExPut, Act.put, List.setIfInBounds_toArray, List.set_cons_succ, List.set_cons_zero]
                      exact ⟨g16, x16, N_9_13_14.out, ⟨x16, rfl, OwnT.reads _ _ _ T_9_13_14.out⟩, Q_9_13_14.out, _, _, _, _, _, _, _, _, _, _, _, _, _, rfl⟩
                    exact AllReadyH.nil
                  exact AllReadyH.nil
                refine Agg.held_cons rfl ?_ ?_
                · refine step_zero rfl 26 rfl (ndC ndZ) nd_zero ?_
                  intro g16 wa_13 hb hx hg
                  have N_13 := Lib.hid hb
                  have HGG := Lib.hid (show wa.heap.size ≤ g16 ∧ g16 < wa_13.heap.size ∧ wa.heap.size ≤ g16 from ⟨hg, hb.lt, Nat.le_trans Z_.out hg⟩)
                  have X_13 := Lib.hid (X_.out.below hx)
                  have G_13 := Lib.hid (G_.out.below hx)
                  have V_13 := Lib.hid (SliceOf.below V_.out hx)
                  have Q_13 := Lib.hid (Agg.belowThen Q_.out (Nat.le_refl _) hx)
                  have Z_13 := Lib.hid (Nat.le_trans Z_.out hx.size)
                  have hS_13 : Blk wa_13 g10 26 (ndC x10) ∧ SliceOf ES wa_13 vl LL := ⟨G_13.out, V_13.out⟩
                  clear hb hx hg
                  refine ⟨hS_13, ?_⟩
                  try simp only [Act.put, List.setIfInBounds_toArray, List.set_cons_succ, List.set_cons_zero]
                  refine Agg.held_ready [9] (by kernel_rfl) (by simp) ?_
                  refine Agg.held_cons rfl ?_ ?_
                  · refine Agg.step_call rfl 10 _ _ rfl #[.agg (ndC x10), .string ⟨(sk.drop (way.length + 1)).toArray⟩] (by simp only [List.map_toArray, List.map_cons, List.map_nil]; rfl) (fun W => HEF.out _ W) ?_
                    refine (tfind_any u (sk.drop (way.length + 1)) (by rw [List.length_drop]; omega) _ _ X_13.out).mono ?_
                    rintro e wa_9_13 ⟨x16, rfl, hon, hx⟩
                    rw [HFE.out.2] at hon
                    rw [HFE.out.1]
                    obtain ⟨bs, hot, _⟩ := hon
                    have T_9_13 := Lib.hid hot
                    have HRB := Lib.hid (OwnT.range _ _ _ hot)
                    have N_9_13 := Lib.hid (N_13.out.below hx)
                    have X_9_13 := Lib.hid (X_13.out.below hx)
                    have G_9_13 := Lib.hid (G_13.out.below hx)
                    have V_9_13 := Lib.hid (SliceOf.below V_13.out hx)
                    have Q_9_13 := Lib.hid (Agg.belowThen Q_13.out (Nat.le_refl _) hx)
                    have Z_9_13 := Lib.hid (Nat.le_trans Z_13.out hx.size)
                    have hS_9_13 : Blk wa_9_13 g10 26 (ndC x10) ∧ SliceOf ES wa_9_13 vl LL := ⟨G_9_13.out, V_9_13.out⟩
                    clear hx hot
                    refine ⟨_, rfl, ?_⟩
                    refine ⟨hS_9_13, ?_⟩
                    try simp only [Act.put, List.setIfInBounds_toArray, List.set_cons_succ, List.set_cons_zero]
                    refine Agg.held_take 10 (.tuple #[.agg (ndC x16), .int .i64 ((0 : Nat) : Int)]) rfl (by kernel_rfl) (fun _ _ _ h => h) rfl (fun W _ => by first | kernel_rfl | rfl | simp [execOp]) (by assumption) ?_
                    try simp only [Act.put, List.setIfInBounds_toArray, List.set_cons_succ, List.set_cons_zero]
                    refine Agg.held_take 11 (.agg (ndC x16)) rfl (by kernel_rfl) (fun _ _ _ h => h) rfl (fun W _ => by first | kernel_rfl | rfl | simp [execOp]) (by assumption) ?_
                    try simp only [Act.put, List.setIfInBounds_toArray, List.set_cons_succ, List.set_cons_zero]
                    refine Agg.held_take 12 (.int .i64 0) rfl (by kernel_rfl) (fun _ _ _ h => h) rfl (fun W _ => by first | kernel_rfl | rfl | simp [execOp]) (by assumption) ?_
                    try simp only [Act.put, List.setIfInBounds_toArray, List.set_cons_succ, List.set_cons_zero]
                    refine Agg.held_ready [14] (by kernel_rfl) (by simp) ?_
                    refine Agg.held_cons rfl ?_ ?_
                    · refine step_put rfl rfl 26 _ _ rfl g16 (ndC x16) (ndC ndZ) rfl rfl N_9_13.out (nd_info _) rfl (ndC_one _) ?_
                      intro wa_9_13_14 hb hx hs hk9
                      have ho := Only.of_eq (S := (· = g16)) hx hs hk9 rfl
                      have N_9_13_14 := Lib.hid hb
                      have T_9_13_14 := Lib.hid (OwnT.only ho _ _ _ T_9_13.out (fun j hj e => by have h1 := HRB.out j hj; have h2 := HGG.out; omega))
                      have G_9_13_14 := Lib.hid (Agg.Blk.keepO G_9_13.out ho (fun e => by have h1 := G_.out.lt; have h2 := HGG.out; have h3 := HW0.out; omega))
                      have Q_9_13_14 := Lib.hid (Q_9_13.out.trans (hx.mono (by have h2 := HGG.out; have h3 := HW0.out; omega)))
                      have V_9_13_14 := Lib.hid (SliceOf.below WL_22.out Q_9_13_14.out)
                      clear hb hx hs hk9 ho
                      have hS_9_13_14 : Blk wa_9_13_14 g10 26 (ndC x10) ∧ SliceOf ES wa_9_13_14 vl LL := ⟨G_9_13_14.out, V_9_13_14.out⟩
                      refine ⟨hS_9_13_14, ?_⟩
                      try simp only [Act.put, List.setIfInBounds_toArray, List.set_cons_succ, List.set_cons_zero]
                      refine Agg.held_take 15 (.int .i64 0) rfl (by kernel_rfl) (fun _ _ _ h => h) rfl (fun W _ => by first | kernel_rfl | rfl | simp [execOp]) (by assumption) ?_
                      try simp only [Act.put, List.setIfInBounds_toArray, List.set_cons_succ, List.set_cons_zero]
                      refine Agg.held_end (by kernel_rfl) ?_
                      simp only [Agg.ExPut, Act.put, List.setIfInBounds_toArray, List.set_cons_succ, List.set_cons_zero]
                      exact ⟨g16, x16, N_9_13_14.out, ⟨x16, rfl, OwnT.reads _ _ _ T_9_13_14.out⟩, Q_9_13_14.out, _, _, _, _, _, _, _, _, _, _, _, _, _, rfl⟩
                    exact AllReadyH.nil
                  exact AllReadyH.nil
                exact AllReadyH.nil
              · rintro a' w23 ⟨g16, x16, hb, hn, hx, hex⟩
                simp only [Agg.ExPut, Act.put, List.setIfInBounds_toArray, List.set_cons_succ, List.set_cons_zero] at hex
                obtain ⟨y130, y131, y132, y133, y134, y135, y136, y137, y138, y139, y140, y141, y142, rfl⟩ := hex
                have Y_23 := Lib.hid (Agg.belowThen Y_22.out (Nat.le_refl _) hx)
                have XN_23 := Lib.hid (XN_22.out.below hx)
                have GA_23 := Lib.hid (GA_22.out.below hx)
                have WL_23 := Lib.hid (SliceOf.below WL_22.out hx)
                have XT_23 := Lib.hid (XT_22.out.below hx)
                have GT_23 := Lib.hid (GT_22.out.below hx)
                have HRX_23 := Lib.hid (Agg.belowThen HRX_22.out (Nat.le_refl _) hx)
                have Gg14_23 := Lib.hid (Gg14_22.out.below hx)
                have Xg14_23 := Lib.hid (Xg14_22.out.below hx)
                have Gg16_23 := Lib.hid hb
                have Xg16_23 := Lib.hid hn
                clear hb hn hx Y_22 XN_22 GA_22 WL_22 XT_22 GT_22 HRX_22 Gg14_22 Xg14_22
                go_wp2_with (first | (with_reducible refine Agg.wpList_loadL (NdL.of_blk Gg14_23.out).all rfl _ rfl rfl ?_) | (with_reducible refine Agg.wpList_loadL (NdL.of_blk Gg16_23.out).all rfl _ rfl rfl ?_))
                refine (equal_any xk xk _ _ _ Xg14_23.out Xg16_23.out).mono ?_
                rintro e w24 ⟨rfl, hx⟩
                have Y_24 := Lib.hid (Agg.belowThen Y_23.out (Nat.le_refl _) hx)
                have XN_24 := Lib.hid (XN_23.out.below hx)
                have GA_24 := Lib.hid (GA_23.out.below hx)
                have WL_24 := Lib.hid (SliceOf.below WL_23.out hx)
                have XT_24 := Lib.hid (XT_23.out.below hx)
                have GT_24 := Lib.hid (GT_23.out.below hx)
                have HRX_24 := Lib.hid (Agg.belowThen HRX_23.out (Nat.le_refl _) hx)
                have Gg14_24 := Lib.hid (Gg14_23.out.below hx)
                have Xg14_24 := Lib.hid (Xg14_23.out.below hx)
                have Gg16_24 := Lib.hid (Gg16_23.out.below hx)
                have Xg16_24 := Lib.hid (Xg16_23.out.below hx)
                clear hx  Y_23 XN_23 GA_23 WL_23 XT_23 GT_23 HRX_23 Gg14_23 Xg14_23 Gg16_23 Xg16_23
                rw [show (right xk && (right xk && same xk xk)) = true by rw [HXR.out, (same_iff xk xk).2 rfl]; rfl]
                go_wp2_with fail
                go_roundw
                case rel => exact ⟨k + 1, by omega, by rw [HSZ.out]; go_num, by go_num, HRX_24.out⟩
                case measure => simp [intOf] <;> omega
          case neg =>
            have hgt : decide (0 < (k : Int)) = true := by simp; omega
            have hgt2 : decide (0 < k) = true := decide_eq_true (by omega)
            have hgt3 : decide (k = 0) = false := decide_eq_false hk0
            have HGT := Lib.hid hgt
            obtain ⟨sp, hsp⟩ : ∃ s, LL[k - 1]? = some s := ⟨_, List.getElem?_eq_getElem (by omega)⟩
            obtain ⟨pq, hadrq0, hldq⟩ := strs_at WL_21.out (k - 1) sp hsp
            have hadrq : ∀ W, (Instr.indexAt 37 vl (.int .i64 ((k : Int) - 1))).run Tryd.prog W = .ok (.pointer (some pq)) W := by rw [show ((k : Int) - 1) = ((k - 1 : Nat) : Int) by omega]; exact hadrq0
            have HLDQ := Lib.hid hldq
            have HNEQ := Lib.hid (show decide (sk = sp) = false from decide_eq_false (wysT_next HRT.out (i := k - 1) (by rw [HLL.out]; exact hsp) (by rw [HLL.out, Nat.sub_add_cancel (by omega)]; exact HSK.out)))
            clear hsp hadrq0 hldq
            have hadrk := HADK.out
            have HLDK := Lib.hid (strs_load WL_21.out HSK.out HADK.out)
            go_wp2_with fail
            try simp only [Act.put, List.setIfInBounds_toArray, List.set_cons_succ, List.set_cons_zero]
            try simp only [List.append_eq, List.cons_append, List.nil_append]
            refine Agg.wp_region_later_lit (by kernel_rfl) (by kernel_rfl) ?_
            repeat (first | go_big_quiet_skip | ((first | (with_reducible refine Agg.wpQuiet_loadL HLDK.out rfl _ rfl rfl ?_) | (with_reducible refine Agg.wpQuiet_loadL HLDQ.out rfl _ rfl rfl ?_) | (refine wpQuiet_eqlS (s := sk) (r := sp) rfl rfl rfl rfl false HNEQ.out ?_)); simp only [Act.put, List.setIfInBounds_toArray, List.set_cons_succ, List.set_cons_zero]) | go_big_quiet_step (fail))
            refine wpQuiet_nil ?_
            intro _ hw'
            obtain ⟨x1, rfl⟩ := hw'
            obtain ⟨w22, hww⟩ : ∃ W, W = x1.w := ⟨_, rfl⟩
            have hx : Below w21.heap.size w21 w22 := by rw [hww]; exact x1.h
            rw [← hww]
            clear hww x1
            have Y_22 := Lib.hid (Agg.belowThen Y_21.out (Nat.le_refl _) hx)
            have XN_22 := Lib.hid (XN_21.out.below hx)
            have GA_22 := Lib.hid (GA_21.out.below hx)
            have WL_22 := Lib.hid (SliceOf.below WL_21.out hx)
            have XT_22 := Lib.hid (XT_21.out.below hx)
            have GT_22 := Lib.hid (GT_21.out.below hx)
            have HRX_22 := Lib.hid (Agg.belowThen HRX_21.out (Nat.le_refl _) hx)
            have Gg14_22 := Lib.hid (Gg14_21.out.below hx)
            have Xg14_22 := Lib.hid (Xg14_21.out.below hx)
            clear hx HLDK Y_21 XN_21 GA_21 WL_21 XT_21 GT_21 HRX_21 Gg14_21 Xg14_21
            have HLDK := Lib.hid (strs_load WL_22.out HSK.out HADK.out)
            have hbv := by14 Xg14_22.out
            have hlb := fun W => bytes_len hbv W
            clear hbv
            have hee : ∀ q : Bool, q = true ∨ q = false := fun q => by cases q <;> simp
            by_cases hw0 : way = []
            · have hwd : (!decide (way = ([] : List UInt8))) = false := by simp [hw0]
              have HWD := Lib.hid hwd
              clear hwd hw0
              go_wp2_with (first | (refine Agg.wpList_valw rfl (exec_addI (m := szS t k) (n := xk.bytes.length) (by omega) rfl rfl rfl) ?_) | (with_reducible refine Agg.wpList_loadL (NdL.of_blk Gg14_22.out).bytes rfl _ rfl rfl ?_) | (refine wpList_neqS (s := way) (r := []) rfl rfl rfl rfl false HWD.out ?_))
              go_roundw
              case rel => exact ⟨k + 1, by omega, by rw [HSZ.out]; go_num, by go_num, HRX_22.out⟩
              case measure => simp [intOf] <;> omega
            have hwd : (!decide (way = ([] : List UInt8))) = true := by simp [hw0]
            have HWD := Lib.hid hwd
            clear hwd
            go_wp2_with (first | (refine Agg.wpList_valw rfl (exec_addI (m := szS t k) (n := xk.bytes.length) (by omega) rfl rfl rfl) ?_) | (with_reducible refine Agg.wpList_loadL (NdL.of_blk Gg14_22.out).bytes rfl _ rfl rfl ?_) | (refine wpList_neqS (s := way) (r := []) rfl rfl rfl rfl true HWD.out ?_) | (with_reducible refine Agg.wpList_loadL HLDK.out rfl _ rfl rfl ?_))
            refine (begins_any sk way (by omega) _).mono ?_
            rintro e wq9 ⟨rfl, hq9⟩
            obtain rfl : w22 = wq9 := hq9.symm
            cases hbg : begins sk way with
            | false =>
              go_wp2_with fail
              go_roundw
              case rel => exact ⟨k + 1, by omega, by rw [HSZ.out]; go_num, by go_num, HRX_22.out⟩
              case measure => simp [intOf] <;> omega
            | true =>
              by_cases hsw : sk = way
              · have HSW := Lib.hid (show (!decide (sk = way)) = false by simp [hsw])
                clear hsw
                go_wp2_with (first | (with_reducible refine Agg.wpList_loadL HLDK.out rfl _ rfl rfl ?_) | (refine wpList_neqS (s := sk) (r := way) rfl rfl rfl rfl false HSW.out ?_))
                go_roundw
                case rel => exact ⟨k + 1, by omega, by rw [HSZ.out]; go_num, by go_num, HRX_22.out⟩
                case measure => simp [intOf] <;> omega
              have HSW := Lib.hid (show (!decide (sk = way)) = true by simp [hsw])
              obtain ⟨hbl, hbe, hbt⟩ := wysT_below HRT.out HSM.out HWY.out hw0 hbg hsw
              clear hsw hw0
              have HFE := Lib.hid (show fdE u (sk.drop (way.length + 1)) = 0 ∧ fdT u (sk.drop (way.length + 1)) = xk by rw [← HU.out.2]; exact ⟨hbe, hbt.trans HXK.out.2⟩)
              have HLW := Lib.hid (str_lenT way)
              have HSLI := Lib.hid (show ∀ W, (Instr.sliceAt 9 (.string ⟨sk.toArray⟩) (some (.int .i64 ((way.length : Int) + 1))) none none).run Tryd.prog W = .ok (.string ⟨(sk.drop (way.length + 1)).toArray⟩) W from fun W => by
                have h := slice_from W Tryd.underlying9 sk .i64 (way.length + 1) (by omega)
                rwa [show ((way.length + 1 : Nat) : Int) = (way.length : Int) + 1 by omega] at h)
              go_wp2_with (first | (with_reducible refine Agg.wpList_loadL HLDK.out rfl _ rfl rfl ?_) | (refine wpList_neqS (s := sk) (r := way) rfl rfl rfl rfl true HSW.out ?_))
              refine Agg.wp_cutR (fun a0 a' w' => ∃ (g16 : Nat) (x16 : NdV), Blk w' g16 26 (ndC x16) ∧ NodeAt w' (.agg (ndC x16)) xk ∧ Below w22.heap.size w22 w' ∧ ExPut [130, 131, 132, 133, 134, 135, 136, 137, 138, 139, 140, 141, 142] ((a0.put (some 16) (.pointer (some ⟨g16, 0, none⟩))).put (some 17) (.int .i64 0)) a') ?_ ?_
              · try simp only [Act.put, List.setIfInBounds_toArray, List.set_cons_succ, List.set_cons_zero]
                obtain ⟨wa, hwa⟩ : ∃ X, X = w22.drew := ⟨_, rfl⟩
                have hda9 : Below w22.heap.size w22 wa := by rw [hwa]; exact (Below.refl _ _).drew
                have X_ := Lib.hid (XT_22.out.below hda9)
                have G_ := Lib.hid (GT_22.out.below hda9)
                have V_ := Lib.hid (SliceOf.below WL_22.out hda9)
                have Q_ := Lib.hid hda9
                have Z_ := Lib.hid (Nat.le_refl wa.heap.size)
                refine wp_region_held_drew (S := fun W => Blk W g10 26 (ndC x10) ∧ SliceOf ES W vl LL) (by kernel_rfl) (by rw [← hwa]; exact ⟨G_.out, V_.out⟩) (fun hHeld => ?_)
                rw [← hwa] at hHeld ⊢
                clear hwa hda9
                have HW0 := Lib.hid (show w22.heap.size ≤ wa.heap.size from Q_.out.size)
                refine Agg.held_take 0 (.agg (ndC x10)) rfl (by kernel_rfl) (fun _ _ _ h => h) rfl (fun W hS => exec_loadB rfl rfl (NdL.of_blk hS.1).all.now) (by assumption) ?_
                try simp only [Act.put, List.setIfInBounds_toArray, List.set_cons_succ, List.set_cons_zero]
                refine Agg.held_take 1 (vl) rfl (by kernel_rfl) (fun _ _ _ h => h) rfl (fun W _ => by first | kernel_rfl | rfl | simp [execOp]) (by assumption) ?_
                try simp only [Act.put, List.setIfInBounds_toArray, List.set_cons_succ, List.set_cons_zero]
                refine Agg.held_take 2 (.int .i64 (k : Int)) rfl (by kernel_rfl) (fun _ _ _ h => h) rfl (fun W _ => by first | kernel_rfl | rfl | simp [execOp]) (by assumption) ?_
                try simp only [Act.put, List.setIfInBounds_toArray, List.set_cons_succ, List.set_cons_zero]
                refine Agg.held_take 3 (.pointer (some pk)) rfl (by kernel_rfl) (fun _ _ _ h => h) rfl (fun W _ => exec_idx rfl rfl rfl (HADK.out W)) (by assumption) ?_
                try simp only [Act.put, List.setIfInBounds_toArray, List.set_cons_succ, List.set_cons_zero]
                refine Agg.held_take 4 (.string ⟨sk.toArray⟩) rfl (by kernel_rfl) (fun _ _ _ h => h) rfl (fun W hS => exec_loadB rfl rfl (strs_load hS.2 HSK.out HADK.out).now) (by assumption) ?_
                try simp only [Act.put, List.setIfInBounds_toArray, List.set_cons_succ, List.set_cons_zero]
                refine Agg.held_take 5 (.string ⟨way.toArray⟩) rfl (by kernel_rfl) (fun _ _ _ h => h) rfl (fun W _ => by first | kernel_rfl | rfl | simp [execOp]) (by assumption) ?_
                try simp only [Act.put, List.setIfInBounds_toArray, List.set_cons_succ, List.set_cons_zero]
                refine Agg.held_take 6 (.int .i64 (way.length : Int)) rfl (by kernel_rfl) (fun _ _ _ h => h) rfl (fun W _ => exec_lenC rfl rfl (HLW.out W)) (by assumption) ?_
                try simp only [Act.put, List.setIfInBounds_toArray, List.set_cons_succ, List.set_cons_zero]
                refine Agg.held_take 7 (.int .i64 ((way.length : Int) + 1)) rfl (by kernel_rfl) (fun _ _ _ h => h) rfl (fun W _ => add1_run way.length (by omega) rfl rfl rfl W) (by assumption) ?_
                try simp only [Act.put, List.setIfInBounds_toArray, List.set_cons_succ, List.set_cons_zero]
                refine Agg.held_take 8 (.string ⟨(sk.drop (way.length + 1)).toArray⟩) rfl (by kernel_rfl) (fun _ _ _ h => h) rfl (fun W _ => exec_sliceS rfl rfl rfl (HSLI.out W)) (by assumption) ?_
                try simp only [Act.put, List.setIfInBounds_toArray, List.set_cons_succ, List.set_cons_zero]
                refine Agg.held_ready [9, 13] (by kernel_rfl) (by simp) ?_
                refine Agg.held_cons rfl ?_ ?_
                · refine Agg.step_call rfl 10 _ _ rfl #[.agg (ndC x10), .string ⟨(sk.drop (way.length + 1)).toArray⟩] (by simp only [List.map_toArray, List.map_cons, List.map_nil]; rfl) (fun W => HEF.out _ W) ?_
                  refine (tfind_any u (sk.drop (way.length + 1)) (by rw [List.length_drop]; omega) _ _ X_.out).mono ?_
                  rintro e wa_9 ⟨x16, rfl, hon, hx⟩
                  rw [HFE.out.2] at hon
                  rw [HFE.out.1]
                  obtain ⟨bs, hot, _⟩ := hon
                  have T_9 := Lib.hid hot
                  have HRB := Lib.hid (OwnT.range _ _ _ hot)
                  have X_9 := Lib.hid (X_.out.below hx)
                  have G_9 := Lib.hid (G_.out.below hx)
                  have V_9 := Lib.hid (SliceOf.below V_.out hx)
                  have Q_9 := Lib.hid (Agg.belowThen Q_.out (Nat.le_refl _) hx)
                  have Z_9 := Lib.hid (Nat.le_trans Z_.out hx.size)
                  have hS_9 : Blk wa_9 g10 26 (ndC x10) ∧ SliceOf ES wa_9 vl LL := ⟨G_9.out, V_9.out⟩
                  clear hx hot
                  refine ⟨_, rfl, ?_⟩
                  refine ⟨hS_9, ?_⟩
                  try simp only [Act.put, List.setIfInBounds_toArray, List.set_cons_succ, List.set_cons_zero]
                  refine Agg.held_take 10 (.tuple #[.agg (ndC x16), .int .i64 ((0 : Nat) : Int)]) rfl (by kernel_rfl) (fun _ _ _ h => h) rfl (fun W _ => by first | kernel_rfl | rfl | simp [execOp]) (by assumption) ?_
                  try simp only [Act.put, List.setIfInBounds_toArray, List.set_cons_succ, List.set_cons_zero]
                  refine Agg.held_take 11 (.agg (ndC x16)) rfl (by kernel_rfl) (fun _ _ _ h => h) rfl (fun W _ => by first | kernel_rfl | rfl | simp [execOp]) (by assumption) ?_
                  try simp only [Act.put, List.setIfInBounds_toArray, List.set_cons_succ, List.set_cons_zero]
                  refine Agg.held_take 12 (.int .i64 0) rfl (by kernel_rfl) (fun _ _ _ h => h) rfl (fun W _ => by first | kernel_rfl | rfl | simp [execOp]) (by assumption) ?_
                  try simp only [Act.put, List.setIfInBounds_toArray, List.set_cons_succ, List.set_cons_zero]
                  refine Agg.held_ready [13] (by kernel_rfl) (by simp) ?_
                  refine Agg.held_cons rfl ?_ ?_
                  · refine step_zero rfl 26 rfl (ndC ndZ) nd_zero ?_
                    intro g16 wa_9_13 hb hx hg
                    have N_9_13 := Lib.hid hb
                    have HGG := Lib.hid (show wa_9.heap.size ≤ g16 ∧ g16 < wa_9_13.heap.size ∧ wa.heap.size ≤ g16 from ⟨hg, hb.lt, Nat.le_trans Z_9.out hg⟩)
                    have T_9_13 := Lib.hid (OwnT.below hx T_9.out)
                    have X_9_13 := Lib.hid (X_9.out.below hx)
                    have G_9_13 := Lib.hid (G_9.out.below hx)
                    have V_9_13 := Lib.hid (SliceOf.below V_9.out hx)
                    have Q_9_13 := Lib.hid (Agg.belowThen Q_9.out (Nat.le_refl _) hx)
                    have Z_9_13 := Lib.hid (Nat.le_trans Z_9.out hx.size)
                    have hS_9_13 : Blk wa_9_13 g10 26 (ndC x10) ∧ SliceOf ES wa_9_13 vl LL := ⟨G_9_13.out, V_9_13.out⟩
                    clear hb hx hg
                    refine ⟨hS_9_13, ?_⟩
                    try simp only [Act.put, List.setIfInBounds_toArray, List.set_cons_succ, List.set_cons_zero]
                    refine Agg.held_ready [14] (by kernel_rfl) (by simp) ?_
                    refine Agg.held_cons rfl ?_ ?_
                    · refine step_put rfl rfl 26 _ _ rfl g16 (ndC x16) (ndC ndZ) rfl rfl N_9_13.out (nd_info _) rfl (ndC_one _) ?_
                      intro wa_9_13_14 hb hx hs hk9
                      have ho := Only.of_eq (S := (· = g16)) hx hs hk9 rfl
                      have N_9_13_14 := Lib.hid hb
                      have T_9_13_14 := Lib.hid (OwnT.only ho _ _ _ T_9_13.out (fun j hj e => by have h1 := HRB.out j hj; have h2 := HGG.out; omega))
                      have G_9_13_14 := Lib.hid (Agg.Blk.keepO G_9_13.out ho (fun e => by have h1 := G_.out.lt; have h2 := HGG.out; have h3 := HW0.out; omega))
                      have Q_9_13_14 := Lib.hid (Q_9_13.out.trans (hx.mono (by have h2 := HGG.out; have h3 := HW0.out; omega)))
                      have V_9_13_14 := Lib.hid (SliceOf.below WL_22.out Q_9_13_14.out)
                      clear hb hx hs hk9 ho
                      have hS_9_13_14 : Blk wa_9_13_14 g10 26 (ndC x10) ∧ SliceOf ES wa_9_13_14 vl LL := ⟨G_9_13_14.out, V_9_13_14.out⟩
                      refine ⟨hS_9_13_14, ?_⟩
                      try simp only [Act.put, List.setIfInBounds_toArray, List.set_cons_succ, List.set_cons_zero]
                      refine Agg.held_take 15 (.int .i64 0) rfl (by kernel_rfl) (fun _ _ _ h => h) rfl (fun W _ => by first | kernel_rfl | rfl | simp [execOp]) (by assumption) ?_
                      try simp only [Act.put, List.setIfInBounds_toArray, List.set_cons_succ, List.set_cons_zero]
                      refine Agg.held_end (by kernel_rfl) ?_
                      simp only [Agg.ExPut, Act.put, List.setIfInBounds_toArray, List.set_cons_succ, List.set_cons_zero]
                      exact ⟨g16, x16, N_9_13_14.out, ⟨x16, rfl, OwnT.reads _ _ _ T_9_13_14.out⟩, Q_9_13_14.out, _, _, _, _, _, _, _, _, _, _, _, _, _, rfl⟩
                    exact AllReadyH.nil
                  exact AllReadyH.nil
                refine Agg.held_cons rfl ?_ ?_
                · refine step_zero rfl 26 rfl (ndC ndZ) nd_zero ?_
                  intro g16 wa_13 hb hx hg
                  have N_13 := Lib.hid hb
                  have HGG := Lib.hid (show wa.heap.size ≤ g16 ∧ g16 < wa_13.heap.size ∧ wa.heap.size ≤ g16 from ⟨hg, hb.lt, Nat.le_trans Z_.out hg⟩)
                  have X_13 := Lib.hid (X_.out.below hx)
                  have G_13 := Lib.hid (G_.out.below hx)
                  have V_13 := Lib.hid (SliceOf.below V_.out hx)
                  have Q_13 := Lib.hid (Agg.belowThen Q_.out (Nat.le_refl _) hx)
                  have Z_13 := Lib.hid (Nat.le_trans Z_.out hx.size)
                  have hS_13 : Blk wa_13 g10 26 (ndC x10) ∧ SliceOf ES wa_13 vl LL := ⟨G_13.out, V_13.out⟩
                  clear hb hx hg
                  refine ⟨hS_13, ?_⟩
                  try simp only [Act.put, List.setIfInBounds_toArray, List.set_cons_succ, List.set_cons_zero]
                  refine Agg.held_ready [9] (by kernel_rfl) (by simp) ?_
                  refine Agg.held_cons rfl ?_ ?_
                  · refine Agg.step_call rfl 10 _ _ rfl #[.agg (ndC x10), .string ⟨(sk.drop (way.length + 1)).toArray⟩] (by simp only [List.map_toArray, List.map_cons, List.map_nil]; rfl) (fun W => HEF.out _ W) ?_
                    refine (tfind_any u (sk.drop (way.length + 1)) (by rw [List.length_drop]; omega) _ _ X_13.out).mono ?_
                    rintro e wa_9_13 ⟨x16, rfl, hon, hx⟩
                    rw [HFE.out.2] at hon
                    rw [HFE.out.1]
                    obtain ⟨bs, hot, _⟩ := hon
                    have T_9_13 := Lib.hid hot
                    have HRB := Lib.hid (OwnT.range _ _ _ hot)
                    have N_9_13 := Lib.hid (N_13.out.below hx)
                    have X_9_13 := Lib.hid (X_13.out.below hx)
                    have G_9_13 := Lib.hid (G_13.out.below hx)
                    have V_9_13 := Lib.hid (SliceOf.below V_13.out hx)
                    have Q_9_13 := Lib.hid (Agg.belowThen Q_13.out (Nat.le_refl _) hx)
                    have Z_9_13 := Lib.hid (Nat.le_trans Z_13.out hx.size)
                    have hS_9_13 : Blk wa_9_13 g10 26 (ndC x10) ∧ SliceOf ES wa_9_13 vl LL := ⟨G_9_13.out, V_9_13.out⟩
                    clear hx hot
                    refine ⟨_, rfl, ?_⟩
                    refine ⟨hS_9_13, ?_⟩
                    try simp only [Act.put, List.setIfInBounds_toArray, List.set_cons_succ, List.set_cons_zero]
                    refine Agg.held_take 10 (.tuple #[.agg (ndC x16), .int .i64 ((0 : Nat) : Int)]) rfl (by kernel_rfl) (fun _ _ _ h => h) rfl (fun W _ => by first | kernel_rfl | rfl | simp [execOp]) (by assumption) ?_
                    try simp only [Act.put, List.setIfInBounds_toArray, List.set_cons_succ, List.set_cons_zero]
                    refine Agg.held_take 11 (.agg (ndC x16)) rfl (by kernel_rfl) (fun _ _ _ h => h) rfl (fun W _ => by first | kernel_rfl | rfl | simp [execOp]) (by assumption) ?_
                    try simp only [Act.put, List.setIfInBounds_toArray, List.set_cons_succ, List.set_cons_zero]
                    refine Agg.held_take 12 (.int .i64 0) rfl (by kernel_rfl) (fun _ _ _ h => h) rfl (fun W _ => by first | kernel_rfl | rfl | simp [execOp]) (by assumption) ?_
                    try simp only [Act.put, List.setIfInBounds_toArray, List.set_cons_succ, List.set_cons_zero]
                    refine Agg.held_ready [14] (by kernel_rfl) (by simp) ?_
                    refine Agg.held_cons rfl ?_ ?_
                    · refine step_put rfl rfl 26 _ _ rfl g16 (ndC x16) (ndC ndZ) rfl rfl N_9_13.out (nd_info _) rfl (ndC_one _) ?_
                      intro wa_9_13_14 hb hx hs hk9
                      have ho := Only.of_eq (S := (· = g16)) hx hs hk9 rfl
                      have N_9_13_14 := Lib.hid hb
                      have T_9_13_14 := Lib.hid (OwnT.only ho _ _ _ T_9_13.out (fun j hj e => by have h1 := HRB.out j hj; have h2 := HGG.out; omega))
                      have G_9_13_14 := Lib.hid (Agg.Blk.keepO G_9_13.out ho (fun e => by have h1 := G_.out.lt; have h2 := HGG.out; have h3 := HW0.out; omega))
                      have Q_9_13_14 := Lib.hid (Q_9_13.out.trans (hx.mono (by have h2 := HGG.out; have h3 := HW0.out; omega)))
                      have V_9_13_14 := Lib.hid (SliceOf.below WL_22.out Q_9_13_14.out)
                      clear hb hx hs hk9 ho
                      have hS_9_13_14 : Blk wa_9_13_14 g10 26 (ndC x10) ∧ SliceOf ES wa_9_13_14 vl LL := ⟨G_9_13_14.out, V_9_13_14.out⟩
                      refine ⟨hS_9_13_14, ?_⟩
                      try simp only [Act.put, List.setIfInBounds_toArray, List.set_cons_succ, List.set_cons_zero]
                      refine Agg.held_take 15 (.int .i64 0) rfl (by kernel_rfl) (fun _ _ _ h => h) rfl (fun W _ => by first | kernel_rfl | rfl | simp [execOp]) (by assumption) ?_
                      try simp only [Act.put, List.setIfInBounds_toArray, List.set_cons_succ, List.set_cons_zero]
                      refine Agg.held_end (by kernel_rfl) ?_
                      simp only [Agg.ExPut, Act.put, List.setIfInBounds_toArray, List.set_cons_succ, List.set_cons_zero]
                      exact ⟨g16, x16, N_9_13_14.out, ⟨x16, rfl, OwnT.reads _ _ _ T_9_13_14.out⟩, Q_9_13_14.out, _, _, _, _, _, _, _, _, _, _, _, _, _, rfl⟩
                    exact AllReadyH.nil
                  exact AllReadyH.nil
                exact AllReadyH.nil
              · rintro a' w23 ⟨g16, x16, hb, hn, hx, hex⟩
                simp only [Agg.ExPut, Act.put, List.setIfInBounds_toArray, List.set_cons_succ, List.set_cons_zero] at hex
                obtain ⟨y130, y131, y132, y133, y134, y135, y136, y137, y138, y139, y140, y141, y142, rfl⟩ := hex
                have Y_23 := Lib.hid (Agg.belowThen Y_22.out (Nat.le_refl _) hx)
                have XN_23 := Lib.hid (XN_22.out.below hx)
                have GA_23 := Lib.hid (GA_22.out.below hx)
                have WL_23 := Lib.hid (SliceOf.below WL_22.out hx)
                have XT_23 := Lib.hid (XT_22.out.below hx)
                have GT_23 := Lib.hid (GT_22.out.below hx)
                have HRX_23 := Lib.hid (Agg.belowThen HRX_22.out (Nat.le_refl _) hx)
                have Gg14_23 := Lib.hid (Gg14_22.out.below hx)
                have Xg14_23 := Lib.hid (Xg14_22.out.below hx)
                have Gg16_23 := Lib.hid hb
                have Xg16_23 := Lib.hid hn
                clear hb hn hx Y_22 XN_22 GA_22 WL_22 XT_22 GT_22 HRX_22 Gg14_22 Xg14_22
                go_wp2_with (first | (with_reducible refine Agg.wpList_loadL (NdL.of_blk Gg14_23.out).all rfl _ rfl rfl ?_) | (with_reducible refine Agg.wpList_loadL (NdL.of_blk Gg16_23.out).all rfl _ rfl rfl ?_))
                refine (equal_any xk xk _ _ _ Xg14_23.out Xg16_23.out).mono ?_
                rintro e w24 ⟨rfl, hx⟩
                have Y_24 := Lib.hid (Agg.belowThen Y_23.out (Nat.le_refl _) hx)
                have XN_24 := Lib.hid (XN_23.out.below hx)
                have GA_24 := Lib.hid (GA_23.out.below hx)
                have WL_24 := Lib.hid (SliceOf.below WL_23.out hx)
                have XT_24 := Lib.hid (XT_23.out.below hx)
                have GT_24 := Lib.hid (GT_23.out.below hx)
                have HRX_24 := Lib.hid (Agg.belowThen HRX_23.out (Nat.le_refl _) hx)
                have Gg14_24 := Lib.hid (Gg14_23.out.below hx)
                have Xg14_24 := Lib.hid (Xg14_23.out.below hx)
                have Gg16_24 := Lib.hid (Gg16_23.out.below hx)
                have Xg16_24 := Lib.hid (Xg16_23.out.below hx)
                clear hx  Y_23 XN_23 GA_23 WL_23 XT_23 GT_23 HRX_23 Gg14_23 Xg14_23 Gg16_23 Xg16_23
                rw [show (right xk && (right xk && same xk xk)) = true by rw [HXR.out, (same_iff xk xk).2 rfl]; rfl]
                go_wp2_with fail
                go_roundw
                case rel => exact ⟨k + 1, by omega, by rw [HSZ.out]; go_num, by go_num, HRX_24.out⟩
                case measure => simp [intOf] <;> omega
end Go.Proofs.YtfiadgdinhmgbaaDoor
