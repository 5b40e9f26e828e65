/- An element of a slice of builts, in each later world. (Several texts in one.) -/
import Derived.Test.YtniibcgomnjfgaaGreatVAX
import Derived.Test.YtniibcgomnjfgaaGreatVAJ
/-! spenceref22.Put of right builts. -/
namespace Go.Proofs.YtniibcgomnjfgaaGreat
open Go.RowKit Pl Go.Agg
theorem exec_addSE {o : Oper} {ac : Act} {w : World} {t u : TypeId} {x y : Operand} {a b c : List UInt8} (ho : o.op = .binOp .add t x y u) (hx : ac.eval x = .string ⟨a.toArray⟩) (hy : ac.eval y = .string ⟨b.toArray⟩) (hl : a.length + b.length ≤ 9223372036854775807) (hc : a ++ b = c) : (execOp ac.eval o).run Tryz.prog w = .ok (.value (.string ⟨c.toArray⟩)) w := by
  rw [exec_addS ho hx hy hl, hc]
def valK (x : Bu) (k : Nat) : List UInt8 := pathB x.pa ++ encN x.ins.length ++ insBy (x.ins.take k)
theorem valK_len {x : Bu} (h : rightBu x = true) (k : Nat) : (valK x k).length ≤ 1000 := by
  obtain ⟨h1, h2, h3⟩ := right_name h
  have e1 := pathB_len h1 (by omega)
  have e2 : (encN x.ins.length).length = 1 := by rw [encN_lt (by omega)]; rfl
  have e3 := insBy_len (x.ins.take k) (fun m hm => h3 m (List.mem_of_mem_take hm))
  have e4 : (x.ins.take k).length ≤ 8 := by rw [List.length_take]; omega
  simp only [valK, List.length_append]
  omega
theorem valK_succ {x : Bu} {k : Nat} {m : Md} (h : x.ins[k]? = some m) : valK x (k + 1) = (valK x k ++ m.1.1) ++ pathB m.2 := by
  simp only [valK, List.take_add_one, h, Option.toList_some, insBy, List.flatMap_append, List.flatMap_cons, List.flatMap_nil, List.append_nil, madeB, List.append_assoc]
set_option maxRecDepth 100000 in
set_option maxHeartbeats 8000000 in
theorem refPutB_any (x : BuV) (hr : rightBu x.1 = true) (w : World) (hi : InsAt w x) :
    Calls Tryz.prog 73 #[.agg (bC x)] w fun e w' => ∃ p n c, e = .returned (.tuple #[.agg (rowC ([98] ++ plS x.1) (.slice p n c)), .int .i64 0]) ∧ BytesAt w' (.slice p n c) (valB x.1) ∧ Below w.heap.size w w' := by
  obtain ⟨hpn, hil, hmn⟩ := right_name hr
  have HMN := Lib.hid hmn
  have HI := Lib.hid hi
  have HVL := Lib.hid (fun k => valK_len hr k)
  have hlv := fun W => mds_len (w := w) (l := x.1.ins) hi W
  have HBLD := Lib.hid (fun W => (by kernel_rfl : (Instr.build 159 #[]).run Tryz.prog W = .ok (.agg (mkC (.slice none 0 0))) W))
  have HBR := Lib.hid (fun (s : ByteArray) (p : Option Addr) (n c : Nat) W => (by kernel_rfl : (Instr.build 57 #[(0, .string s), (1, .slice p n c)]).run Tryz.prog W = .ok (.agg #[.string s, .slice p n c]) W))
  have HRT := Lib.hid (fun W (h : InsAt W x) => (show Calls Tryz.prog 45 #[.agg (bC x)] W fun e w' => e = .returned (.bool true) ∧ Below W.heap.size W w' by have := refRightS_any x ⟨by omega, fun m hm => by have := hmn m hm; omega⟩ W h; rwa [hr] at this))
  clear hi hmn hr
  go_enter Tryz.func73, Tryz.ntmps73
  go_wp2_with (first | (with_reducible refine wpList_box rfl 29 _ rfl (bC x) rfl ?_; intro b1 w1 hb1 hx1 hg1; have HB1 := Lib.hid hb1; have HX1 := Lib.hid hx1; have HG1 := Lib.hid hg1; clear hb1 hx1 hg1) | (with_reducible refine wpList_zero rfl 57 rfl (rowC [] (.slice none 0 0)) (by kernel_rfl) ?_; intro b2 w2 hb2 hx2 hg2; have HR2 := Lib.hid hb2; have HB2 := Lib.hid (HB1.out.below hx2); have HL2 := Lib.hid (BuG.of_blk HB2.out); have HX2 := Lib.hid (Agg.belowThen HX1.out (Nat.le_refl _) hx2); have HG2 := Lib.hid (Nat.le_trans HX1.out.size hg2); clear hb2 hx2 hg2) | (with_reducible refine wpList_loadL HL2.out.all rfl _ rfl rfl ?_))
  refine (HRT.out w2 (HI.out.below HX2.out)).mono ?_
  rintro e w3 ⟨rfl, hx3⟩
  have HB3 := Lib.hid (HB2.out.below hx3)
  have HR3 := Lib.hid (HR2.out.below hx3)
  have HX3 := Lib.hid (Agg.belowThen HX2.out (Nat.le_refl _) hx3)
  clear hx3
  go_wp2_with (first | (with_reducible refine Agg.wpList_build0 159 rfl rfl (.agg (mkC (.slice none 0 0))) HBLD.out ?_) | (with_reducible refine wpList_box rfl 159 _ rfl (mkC (.slice none 0 0)) rfl ?_; intro g4 w4 hb4 hx4 hg4; have HM4 := Lib.hid (⟨hb4, Own.nil _ _ _⟩ : MrV g4 w4 (.slice none 0 0) []); have HY4 := Lib.hid hx4; have HG4 := Lib.hid hg4; have HL4 := Lib.hid (BuG.of_blk (HB3.out.below hx4)); clear hb4 hx4 hg4) | (with_reducible refine wpList_loadL HL4.out.path rfl _ rfl rfl ?_))
  refine (refPathB_any g4 _ [] x.1.pa hpn (by simp) w4 HM4.out).mono ?_
  rintro e w5 ⟨⟨r5, rfl⟩, v5, hm5, hs5⟩
  have HM5 := Lib.hid hm5
  have HY5 := Lib.hid (HY4.out.trans ((HM4.out.stepBelow hs5).mono HG4.out))
  have HL5 := Lib.hid (BuG.of_blk (HB3.out.below HY5.out))
  clear hm5 hs5
  go_wp2_with (first | (with_reducible refine wpList_loadL HL5.out.ins rfl _ rfl rfl ?_))
  refine (rmNum_any g4 v5 x.1.ins.length _ w5 (by omega) (by have := pathB_len hpn (by omega); simp only [List.nil_append]; omega) HM5.out).mono ?_
  rintro e w6 ⟨⟨r6, rfl⟩, v6, hm6, hs6⟩
  have HM6 := Lib.hid (show MrV g4 w6 v6 (valK x.1 0) by simpa [valK, insBy] using hm6)
  have HY6 := Lib.hid (HY5.out.trans ((HM5.out.stepBelow hs6).mono HG4.out))
  clear hm6 hs6
  go_wp2_with fail
  go_loopw [5] (fun i wr => ∃ (k : Nat) (v : Value), k ≤ x.1.ins.length ∧ i = .int .i64 (k : Int) ∧ MrV g4 wr v (valK x.1 k) ∧ Below w3.heap.size w3 wr) (fun i _ => x.1.ins.length - (intOf i).toNat)
  case atStart => exact ⟨0, v6, by omega, rfl, HM6.out, HY6.out⟩
  case round =>
    obtain ⟨wr1, rfl⟩ : ∃ y : World, y = wr := ⟨_, rfl⟩
    obtain ⟨k, v7, hk, rfl, hm7, hy7⟩ := hrel
    have HM7 := Lib.hid hm7
    have HY7 := Lib.hid hy7
    have HL7 := Lib.hid (BuG.of_blk (HB3.out.below hy7))
    clear hm7 hy7
    by_cases hlt : k < x.1.ins.length
    · have hd : decide ((k : Int) < (x.1.ins.length : Int)) = true := by simp; omega
      obtain ⟨m, hmk⟩ : ∃ m, x.1.ins[k]? = some m := ⟨_, List.getElem?_eq_getElem hlt⟩
      obtain ⟨q, hadr, hq, hqs⟩ := md_atc (show MdsAt wr1 (ivV x.2) x.1.ins from HI.out.below (Agg.belowThen HX3.out (Nat.le_refl _) HY7.out)) k m hmk
      have HQS := Lib.hid hqs
      have HQ := Lib.hid hq
      have HMK := Lib.hid hmk
      have hmn := HMN.out m (List.mem_of_getElem? hmk)
      clear hqs hq hmk
      go_wp2_with (first | (with_reducible refine wpList_loadL HL7.out.ins rfl _ rfl rfl ?_))
      refine (rmRaw_any g4 v7 _ m.1.1 (valK x.1 k) wr1 (by have := HVL.out k; omega) (by rw [m.1.2]; omega) HQS.out HM7.out).mono ?_
      rintro e w8 ⟨⟨r8, rfl⟩, v8, hm8, hs8⟩
      have HM8 := Lib.hid hm8
      have HY8 := Lib.hid (HY7.out.trans ((HM7.out.stepBelow hs8).mono HG4.out))
      have HL8 := Lib.hid (BuG.of_blk (HB3.out.below HY8.out))
      obtain ⟨q2, hadr2, hq2, _⟩ := md_atc (show MdsAt w8 (ivV x.2) x.1.ins from HI.out.below (Agg.belowThen HX3.out (Nat.le_refl _) HY8.out)) k m HMK.out
      have HQ2 := Lib.hid hq2
      clear hm8 hs8 hadr hq2
      go_wp2_with (first | (with_reducible refine wpList_loadL HL8.out.ins rfl _ rfl rfl ?_) | (with_reducible refine wpList_loadL HQ2.out.path rfl _ rfl rfl ?_))
      refine (refPathB_any g4 v8 _ m.2 hmn (by have := HVL.out k; simp only [List.length_append, m.1.2]; omega) w8 HM8.out).mono ?_
      rintro e w9 ⟨⟨r9, rfl⟩, v9, hm9, hs9⟩
      have HM9 := Lib.hid hm9
      have HY9 := Lib.hid (HY8.out.trans ((HM8.out.stepBelow hs9).mono HG4.out))
      clear hm9 hs9
      go_wp2_with fail
      go_roundw
      case rel => exact ⟨k + 1, v9, by omega, by go_num, by rw [valK_succ HMK.out]; exact HM9.out, HY9.out⟩
      case measure => simp [intOf]; omega
    · obtain rfl : k = x.1.ins.length := by omega
      have HVV := Lib.hid (show valK x.1 x.1.ins.length = valB x.1 by rw [valK, List.take_length]; rfl)
      go_wp2_with (first | (with_reducible refine wpList_loadL HL7.out.ins rfl _ rfl rfl ?_))
      refine (rmDone_any g4 v7 _ wr1 (by have := HVL.out x.1.ins.length; omega) HM7.out).mono ?_
      rintro e w8 ⟨v8, rfl, ho8, hx8⟩
      obtain ⟨p8, n8, c8, rfl⟩ : ∃ p n c, v8 = .slice p n c := (by obtain ⟨p, c, h⟩ := ho8.slice.form; exact ⟨p, _, c, h⟩)
      have HO8 := Lib.hid ho8
      have HY8 := Lib.hid (Agg.belowThen HY7.out (Nat.le_refl _) hx8)
      have HL8 := Lib.hid (BuG.of_blk (HB3.out.below HY8.out))
      clear ho8 hx8
      go_wp2_with (first | (with_reducible refine wpList_loadL HL8.out.all rfl _ rfl rfl ?_))
      refine (refPlace_any x w8).mono ?_
      rintro e w9 ⟨rfl, hx9⟩
      have HO9 := Lib.hid (HO8.out.below hx9)
      have HY9 := Lib.hid (Agg.belowThen HY8.out (Nat.le_refl _) hx9)
      have HR9 := Lib.hid (HR3.out.below HY9.out)
      have HX9 := Lib.hid (Agg.belowThen HX3.out (Nat.le_refl _) HY9.out)
      have HPS := Lib.hid (show ([98] : List UInt8).length + (plS x.1).length ≤ 9223372036854775807 by simp [plS, x.1.cl.2, x.1.ky.2])
      obtain ⟨ky, hky⟩ : ∃ s, ([98] : List UInt8) ++ plS x.1 = s := ⟨_, rfl⟩
      have HKY := Lib.hid hky
      have HB2 := Lib.hid (fun W => (show (Instr.build 57 #[(0, .string ⟨ky.toArray⟩), (1, .slice p8 n8 c8)]).run Tryz.prog W = .ok (.agg (rowC ky (.slice p8 n8 c8))) W from HBR.out _ _ _ _ W))
      clear hx9 hky
      go_wp2_with (first | (refine wpList_valw rfl (exec_addSE (a := [98]) (b := plS x.1) (c := ky) rfl rfl rfl HPS.out HKY.out) ?_) | (with_reducible refine Agg.wpList_build2 57 _ _ _ _ rfl rfl (.string ⟨ky.toArray⟩) (.slice p8 n8 c8) rfl rfl (.agg (rowC ky (.slice p8 n8 c8))) HB2.out ?_) | ((with_reducible refine wpList_put rfl rfl 57 _ _ rfl b2 (rowC ky (.slice p8 n8 c8)) (rowC [] (.slice none 0 0)) rfl rfl HR9.out (row_info _ _) rfl (row_one _ _ _ _) ?_); intro w10 hb10 hx10 hs10 hk10; have HB10 := Lib.hid hb10; have HO10 := Lib.hid (HO9.out.onlyT HR9.out (by decide) (fun k _ h2 => hk10 k h2)); have HX10 := Lib.hid (HX9.out.trans (hx10.mono HG2.out)); clear hb10 hx10 hs10 hk10))
      exact post_row_tmp rfl rfl rfl HB10.out row_under rfl (by kernel_rfl) rfl ⟨p8, n8, c8, by rw [← HKY.out]; rfl, by rw [← HVV.out]; exact HO10.out.slice, HX10.out⟩
end Go.Proofs.YtniibcgomnjfgaaGreat
/-! spenceref22.same of right builts. -/
namespace Go.Proofs.YtniibcgomnjfgaaGreat
open Go.RowKit Pl Go.Agg
theorem same_dec {x y : Bu} (hx : rightBu x = true) (hy : rightBu y = true) : decide (x = y) = (decide ((([98] : List UInt8) ++ plS x) = [98] ++ plS y) && decide (valB x = valB y)) := by
  rw [Bool.eq_iff_iff]
  simp only [Bool.and_eq_true, decide_eq_true_eq, List.append_cancel_left_eq]
  exact (same_iff hx hy).symm
theorem rowK_load {w : World} {b : Nat} {k : List UInt8} {v : Value} (h : Blk w b 57 (rowC k v)) : LoadsL Tryz.prog w 9 (some ⟨b, 0, none⟩) (.string ⟨k.toArray⟩) := h.one (P := Tryz.prog) 0 rfl Tryz.underlying9 rfl
theorem rowV_load {w : World} {b : Nat} {k : List UInt8} {p : Option Addr} {n c : Nat} (h : Blk w b 57 (rowC k (.slice p n c))) : LoadsL Tryz.prog w 55 (some ⟨b, 1, none⟩) (.slice p n c) := h.one (P := Tryz.prog) 1 rfl (by kernel_rfl : Tryz.prog.underlying 55 = some (.slice 5)) rfl
set_option maxRecDepth 100000 in
set_option maxHeartbeats 8000000 in
theorem refSameB_any (a b : BuV) (ha : rightBu a.1 = true) (hb : rightBu b.1 = true) (w : World) (hia : InsAt w a) (hib : InsAt w b) :
    Calls Tryz.prog 47 #[.agg (bC a), .agg (bC b)] w fun e w' => e = .returned (.bool (decide (a.1 = b.1))) ∧ Below w.heap.size w w' := by
  have HIA := Lib.hid hia
  have HIB := Lib.hid hib
  have HD := Lib.hid (same_dec ha hb)
  have HPA := Lib.hid (fun W h => refPutB_any a ha W h)
  have HPB := Lib.hid (fun W h => refPutB_any b hb W h)
  clear hia hib ha hb
  go_enter Tryz.func47, Tryz.ntmps47
  go_wp2_with (first | (with_reducible refine wpList_box rfl 29 _ rfl (bC a) rfl ?_; intro b1 w1 hb1 hx1 hg1; have HB1 := Lib.hid hb1; have HX1 := Lib.hid hx1; clear hb1 hx1 hg1) | (with_reducible refine wpList_box rfl 29 _ rfl (bC b) rfl ?_; intro b2 w2 hb2 hx2 hg2; have HA2 := Lib.hid (BuG.of_blk (HB1.out.below hx2)); have HB2 := Lib.hid (BuG.of_blk hb2); have HX2 := Lib.hid (Agg.belowThen HX1.out (Nat.le_refl _) hx2); clear hb2 hx2 hg2) | (with_reducible refine wpList_loadL HA2.out.all rfl _ rfl rfl ?_))
  refine (HPA.out w2 (HIA.out.below HX2.out)).mono ?_
  rintro e w3 ⟨p3, n3, c3, rfl, hv3, hx3⟩
  have HV3 := Lib.hid hv3
  have HB3 := Lib.hid (HB2.out.below hx3)
  have HX3 := Lib.hid (Agg.belowThen HX2.out (Nat.le_refl _) hx3)
  clear hv3 hx3
  go_wp2_with (first | (with_reducible refine wpList_zero rfl 57 rfl (rowC [] (.slice none 0 0)) (by kernel_rfl) ?_; intro b4 w4 hb hx hg; have HRZ := Lib.hid hb; have HYZ := Lib.hid hx; have HGZ := Lib.hid hg; clear hb hx hg) | ((with_reducible refine wpList_put rfl rfl 57 _ _ rfl b4 (rowC ([98] ++ plS a.1) (.slice p3 n3 c3)) (rowC [] (.slice none 0 0)) rfl rfl HRZ.out (row_info _ _) rfl (row_one _ _ _ _) ?_); intro w5 hb hx hs hk; have HRP := Lib.hid hb; have HYP := Lib.hid (HYZ.out.trans (hx.mono HGZ.out)); clear hb hx hs hk; have HB5 := Lib.hid (HB3.out.below HYP.out)) | (with_reducible refine wpList_loadL HB5.out.all rfl _ rfl rfl ?_))
  have HR5 := HRP
  have HV5 := Lib.hid (HV3.out.below HYP.out)
  have HX5 := Lib.hid (Agg.belowThen HX3.out (Nat.le_refl _) HYP.out)
  clear HRP HYP HRZ HYZ HGZ
  refine (HPB.out w5 (HIB.out.below HX5.out)).mono ?_
  rintro e w6 ⟨p6, n6, c6, rfl, hv6, hx6⟩
  have HV6 := Lib.hid hv6
  have HVA6 := Lib.hid (HV5.out.below hx6)
  have HR6 := Lib.hid (HR5.out.below hx6)
  have HX6 := Lib.hid (Agg.belowThen HX5.out (Nat.le_refl _) hx6)
  clear hv6 hx6
  obtain ⟨e1, he1⟩ : ∃ e, decide ((([98] : List UInt8) ++ plS a.1) = [98] ++ plS b.1) = e := ⟨_, rfl⟩
  obtain ⟨e2, he2⟩ : ∃ e, decide (valB a.1 = valB b.1) = e := ⟨_, rfl⟩
  have HD := Lib.hid (show decide (a.1 = b.1) = (e1 && e2) by rw [HD.out, he1, he2])
  have HE1 := Lib.hid he1
  have HE2 := Lib.hid he2
  clear he1 he2
  cases e1
  all_goals
    go_wp2_with (first | (with_reducible refine wpList_zero rfl 57 rfl (rowC [] (.slice none 0 0)) (by kernel_rfl) ?_; intro b7 w7 hb hx hg; have HRZ := Lib.hid hb; have HYZ := Lib.hid hx; have HGZ := Lib.hid hg; clear hb hx hg) | ((with_reducible refine wpList_put rfl rfl 57 _ _ rfl b7 (rowC ([98] ++ plS b.1) (.slice p6 n6 c6)) (rowC [] (.slice none 0 0)) rfl rfl HRZ.out (row_info _ _) rfl (row_one _ _ _ _) ?_); intro w8 hb hx hs hk; have HRP := Lib.hid hb; have HYP := Lib.hid (HYZ.out.trans (hx.mono HGZ.out)); clear hb hx hs hk; have HR8 := Lib.hid (HR6.out.below HYP.out); have HVA8 := Lib.hid (HVA6.out.below HYP.out); have HVB8 := Lib.hid (HV6.out.below HYP.out); have HX8 := Lib.hid (Agg.belowThen HX6.out (Nat.le_refl _) HYP.out)) | (with_reducible refine wpList_loadL (rowK_load HR8.out) rfl _ rfl rfl ?_) | (with_reducible refine wpList_loadL (rowK_load HRP.out) rfl _ rfl rfl ?_) | (with_reducible refine wpList_loadL (rowV_load HR8.out) rfl _ rfl rfl ?_) | (with_reducible refine wpList_loadL (rowV_load HRP.out) rfl _ rfl rfl ?_) | (refine wpList_eqlS (s := [98] ++ plS a.1) (r := [98] ++ plS b.1) rfl rfl rfl rfl _ HE1.out ?_) | (refine wpList_toStr HVA8.out _ rfl rfl rfl ?_) | (refine wpList_toStr HVB8.out _ rfl rfl rfl ?_) | (refine wpList_eqlS (s := valB a.1) (r := valB b.1) rfl rfl rfl rfl _ HE2.out ?_))
    go_ret
    exact ⟨ret_bool (by rw [HD.out]; rfl), HX8.out⟩
end Go.Proofs.YtniibcgomnjfgaaGreat
/-! An element of a slice of builts, in each later world. -/
namespace Go.Proofs.YtniibcgomnjfgaaGreat
open Go.RowKit Pl Go.Agg
theorem bus_atW {w : World} {v : Value} {l : List BuV} (h : BusAt w v l) (k : Nat) (x : BuV) (hk : l[k]? = some x) :
    ∃ q : Addr, (∀ W, (Instr.indexAt 22 v (.int .i64 (k : Int))).run Tryz.prog W = .ok (.pointer (some q)) W) ∧ (∀ W, Below w.heap.size w W → BuL W q x) ∧ ∀ W, Below w.heap.size w W → InsAt W x := by
  obtain ⟨q, h1, h2, h3⟩ := h.at_ k x hk
  exact ⟨q, h1, fun W hW => h2.below hW, fun W hW => h3.below hW⟩
end Go.Proofs.YtniibcgomnjfgaaGreat
