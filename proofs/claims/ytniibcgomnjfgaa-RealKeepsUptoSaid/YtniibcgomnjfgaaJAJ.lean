/- A map grown one by one (plain law): whatever lies at a place first stays; in another order, where no two unlike ones have one place, it is the same. (Several texts in one.) -/
import Derived.Test.YtniibcgomnjfgaaJAH
import Derived.Test.YtniibcgomnjfgaaJAI
import Derived.Test.YtniibcgomnjfgaaJAG
import Derived.Test.YtniibcgomnjfgaaJAA
/-! real.Kept, OfClass, OfKey, Paths; spencekit.PathsOf. -/
namespace Go.Proofs.Ytniibcgomnjfgaa
open Go.RowKit Pl Go.Agg Go.Mp
set_option maxRecDepth 100000 in
set_option maxHeartbeats 4000000 in
theorem ofClass_any (v : Value) (l : List BuV) (hn : l.length ≤ 1048576) (hni : ∀ x ∈ l, x.1.ins.length ≤ 1048576) (h : H20) (w : World) (hs : BusAt w v l) :
    Calls Try.prog 16 #[v, .agg (hC h.1)] w fun e w' => ∃ v' lv, e = .returned v' ∧ BusAt w' v' lv ∧ lv.map (·.1) = (l.map (·.1)).filter (fun y => decide (y.cl = h)) ∧ Below w.heap.size w w' := by
  have HS := Lib.hid hs
  clear hs
  go_enter Try.func16, Try.ntmps16
  go_wp2_with (first | (with_reducible refine wpList_box rfl 30 _ rfl (hC h.1) rfl ?_; intro b3 w1 hb1 hx1 hg1; have HB1 := Lib.hid hb1; have HX1 := Lib.hid hx1; clear hb1 hx1 hg1))
  refine (someClass_any v l hn hni b3 h w1 (HS.out.below HX1.out) (HB1.out.loads Try.underlying30 rfl (hC_info _ h.2))).mono ?_
  rintro e w2 ⟨v2, lv, rfl, ho, hm, hx2⟩
  have HO := Lib.hid ho.at_
  have HM := Lib.hid hm
  have HX2 := Lib.hid (Agg.belowThen HX1.out (Nat.le_refl _) hx2)
  clear ho hm hx2
  go_wp2_with fail
  go_ret
  exact ⟨_, lv, rfl, HO.out, HM.out, HX2.out⟩
set_option maxRecDepth 100000 in
set_option maxHeartbeats 4000000 in
theorem ofKey_any (v : Value) (l : List BuV) (hn : l.length ≤ 1048576) (hni : ∀ x ∈ l, x.1.ins.length ≤ 1048576) (h : H20) (w : World) (hs : BusAt w v l) :
    Calls Try.prog 17 #[v, .agg (hC h.1)] w fun e w' => ∃ v' lv, e = .returned v' ∧ BusAt w' v' lv ∧ lv.map (·.1) = (l.map (·.1)).filter (fun y => decide (y.ky = h)) ∧ Below w.heap.size w w' := by
  have HS := Lib.hid hs
  clear hs
  go_enter Try.func17, Try.ntmps17
  go_wp2_with (first | (with_reducible refine wpList_box rfl 30 _ rfl (hC h.1) rfl ?_; intro b3 w1 hb1 hx1 hg1; have HB1 := Lib.hid hb1; have HX1 := Lib.hid hx1; clear hb1 hx1 hg1))
  refine (someKey_any v l hn hni b3 h w1 (HS.out.below HX1.out) (HB1.out.loads Try.underlying30 rfl (hC_info _ h.2))).mono ?_
  rintro e w2 ⟨v2, lv, rfl, ho, hm, hx2⟩
  have HO := Lib.hid ho.at_
  have HM := Lib.hid hm
  have HX2 := Lib.hid (Agg.belowThen HX1.out (Nat.le_refl _) hx2)
  clear ho hm hx2
  go_wp2_with fail
  go_ret
  exact ⟨_, lv, rfl, HO.out, HM.out, HX2.out⟩
set_option maxRecDepth 100000 in
set_option maxHeartbeats 4000000 in
theorem pathsB_any (v : Value) (l : List BuV) (hn : l.length ≤ 1048576) (w : World) (hs : BusAt w v l) :
    Calls Try.prog 15 #[v] w fun e w' => ∃ v' R, e = .returned v' ∧ Rising R ∧ (∀ q, q ∈ R ↔ ∃ x ∈ l, x.1.pa = q) ∧ ElemsAt w' v' R ∧ Below w.heap.size w w' := by
  have HS := Lib.hid hs
  have hlv := fun W => bus_len hs W
  clear hs
  go_enter Try.func15, Try.ntmps15
  go_wp2_with fail
  go_loopw [3, 8] (fun out i wr => ∃ k : Nat, k ≤ l.length ∧ i = .int .i64 k ∧ Own E20 w.heap.size wr out ((l.take k).map fun x => x.1.pa) ∧ Below w.heap.size w wr) (fun _ i _ => l.length - (intOf i).toNat)
  case atStart => exact ⟨0, by omega, rfl, Own.nil _ _ _, Below.refl _ _⟩
  case round =>
    obtain ⟨wr1, rfl⟩ : ∃ y : World, y = wr := ⟨_, rfl⟩
    obtain ⟨k, hk, rfl, ho, hw⟩ := hrel
    have HO := Lib.hid ho
    have HW := Lib.hid hw
    clear hw ho
    by_cases hlt : k < l.length
    · have hd : decide ((k : Int) < (l.length : Int)) = true := by simp; omega
      obtain ⟨x, hxk⟩ : ∃ x, l[k]? = some x := ⟨_, List.getElem?_eq_getElem hlt⟩
      obtain ⟨q, hadr, hq, hin⟩ := (HS.out.below HW.out).at_ k x hxk
      have HQ := Lib.hid hq
      have HT := Lib.hid (show (l.take (k + 1)).map (fun x => x.1.pa) = (l.take k).map (fun x => x.1.pa) ++ [x.1.pa] by rw [List.take_add_one, hxk]; simp)
      clear hq hxk hin
      go_wp2_with (first | (with_reducible refine wpList_loadL HQ.out.all rfl _ rfl rfl ?_) | (refine wpList_new rfl rfl rfl 35 5 11 rfl rfl rfl (by decide) (bC (zB, none, 0, 0)) (bC x) bC_zero (by rw [bC_size, bC_size]) (bC_info x) (bC_one x) rfl (by simp [Act.put]) ?_; intro g2 w2 hb2 hx2 hg2; have HL2 := Lib.hid (BuG.of_blk hb2); have HO2 := Lib.hid (HO.out.below hx2); have HW2 := Lib.hid (Agg.belowThen HW.out (Nat.le_refl _) hx2); clear hb2 hx2 hg2) | (with_reducible refine wpList_loadL HL2.out.path rfl _ rfl rfl ?_) | (refine wpList_push (E := E20) (base := w.heap.size) rfl rfl 15 rfl _ rfl _ rfl x.1.pa rfl (fun _ => rfl) (by simp [Act.put]) HO2.out (by simp; omega) (by decide) HW2.out.size ?_; intro u5 v5 w5 ho5 hp5; have HO5 := Lib.hid ho5; have HW5 := Lib.hid (HW2.out.trans (hp5.below w.heap.size (Nat.le_refl _) HW2.out.size)); clear ho5 hp5))
      go_roundw
      case rel => exact ⟨k + 1, by omega, by go_num, by rw [HT.out]; exact HO5.out, HW5.out⟩
      case measure => simp [intOf]; omega
    · obtain rfl : k = l.length := by omega
      rw [List.take_length] at HO
      go_wp2_with fail
      refine (sorted_any _ (l.map fun x => x.1.pa) (by simp; omega) wr1 HO.out.slice).mono ?_
      rintro e w2 ⟨v2, R, rfl, hr, hm, he, hx2⟩
      have HR := Lib.hid hr
      have HM := Lib.hid hm
      have HE := Lib.hid he
      have HX := Lib.hid (Agg.belowThen HW.out (Nat.le_refl _) hx2)
      clear hr hm he hx2
      go_wp2_with fail
      go_ret
      exact ⟨_, R, rfl, HR.out, fun q => by rw [HM.out, List.mem_map], HE.out, HX.out⟩
set_option maxRecDepth 100000 in
set_option maxHeartbeats 4000000 in
theorem kept_any (v u : Value) (l : List BuV) (held : List P20) (hn : l.length ≤ 1048576) (hh : held.length ≤ 1048576) (hni : ∀ x ∈ l, x.1.ins.length ≤ 1048576) (w : World) (hs : BusAt w v l) (ht : ElemsAt w u held) :
    Calls Try.prog 14 #[v, u] w fun e w' => ∃ v' lv, e = .returned v' ∧ BusAt w' v' lv ∧ lv.map (·.1) = (l.map (·.1)).filter (fun y => decide (y.pa ∈ held)) ∧ Below w.heap.size w w' := by
  have HS := Lib.hid hs
  have HT := Lib.hid ht
  have hlu := fun W => elems_len ht W
  clear hs ht
  go_enter Try.func14, Try.ntmps14
  go_wp2_with (first | (with_reducible refine wpList_makeMap pV (fun n : Int => .int .i64 n) rfl 65 rfl ?_; intro gm w1 hm1 hx1 hg1; have HM1 := Lib.hid hm1; have HX1 := Lib.hid hx1; have HG1 := Lib.hid hg1; clear hm1 hx1 hg1))
  obtain ⟨b5, hb5⟩ : ∃ b, b = w1.heap.size := ⟨_, rfl⟩
  obtain ⟨w2, hw2⟩ : ∃ W, W = w1.alloc (.cells #[.map (some gm)] 65) := ⟨_, rfl⟩
  have hx2 : Below w1.heap.size w1 w2 := by rw [hw2]; exact (Below.refl _ _).alloc (Nat.le_refl _) _
  have HB2 := Lib.hid (show Blk w2 b5 65 #[.map (some gm)] by rw [hw2, hb5]; exact Blk.new _ _ _)
  have HM2 := Lib.hid (HM1.out.keep (hx2.block _ HM1.out.lt))
  have HX2 := Lib.hid (Agg.belowThen HX1.out (Nat.le_refl _) hx2)
  have HNE := Lib.hid (show b5 ≠ gm from fun e => by have := HM1.out.lt; omega)
  rw [← hw2, ← hb5]
  clear hw2 hb5 hx2
  go_loopw [11] (fun i wr => ∃ (k : Nat) (m : List (P20 × Int)), k ≤ held.length ∧ i = .int .i64 (k : Int) ∧ MapIs wr gm pV (fun n : Int => .int .i64 n) m ∧ KeptM m (held.take k) ∧ Blk wr b5 65 #[.map (some gm)] ∧ Below w.heap.size w wr) (fun i _ => held.length - (intOf i).toNat)
  case atStart => exact ⟨0, [], by omega, rfl, HM2.out, fun p => by simp [mget], HB2.out, HX2.out⟩
  case round =>
    obtain ⟨wr1, rfl⟩ : ∃ y : World, y = wr := ⟨_, rfl⟩
    obtain ⟨k, m, hk, rfl, hm, hkm, hb, hw⟩ := hrel
    have HM := Lib.hid hm
    have HK := Lib.hid hkm
    have HB := Lib.hid hb
    have HW := Lib.hid hw
    clear hm hkm hb hw HM1 HM2 HB2
    by_cases hlt : k < held.length
    · have hd : decide ((k : Int) < (held.length : Int)) = true := by simp; omega
      obtain ⟨x, hxk⟩ : ∃ x, held[k]? = some x := ⟨_, List.getElem?_eq_getElem hlt⟩
      obtain ⟨q, hadr, hq, _⟩ := elem_at (HT.out.below HW.out) k x hxk
      have HQ := Lib.hid hq
      have HTK := Lib.hid (show held.take (k + 1) = held.take k ++ [x] by rw [List.take_add_one, hxk]; rfl)
      clear hq hxk
      go_wp2_with (first | (with_reducible refine wpList_loadL HQ.out rfl _ rfl rfl ?_) | (refine wpList_new rfl rfl rfl 32 7 14 rfl rfl rfl (by decide) (pC z20 []) (pC x.1.1 x.1.2) pC_zero (by rw [pC_size, pC_size, x.2]; rfl) (pC_info _ _ x.2) (pC_one _ _) rfl (by simp [Act.put]) ?_; intro g7 w7 hb7 hx7 hg7; have HL7 := Lib.hid (hb7.loads (P := Try.prog) pC_under rfl (pC_info _ _ x.2)); have HB7 := Lib.hid (HB.out.below hx7); have HV7 := Lib.hid (HB7.out.one (P := Try.prog) (ty := 65) 0 rfl Try.underlying65 rfl); have HM7 := Lib.hid (HM.out.keep (hx7.block _ HM.out.lt)); have HW7 := Lib.hid (Agg.belowThen HW.out (Nat.le_refl _) hx7); clear hb7 hx7 hg7) | (with_reducible refine wpList_loadL HV7.out rfl _ rfl rfl ?_) | (with_reducible refine wpList_loadL HL7.out rfl _ rfl rfl ?_) | (refine Mp.wpList_mapUpdate rfl rfl _ _ _ 65 32 3 rfl Try.underlying65 path_key rfl HM7.out x rfl (1 : Int) rfl ?_; intro w8 hm8 hb8; have HM8 := Lib.hid hm8; have HB8 := Lib.hid (show Blk w8 b5 65 #[.map (some gm)] from (hb8.other HNE.out).trans HB7.out); have HW8 := Lib.hid (hb8.below HW7.out HG1.out); clear hm8 hb8))
      go_roundw
      case rel =>
        refine ⟨k + 1, _, by omega, by go_num, HM8.out, fun p => ?_, HB8.out, HW8.out⟩
        rw [mget_mput, HK.out p, HTK.out]
        by_cases e : p = x
        · subst e; simp
        · simp [e]
      case measure => simp [intOf]; omega
    · obtain rfl : k = held.length := by omega
      rw [List.take_length] at HK
      go_wp2_with fail
      refine (someKept_any v l hn hni b5 gm m held wr1 (HS.out.below HW.out) (HB.out.one (ty := 65) 0 rfl Try.underlying65 rfl) HM.out HK.out).mono ?_
      rintro e w9 ⟨v9, lv, rfl, ho, hm9, hx9⟩
      have HO := Lib.hid ho.at_
      have HM9 := Lib.hid hm9
      have HX9 := Lib.hid (Agg.belowThen HW.out (Nat.le_refl _) hx9)
      clear ho hm9 hx9
      go_wp2_with fail
      go_ret
      exact ⟨_, lv, rfl, HO.out, HM9.out, HX9.out⟩
end Go.Proofs.Ytniibcgomnjfgaa
/-! spencekit.SameBuilt, SameBuilts, BuiltsOf, Pick. -/
namespace Go.Proofs.Ytniibcgomnjfgaa
open Go.RowKit Pl Go.Agg
theorem bu_dec (a b : Bu) : decide (a = b) = (decide (a.cl = b.cl) && (decide (a.ky = b.ky) && (decide (a.pa = b.pa) && ((a.by_ == b.by_) && decide (a.ins = b.ins))))) := by
  rw [Bool.eq_iff_iff]
  cases a; cases b
  simp
set_option maxRecDepth 100000 in
set_option maxHeartbeats 8000000 in
theorem sameBu_any (a b : BuV) (hna : a.1.ins.length ≤ 1048576) (w : World) (ha : InsAt w a) (hb : InsAt w b) :
    Calls Try.prog 10 #[.agg (bC a), .agg (bC b)] w fun e w' => e = .returned (.bool (decide (a.1 = b.1))) ∧ Below w.heap.size w w' := by
  have HIA := Lib.hid (show MdsAt w (ivV a.2) a.1.ins from ha)
  have HIB := Lib.hid (show MdsAt w (ivV b.2) b.1.ins from hb)
  obtain ⟨e1, h1⟩ : ∃ e, decide (a.1.cl = b.1.cl) = e := ⟨_, rfl⟩
  obtain ⟨e2, h2⟩ : ∃ e, decide (a.1.ky = b.1.ky) = e := ⟨_, rfl⟩
  obtain ⟨e3, h3⟩ : ∃ e, decide (a.1.pa = b.1.pa) = e := ⟨_, rfl⟩
  obtain ⟨e4, h4⟩ : ∃ e, (a.1.by_ == b.1.by_) = e := ⟨_, rfl⟩
  obtain ⟨e5, h5⟩ : ∃ e, decide (a.1.ins = b.1.ins) = e := ⟨_, rfl⟩
  have HR := Lib.hid (show decide (a.1 = b.1) = (e1 && (e2 && (e3 && (e4 && e5)))) by rw [bu_dec, h1, h2, h3, h4, h5])
  have H1 := Lib.hid (fun W => (show (binOp .eql 30 (.agg (hC a.1.cl.1)) (.agg (hC b.1.cl.1))).run Try.prog W = .ok (.bool e1) W by rw [eqlHB, h1]))
  have H2 := Lib.hid (fun W => (show (binOp .eql 30 (.agg (hC a.1.ky.1)) (.agg (hC b.1.ky.1))).run Try.prog W = .ok (.bool e2) W by rw [eqlHB, h2]))
  have H3 := Lib.hid (fun W => (show (binOp .eql 32 (.agg (pC a.1.pa.1.1 a.1.pa.1.2)) (.agg (pC b.1.pa.1.1 b.1.pa.1.2))).run Try.prog W = .ok (.bool e3) W by rw [eqlPB, h3]))
  have H5 := Lib.hid h5
  clear ha hb h1 h2 h3 h5
  go_enter Try.func10, Try.ntmps10
  cases e1 with
  | false =>
    go_wp2_with (first | (with_reducible refine wpList_box rfl 35 _ rfl (bC a) rfl ?_; intro g1 w1 hb1 hx1 hg1; have HA1 := Lib.hid (BuG.of_blk hb1); have HX1 := Lib.hid hx1; clear hb1 hx1 hg1) | (with_reducible refine wpList_box rfl 35 _ rfl (bC b) rfl ?_; intro g2 w2 hb2 hx2 hg2; have HB := Lib.hid (BuG.of_blk hb2); have HA := Lib.hid (HA1.out.below hx2); have HX2 := Lib.hid (Agg.belowThen HX1.out (Nat.le_refl _) hx2); clear hb2 hx2 hg2) | (with_reducible refine wpList_loadL HA.out.cls rfl _ rfl rfl ?_) | (with_reducible refine wpList_loadL HB.out.cls rfl _ rfl rfl ?_) | (with_reducible refine wpList_loadL HA.out.key rfl _ rfl rfl ?_) | (with_reducible refine wpList_loadL HB.out.key rfl _ rfl rfl ?_) | (with_reducible refine wpList_loadL HA.out.path rfl _ rfl rfl ?_) | (with_reducible refine wpList_loadL HB.out.path rfl _ rfl rfl ?_) | (with_reducible refine wpList_loadL HA.out.by_ rfl _ rfl rfl ?_) | (with_reducible refine wpList_loadL HB.out.by_ rfl _ rfl rfl ?_) | (with_reducible refine wpList_loadL HA.out.ins rfl _ rfl rfl ?_) | (with_reducible refine wpList_loadL HB.out.ins rfl _ rfl rfl ?_) | (with_reducible refine wpList_eqlw 30 30 _ _ rfl rfl (hC a.1.cl.1) (hC b.1.cl.1) rfl rfl _ (by kernel_rfl) H1.out ?_) | (with_reducible refine wpList_eqlw 30 30 _ _ rfl rfl (hC a.1.ky.1) (hC b.1.ky.1) rfl rfl _ (by kernel_rfl) H2.out ?_) | (with_reducible refine wpList_eqlw 32 32 _ _ rfl rfl (pC a.1.pa.1.1 a.1.pa.1.2) (pC b.1.pa.1.1 b.1.pa.1.2) rfl rfl _ (by kernel_rfl) H3.out ?_))
    go_ret
    exact ⟨ret_bool (by rw [HR.out]; rfl), HX2.out⟩
  | true =>
  cases e2 with
  | false =>
    go_wp2_with (first | (with_reducible refine wpList_box rfl 35 _ rfl (bC a) rfl ?_; intro g1 w1 hb1 hx1 hg1; have HA1 := Lib.hid (BuG.of_blk hb1); have HX1 := Lib.hid hx1; clear hb1 hx1 hg1) | (with_reducible refine wpList_box rfl 35 _ rfl (bC b) rfl ?_; intro g2 w2 hb2 hx2 hg2; have HB := Lib.hid (BuG.of_blk hb2); have HA := Lib.hid (HA1.out.below hx2); have HX2 := Lib.hid (Agg.belowThen HX1.out (Nat.le_refl _) hx2); clear hb2 hx2 hg2) | (with_reducible refine wpList_loadL HA.out.cls rfl _ rfl rfl ?_) | (with_reducible refine wpList_loadL HB.out.cls rfl _ rfl rfl ?_) | (with_reducible refine wpList_loadL HA.out.key rfl _ rfl rfl ?_) | (with_reducible refine wpList_loadL HB.out.key rfl _ rfl rfl ?_) | (with_reducible refine wpList_loadL HA.out.path rfl _ rfl rfl ?_) | (with_reducible refine wpList_loadL HB.out.path rfl _ rfl rfl ?_) | (with_reducible refine wpList_loadL HA.out.by_ rfl _ rfl rfl ?_) | (with_reducible refine wpList_loadL HB.out.by_ rfl _ rfl rfl ?_) | (with_reducible refine wpList_loadL HA.out.ins rfl _ rfl rfl ?_) | (with_reducible refine wpList_loadL HB.out.ins rfl _ rfl rfl ?_) | (with_reducible refine wpList_eqlw 30 30 _ _ rfl rfl (hC a.1.cl.1) (hC b.1.cl.1) rfl rfl _ (by kernel_rfl) H1.out ?_) | (with_reducible refine wpList_eqlw 30 30 _ _ rfl rfl (hC a.1.ky.1) (hC b.1.ky.1) rfl rfl _ (by kernel_rfl) H2.out ?_) | (with_reducible refine wpList_eqlw 32 32 _ _ rfl rfl (pC a.1.pa.1.1 a.1.pa.1.2) (pC b.1.pa.1.1 b.1.pa.1.2) rfl rfl _ (by kernel_rfl) H3.out ?_))
    go_ret
    exact ⟨ret_bool (by rw [HR.out]; rfl), HX2.out⟩
  | true =>
  cases e3 with
  | false =>
    go_wp2_with (first | (with_reducible refine wpList_box rfl 35 _ rfl (bC a) rfl ?_; intro g1 w1 hb1 hx1 hg1; have HA1 := Lib.hid (BuG.of_blk hb1); have HX1 := Lib.hid hx1; clear hb1 hx1 hg1) | (with_reducible refine wpList_box rfl 35 _ rfl (bC b) rfl ?_; intro g2 w2 hb2 hx2 hg2; have HB := Lib.hid (BuG.of_blk hb2); have HA := Lib.hid (HA1.out.below hx2); have HX2 := Lib.hid (Agg.belowThen HX1.out (Nat.le_refl _) hx2); clear hb2 hx2 hg2) | (with_reducible refine wpList_loadL HA.out.cls rfl _ rfl rfl ?_) | (with_reducible refine wpList_loadL HB.out.cls rfl _ rfl rfl ?_) | (with_reducible refine wpList_loadL HA.out.key rfl _ rfl rfl ?_) | (with_reducible refine wpList_loadL HB.out.key rfl _ rfl rfl ?_) | (with_reducible refine wpList_loadL HA.out.path rfl _ rfl rfl ?_) | (with_reducible refine wpList_loadL HB.out.path rfl _ rfl rfl ?_) | (with_reducible refine wpList_loadL HA.out.by_ rfl _ rfl rfl ?_) | (with_reducible refine wpList_loadL HB.out.by_ rfl _ rfl rfl ?_) | (with_reducible refine wpList_loadL HA.out.ins rfl _ rfl rfl ?_) | (with_reducible refine wpList_loadL HB.out.ins rfl _ rfl rfl ?_) | (with_reducible refine wpList_eqlw 30 30 _ _ rfl rfl (hC a.1.cl.1) (hC b.1.cl.1) rfl rfl _ (by kernel_rfl) H1.out ?_) | (with_reducible refine wpList_eqlw 30 30 _ _ rfl rfl (hC a.1.ky.1) (hC b.1.ky.1) rfl rfl _ (by kernel_rfl) H2.out ?_) | (with_reducible refine wpList_eqlw 32 32 _ _ rfl rfl (pC a.1.pa.1.1 a.1.pa.1.2) (pC b.1.pa.1.1 b.1.pa.1.2) rfl rfl _ (by kernel_rfl) H3.out ?_))
    go_ret
    exact ⟨ret_bool (by rw [HR.out]; rfl), HX2.out⟩
  | true =>
  cases e4 with
  | false =>
    go_wp2_with (first | (with_reducible refine wpList_box rfl 35 _ rfl (bC a) rfl ?_; intro g1 w1 hb1 hx1 hg1; have HA1 := Lib.hid (BuG.of_blk hb1); have HX1 := Lib.hid hx1; clear hb1 hx1 hg1) | (with_reducible refine wpList_box rfl 35 _ rfl (bC b) rfl ?_; intro g2 w2 hb2 hx2 hg2; have HB := Lib.hid (BuG.of_blk hb2); have HA := Lib.hid (HA1.out.below hx2); have HX2 := Lib.hid (Agg.belowThen HX1.out (Nat.le_refl _) hx2); clear hb2 hx2 hg2) | (with_reducible refine wpList_loadL HA.out.cls rfl _ rfl rfl ?_) | (with_reducible refine wpList_loadL HB.out.cls rfl _ rfl rfl ?_) | (with_reducible refine wpList_loadL HA.out.key rfl _ rfl rfl ?_) | (with_reducible refine wpList_loadL HB.out.key rfl _ rfl rfl ?_) | (with_reducible refine wpList_loadL HA.out.path rfl _ rfl rfl ?_) | (with_reducible refine wpList_loadL HB.out.path rfl _ rfl rfl ?_) | (with_reducible refine wpList_loadL HA.out.by_ rfl _ rfl rfl ?_) | (with_reducible refine wpList_loadL HB.out.by_ rfl _ rfl rfl ?_) | (with_reducible refine wpList_loadL HA.out.ins rfl _ rfl rfl ?_) | (with_reducible refine wpList_loadL HB.out.ins rfl _ rfl rfl ?_) | (with_reducible refine wpList_eqlw 30 30 _ _ rfl rfl (hC a.1.cl.1) (hC b.1.cl.1) rfl rfl _ (by kernel_rfl) H1.out ?_) | (with_reducible refine wpList_eqlw 30 30 _ _ rfl rfl (hC a.1.ky.1) (hC b.1.ky.1) rfl rfl _ (by kernel_rfl) H2.out ?_) | (with_reducible refine wpList_eqlw 32 32 _ _ rfl rfl (pC a.1.pa.1.1 a.1.pa.1.2) (pC b.1.pa.1.1 b.1.pa.1.2) rfl rfl _ (by kernel_rfl) H3.out ?_))
    go_ret
    exact ⟨ret_bool (by rw [HR.out]; rfl), HX2.out⟩
  | true =>
  go_wp2_with (first | (with_reducible refine wpList_box rfl 35 _ rfl (bC a) rfl ?_; intro g1 w1 hb1 hx1 hg1; have HA1 := Lib.hid (BuG.of_blk hb1); have HX1 := Lib.hid hx1; clear hb1 hx1 hg1) | (with_reducible refine wpList_box rfl 35 _ rfl (bC b) rfl ?_; intro g2 w2 hb2 hx2 hg2; have HB := Lib.hid (BuG.of_blk hb2); have HA := Lib.hid (HA1.out.below hx2); have HX2 := Lib.hid (Agg.belowThen HX1.out (Nat.le_refl _) hx2); clear hb2 hx2 hg2) | (with_reducible refine wpList_loadL HA.out.cls rfl _ rfl rfl ?_) | (with_reducible refine wpList_loadL HB.out.cls rfl _ rfl rfl ?_) | (with_reducible refine wpList_loadL HA.out.key rfl _ rfl rfl ?_) | (with_reducible refine wpList_loadL HB.out.key rfl _ rfl rfl ?_) | (with_reducible refine wpList_loadL HA.out.path rfl _ rfl rfl ?_) | (with_reducible refine wpList_loadL HB.out.path rfl _ rfl rfl ?_) | (with_reducible refine wpList_loadL HA.out.by_ rfl _ rfl rfl ?_) | (with_reducible refine wpList_loadL HB.out.by_ rfl _ rfl rfl ?_) | (with_reducible refine wpList_loadL HA.out.ins rfl _ rfl rfl ?_) | (with_reducible refine wpList_loadL HB.out.ins rfl _ rfl rfl ?_) | (with_reducible refine wpList_eqlw 30 30 _ _ rfl rfl (hC a.1.cl.1) (hC b.1.cl.1) rfl rfl _ (by kernel_rfl) H1.out ?_) | (with_reducible refine wpList_eqlw 30 30 _ _ rfl rfl (hC a.1.ky.1) (hC b.1.ky.1) rfl rfl _ (by kernel_rfl) H2.out ?_) | (with_reducible refine wpList_eqlw 32 32 _ _ rfl rfl (pC a.1.pa.1.1 a.1.pa.1.2) (pC b.1.pa.1.1 b.1.pa.1.2) rfl rfl _ (by kernel_rfl) H3.out ?_))
  refine (sameMades_any _ _ a.1.ins b.1.ins hna w2 (HIA.out.below HX2.out) (HIB.out.below HX2.out)).mono ?_
  rintro e w3 ⟨rfl, hx3⟩
  rw [H5.out]
  have HX3 := Lib.hid (Agg.belowThen HX2.out (Nat.le_refl _) hx3)
  clear hx3
  go_wp2_with fail
  go_ret
  exact ⟨ret_bool (by rw [HR.out]; rfl), HX3.out⟩
set_option maxRecDepth 100000 in
set_option maxHeartbeats 4000000 in
theorem sameBus_any (v u : Value) (l m : List BuV) (hl : l.length ≤ 1048576) (hni : ∀ x ∈ l, x.1.ins.length ≤ 1048576) (w : World) (hs : BusAt w v l) (ht : BusAt w u m) :
    Calls Try.prog 12 #[v, u] w fun e w' => e = .returned (.bool (decide (l.map (·.1) = m.map (·.1)))) ∧ Below w.heap.size w w' := by
  have HS := Lib.hid hs
  have HT := Lib.hid ht
  have HNI := Lib.hid hni
  have hlv := fun W => bus_len hs W
  have hlu := fun W => bus_len ht W
  clear hs ht hni
  by_cases hlm : l.length = m.length
  · have hd0 : ((l.length : Int) != (m.length : Int)) = false := by simp; omega
    go_enter Try.func12, Try.ntmps12
    go_wp2_with fail
    go_loopw [5] (fun i wr => ∃ k : Nat, k ≤ l.length ∧ i = .int .i64 (k : Int) ∧ AlikeU (l.map (·.1)) (m.map (·.1)) k ∧ Below w.heap.size w wr) (fun i _ => l.length - (intOf i).toNat)
    case atStart => exact ⟨0, by omega, rfl, fun j hj => absurd hj (by omega), Below.refl _ _⟩
    case round =>
      obtain ⟨wr1, rfl⟩ : ∃ y : World, y = wr := ⟨_, rfl⟩
      obtain ⟨k, hk, rfl, ha, hw⟩ := hrel
      have HA := Lib.hid ha
      have HW := Lib.hid hw
      clear ha hw
      by_cases hlt : k < l.length
      · have hd : decide ((k : Int) < (l.length : Int)) = true := by simp; omega
        obtain ⟨x, hxk⟩ : ∃ x, l[k]? = some x := ⟨_, List.getElem?_eq_getElem hlt⟩
        obtain ⟨y, hyk⟩ : ∃ y, m[k]? = some y := ⟨_, List.getElem?_eq_getElem (by omega)⟩
        obtain ⟨q, hadr, hq, hin⟩ := (HS.out.below HW.out).at_ k x hxk
        obtain ⟨q2, hadr2, hq2, hin2⟩ := (HT.out.below HW.out).at_ k y hyk
        have hnx := HNI.out x (List.mem_of_getElem? hxk)
        have HQ := Lib.hid hq
        have HQ2 := Lib.hid hq2
        have HX := Lib.hid (show (l.map (·.1))[k]? = some x.1 by rw [List.getElem?_map, hxk]; rfl)
        have HY := Lib.hid (show (m.map (·.1))[k]? = some y.1 by rw [List.getElem?_map, hyk]; rfl)
        obtain ⟨e, he⟩ : ∃ e, decide (x.1 = y.1) = e := ⟨_, rfl⟩
        have HSB := Lib.hid (fun z : Later wr1 => (show Calls Try.prog 10 #[.agg (bC x), .agg (bC y)] z.w fun t w' => t = .returned (.bool e) ∧ Below z.w.heap.size z.w w' by have := sameBu_any x y hnx z.w (hin.below z.h) (hin2.below z.h); rwa [he] at this))
        have HE := Lib.hid he
        clear hq hq2 hxk hyk he hin hin2
        cases e with
        | false =>
          go_wp2_with fail
          try simp only [Act.put, List.setIfInBounds_toArray, List.set_cons_succ, List.set_cons_zero]
          refine Agg.wp_region_later_lit (by kernel_rfl) (by kernel_rfl) ?_
          repeat (first | go_big_quiet_skip | ((first | (with_reducible refine Agg.wpQuiet_loadL HQ.out.all rfl _ rfl rfl ?_) | (with_reducible refine Agg.wpQuiet_loadL HQ2.out.all rfl _ rfl rfl ?_)); simp only [Act.put, List.setIfInBounds_toArray, List.set_cons_succ, List.set_cons_zero]) | go_big_quiet_step ((first | (go_at_call 10; with_reducible exact Agg.Calls.later (HSB.out _)))))
          refine wpQuiet_nil ?_
          intro _ hw'
          obtain ⟨x4, rfl⟩ := hw'
          go_wp2_with fail
          go_ret
          refine ⟨ret_bool (Eq.symm (decide_eq_false fun e => ?_)), Agg.belowThen HW.out (Nat.le_refl _) x4.h⟩
          have h1 := HX.out
          rw [e, HY.out] at h1
          exact of_decide_eq_false HE.out (Option.some.inj h1).symm
        | true =>
          go_wp2_with fail
          try simp only [Act.put, List.setIfInBounds_toArray, List.set_cons_succ, List.set_cons_zero]
          refine Agg.wp_region_later_lit (by kernel_rfl) (by kernel_rfl) ?_
          repeat (first | go_big_quiet_skip | ((first | (with_reducible refine Agg.wpQuiet_loadL HQ.out.all rfl _ rfl rfl ?_) | (with_reducible refine Agg.wpQuiet_loadL HQ2.out.all rfl _ rfl rfl ?_)); simp only [Act.put, List.setIfInBounds_toArray, List.set_cons_succ, List.set_cons_zero]) | go_big_quiet_step ((first | (go_at_call 10; with_reducible exact Agg.Calls.later (HSB.out _)))))
          refine wpQuiet_nil ?_
          intro _ hw'
          obtain ⟨x4, rfl⟩ := hw'
          go_wp2_with fail
          go_roundw
          case rel => exact ⟨k + 1, by omega, by go_num, alikeU_succ HA.out (by rw [HX.out, HY.out, of_decide_eq_true HE.out]), Agg.belowThen HW.out (Nat.le_refl _) x4.h⟩
          case measure => simp [intOf]; omega
      · obtain rfl : k = l.length := by omega
        go_wp2_with fail
        go_ret
        exact ⟨ret_bool (Eq.symm (decide_eq_true (alikeU_all (by simpa using hlm) (by simpa using HA.out)))), HW.out⟩
  · have hd0 : ((l.length : Int) != (m.length : Int)) = true := by simp; omega
    go_enter Try.func12, Try.ntmps12
    go_wp2_with fail
    go_ret
    exact ⟨ret_bool (Eq.symm (decide_eq_false fun e => hlm (by have := congrArg List.length e; simpa using this))), Below.refl _ _⟩
end Go.Proofs.Ytniibcgomnjfgaa
/-! A map grown one by one (plain law): whatever lies at a place first stays; in another order, where no two unlike ones have one place, it is the same. -/
namespace Go.Gr
section
variable {α κ : Type}
/-- a strict order of places -/
structure Ord (lt : κ → κ → Bool) : Prop where
  irrefl : ∀ a, lt a a = false
  trans : ∀ a b c, lt a b = true → lt b c = true → lt a c = true
  total : ∀ a b, a ≠ b → lt a b = false → lt b a = true
theorem Ord.asymm {lt : κ → κ → Bool} (h : Ord lt) {a b : κ} (h1 : lt a b = true) : lt b a = false := by
  cases h2 : lt b a with
  | false => rfl
  | true => have := h.trans _ _ _ h1 h2; rw [h.irrefl] at this; cases this
variable (key : α → κ) (lt : κ → κ → Bool) (right : α → Bool)
/-- rising by their places -/
def Up (l : List α) : Prop := l.Pairwise fun a b => lt (key a) (key b) = true
/-- a map, as the code tells it -/
def MapP (l : List α) : Prop := ∀ (i : Nat) x, l[i]? = some x → right x = true ∧ ∀ (j : Nat) y, i = j + 1 → l[j]? = some y → lt (key y) (key x) = true
variable {key lt right}
theorem up_unique (hO : Ord lt) : ∀ (a b : List α), Up key lt a → Up key lt b → (∀ x, x ∈ a ↔ x ∈ b) → a = b
  | [], [], _, _, _ => rfl
  | [], y :: b, _, _, h => absurd ((h y).2 (by simp)) (by simp)
  | x :: a, [], _, _, h => absurd ((h x).1 (by simp)) (by simp)
  | x :: a, y :: b, ha, hb, h => by
    rw [Up, List.pairwise_cons] at ha hb
    have hxy : x = y := by
      rcases List.mem_cons.1 ((h x).1 (by simp)) with e | hx
      · exact e
      · rcases List.mem_cons.1 ((h y).2 (by simp)) with e | hy
        · exact e.symm
        · have h1 := hb.1 x hx
          have h2 := ha.1 y hy
          rw [hO.asymm h1] at h2; cases h2
    subst hxy
    congr 1
    refine up_unique hO a b ha.2 hb.2 fun z => ?_
    have hz := h z
    simp only [List.mem_cons] at hz
    constructor
    · intro hza
      rcases hz.1 (.inr hza) with e | hzb
      · subst e
        have := ha.1 z hza
        rw [hO.irrefl] at this; cases this
      · exact hzb
    · intro hzb
      rcases hz.2 (.inr hzb) with e | hza
      · subst e
        have := hb.1 z hzb
        rw [hO.irrefl] at this; cases this
      · exact hza
theorem up_key (hO : Ord lt) : ∀ (a : List α), Up key lt a → ∀ x ∈ a, ∀ y ∈ a, key x = key y → x = y
  | [], _, x, hx, _, _, _ => by simp at hx
  | z :: a, h, x, hx, y, hy, e => by
    rw [Up, List.pairwise_cons] at h
    rcases List.mem_cons.1 hx with rfl | hx'
    · rcases List.mem_cons.1 hy with rfl | hy'
      · rfl
      · have := h.1 y hy'; rw [e, hO.irrefl] at this; cases this
    · rcases List.mem_cons.1 hy with rfl | hy'
      · have := h.1 x hx'; rw [e, hO.irrefl] at this; cases this
      · exact up_key hO a h.2 x hx' y hy' e
theorem up_insert {l : List α} {k : Nat} {x : α} (hl : Up key lt l) (h1 : ∀ y ∈ l.take k, lt (key y) (key x) = true) (h2 : ∀ y ∈ l.drop k, lt (key x) (key y) = true) : Up key lt (l.take k ++ x :: l.drop k) := by
  have hl' : Up key lt (l.take k ++ l.drop k) := by rw [List.take_append_drop]; exact hl
  rw [Up, List.pairwise_append] at hl' ⊢
  refine ⟨hl'.1, List.pairwise_cons.2 ⟨h2, hl'.2.1⟩, fun a ha b hb => ?_⟩
  rcases List.mem_cons.1 hb with rfl | hb'
  · exact h1 a ha
  · exact hl'.2.2 a ha b hb'
theorem mem_insert {l : List α} {k : Nat} {x z : α} : z ∈ l.take k ++ x :: l.drop k ↔ z = x ∨ z ∈ l := by
  rw [List.mem_append, List.mem_cons]
  constructor
  · rintro (h | h | h)
    · exact .inr (List.mem_of_mem_take h)
    · exact .inl h
    · exact .inr (List.mem_of_mem_drop h)
  · rintro (h | h)
    · exact .inr (.inl h)
    · rw [← List.take_append_drop k l, List.mem_append] at h
      exact h.elim .inl fun h => .inr (.inr h)
theorem mapP_iff (hO : Ord lt) (l : List α) : MapP key lt right l ↔ (∀ x ∈ l, right x = true) ∧ Up key lt l := by
  constructor
  · intro h
    refine ⟨fun x hx => ?_, ?_⟩
    · obtain ⟨i, hi, rfl⟩ := List.getElem_of_mem hx
      exact (h i l[i] (List.getElem?_eq_getElem hi)).1
    · rw [Up, List.pairwise_iff_getElem]
      intro i j hi hj hij
      obtain ⟨d, rfl⟩ : ∃ d, j = i + 1 + d := ⟨j - (i + 1), by omega⟩
      clear hij
      induction d with
      | zero => exact (h (i + 1) _ (List.getElem?_eq_getElem hj)).2 i l[i] rfl (List.getElem?_eq_getElem hi)
      | succ d ih =>
        have hj' : i + 1 + d < l.length := by omega
        exact hO.trans _ _ _ (ih hj') ((h (i + 1 + d + 1) _ (List.getElem?_eq_getElem (by omega))).2 (i + 1 + d) _ rfl (List.getElem?_eq_getElem hj'))
  · rintro ⟨h1, h2⟩ i x hx
    refine ⟨h1 x (List.mem_of_getElem? hx), fun j y hij hy => ?_⟩
    subst hij
    obtain ⟨hi, rfl⟩ := List.getElem?_eq_some_iff.1 hx
    obtain ⟨hj, rfl⟩ := List.getElem?_eq_some_iff.1 hy
    exact List.pairwise_iff_getElem.1 h2 j (j + 1) hj hi (by omega)
variable (key lt right)
/-- what was grown of some -/
structure Grown (p out : List α) (clean : Bool) : Prop where
  up : Up key lt out
  ok : ∀ y ∈ out, right y = true
  first : ∀ y ∈ out, ∃ i : Nat, p[i]? = some y ∧ ∀ (j : Nat) z, j < i → p[j]? = some z → right z = true → key z ≠ key y
  has : ∀ x ∈ p, right x = true → ∃ y ∈ out, key y = key x
  clean : clean = true ↔ ∀ x ∈ p, right x = true → x ∈ out
variable {key lt right}
theorem Grown.nil : Grown key lt right [] [] true where
  up := List.Pairwise.nil
  ok := by simp
  first := by simp
  has := by simp
  clean := by simp
theorem Grown.map (hO : Ord lt) {p out : List α} {c : Bool} (h : Grown key lt right p out c) : MapP key lt right out := (mapP_iff hO out).2 ⟨h.ok, h.up⟩
theorem Grown.skip {p out : List α} {c : Bool} {x : α} (h : Grown key lt right p out c) (hx : right x = false) : Grown key lt right (p ++ [x]) out c where
  up := h.up
  ok := h.ok
  first := fun y hy => by
    obtain ⟨i, hi, hf⟩ := h.first y hy
    have hlt := (List.getElem?_eq_some_iff.1 hi).1
    exact ⟨i, by rw [List.getElem?_append_left hlt]; exact hi, fun j z hj hz => hf j z hj (by rwa [List.getElem?_append_left (by omega)] at hz)⟩
  has := fun z hz hr => by
    rcases List.mem_append.1 hz with hz | hz
    · exact h.has z hz hr
    · rw [List.mem_singleton.1 hz, hx] at hr; cases hr
  clean := by
    rw [h.clean]
    constructor
    · intro hc z hz hr
      rcases List.mem_append.1 hz with hz | hz
      · exact hc z hz hr
      · rw [List.mem_singleton.1 hz, hx] at hr; cases hr
    · exact fun hc z hz hr => hc z (List.mem_append_left _ hz) hr
theorem Grown.add (hO : Ord lt) {p out : List α} {c : Bool} {x : α} {k : Nat} (h : Grown key lt right p out c) (hx : right x = true)
    (h1 : ∀ y ∈ out.take k, lt (key y) (key x) = true) (h2 : ∀ y ∈ out.drop k, lt (key x) (key y) = true) : Grown key lt right (p ++ [x]) (out.take k ++ x :: out.drop k) c := by
  have hno : ∀ y ∈ out, key y ≠ key x := fun y hy e => by
    rw [← List.take_append_drop k out, List.mem_append] at hy
    rcases hy with hy | hy
    · have := h1 y hy; rw [e, hO.irrefl] at this; cases this
    · have := h2 y hy; rw [e, hO.irrefl] at this; cases this
  refine ⟨up_insert h.up h1 h2, ?_, ?_, ?_, ?_⟩
  · intro y hy
    rcases mem_insert.1 hy with rfl | hy
    · exact hx
    · exact h.ok y hy
  · intro y hy
    rcases mem_insert.1 hy with rfl | hy
    · refine ⟨p.length, by simp, fun j z hj hz hr e => ?_⟩
      rw [List.getElem?_append_left hj] at hz
      obtain ⟨u, hu, he⟩ := h.has z (List.mem_of_getElem? hz) hr
      exact hno u hu (he.trans e)
    · obtain ⟨i, hi, hf⟩ := h.first y hy
      have hlt := (List.getElem?_eq_some_iff.1 hi).1
      exact ⟨i, by rw [List.getElem?_append_left hlt]; exact hi, fun j z hj hz => hf j z hj (by rwa [List.getElem?_append_left (by omega)] at hz)⟩
  · intro z hz hr
    rcases List.mem_append.1 hz with hz | hz
    · obtain ⟨u, hu, he⟩ := h.has z hz hr
      exact ⟨u, mem_insert.2 (.inr hu), he⟩
    · rw [List.mem_singleton.1 hz]
      exact ⟨x, mem_insert.2 (.inl rfl), rfl⟩
  · rw [h.clean]
    constructor
    · intro hc z hz hr
      rcases List.mem_append.1 hz with hz | hz
      · exact mem_insert.2 (.inr (hc z hz hr))
      · exact mem_insert.2 (.inl (List.mem_singleton.1 hz))
    · intro hc z hz hr
      rcases mem_insert.1 (hc z (List.mem_append_left _ hz) hr) with e | hm
      · subst e
        obtain ⟨u, hu, he⟩ := h.has z hz hr
        exact absurd he (hno u hu)
      · exact hm
theorem Grown.again {p out : List α} {c : Bool} {x : α} (h : Grown key lt right p out c) (hx : x ∈ out) : Grown key lt right (p ++ [x]) out c where
  up := h.up
  ok := h.ok
  first := fun y hy => by
    obtain ⟨i, hi, hf⟩ := h.first y hy
    have hlt := (List.getElem?_eq_some_iff.1 hi).1
    exact ⟨i, by rw [List.getElem?_append_left hlt]; exact hi, fun j z hj hz => hf j z hj (by rwa [List.getElem?_append_left (by omega)] at hz)⟩
  has := fun z hz hr => by
    rcases List.mem_append.1 hz with hz | hz
    · exact h.has z hz hr
    · rw [List.mem_singleton.1 hz]; exact ⟨x, hx, rfl⟩
  clean := by
    rw [h.clean]
    constructor
    · intro hc z hz hr
      rcases List.mem_append.1 hz with hz | hz
      · exact hc z hz hr
      · rw [List.mem_singleton.1 hz]; exact hx
    · exact fun hc z hz hr => hc z (List.mem_append_left _ hz) hr
theorem Grown.other (hO : Ord lt) {p out : List α} {c : Bool} {x y : α} (h : Grown key lt right p out c) (hr : right x = true) (hy : y ∈ out) (he : key y = key x) (hne : y ≠ x) : Grown key lt right (p ++ [x]) out false where
  up := h.up
  ok := h.ok
  first := fun y hy => by
    obtain ⟨i, hi, hf⟩ := h.first y hy
    have hlt := (List.getElem?_eq_some_iff.1 hi).1
    exact ⟨i, by rw [List.getElem?_append_left hlt]; exact hi, fun j z hj hz => hf j z hj (by rwa [List.getElem?_append_left (by omega)] at hz)⟩
  has := fun z hz hr => by
    rcases List.mem_append.1 hz with hz | hz
    · exact h.has z hz hr
    · rw [List.mem_singleton.1 hz]; exact ⟨y, hy, he⟩
  clean := by
    constructor
    · intro e; cases e
    · intro hc
      have := hc x (by simp) hr
      exact absurd (up_key hO out h.up y hy x this he) hne
/-- how many lie at a place -/
def many [DecidableEq κ] (key : α → κ) (a : List α) (k : κ) : Nat := a.countP fun y => decide (key y = k)
theorem many_one [DecidableEq κ] (hO : Ord lt) : ∀ {a : List α}, Up key lt a → ∀ {y : α}, y ∈ a → many key a (key y) = 1
  | [], _, y, hy => by simp at hy
  | z :: a, h, y, hy => by
    have h' := h
    rw [Up, List.pairwise_cons] at h
    unfold many
    rw [List.countP_cons]
    by_cases e : key z = key y
    · have h0 : a.countP (fun u => decide (key u = key y)) = 0 := by
        rw [List.countP_eq_zero]
        intro u hu hd
        have := h.1 u hu
        rw [e, of_decide_eq_true hd, hO.irrefl] at this; cases this
      simp [h0, e]
    · rcases List.mem_cons.1 hy with rfl | hy'
      · exact absurd rfl e
      · have := many_one hO h.2 hy'
        unfold many at this
        simp [this, e]
theorem Grown.one [DecidableEq κ] (hO : Ord lt) {p out : List α} {c : Bool} (h : Grown key lt right p out c) {x : α} (hx : x ∈ p) (hr : right x = true) : many key out (key x) = 1 := by
  obtain ⟨y, hy, he⟩ := h.has x hx hr
  rw [← he]; exact many_one hO h.up hy
theorem Grown.is_first {p out : List α} {c : Bool} (h : Grown key lt right p out c) {i : Nat} {x y : α} (hi : p[i]? = some x) (hr : right x = true)
    (hf : ∀ (j : Nat) z, j < i → p[j]? = some z → right z = true → key z ≠ key x) (hy : y ∈ out) (he : key y = key x) : y = x := by
  obtain ⟨k, hk, hkf⟩ := h.first y hy
  rcases Nat.lt_trichotomy k i with hlt | rfl | hlt
  · exact absurd he (hf k y hlt hk (h.ok y hy))
  · rw [hk] at hi; exact Option.some.inj hi
  · exact absurd he.symm (hkf i x hlt hi hr)
theorem Grown.turned (hO : Ord lt) {p q a b : List α} {c d : Bool} (h : Grown key lt right p a c) (g : Grown key lt right q b d) (hm : ∀ x, x ∈ p ↔ x ∈ q) : c = d ∧ (c = true → a = b) := by
  have aux : ∀ {p q a b : List α} {c d : Bool}, Grown key lt right p a c → Grown key lt right q b d → (∀ x, x ∈ p ↔ x ∈ q) → c = true → d = true := by
    intro p q a b c d h g hm hc
    rw [g.clean]
    intro x hx hr
    obtain ⟨y, hy, he⟩ := g.has x hx hr
    have hxa := h.clean.1 hc x ((hm x).2 hx) hr
    obtain ⟨i, hi, _⟩ := g.first y hy
    have hya := h.clean.1 hc y ((hm y).2 (List.mem_of_getElem? hi)) (g.ok y hy)
    rw [← up_key hO a h.up y hya x hxa he]; exact hy
  refine ⟨?_, fun hc => ?_⟩
  · cases c with
    | true => exact (aux h g hm rfl).symm
    | false =>
      cases d with
      | false => rfl
      | true => have := aux g h (fun x => (hm x).symm) rfl; cases this
  · have hd := aux h g hm hc
    refine up_unique hO a b h.up g.up fun x => ⟨fun hx => ?_, fun hx => ?_⟩
    · obtain ⟨i, hi, _⟩ := h.first x hx
      exact g.clean.1 hd x ((hm x).1 (List.mem_of_getElem? hi)) (h.ok x hx)
    · obtain ⟨i, hi, _⟩ := g.first x hx
      exact h.clean.1 hc x ((hm x).2 (List.mem_of_getElem? hi)) (g.ok x hx)
end
end Go.Gr
