/- spencekit.KeptBytes. (Several texts in one.) -/
import Derived.Test.YtfiadgdinhmgbaaGreatDoorEBG
/-! spencekit.flatBytes. -/
namespace Go.Proofs.YtfiadgdinhmgbaaGreatDoor
open Go.RowKit Pl Go.Agg
theorem markByte_blw (k i : Nat) (hk : k ≤ 16777216) (hi : i ≤ 16777216) (w : World) : Calls Tryz.prog 28 #[.int .i64 (k : Int), .int .i64 (i : Int)] w fun e w' => e = .returned (.int .u8 ((mkB k i).toNat : Int)) ∧ Below w.heap.size w w' :=
 (markByte_any k i hk hi w).mono (by rintro e w' ⟨rfl, rfl⟩; exact ⟨rfl, Below.refl _ _⟩)
theorem markByte_sum (k a b : Nat) (hk : k ≤ 16777216) (hi : a + b ≤ 16777216) (w : World) : Calls Tryz.prog 28 #[.int .i64 (k : Int), .int .i64 ((a : Int) + (b : Int))] w fun e w' => e = .returned (.int .u8 ((mkB k (a + b)).toNat : Int)) ∧ w' = w := by
 rw [show ((a : Int) + (b : Int)) = ((a + b : Nat) : Int) by simp]
 exact markByte_any k (a + b) hk hi w
theorem markByte_sumL (a b i : Nat) (hk : a + b ≤ 16777216) (hi : i ≤ 16777216) (w : World) : Calls Tryz.prog 28 #[.int .i64 ((a : Int) + (b : Int)), .int .i64 (i : Int)] w fun e w' => e = .returned (.int .u8 ((mkB (a + b) i).toNat : Int)) ∧ w' = w := by
 rw [show ((a : Int) + (b : Int)) = ((a + b : Nat) : Int) by simp]
 exact markByte_any (a + b) i hk hi w
def nilSV : SV := ⟨.slice none 0 0, _, _, _, rfl⟩
theorem same_ptr {S : Sem Value} {W : World} {p q : Addr} (h1 : S.run Tryz.prog W = .ok (.pointer (some p)) W) (h2 : S.run Tryz.prog W = .ok (.pointer (some q)) W) : q = p := by
 have e := h1.symm.trans h2
 injection e with e
 injection e with e
 injection e with e
 exact e.symm
theorem marks_set (k i : Nat) (l : List UInt8) (hi : i < l.length) : (marks k i ++ l.drop i).set i (mkB k i) = marks k (i + 1) ++ l.drop (i + 1) := by
 rw [List.set_append_right _ _ (by rw [marks_length]; exact Nat.le_refl _), marks_length, Nat.sub_self, List.drop_eq_getElem_cons hi, List.set_cons_zero, marks_succ, List.append_assoc, List.singleton_append]
theorem marks_mid (k i : Nat) (l : List UInt8) (hi : i ≤ l.length) : (marks k i ++ l.drop i).length = l.length := by simp [marks_length]; omega
def wrote (f : Nat → List UInt8) (k i : Nat) : Nat → List UInt8 := fun j => if j = k then marks k i ++ (f k).drop i else if j < k then marks j (f j).length else f j
def wroteTo (f : Nat → List UInt8) (k : Nat) : Nat → List UInt8 := fun j => if j < k then marks j (f j).length else f j
theorem wrote_zero (f : Nat → List UInt8) (k : Nat) : wrote f k 0 = wroteTo f k := by
 funext j
 unfold wrote wroteTo
 by_cases hj : j = k
 ·subst hj; simp [marks]
 ·simp [hj]
theorem wroteTo_zero (f : Nat → List UInt8) : wroteTo f 0 = f := by funext j; simp [wroteTo]
theorem wroteTo_at (f : Nat → List UInt8) (n k : Nat) (h : k < n) : wroteTo f n k = marks k (f k).length := by simp [wroteTo, h]
theorem wroteTo_same (f : Nat → List UInt8) (n k : Nat) (h : k < n) : (fun j => if j = k then marks k (f k).length else wroteTo f n j) = wroteTo f n := by
 funext j
 by_cases hj : j = k
 ·subst hj; simp [wroteTo, h]
 ·simp [hj]
theorem marks_more (k n i : Nat) : marks k (n + i) ++ [mkB k (n + i)] = marks k (n + (i + 1)) := by rw [← Nat.add_assoc, marks_succ]
theorem wrote_all (f : Nat → List UInt8) (k : Nat) : wrote f k (f k).length = wroteTo f (k + 1) := by
 funext j
 unfold wrote wroteTo
 by_cases hj : j = k
 ·subst hj; simp
 ·by_cases h : j < k
  ·simp [hj, h, show j < k + 1 by omega]
  ·simp [hj, h, show ¬ j < k + 1 by omega]
theorem wrote_succ (f : Nat → List UInt8) (k i : Nat) (hi : i < (f k).length) : (fun j => if j = k then (wrote f k i k).set i (mkB k i) else wrote f k i j) = wrote f k (i + 1) := by
 funext j
 unfold wrote
 by_cases hj : j = k
 ·subst hj; simp [marks_set _ _ _ hi]
 ·simp [hj]
theorem wrote_len (f : Nat → List UInt8) (k i : Nat) (hi : i ≤ (f k).length) : (wrote f k i k).length = (f k).length := by unfold wrote; simp [marks_length]; omega
set_option maxRecDepth 100000 in
set_option maxHeartbeats 2000000 in
theorem flatBytes_any (v0 : Value) (vs : List SV) (f : Nat → List UInt8) (w : World) (he : BBAt w v0 vs) (hr : RoomsOf EB w vs f) (hd : Dist vs) (hsep : ∀ b, v0.ownBlock = some b → ¬ SS vs b) (hn : vs.length ≤ 4194304) (hf : ∀ j, (f j).length ≤ 8388608) :
  Calls Tryz.prog 69 #[v0] w fun e w' => e = .returned (.bool true) ∧ Only (SS vs) w w' ∧ ∃ f', RoomsOf EB w' vs f' ∧ ∀ j, (f' j).length = (f j).length := by
 have hlv := fun W => bb_len he W
 have HE := Lib.hid he
 have HR := Lib.hid hr
 have HD := Lib.hid hd
 have HSEP := Lib.hid hsep
 clear he hr hd hsep
 go_enter Tryz.func69, Tryz.ntmps69
 go_wp2_with fail
 go_loopw [3] (fun i wr => ∃ k : Nat, k ≤ vs.length ∧ i = .int .i64 k ∧ Only (SS vs) w wr ∧ RoomsOf EB wr vs (wroteTo f k)) (fun i _ => vs.length - (intOf i).toNat)
 case atStart => exact ⟨0, by omega, rfl, Only.refl _ _, by rw [wroteTo_zero]; exact HR.out⟩
 case round =>
  obtain ⟨w2, rfl⟩ : ∃ w2 : World, w2 = wr := ⟨_, rfl⟩
  obtain ⟨k, hk, rfl, hw, hrows⟩ := hrel
  have HW := Lib.hid hw
  have HRW := Lib.hid hrows
  clear hw hrows
  by_cases hlt : k < vs.length
  ·obtain ⟨v, hvk⟩ : ∃ v, vs[k]? = some v := ⟨_, List.getElem?_eq_getElem hlt⟩
   have HV := Lib.hid hvk
   have hfk := hf k
   clear hvk
   go_wp2_with fail
   go_loopw [4] (fun j wr => ∃ i : Nat, i ≤ (f k).length ∧ j = .int .i64 i ∧ Only (SS vs) w wr ∧ RoomsOf EB wr vs (wrote f k i)) (fun j _ => (f k).length - (intOf j).toNat)
   case atStart => exact ⟨0, by omega, rfl, HW.out, by rw [wrote_zero]; exact HRW.out⟩
   case round =>
    obtain ⟨w3, rfl⟩ : ∃ w3 : World, w3 = wr := ⟨_, rfl⟩
    obtain ⟨i, hi, rfl, hw, hrows⟩ := hrel
    have HW3 := Lib.hid hw
    have HR3 := Lib.hid hrows
    clear hw hrows
    obtain ⟨q, hadr, hld⟩ := bb_at (SliceOf.onlyS HE.out HW3.out HSEP.out) k v HV.out
    have HL := Lib.hid hld
    have hlr := fun W => RoomN.blen (HR3.out k v HV.out) W
    rw [wrote_len f k i hi] at hlr
    clear hld
    by_cases hlt2 : i < (f k).length
    ·obtain ⟨p, hadp, hst⟩ := RoomsOf.place HR3.out HD.out HV.out i (by rw [wrote_len f k i hi]; exact hlt2)
     have hadp2 : ∀ W, (Instr.indexAt 23 v.1 (.int .i64 (i : Int))).run Tryz.prog W = .ok (.pointer (some p)) W := hadp
     have HST := Lib.hid hst
     clear hst hadp
     go_wp2_with (first | (with_reducible refine wpList_loadL HL.out rfl _ rfl rfl ?_))
     refine Agg.wp_region_row 9 (fun w' => ∃ x : Later _, w' = x.w) (by kernel_rfl) (by kernel_rfl) ⟨⟨_, (Below.refl _ _).drew⟩, rfl⟩ ?_
     simp only [List.take_succ_cons, List.take_zero, List.drop_succ_cons, List.drop_zero]
     repeat (first | go_big_quiet_skip | ((first | (with_reducible refine wpQuiet_loadL HL.out rfl _ rfl rfl ?_)); simp only [Act.put, List.setIfInBounds_toArray, List.set_cons_succ, List.set_cons_zero]) | go_big_quiet_step ((go_at_call 28; exact Calls.later (markByte_blw k i (by omega) (by omega) _))))
     refine wpQuiet_nil ?_
     intro _ hw'
     obtain ⟨x1, rfl⟩ := hw'
     obtain ⟨w4, hsto, hrw, how⟩ := HST.out x1.w _ (mkB k i) (HR3.out.below x1.h) (by rw [wrote_len f k i hi]; exact hlt2)
     rw [wrote_succ f k i hlt2] at hrw
     have hw4 := (HW3.out.trans (Only.of_below (S := fun _ => False) x1.h) (fun _ _ h => h.elim)).trans how (fun _ _ h => h)
     have hrun : (Instr.storeAt 5 (.pointer (some p)) (.int .u8 ((mkB k i).toNat : Int))).run Tryz.prog x1.w = .ok () w4 := hsto
     with_reducible refine wpList_store rfl rfl 5 _ _ rfl (.pointer (some p)) (.int .u8 ((mkB k i).toNat : Int)) rfl rfl hrun ?_
     go_wp2_with fail
     go_roundw
     case rel => exact ⟨i + 1, by omega, by go_num, hw4, hrw⟩
     case measure => simp [intOf]; omega
    ·obtain rfl : i = (f k).length := by omega
     have hrw := HR3.out
     rw [wrote_all] at hrw
     go_wp2_with (first | (with_reducible refine wpList_loadL HL.out rfl _ rfl rfl ?_))
     go_roundw
     case rel => exact ⟨k + 1, by omega, by go_num, HW3.out, hrw⟩
     case measure => simp [intOf]; omega
  ·obtain rfl : k = vs.length := by omega
   clear hlt
   have hnc : vs.length ≤ 1099511627776 / 8 := by omega
   go_wp2_with (first | (with_reducible refine Agg.wpList_makeN EBB nilSV rfl rfl _ _ .i64 .i64 vs.length rfl rfl rfl hnc (by decide) ?_; intro w3 hg0 hx3 hsz3))
   have hgs0 : w.heap.size ≤ w2.heap.size := HW.out.size
   have HG0 := Lib.hid hg0
   have HW3 := Lib.hid (HW.out.trans (Only.of_below (S := fun _ => False) hx3) (fun _ _ h => h.elim))
   have HR3 := Lib.hid (HRW.out.below hx3)
   have HLT := Lib.hid HR.out.lt
   clear hg0 hx3 hsz3
   generalize hbg : w2.heap.size = bg at *
   clear HW HRW
   go_loopw [6] (fun i wr => ∃ k : Nat, k ≤ vs.length ∧ i = .int .i64 k ∧ ∃ gs, Only (SS vs) w wr ∧ RoomsOf EB wr vs (wroteTo f vs.length) ∧ RoomN EBB wr (.slice (some ⟨bg, 0, none⟩) vs.length vs.length) gs ∧ Got EB wr (bg + 1) vs gs k (fun j => marks j ((f j).length + 64))) (fun i _ => vs.length - (intOf i).toNat)
   case atStart => exact ⟨0, by omega, rfl, _, HW3.out, HR3.out, HG0.out, Got.zero (by simp)⟩
   case round =>
    obtain ⟨w4, rfl⟩ : ∃ w4 : World, w4 = wr := ⟨_, rfl⟩
    obtain ⟨k, hk, rfl, gs, hw, hrows, hgs, hgot⟩ := hrel
    have HW4 := Lib.hid hw
    have HR4 := Lib.hid hrows
    have HG4 := Lib.hid hgs
    have HT4 := Lib.hid hgot
    clear hw hrows hgs hgot
    by_cases hlt : k < vs.length
    ·obtain ⟨v, hvk⟩ : ∃ v, vs[k]? = some v := ⟨_, List.getElem?_eq_getElem hlt⟩
     have HV := Lib.hid hvk
     have hfk := hf k
     obtain ⟨q, hadr, hld⟩ := bb_at (SliceOf.onlyS HE.out HW4.out HSEP.out) k v hvk
     have HL := Lib.hid hld
     have hrv := HR4.out k v hvk
     rw [wroteTo_at f _ k hlt] at hrv
     have HRV := Lib.hid hrv
     clear hvk hld hrv
     go_wp2_with (first | (with_reducible refine wpList_loadL HL.out rfl _ rfl rfl ?_))
     go_loopw [7, 8] (fun g j wr => ∃ i : Nat, i ≤ 64 ∧ j = .int .i64 i ∧ Growing EB w4 wr v.1 (marks k (f k).length) g (marks k ((f k).length + i))) (fun _ j _ => 64 - (intOf j).toNat)
     case atStart => exact ⟨0, by omega, rfl, Growing.start HRV.out⟩
     case round =>
      obtain ⟨w5, rfl⟩ : ∃ w5 : World, w5 = wr := ⟨_, rfl⟩
      obtain ⟨i, hi, rfl, hgr⟩ := hrel
      have HGR := Lib.hid hgr
      clear hgr
      have HW5 := Lib.hid (HW4.out.trans (HGR.out.only.ss HV.out) (fun _ _ h => h))
      by_cases hlt2 : i < 64
      ·obtain ⟨q2, hadr2, hld2⟩ := bb_at (SliceOf.onlyS HE.out HW5.out HSEP.out) k v HV.out
       obtain rfl := same_ptr (hadr w5) (hadr2 w5)
       have HL2 := Lib.hid hld2
       have hlr := fun W => RoomN.blen HGR.out.old W
       rw [marks_length] at hlr
       clear hld2
       have hml := marks_length k ((f k).length + i)
       have hvlt : ∀ b, v.1.ownBlock = some b → b < w4.heap.size := fun b hb => Nat.lt_of_lt_of_le (HLT.out b ⟨k, v, HV.out, hb⟩) HW4.out.size
       go_wp2_with (first | (with_reducible refine wpList_loadL HL2.out rfl _ rfl rfl ?_))
       refine (markByte_sum k (f k).length i (by omega) (by omega) _).mono ?_
       rintro e w6 ⟨rfl, rfl⟩
       go_wp2_with (first | (refine Agg.wpList_grow (E := EB) rfl rfl 67 rfl _ rfl _ rfl (mkB k ((f k).length + i)) rfl (fun _ => rfl) (by simp) HGR.out (by omega) (by decide) hvlt ?_; intro u7 g7 w7 hg7))
       rw [marks_more] at hg7
       go_wp2_with fail
       go_roundw
       case rel => exact ⟨i + 1, by omega, by go_num, hg7⟩
       case measure => simp [intOf]; omega
      ·obtain rfl : i = 64 := by omega
       obtain ⟨gp, gn, gc, hgf⟩ := HGR.out.room.form
       have hgown : ∀ b, v.1.ownBlock = some b → ¬ b = bg := fun b hb e => by
        have := HLT.out b ⟨k, v, HV.out, hb⟩
        omega
       have hg5 : RoomN EBB w5 (.slice (some ⟨bg, 0, none⟩) vs.length vs.length) gs := HG4.out.only HGR.out.only (fun b hb hb' => hgown b hb' (by simpa [Value.ownBlock] using hb.symm))
       obtain ⟨p, hadp, hst⟩ := hg5.place k (by rw [HT4.out.len]; exact hlt)
       obtain ⟨w6, hsto, hg6, ho6⟩ := hst w5 gs ⟨_, gp, gn, gc, hgf⟩ hg5 (by rw [HT4.out.len]; exact hlt)
       have hadp2 : ∀ W, (Instr.indexAt 49 (.slice (some ⟨bg, 0, none⟩) vs.length vs.length) (.int .i64 (k : Int))).run Tryz.prog W = .ok (.pointer (some p)) W := hadp
       have hss : ∀ b, SS vs b → ¬ (Value.slice (some ⟨bg, 0, none⟩) vs.length vs.length).ownBlock = some b := fun b hb e => by
        have := HLT.out b hb
        obtain rfl : bg = b := by simpa [Value.ownBlock] using e
        omega
       have hr6 := ((HR4.out.set HD.out HV.out HGR.out.old HGR.out.only)).only ho6 hss
       rw [wroteTo_same f _ k hlt] at hr6
       have hw6 : Only (SS vs) w w6 := HW5.out.trans ho6 (fun b hb e => by
        obtain rfl : bg = b := by simpa [Value.ownBlock] using e
        omega)
       have hB : ∀ b, v.1.ownBlock = some b → b < bg + 1 := fun b hb => by
        have := HLT.out b ⟨k, v, HV.out, hb⟩
        omega
       have hbg4 : bg < w4.heap.size := HG4.out.lt bg rfl
       have hslice : SliceOf EB w5 u7 (marks k ((f k).length + 64)) := HGR.out.room.slice
       have ht6 := ((HT4.out.stage HD.out HV.out hB HGR.out.only).next (g := ⟨_, gp, gn, gc, hgf⟩) HV.out hslice (fun b hb => (HGR.out.own b hb).imp id (fun h => by omega))).other (S := fun b => (Value.slice (some ⟨bg, 0, none⟩) vs.length vs.length).ownBlock = some b) (fun b hb => ⟨by
        obtain rfl : bg = b := by simpa [Value.ownBlock] using hb
        omega, fun h => hss b h hb⟩) ho6
       have HALL := Lib.hid (And.intro hw6 (And.intro hr6 (And.intro hg6 ht6)))
       clear hr6 hg6 ht6 hst hadp
       have hrun : (Instr.storeAt 23 (.pointer (some p)) u7).run Tryz.prog w5 = .ok () w6 := hsto
       clear hsto ho6 hss hB hslice hgown
       go_wp2_with (first | (refine wpList_store rfl rfl 23 _ _ rfl (.pointer (some p)) u7 rfl rfl hrun ?_))
       go_roundw
       case rel => exact ⟨k + 1, by omega, by go_num, _, HALL.out.1, HALL.out.2.1, HALL.out.2.2.1, HALL.out.2.2.2⟩
       case measure => simp [intOf]; omega
    ·obtain rfl : k = vs.length := by omega
     clear hlt
     have HGB : Hid (BBAt w4 (.slice (some ⟨bg, 0, none⟩) vs.length vs.length) gs) := Lib.hid HG4.out.slice
     have HVB : Hid (BBAt w4 v0 vs) := Lib.hid (SliceOf.onlyS HE.out HW4.out HSEP.out)
     have HRB : Hid (∀ k v, vs[k]? = some v → BytesAt w4 v.1 (marks k (f k).length)) := Lib.hid (fun k v hv => by
      have h := (HR4.out k v hv).slice
      rwa [wroteTo_at f _ k (List.getElem?_eq_some_iff.1 hv).1] at h)
     go_wp2_with fail
     go_loopw [9] (fun i wr => ∃ k : Nat, k ≤ vs.length ∧ i = .int .i64 k ∧ Below w4.heap.size w4 wr) (fun i _ => vs.length - (intOf i).toNat)
     case atStart => exact ⟨0, by omega, rfl, Below.refl _ _⟩
     case round =>
      obtain ⟨w5, rfl⟩ : ∃ w5 : World, w5 = wr := ⟨_, rfl⟩
      obtain ⟨k, hk, rfl, hw5⟩ := hrel
      have HX5 := Lib.hid hw5
      clear hw5
      by_cases hlt : k < vs.length
      ·obtain ⟨v, hvk⟩ : ∃ v, vs[k]? = some v := ⟨_, List.getElem?_eq_getElem hlt⟩
       obtain ⟨g, hgk⟩ := Got.lenk HT4.out.len hlt
       have hfk := hf k
       have HV := Lib.hid hvk
       have HGK := Lib.hid hgk
       clear hvk hgk
       go_wp2_with fail
       go_loopw [10] (fun j wr => ∃ i : Nat, i ≤ (f k).length + 64 ∧ j = .int .i64 i ∧ Below w4.heap.size w4 wr) (fun j _ => (f k).length + 64 - (intOf j).toNat)
       case atStart => exact ⟨0, by omega, rfl, HX5.out⟩
       case round =>
        obtain ⟨w6, rfl⟩ : ∃ w6 : World, w6 = wr := ⟨_, rfl⟩
        obtain ⟨i, hi, rfl, hw6⟩ := hrel
        have HX6 := Lib.hid hw6
        clear hw6
        obtain ⟨qg, hadg, hldg⟩ := bb_at (SliceOf.below HGB.out HX6.out) k g HGK.out
        obtain ⟨qv, hadv, hldv⟩ := bb_at (SliceOf.below HVB.out HX6.out) k v HV.out
        have hgb : BytesAt w6 g.1 (marks k ((f k).length + 64)) := SliceOf.below (HT4.out.at_ k g v hlt HGK.out HV.out) HX6.out
        have hvb : BytesAt w6 v.1 (marks k (f k).length) := SliceOf.below (HRB.out k v HV.out) HX6.out
        have hlg := fun W => bytes_len hgb W
        have hlr := fun W => bytes_len hvb W
        rw [marks_length] at hlg hlr
        have HLG := Lib.hid hldg
        have HLV := Lib.hid hldv
        have HGBB := Lib.hid hgb
        have HVBB := Lib.hid hvb
        clear hldg hldv hgb hvb
        by_cases hlt2 : i < (f k).length + 64
        ·obtain ⟨pg, hadgi, hlgi⟩ := byte_at HGBB.out i (mkB k i) (marks_get _ _ _ hlt2)
         have HLGI := Lib.hid hlgi
         clear hlgi
         by_cases hlt3 : i < (f k).length
         ·obtain ⟨pv, hadvi, hlvi⟩ := byte_at HVBB.out i (mkB k i) (marks_get _ _ _ hlt3)
          have HLVI := Lib.hid hlvi
          clear hlvi
          have hd1 : decide ((i : Int) < ((f k).length : Int)) = true := by simp; omega
          go_wp2_with (first | (with_reducible refine wpList_loadL HLG.out rfl _ rfl rfl ?_))
          try simp only [Act.put, List.setIfInBounds_toArray, List.set_cons_succ, List.set_cons_zero]
          refine wp_region_later_lit (by kernel_rfl) (by kernel_rfl) ?_
          repeat (first | go_big_quiet_skip | ((first | (with_reducible refine wpQuiet_loadL HLG.out rfl _ rfl rfl ?_) | (with_reducible refine wpQuiet_loadL HLGI.out rfl _ rfl rfl ?_) | (with_reducible refine wpQuiet_loadL HLV.out rfl _ rfl rfl ?_) | (with_reducible refine wpQuiet_loadL HLVI.out rfl _ rfl rfl ?_)); simp only [Act.put, List.setIfInBounds_toArray, List.set_cons_succ, List.set_cons_zero]) | go_big_quiet_step ((go_at_call 28; exact Calls.later (markByte_blw k i (by omega) (by omega) _))))
          refine wpQuiet_nil ?_
          intro _ hw'
          obtain ⟨x1, rfl⟩ := hw'
          go_wp2_with fail
          go_roundw
          case rel => exact ⟨i + 1, by omega, by go_num, belowThen HX6.out (Nat.le_refl _) x1.h⟩
          case measure => simp [intOf]; omega
         ·have hd1 : decide ((i : Int) < ((f k).length : Int)) = false := by simp; omega
          go_wp2_with (first | (with_reducible refine wpList_loadL HLG.out rfl _ rfl rfl ?_))
          try simp only [Act.put, List.setIfInBounds_toArray, List.set_cons_succ, List.set_cons_zero]
          refine wp_region_later_lit (by kernel_rfl) (by kernel_rfl) ?_
          repeat (first | go_big_quiet_skip | ((first | (with_reducible refine wpQuiet_loadL HLG.out rfl _ rfl rfl ?_) | (with_reducible refine wpQuiet_loadL HLGI.out rfl _ rfl rfl ?_) | (with_reducible refine wpQuiet_loadL HLV.out rfl _ rfl rfl ?_)); simp only [Act.put, List.setIfInBounds_toArray, List.set_cons_succ, List.set_cons_zero]) | go_big_quiet_step ((go_at_call 28; exact Calls.later (markByte_blw k i (by omega) (by omega) _))))
          refine wpQuiet_nil ?_
          intro _ hw'
          obtain ⟨x1, rfl⟩ := hw'
          go_wp2_with fail
          go_roundw
          case rel => exact ⟨i + 1, by omega, by go_num, belowThen HX6.out (Nat.le_refl _) x1.h⟩
          case measure => simp [intOf]; omega
        ·obtain rfl : i = (f k).length + 64 := by omega
         go_wp2_with (first | (with_reducible refine wpList_loadL HLG.out rfl _ rfl rfl ?_))
         go_roundw
         case rel => exact ⟨k + 1, by omega, by go_num, HX6.out⟩
         case measure => simp [intOf]; omega
      ·obtain rfl : k = vs.length := by omega
       clear hlt
       have HW5 := Lib.hid (HW4.out.trans (Only.of_below (S := fun _ => False) HX5.out) (fun _ _ h => h.elim))
       have HR5 := Lib.hid (HR4.out.below HX5.out)
       have HG5 := Lib.hid (HG4.out.below HX5.out)
       clear HGB HVB HRB
       go_wp2_with fail
       go_loopw [11] (fun i wr => ∃ k : Nat, k ≤ vs.length ∧ i = .int .i64 k ∧ ∃ gs : List SV, Only (SS vs) w wr ∧ RoomsOf EB wr vs (wroteTo f vs.length) ∧ RoomN EBB wr (.slice (some ⟨bg, 0, none⟩) vs.length vs.length) gs ∧ Got EB wr (bg + 1) vs gs k (fun j => marks j (f j).length ++ marks (j + vs.length) 64)) (fun i _ => vs.length - (intOf i).toNat)
       case atStart => exact ⟨0, by omega, rfl, _, HW5.out, HR5.out, HG5.out, Got.zero HT4.out.len⟩
       case round =>
        obtain ⟨w6, rfl⟩ : ∃ w6 : World, w6 = wr := ⟨_, rfl⟩
        obtain ⟨k, hk, rfl, gs6, hw, hrows, hgs, hgot⟩ := hrel
        have HW6 := Lib.hid hw
        have HR6 := Lib.hid hrows
        have HG6 := Lib.hid hgs
        have HT6 := Lib.hid hgot
        clear hw hrows hgs hgot
        by_cases hlt : k < vs.length
        ·obtain ⟨v, hvk⟩ : ∃ v, vs[k]? = some v := ⟨_, List.getElem?_eq_getElem hlt⟩
         have hfk := hf k
         have HV := Lib.hid hvk
         clear hvk
         have h64 : (64 : Nat) ≤ 1099511627776 / 8 := by omega
         go_wp2_with (first | (with_reducible refine Agg.wpList_makeN EB (0 : UInt8) rfl rfl _ _ .i64 .i64 64 rfl rfl rfl h64 (by decide) ?_; intro w7 hm0 hx7 hsz7))
         have hbm : w6.heap.size = w6.heap.size := rfl
         have HM7 := Lib.hid hm0
         have HX7 := Lib.hid hx7
         clear hm0 hx7 hsz7
         obtain ⟨bm, hbmm⟩ : ∃ bm, bm = w6.heap.size := ⟨_, rfl⟩
         rw [← hbmm] at HM7
         rw [← hbmm]
         have hmo : (Value.slice (some ⟨bm, 0, none⟩) 64 64).ownBlock = some bm := rfl
         generalize Value.slice (some ⟨bm, 0, none⟩) 64 64 = mv at *
         go_loopw [13] (fun j wr => ∃ i : Nat, i ≤ 64 ∧ j = .int .i64 i ∧ Only (fun b => b = bm) w7 wr ∧ RoomN EB wr mv (marks (k + vs.length) i ++ (List.replicate 64 (0 : UInt8)).drop i)) (fun j _ => 64 - (intOf j).toNat)
         case atStart => exact ⟨0, by omega, rfl, Only.refl _ _, by simpa [marks] using HM7.out⟩
         case round =>
          obtain ⟨w8, rfl⟩ : ∃ w8 : World, w8 = wr := ⟨_, rfl⟩
          obtain ⟨i, hi, rfl, how, hrm⟩ := hrel
          have HW8 := Lib.hid how
          have HM8 := Lib.hid hrm
          clear how hrm
          have hml : (marks (k + vs.length) i ++ (List.replicate 64 (0 : UInt8)).drop i).length = 64 := by simp [marks_length]; omega
          by_cases hlt2 : i < 64
          ·obtain ⟨p, hadp, hst⟩ := HM8.out.place i (by rw [hml]; exact hlt2)
           obtain ⟨w9, hsto, hm9, ho9⟩ := hst w8 _ (mkB (k + vs.length) i) HM8.out (by rw [hml]; exact hlt2)
           rw [marks_set _ _ _ (by simpa using hlt2)] at hm9
           have hadp2 : ∀ W, (Instr.indexAt 23 mv (.int .i64 (i : Int))).run Tryz.prog W = .ok (.pointer (some p)) W := hadp
           have hrun : (Instr.storeAt 5 (.pointer (some p)) (.int .u8 ((mkB (k + vs.length) i).toNat : Int))).run Tryz.prog w8 = .ok () w9 := hsto
           have HALL := Lib.hid (And.intro (HW8.out.trans (ho9.mono (T := fun b => b = bm) (fun b _ e => by rw [hmo] at e; exact (Option.some.inj e).symm)) (fun _ _ h => h)) hm9)
           clear hst hadp hsto hm9 ho9
           go_wp2_with fail
           refine (markByte_sumL k vs.length i (by omega) (by omega) _).mono ?_
           rintro e w10 ⟨rfl, rfl⟩
           go_wp2_with (first | (refine wpList_store rfl rfl 5 _ _ rfl (.pointer (some p)) (.int .u8 ((mkB (k + vs.length) i).toNat : Int)) rfl rfl hrun ?_))
           go_roundw
           case rel => exact ⟨i + 1, by omega, by go_num, HALL.out.1, HALL.out.2⟩
           case measure => simp [intOf]; omega
          ·obtain rfl : i = 64 := by omega
           have h68 : Only (fun _ => False) w6 w8 := (Only.of_below (S := fun _ => False) HX7.out).trans HW8.out (fun b hb e => by omega)
           have hr8 := HR6.out.only h68 (fun _ _ h => h)
           have hgv8 := HG6.out.only h68 (fun _ _ h => h)
           have hw8 : Only (SS vs) w w8 := HW6.out.trans h68 (fun _ _ h => h.elim)
           have ht8 := HT6.out.other (S := fun _ => False) (fun _ h => h.elim) h68
           have hrv := hr8 k v HV.out
           rw [wroteTo_at f _ k hlt] at hrv
           have hms : SliceOf EB w8 mv (marks (k + vs.length) 64) := by simpa using HM8.out.slice
           have h63 : (marks k (f k).length).length + (marks (k + vs.length) 64).length ≤ 1099511627776 / 8 := by rw [marks_length, marks_length]; omega
           have hvlt : ∀ b, v.1.ownBlock = some b → b < w8.heap.size := fun b hb => Nat.lt_of_lt_of_le (HLT.out b ⟨k, v, HV.out, hb⟩) hw8.size
           obtain ⟨q, hadr, hld⟩ := bb_at (SliceOf.onlyS HE.out hw8 HSEP.out) k v HV.out
           have HL := Lib.hid hld
           have HR8 := Lib.hid hr8
           have HGV8 := Lib.hid hgv8
           have HT8 := Lib.hid ht8
           have HRV := Lib.hid hrv
           have HMS := Lib.hid hms
           have HW8' := Lib.hid hw8
           clear hld hr8 hgv8 ht8 hrv hms hw8 h68 hml HX7 HM7 hmo hbmm hbm HT6 HG6 HR6 HW8 HM8
           go_wp2_with (first | (with_reducible refine wpList_loadL HL.out rfl _ rfl rfl ?_) | (at_builtin; refine Agg.walk_stop ?_))
           refine ⟨?_, trivial⟩
           refine Agg.wpList_growS (E := EB) rfl _ _ rfl rfl rfl (Growing.start HRV.out) HMS.out h63 (by decide) hvlt ?_
           intro g9 w9 hg9
           simp only [Act.put, List.setIfInBounds_toArray, List.set_cons_succ, List.set_cons_zero]
           have HGR := Lib.hid hg9
           clear hg9
           have HW9 := Lib.hid (HW8'.out.trans (HGR.out.only.ss HV.out) (fun _ _ h => h))
           obtain ⟨gp, gn, gc, hgf⟩ := HGR.out.room.form
           have hgown : ∀ b, v.1.ownBlock = some b → ¬ b = bg := fun b hb e => by
            have := HLT.out b ⟨k, v, HV.out, hb⟩
            omega
           have hgl : k < gs6.length := by rw [HT8.out.len]; exact hlt
           have hg5 : RoomN EBB w9 (.slice (some ⟨bg, 0, none⟩) vs.length vs.length) gs6 := HGV8.out.only HGR.out.only (fun b hb hb' => hgown b hb' (by simpa [Value.ownBlock] using hb.symm))
           obtain ⟨p, hadp, hst⟩ := hg5.place k hgl
           obtain ⟨w10, hsto, hg6, ho6⟩ := hst w9 gs6 ⟨_, gp, gn, gc, hgf⟩ hg5 hgl
           have hadp2 : ∀ W, (Instr.indexAt 49 (.slice (some ⟨bg, 0, none⟩) vs.length vs.length) (.int .i64 (k : Int))).run Tryz.prog W = .ok (.pointer (some p)) W := hadp
           have hss : ∀ b, SS vs b → ¬ (Value.slice (some ⟨bg, 0, none⟩) vs.length vs.length).ownBlock = some b := fun b hb e => by
            have := HLT.out b hb
            obtain rfl : bg = b := by simpa [Value.ownBlock] using e
            omega
           have hr6 := ((HR8.out.set HD.out HV.out HGR.out.old HGR.out.only)).only ho6 hss
           rw [wroteTo_same f _ k hlt] at hr6
           have hw10 : Only (SS vs) w w10 := HW9.out.trans ho6 (fun b hb e => by
            obtain rfl : bg = b := by simpa [Value.ownBlock] using e
            omega)
           have hB : ∀ b, v.1.ownBlock = some b → b < bg + 1 := fun b hb => by
            have := HLT.out b ⟨k, v, HV.out, hb⟩
            omega
           have hbg8 : bg < w8.heap.size := HGV8.out.lt bg rfl
           have hslice : SliceOf EB w9 g9 (marks k (f k).length ++ marks (k + vs.length) 64) := HGR.out.room.slice
           have ht6 := ((HT8.out.stage HD.out HV.out hB HGR.out.only).next (g := ⟨_, gp, gn, gc, hgf⟩) HV.out hslice (fun b hb => (HGR.out.own b hb).imp id (fun h => by omega))).other (S := fun b => (Value.slice (some ⟨bg, 0, none⟩) vs.length vs.length).ownBlock = some b) (fun b hb => ⟨by
            obtain rfl : bg = b := by simpa [Value.ownBlock] using hb
            omega, fun h => hss b h hb⟩) ho6
           have HALL := Lib.hid (And.intro hw10 (And.intro hr6 (And.intro hg6 ht6)))
           clear hr6 hg6 ht6 hst hadp
           have hrun : (Instr.storeAt 23 (.pointer (some p)) g9).run Tryz.prog w9 = .ok () w10 := hsto
           clear hsto ho6 hss hB hslice hgown hg5
           go_wp2_with (first | (refine wpList_store rfl rfl 23 _ _ rfl (.pointer (some p)) g9 rfl rfl hrun ?_))
           go_roundw
           case rel => exact ⟨k + 1, by omega, by go_num, _, HALL.out.1, HALL.out.2.1, HALL.out.2.2.1, HALL.out.2.2.2⟩
           case measure => simp [intOf]; omega
        ·obtain rfl : k = vs.length := by omega
         clear hlt
         have HGB : Hid (BBAt w6 (.slice (some ⟨bg, 0, none⟩) vs.length vs.length) gs6) := Lib.hid HG6.out.slice
         have HVB : Hid (BBAt w6 v0 vs) := Lib.hid (SliceOf.onlyS HE.out HW6.out HSEP.out)
         have HRB : Hid (∀ k v, vs[k]? = some v → BytesAt w6 v.1 (marks k (f k).length)) := Lib.hid (fun k v hv => by
          have h := (HR6.out k v hv).slice
          rwa [wroteTo_at f _ k (List.getElem?_eq_some_iff.1 hv).1] at h)
         go_wp2_with fail
         go_loopw [14] (fun i wr => ∃ k : Nat, k ≤ vs.length ∧ i = .int .i64 k ∧ Below w6.heap.size w6 wr) (fun i _ => vs.length - (intOf i).toNat)
         case atStart => exact ⟨0, by omega, rfl, Below.refl _ _⟩
         case round =>
          obtain ⟨w7, rfl⟩ : ∃ w7 : World, w7 = wr := ⟨_, rfl⟩
          obtain ⟨k, hk, rfl, hw7⟩ := hrel
          have HX7 := Lib.hid hw7
          clear hw7
          by_cases hlt : k < vs.length
          ·obtain ⟨v, hvk⟩ : ∃ v, vs[k]? = some v := ⟨_, List.getElem?_eq_getElem hlt⟩
           obtain ⟨g, hgk⟩ := Got.lenk HT6.out.len hlt
           have hfk := hf k
           have HV := Lib.hid hvk
           have HGK := Lib.hid hgk
           clear hvk hgk
           go_wp2_with fail
           go_loopw [15] (fun j wr => ∃ i : Nat, i ≤ (f k).length ∧ j = .int .i64 i ∧ Below w6.heap.size w6 wr) (fun j _ => (f k).length - (intOf j).toNat)
           case atStart => exact ⟨0, by omega, rfl, HX7.out⟩
           case round =>
            obtain ⟨w8, rfl⟩ : ∃ w8 : World, w8 = wr := ⟨_, rfl⟩
            obtain ⟨i, hi, rfl, hw8⟩ := hrel
            have HX8 := Lib.hid hw8
            clear hw8
            obtain ⟨qg, hadg, hldg⟩ := bb_at (SliceOf.below HGB.out HX8.out) k g HGK.out
            obtain ⟨qv, hadv, hldv⟩ := bb_at (SliceOf.below HVB.out HX8.out) k v HV.out
            have hgb : BytesAt w8 g.1 (marks k (f k).length ++ marks (k + vs.length) 64) := SliceOf.below (HT6.out.at_ k g v hlt HGK.out HV.out) HX8.out
            have hvb : BytesAt w8 v.1 (marks k (f k).length) := SliceOf.below (HRB.out k v HV.out) HX8.out
            have hlr := fun W => bytes_len hvb W
            rw [marks_length] at hlr
            have HLG := Lib.hid hldg
            have HLV := Lib.hid hldv
            have HGBB := Lib.hid hgb
            have HVBB := Lib.hid hvb
            clear hldg hldv hgb hvb
            by_cases hlt2 : i < (f k).length
            ·obtain ⟨pg, hadgi, hlgi⟩ := byte_at HGBB.out i (mkB k i) (by rw [List.getElem?_append_left (by rw [marks_length]; exact hlt2)]; exact marks_get _ _ _ hlt2)
             have HLGI := Lib.hid hlgi
             obtain ⟨pv, hadvi, hlvi⟩ := byte_at HVBB.out i (mkB k i) (marks_get _ _ _ hlt2)
             have HLVI := Lib.hid hlvi
             clear hlvi hlgi
             go_wp2_with (first | (with_reducible refine wpList_loadL HLV.out rfl _ rfl rfl ?_))
             try simp only [Act.put, List.setIfInBounds_toArray, List.set_cons_succ, List.set_cons_zero]
             refine wp_region_later_lit (by kernel_rfl) (by kernel_rfl) ?_
             repeat (first | go_big_quiet_skip | ((first | (with_reducible refine wpQuiet_loadL HLV.out rfl _ rfl rfl ?_) | (with_reducible refine wpQuiet_loadL HLVI.out rfl _ rfl rfl ?_) | (with_reducible refine wpQuiet_loadL HLG.out rfl _ rfl rfl ?_) | (with_reducible refine wpQuiet_loadL HLGI.out rfl _ rfl rfl ?_)); simp only [Act.put, List.setIfInBounds_toArray, List.set_cons_succ, List.set_cons_zero]) | go_big_quiet_step ((go_at_call 28; exact Calls.later (markByte_blw k i (by omega) (by omega) _))))
             refine wpQuiet_nil ?_
             intro _ hw'
             obtain ⟨x1, rfl⟩ := hw'
             go_wp2_with fail
             go_roundw
             case rel => exact ⟨i + 1, by omega, by go_num, belowThen HX8.out (Nat.le_refl _) x1.h⟩
             case measure => simp [intOf]; omega
            ·obtain rfl : i = (f k).length := by omega
             go_wp2_with (first | (with_reducible refine wpList_loadL HLV.out rfl _ rfl rfl ?_))
             go_roundw
             case rel => exact ⟨k + 1, by omega, by go_num, HX8.out⟩
             case measure => simp [intOf]; omega
          ·obtain rfl : k = vs.length := by omega
           clear hlt
           have HFIN := Lib.hid (And.intro (HW6.out.trans (Only.of_below (S := fun _ => False) HX7.out) (fun _ _ h => h.elim)) (HR6.out.below HX7.out))
           go_wp2_with fail
           go_ret
           exact ⟨rfl, HFIN.out.1, _, HFIN.out.2, fun j => by unfold wroteTo; split <;> simp [marks_length]⟩
end Go.Proofs.YtfiadgdinhmgbaaGreatDoor
/-! spencekit.KeptBytes. -/
namespace Go.Proofs.YtfiadgdinhmgbaaGreatDoor
open Go.RowKit Pl Go.Agg
theorem markByte_off (k n : Nat) (hk : n ≤ k) (hi : k ≤ 16777216) (w : World) : Calls Tryz.prog 28 #[.int .i64 1, .int .i64 ((k : Int) - (n : Int))] w fun e w' => e = .returned (.int .u8 ((mkB 1 (k - n)).toNat : Int)) ∧ Below w.heap.size w w' := by
 rw [show ((k : Int) - (n : Int)) = ((k - n : Nat) : Int) by omega]
 exact markByte_blw 1 (k - n) (by omega) (by omega) w
set_option maxRecDepth 100000 in
set_option maxHeartbeats 1000000 in
theorem keptBytes_any (u v : Value) (b : List UInt8) (hb : b.length ≤ 1048576) (base : Nat) (w : World) (hu : Lent EB (marks 1 12) base w u b) (hv : BytesAt w v b) :
  Calls Tryz.prog 19 #[u, v] w fun e w' => e = .returned (.bool true) ∧ Below w.heap.size w w' := by
 have hlv := fun W => bytes_len hv W
 have HV := Lib.hid hv
 obtain ⟨g, cap, rfl, _, hcap, ha⟩ := hu
 rw [marks_length] at hcap ha
 have HA := Lib.hid ha
 clear hv ha
 have hne : ((b.length : Int) != (b.length : Int)) = false := by simp
 go_enter Tryz.func19, Tryz.ntmps19
 go_wp2_with fail
 go_loopw [6] (fun i wr => ∃ k : Nat, k ≤ b.length + 12 ∧ i = .int .i64 k ∧ Below w.heap.size w wr) (fun i _ => b.length + 12 - (intOf i).toNat)
 case atStart => exact ⟨0, by omega, rfl, Below.refl _ _⟩
 case round =>
  obtain ⟨w1, rfl⟩ : ∃ w1 : World, w1 = wr := ⟨_, rfl⟩
  obtain ⟨k, hk, rfl, hw⟩ := hrel
  have HW := Lib.hid hw
  clear hw
  by_cases hlt : k < b.length + 12
  ·by_cases hlt2 : k < b.length
   ·obtain ⟨y, hyk⟩ : ∃ y, b[k]? = some y := ⟨_, List.getElem?_eq_getElem hlt2⟩
    obtain ⟨pa, hadp, hlda⟩ := byte_at (SliceOf.below HA.out HW.out) k y (by rw [List.getElem?_append_left hlt2]; exact hyk)
    obtain ⟨pv, hadv, hldv⟩ := byte_at (SliceOf.below HV.out HW.out) k y hyk
    have HLA := Lib.hid hlda
    have HLV := Lib.hid hldv
    have hd1 : decide ((k : Int) < (b.length : Int)) = true := by simp; omega
    have hd3 : decide (b.length ≤ k) = false := by simp; omega
    clear hyk hlda hldv
    go_wp2_with fail
    try simp only [Act.put, List.setIfInBounds_toArray, List.set_cons_succ, List.set_cons_zero]
    refine wp_region_later_lit (by kernel_rfl) (by kernel_rfl) ?_
    repeat (first | go_big_quiet_skip | ((first | (with_reducible refine wpQuiet_loadL HLA.out rfl _ rfl rfl ?_) | (with_reducible refine wpQuiet_loadL HLV.out rfl _ rfl rfl ?_)); simp only [Act.put, List.setIfInBounds_toArray, List.set_cons_succ, List.set_cons_zero]) | go_big_quiet_step (fail))
    refine wpQuiet_nil ?_
    intro _ hw'
    obtain ⟨x1, rfl⟩ := hw'
    go_wp2_with fail
    go_roundw
    case rel => exact ⟨k + 1, by omega, by go_num, belowThen HW.out (Nat.le_refl _) x1.h⟩
    case measure => simp [intOf]; omega
   ·obtain ⟨pa, hadp, hlda⟩ := byte_at (SliceOf.below HA.out HW.out) k (mkB 1 (k - b.length)) (by rw [List.getElem?_append_right (by omega)]; exact marks_get _ _ _ (by omega))
    have HLA := Lib.hid hlda
    have hd1 : decide ((k : Int) < (b.length : Int)) = false := by simp; omega
    have hd3 : decide (b.length ≤ k) = true := by simp; omega
    clear hlda
    go_wp2_with fail
    try simp only [Act.put, List.setIfInBounds_toArray, List.set_cons_succ, List.set_cons_zero]
    refine wp_region_later_lit (by kernel_rfl) (by kernel_rfl) ?_
    repeat (first | go_big_quiet_skip | ((first | (with_reducible refine wpQuiet_loadL HLA.out rfl _ rfl rfl ?_)); simp only [Act.put, List.setIfInBounds_toArray, List.set_cons_succ, List.set_cons_zero]) | go_big_quiet_step ((go_at_call 28; exact Calls.later (markByte_off k b.length (by omega) (by omega) _))))
    refine wpQuiet_nil ?_
    intro _ hw'
    obtain ⟨x1, rfl⟩ := hw'
    go_wp2_with fail
    go_roundw
    case rel => exact ⟨k + 1, by omega, by go_num, belowThen HW.out (Nat.le_refl _) x1.h⟩
    case measure => simp [intOf]; omega
  ·obtain rfl : k = b.length + 12 := by omega
   go_wp2_with fail
   go_ret
   exact ⟨rfl, HW.out⟩
end Go.Proofs.YtfiadgdinhmgbaaGreatDoor
