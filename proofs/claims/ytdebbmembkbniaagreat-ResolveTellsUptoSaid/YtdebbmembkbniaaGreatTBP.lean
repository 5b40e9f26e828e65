/- spencekit.SamePaths. (Several texts in one.) -/
import Derived.Test.YtdebbmembkbniaaGreatTBO
import Derived.Test.YtdebbmembkbniaaGreatTAB
import Derived.Test.YtdebbmembkbniaaGreatTAA
import Derived.Test.YtdebbmembkbniaaGreatTBN
import Derived.Test.YtdebbmembkbniaaGreatTAD
/-! Rows of paths: slices of slices of paths; markPath. -/
namespace Go.Proofs.YtdebbmembkbniaaGreat
open Go.RowKit Pl Go.Agg
def EPP : Elem Tryz.prog SV where
 ty := 55
 st := 60
 n := 1
 bytes := 24
 val := fun v => v.1
 zero := .slice none 0 0
 pos := by omega
 small := by omega
 size := fun v => by rw [sv_cells]; rfl
 one := fun v u hu => by
  rw [sv_cells] at hu
  obtain rfl : u = v.1 := by simpa using hu
  exact sv_one v
 zsize := rfl
 slice := by kernel_rfl
 info := info_of (by kernel_rfl) (by kernel_rfl) (by kernel_rfl)
 load := fun w a v hp h => LoadsL.of_cell (by have := h 0 v.1 (by rw [sv_cells]; rfl); rwa [show a.add 0 = a from rfl] at this) (by kernel_rfl : Tryz.prog.underlying 55 = some (.slice 48)) rfl
theorem xxlen_P {w : World} {v : Value} {l : List SV} (h : SliceOf EPP w v l) (W : World) : (Builtin.len_ #[60] 3 #[v]).run Tryz.prog W = .ok (.int .i64 (l.length : Int)) W := h.len W
theorem xlen_P {w : World} {v : Value} {l : List P20} (h : SliceOf E20 w v l) (W : World) : (Builtin.len_ #[55] 3 #[v]).run Tryz.prog W = .ok (.int .i64 (l.length : Int)) W := h.len W
theorem rlen_P {w : World} {v : Value} {l : List P20} (h : RoomN E20 w v l) (W : World) : (Builtin.len_ #[55] 3 #[v]).run Tryz.prog W = .ok (.int .i64 (l.length : Int)) W := h.slice.len W
theorem xxat_P {w : World} {v : Value} {l : List SV} (h : SliceOf EPP w v l) (k : Nat) (x : SV) (hx : l[k]? = some x) :
  ∃ p : Addr, (∀ W, (Instr.indexAt 60 v (.int .i64 (k : Int))).run Tryz.prog W = .ok (.pointer (some p)) W) ∧ LoadsL Tryz.prog w 55 (some p) x.1 := by
 obtain ⟨p, h1, _, _, h4⟩ := h.at_ k x hx
 exact ⟨p, h1, h4⟩
theorem xat_P {w : World} {v : Value} {l : List P20} (h : SliceOf E20 w v l) (k : Nat) (x : P20) (hx : l[k]? = some x) :
  ∃ p : Addr, (∀ W, (Instr.indexAt 55 v (.int .i64 (k : Int))).run Tryz.prog W = .ok (.pointer (some p)) W) ∧ LoadsL Tryz.prog w 48 (some p) (E20.val x) := by
 obtain ⟨p, h1, _, _, h4⟩ := h.at_ k x hx
 exact ⟨p, h1, h4⟩
def mkP (k i : Nat) : P20 := ⟨(z20, mkT k i), rfl⟩
theorem build_path1 (s : List UInt8) (w : World) : (Instr.build 48 #[(1, .string ⟨s.toArray⟩)]).run Tryz.prog w = .ok (.agg (pC z20 s)) w := by kernel_rfl
set_option maxRecDepth 100000 in
set_option maxHeartbeats 1000000 in
theorem markPath_any (k i : Nat) (_hk : k ≤ 16777216) (_hi : i ≤ 16777216) (w : World) : Calls Tryz.prog 132 #[.int .i64 (k : Int), .int .i64 (i : Int)] w fun e w' => e = .returned (.agg (pC z20 (mkT k i))) ∧ Below w.heap.size w w' := by
 obtain ⟨s, hs⟩ : ∃ s, mkT k i = s := ⟨_, rfl⟩
 have hm := fun w => markText_any k i w
 rw [hs] at hm
 rw [hs]
 have HM := Lib.hid hm
 clear hs hm
 go_enter Tryz.func132, Tryz.ntmps132
 go_wp2_with (first | (with_reducible refine Agg.wpList_zero rfl 48 rfl (pC z20 []) pC_zero ?_; intro g w1 hb1 hx1 hg1))
 refine (HM.out w1).mono ?_
 rintro e w2 ⟨rfl, hw2⟩
 have hb2 := hb1.below hw2
 have hx2 := belowThen hx1 (Nat.le_refl _) hw2
 clear hb1
 go_wp2_with (first | (with_reducible refine wpList_build1 48 1 _ rfl rfl (.string ⟨s.toArray⟩) rfl (.agg (pC z20 s)) (build_path1 s) ?_) | (with_reducible refine Agg.wpList_put rfl rfl 48 _ _ rfl g (pC z20 s) (pC z20 []) rfl rfl hb2 (pC_info _ _ rfl) (by rw [pC_size, pC_size]) (pC_one _ _) ?_; intro w3 hb3 hx3 _ _))
 exact Agg.post_row rfl rfl hb3 pC_under rfl (pC_info _ _ rfl) rfl ⟨rfl, hx2.trans (hx3.mono hg1)⟩
theorem markSum_P (k a b : Nat) (hk : k ≤ 16777216) (hi : a + b ≤ 16777216) (w : World) : Calls Tryz.prog 132 #[.int .i64 (k : Int), .int .i64 ((a : Int) + (b : Int))] w fun e w' => e = .returned (.agg (pC z20 (mkT k (a + b)))) ∧ Below w.heap.size w w' := by
 rw [show ((a : Int) + (b : Int)) = ((a + b : Nat) : Int) by simp]
 exact markPath_any k (a + b) hk hi w
theorem markSumL_P (a b i : Nat) (hk : a + b ≤ 16777216) (hi : i ≤ 16777216) (w : World) : Calls Tryz.prog 132 #[.int .i64 ((a : Int) + (b : Int)), .int .i64 (i : Int)] w fun e w' => e = .returned (.agg (pC z20 (mkT (a + b) i))) ∧ Below w.heap.size w w' := by
 rw [show ((a : Int) + (b : Int)) = ((a + b : Nat) : Int) by simp]
 exact markPath_any (a + b) i hk hi w
theorem eqM_P (k i : Nat) (W : World) : (binOp .eql 48 (.agg (pC z20 (mkT k i))) (.agg (pC z20 (mkT k i)))).run Tryz.prog W = .ok (.bool true) W := by
 have h := eql_path z20 (mkT k i) z20 (mkT k i) rfl rfl W
 rw [h]
 simp
end Go.Proofs.YtdebbmembkbniaaGreat
/-! spencekit.flatPaths. -/
namespace Go.Proofs.YtdebbmembkbniaaGreat
open Go.RowKit Pl Go.Agg
set_option maxRecDepth 100000 in
set_option maxHeartbeats 4000000 in
theorem flatPaths_any (v0 : Value) (vs : List SV) (f : Nat → List P20) (w : World) (he : SliceOf EPP w v0 vs) (hr : RoomsOf E20 w vs f) (hd : Dist vs) (hsep : ∀ b, v0.ownBlock = some b → ¬ SS vs b) (hn : vs.length ≤ 4194304) (hf : ∀ j, (f j).length ≤ 8388608) :
  Calls Tryz.prog 98 #[v0] w fun e w' => e = .returned (.bool true) ∧ Only (SS vs) w w' ∧ ∃ f', RoomsOf E20 w' vs f' ∧ ∀ j, (f' j).length = (f j).length := by
 have hlv := fun W => xxlen_P he W
 have HE := Lib.hid he
 have HR := Lib.hid hr
 have HD := Lib.hid hd
 have HSEP := Lib.hid hsep
 clear he hr hd hsep
 go_enter Tryz.func98, Tryz.ntmps98
 go_wp2_with fail
 go_loopw [3] (fun i wr => ∃ k : Nat, k ≤ vs.length ∧ i = .int .i64 k ∧ Only (SS vs) w wr ∧ RoomsOf E20 wr vs (wroteToG mkP f k)) (fun i _ => vs.length - (intOf i).toNat)
 case atStart => exact ⟨0, by omega, rfl, Only.refl _ _, by rw [wroteToG_zero]; exact HR.out⟩
 case round =>
  obtain ⟨w2, rfl⟩ : ∃ w2 : World, w2 = wr := ⟨_, rfl⟩
  obtain ⟨k, hk, rfl, hw, hrows⟩ := hrel
  have HW := Lib.hid hw
  have HRW := Lib.hid hrows
  clear hw hrows
  by_cases hlt : k < vs.length
  ·obtain ⟨v, hvk⟩ : ∃ v, vs[k]? = some v := ⟨_, List.getElem?_eq_getElem hlt⟩
   have HV := Lib.hid hvk
   have hfk := hf k
   clear hvk
   go_wp2_with fail
   go_loopw [4] (fun j wr => ∃ i : Nat, i ≤ (f k).length ∧ j = .int .i64 i ∧ Only (SS vs) w wr ∧ RoomsOf E20 wr vs (wroteG mkP f k i)) (fun j _ => (f k).length - (intOf j).toNat)
   case atStart => exact ⟨0, by omega, rfl, HW.out, by rw [wroteG_zero]; exact HRW.out⟩
   case round =>
    obtain ⟨w3, rfl⟩ : ∃ w3 : World, w3 = wr := ⟨_, rfl⟩
    obtain ⟨i, hi, rfl, hw, hrows⟩ := hrel
    have HW3 := Lib.hid hw
    have HR3 := Lib.hid hrows
    clear hw hrows
    obtain ⟨q, hadr, hld⟩ := xxat_P (SliceOf.onlyS HE.out HW3.out HSEP.out) k v HV.out
    have HL := Lib.hid hld
    have hlr := fun W => rlen_P (HR3.out k v HV.out) W
    rw [wroteG_len _ f k i hi] at hlr
    clear hld
    by_cases hlt2 : i < (f k).length
    ·obtain ⟨p, hadp, hst⟩ := RoomsOf.place HR3.out HD.out HV.out i (by rw [wroteG_len _ f k i hi]; exact hlt2)
     have hadp2 : ∀ W, (Instr.indexAt 55 v.1 (.int .i64 (i : Int))).run Tryz.prog W = .ok (.pointer (some p)) W := hadp
     have HST := Lib.hid hst
     clear hst hadp
     go_wp2_with (first | (with_reducible refine wpList_loadL HL.out rfl _ rfl rfl ?_))
     refine Agg.wp_region_row 9 (fun w' => ∃ x : Later _, w' = x.w) (by kernel_rfl) (by kernel_rfl) ⟨⟨_, (Below.refl _ _).drew⟩, rfl⟩ ?_
     simp only [List.take_succ_cons, List.take_zero, List.drop_succ_cons, List.drop_zero]
     repeat (first | go_big_quiet_skip | ((first | (with_reducible refine wpQuiet_loadL HL.out rfl _ rfl rfl ?_)); simp only [Act.put, List.setIfInBounds_toArray, List.set_cons_succ, List.set_cons_zero]) | go_big_quiet_step ((go_at_call 132; exact Calls.later (markPath_any k i (by omega) (by omega) _))))
     refine wpQuiet_nil ?_
     intro _ hw'
     obtain ⟨x1, rfl⟩ := hw'
     obtain ⟨w4, hsto, hrw, how⟩ := HST.out x1.w _ (mkP k i) (HR3.out.below x1.h) (by rw [wroteG_len _ f k i hi]; exact hlt2)
     rw [wroteG_succ _ f k i hlt2] at hrw
     have hw4 := (HW3.out.trans (Only.of_below (S := fun _ => False) x1.h) (fun _ _ h => h.elim)).trans how (fun _ _ h => h)
     have hrun : (Instr.storeAt 48 (.pointer (some p)) (.agg (pC z20 (mkT (k) (i))))).run Tryz.prog x1.w = .ok () w4 := hsto
     with_reducible refine wpList_store rfl rfl 48 _ _ rfl (.pointer (some p)) (.agg (pC z20 (mkT (k) (i)))) rfl rfl hrun ?_
     go_wp2_with fail
     go_roundw
     case rel => exact ⟨i + 1, by omega, by go_num, hw4, hrw⟩
     case measure => simp [intOf]; omega
    ·obtain rfl : i = (f k).length := by omega
     have hrw := HR3.out
     rw [wroteG_all] at hrw
     go_wp2_with (first | (with_reducible refine wpList_loadL HL.out rfl _ rfl rfl ?_))
     go_roundw
     case rel => exact ⟨k + 1, by omega, by go_num, HW3.out, hrw⟩
     case measure => simp [intOf]; omega
  ·obtain rfl : k = vs.length := by omega
   clear hlt
   have hnc : vs.length ≤ 1099511627776 / 8 := by omega
   go_wp2_with (first | (with_reducible refine Agg.wpList_makeN EPP nilSV rfl rfl _ _ .i64 .i64 vs.length rfl rfl rfl hnc (by decide) ?_; intro w3 hg0 hx3 hsz3))
   have hgs0 : w.heap.size ≤ w2.heap.size := HW.out.size
   have HG0 := Lib.hid hg0
   have HW3 := Lib.hid (HW.out.trans (Only.of_below (S := fun _ => False) hx3) (fun _ _ h => h.elim))
   have HR3 := Lib.hid (HRW.out.below hx3)
   have HLT := Lib.hid HR.out.lt
   clear hg0 hx3 hsz3
   generalize hbg : w2.heap.size = bg at *
   clear HW HRW
   go_loopw [6] (fun i wr => ∃ k : Nat, k ≤ vs.length ∧ i = .int .i64 k ∧ ∃ gs, Only (SS vs) w wr ∧ RoomsOf E20 wr vs (wroteToG mkP f vs.length) ∧ RoomN EPP wr (.slice (some ⟨bg, 0, none⟩) vs.length vs.length) gs ∧ Got E20 wr (bg + 1) vs gs k (fun j => marksG mkP j ((f j).length + 64))) (fun i _ => vs.length - (intOf i).toNat)
   case atStart => exact ⟨0, by omega, rfl, _, HW3.out, HR3.out, HG0.out, Got.zero (by simp)⟩
   case round =>
    obtain ⟨w4, rfl⟩ : ∃ w4 : World, w4 = wr := ⟨_, rfl⟩
    obtain ⟨k, hk, rfl, gs, hw, hrows, hgs, hgot⟩ := hrel
    have HW4 := Lib.hid hw
    have HR4 := Lib.hid hrows
    have HG4 := Lib.hid hgs
    have HT4 := Lib.hid hgot
    clear hw hrows hgs hgot
    by_cases hlt : k < vs.length
    ·obtain ⟨v, hvk⟩ : ∃ v, vs[k]? = some v := ⟨_, List.getElem?_eq_getElem hlt⟩
     have HV := Lib.hid hvk
     have hfk := hf k
     obtain ⟨q, hadr, hld⟩ := xxat_P (SliceOf.onlyS HE.out HW4.out HSEP.out) k v hvk
     have HL := Lib.hid hld
     have hrv := HR4.out k v hvk
     rw [wroteToG_at _ f _ k hlt] at hrv
     have HRV := Lib.hid hrv
     clear hvk hld hrv
     go_wp2_with (first | (with_reducible refine wpList_loadL HL.out rfl _ rfl rfl ?_))
     go_loopw [7, 8] (fun g j wr => ∃ i : Nat, i ≤ 64 ∧ j = .int .i64 i ∧ Growing E20 w4 wr v.1 (marksG mkP k (f k).length) g (marksG mkP k ((f k).length + i))) (fun _ j _ => 64 - (intOf j).toNat)
     case atStart => exact ⟨0, by omega, rfl, Growing.start HRV.out⟩
     case round =>
      obtain ⟨w5, rfl⟩ : ∃ w5 : World, w5 = wr := ⟨_, rfl⟩
      obtain ⟨i, hi, rfl, hgr⟩ := hrel
      have HGR := Lib.hid hgr
      clear hgr
      have HW5 := Lib.hid (HW4.out.trans (HGR.out.only.ss HV.out) (fun _ _ h => h))
      by_cases hlt2 : i < 64
      ·obtain ⟨q2, hadr2, hld2⟩ := xxat_P (SliceOf.onlyS HE.out HW5.out HSEP.out) k v HV.out
       obtain rfl := same_ptr (hadr w5) (hadr2 w5)
       have HL2 := Lib.hid hld2
       have hlr := fun W => rlen_P HGR.out.old W
       rw [marksG_length] at hlr
       clear hld2
       have hml := marksG_length mkP k ((f k).length + i)
       have hvlt : ∀ b, v.1.ownBlock = some b → b < w4.heap.size := fun b hb => Nat.lt_of_lt_of_le (HLT.out b ⟨k, v, HV.out, hb⟩) HW4.out.size
       go_wp2_with (first | (with_reducible refine wpList_loadL HL2.out rfl _ rfl rfl ?_))
       refine (markSum_P k (f k).length i (by omega) (by omega) _).mono ?_
       rintro e w6 ⟨rfl, hx6⟩
       have HGR6 := Lib.hid (HGR.out.below hx6)
       clear hx6
       go_wp2_with (first | (refine Agg.wpList_grow (E := E20) rfl rfl 67 rfl _ rfl _ rfl (mkP k ((f k).length + i)) rfl (fun _ => rfl) (by simp) HGR6.out (by omega) (by decide) hvlt ?_; intro u7 g7 w7 hg7))
       rw [marksG_more] at hg7
       go_wp2_with fail
       go_roundw
       case rel => exact ⟨i + 1, by omega, by go_num, hg7⟩
       case measure => simp [intOf]; omega
      ·obtain rfl : i = 64 := by omega
       obtain ⟨gp, gn, gc, hgf⟩ := HGR.out.room.form
       have hgown : ∀ b, v.1.ownBlock = some b → ¬ b = bg := fun b hb e => by
        have := HLT.out b ⟨k, v, HV.out, hb⟩
        omega
       have hg5 : RoomN EPP w5 (.slice (some ⟨bg, 0, none⟩) vs.length vs.length) gs := HG4.out.only HGR.out.only (fun b hb hb' => hgown b hb' (by simpa [Value.ownBlock] using hb.symm))
       obtain ⟨p, hadp, hst⟩ := hg5.place k (by rw [HT4.out.len]; exact hlt)
       obtain ⟨w6, hsto, hg6, ho6⟩ := hst w5 gs ⟨_, gp, gn, gc, hgf⟩ hg5 (by rw [HT4.out.len]; exact hlt)
       have hadp2 : ∀ W, (Instr.indexAt 60 (.slice (some ⟨bg, 0, none⟩) vs.length vs.length) (.int .i64 (k : Int))).run Tryz.prog W = .ok (.pointer (some p)) W := hadp
       have hss : ∀ b, SS vs b → ¬ (Value.slice (some ⟨bg, 0, none⟩) vs.length vs.length).ownBlock = some b := fun b hb e => by
        have := HLT.out b hb
        obtain rfl : bg = b := by simpa [Value.ownBlock] using e
        omega
       have hr6 := ((HR4.out.set HD.out HV.out HGR.out.old HGR.out.only)).only ho6 hss
       rw [wroteToG_same _ f _ k hlt] at hr6
       have hw6 : Only (SS vs) w w6 := HW5.out.trans ho6 (fun b hb e => by
        obtain rfl : bg = b := by simpa [Value.ownBlock] using e
        omega)
       have hB : ∀ b, v.1.ownBlock = some b → b < bg + 1 := fun b hb => by
        have := HLT.out b ⟨k, v, HV.out, hb⟩
        omega
       have hbg4 : bg < w4.heap.size := HG4.out.lt bg rfl
       have hslice : SliceOf E20 w5 u7 (marksG mkP k ((f k).length + 64)) := HGR.out.room.slice
       have ht6 := ((HT4.out.stage HD.out HV.out hB HGR.out.only).next (g := ⟨_, gp, gn, gc, hgf⟩) HV.out hslice (fun b hb => (HGR.out.own b hb).imp id (fun h => by omega))).other (S := fun b => (Value.slice (some ⟨bg, 0, none⟩) vs.length vs.length).ownBlock = some b) (fun b hb => ⟨by
        obtain rfl : bg = b := by simpa [Value.ownBlock] using hb
        omega, fun h => hss b h hb⟩) ho6
       have HALL := Lib.hid (And.intro hw6 (And.intro hr6 (And.intro hg6 ht6)))
       clear hr6 hg6 ht6 hst hadp
       have hrun : (Instr.storeAt 55 (.pointer (some p)) u7).run Tryz.prog w5 = .ok () w6 := hsto
       clear hsto ho6 hss hB hslice hgown
       go_wp2_with (first | (refine wpList_store rfl rfl 55 _ _ rfl (.pointer (some p)) u7 rfl rfl hrun ?_))
       go_roundw
       case rel => exact ⟨k + 1, by omega, by go_num, _, HALL.out.1, HALL.out.2.1, HALL.out.2.2.1, HALL.out.2.2.2⟩
       case measure => simp [intOf]; omega
    ·obtain rfl : k = vs.length := by omega
     clear hlt
     have HGB : Hid (SliceOf EPP w4 (.slice (some ⟨bg, 0, none⟩) vs.length vs.length) gs) := Lib.hid HG4.out.slice
     have HVB : Hid (SliceOf EPP w4 v0 vs) := Lib.hid (SliceOf.onlyS HE.out HW4.out HSEP.out)
     have HRB : Hid (∀ k v, vs[k]? = some v → SliceOf E20 w4 v.1 (marksG mkP k (f k).length)) := Lib.hid (fun k v hv => by
      have h := (HR4.out k v hv).slice
      rwa [wroteToG_at _ f _ k (List.getElem?_eq_some_iff.1 hv).1] at h)
     go_wp2_with fail
     go_loopw [9] (fun i wr => ∃ k : Nat, k ≤ vs.length ∧ i = .int .i64 k ∧ Below w4.heap.size w4 wr) (fun i _ => vs.length - (intOf i).toNat)
     case atStart => exact ⟨0, by omega, rfl, Below.refl _ _⟩
     case round =>
      obtain ⟨w5, rfl⟩ : ∃ w5 : World, w5 = wr := ⟨_, rfl⟩
      obtain ⟨k, hk, rfl, hw5⟩ := hrel
      have HX5 := Lib.hid hw5
      clear hw5
      by_cases hlt : k < vs.length
      ·obtain ⟨v, hvk⟩ : ∃ v, vs[k]? = some v := ⟨_, List.getElem?_eq_getElem hlt⟩
       obtain ⟨g, hgk⟩ := Got.lenk HT4.out.len hlt
       have hfk := hf k
       have HV := Lib.hid hvk
       have HGK := Lib.hid hgk
       clear hvk hgk
       go_wp2_with fail
       go_loopw [10] (fun j wr => ∃ i : Nat, i ≤ (f k).length + 64 ∧ j = .int .i64 i ∧ Below w4.heap.size w4 wr) (fun j _ => (f k).length + 64 - (intOf j).toNat)
       case atStart => exact ⟨0, by omega, rfl, HX5.out⟩
       case round =>
        obtain ⟨w6, rfl⟩ : ∃ w6 : World, w6 = wr := ⟨_, rfl⟩
        obtain ⟨i, hi, rfl, hw6⟩ := hrel
        have HX6 := Lib.hid hw6
        clear hw6
        obtain ⟨qg, hadg, hldg⟩ := xxat_P (SliceOf.below HGB.out HX6.out) k g HGK.out
        obtain ⟨qv, hadv, hldv⟩ := xxat_P (SliceOf.below HVB.out HX6.out) k v HV.out
        have hgb : SliceOf E20 w6 g.1 (marksG mkP k ((f k).length + 64)) := SliceOf.below (HT4.out.at_ k g v hlt HGK.out HV.out) HX6.out
        have hvb : SliceOf E20 w6 v.1 (marksG mkP k (f k).length) := SliceOf.below (HRB.out k v HV.out) HX6.out
        have hlg := fun W => xlen_P hgb W
        have hlr := fun W => xlen_P hvb W
        rw [marksG_length] at hlg hlr
        have HLG := Lib.hid hldg
        have HLV := Lib.hid hldv
        have HGBB := Lib.hid hgb
        have HVBB := Lib.hid hvb
        clear hldg hldv hgb hvb
        by_cases hlt2 : i < (f k).length + 64
        ·obtain ⟨pg, hadgi, hlgi⟩ := xat_P HGBB.out i (mkP k i) (marksG_get _ _ _ _ hlt2)
         have HLGI := Lib.hid (show LoadsL Tryz.prog _ 48 (some pg) (.agg (pC z20 (mkT (k) (i)))) from hlgi)
         clear hlgi
         by_cases hlt3 : i < (f k).length
         ·obtain ⟨pv, hadvi, hlvi⟩ := xat_P HVBB.out i (mkP k i) (marksG_get _ _ _ _ hlt3)
          have HLVI := Lib.hid (show LoadsL Tryz.prog _ 48 (some pv) (.agg (pC z20 (mkT (k) (i)))) from hlvi)
          clear hlvi
          have hd1 : decide ((i : Int) < ((f k).length : Int)) = true := by simp; omega
          go_wp2_with (first | (with_reducible refine wpList_loadL HLG.out rfl _ rfl rfl ?_))
          try simp only [Act.put, List.setIfInBounds_toArray, List.set_cons_succ, List.set_cons_zero]
          refine wp_region_later_lit (by kernel_rfl) (by kernel_rfl) ?_
          repeat (first | go_big_quiet_skip | ((first | (with_reducible refine wpQuiet_loadL HLG.out rfl _ rfl rfl ?_) | (with_reducible refine wpQuiet_loadL HLGI.out rfl _ rfl rfl ?_) | (with_reducible refine wpQuiet_loadL HLV.out rfl _ rfl rfl ?_) | (with_reducible refine wpQuiet_loadL HLVI.out rfl _ rfl rfl ?_) | (with_reducible refine Agg.wpQuiet_eql (by kernel_rfl) 48 48 _ _ rfl (pC z20 (mkT k i)) (pC z20 (mkT k i)) rfl rfl true (by kernel_rfl) (eqM_P k i) ?_)); simp only [Act.put, List.setIfInBounds_toArray, List.set_cons_succ, List.set_cons_zero]) | go_big_quiet_step ((go_at_call 132; exact Calls.later (markPath_any k i (by omega) (by omega) _))))
          refine wpQuiet_nil ?_
          intro _ hw'
          obtain ⟨x1, rfl⟩ := hw'
          go_wp2_with fail
          go_roundw
          case rel => exact ⟨i + 1, by omega, by go_num, belowThen HX6.out (Nat.le_refl _) x1.h⟩
          case measure => simp [intOf]; omega
         ·have hd1 : decide ((i : Int) < ((f k).length : Int)) = false := by simp; omega
          go_wp2_with (first | (with_reducible refine wpList_loadL HLG.out rfl _ rfl rfl ?_))
          try simp only [Act.put, List.setIfInBounds_toArray, List.set_cons_succ, List.set_cons_zero]
          refine wp_region_later_lit (by kernel_rfl) (by kernel_rfl) ?_
          repeat (first | go_big_quiet_skip | ((first | (with_reducible refine wpQuiet_loadL HLG.out rfl _ rfl rfl ?_) | (with_reducible refine wpQuiet_loadL HLGI.out rfl _ rfl rfl ?_) | (with_reducible refine wpQuiet_loadL HLV.out rfl _ rfl rfl ?_) | (with_reducible refine Agg.wpQuiet_eql (by kernel_rfl) 48 48 _ _ rfl (pC z20 (mkT k i)) (pC z20 (mkT k i)) rfl rfl true (by kernel_rfl) (eqM_P k i) ?_)); simp only [Act.put, List.setIfInBounds_toArray, List.set_cons_succ, List.set_cons_zero]) | go_big_quiet_step ((go_at_call 132; exact Calls.later (markPath_any k i (by omega) (by omega) _))))
          refine wpQuiet_nil ?_
          intro _ hw'
          obtain ⟨x1, rfl⟩ := hw'
          go_wp2_with fail
          go_roundw
          case rel => exact ⟨i + 1, by omega, by go_num, belowThen HX6.out (Nat.le_refl _) x1.h⟩
          case measure => simp [intOf]; omega
        ·obtain rfl : i = (f k).length + 64 := by omega
         go_wp2_with (first | (with_reducible refine wpList_loadL HLG.out rfl _ rfl rfl ?_))
         go_roundw
         case rel => exact ⟨k + 1, by omega, by go_num, HX6.out⟩
         case measure => simp [intOf]; omega
      ·obtain rfl : k = vs.length := by omega
       clear hlt
       have HW5 := Lib.hid (HW4.out.trans (Only.of_below (S := fun _ => False) HX5.out) (fun _ _ h => h.elim))
       have HR5 := Lib.hid (HR4.out.below HX5.out)
       have HG5 := Lib.hid (HG4.out.below HX5.out)
       clear HGB HVB HRB
       go_wp2_with fail
       go_loopw [11] (fun i wr => ∃ k : Nat, k ≤ vs.length ∧ i = .int .i64 k ∧ ∃ gs : List SV, Only (SS vs) w wr ∧ RoomsOf E20 wr vs (wroteToG mkP f vs.length) ∧ RoomN EPP wr (.slice (some ⟨bg, 0, none⟩) vs.length vs.length) gs ∧ Got E20 wr (bg + 1) vs gs k (fun j => marksG mkP j (f j).length ++ marksG mkP (j + vs.length) 64)) (fun i _ => vs.length - (intOf i).toNat)
       case atStart => exact ⟨0, by omega, rfl, _, HW5.out, HR5.out, HG5.out, Got.zero HT4.out.len⟩
       case round =>
        obtain ⟨w6, rfl⟩ : ∃ w6 : World, w6 = wr := ⟨_, rfl⟩
        obtain ⟨k, hk, rfl, gs6, hw, hrows, hgs, hgot⟩ := hrel
        have HW6 := Lib.hid hw
        have HR6 := Lib.hid hrows
        have HG6 := Lib.hid hgs
        have HT6 := Lib.hid hgot
        clear hw hrows hgs hgot
        by_cases hlt : k < vs.length
        ·obtain ⟨v, hvk⟩ : ∃ v, vs[k]? = some v := ⟨_, List.getElem?_eq_getElem hlt⟩
         have hfk := hf k
         have HV := Lib.hid hvk
         clear hvk
         have h64 : (64 : Nat) ≤ 1099511627776 / 8 := by omega
         go_wp2_with (first | (with_reducible refine Agg.wpList_makeN E20 (default : P20) rfl rfl _ _ .i64 .i64 64 rfl rfl rfl h64 (by decide) ?_; intro w7 hm0 hx7 hsz7))
         have hbm : w6.heap.size = w6.heap.size := rfl
         have HM7 := Lib.hid hm0
         have HX7 := Lib.hid hx7
         clear hm0 hx7 hsz7
         obtain ⟨bm, hbmm⟩ : ∃ bm, bm = w6.heap.size := ⟨_, rfl⟩
         rw [← hbmm] at HM7
         rw [← hbmm]
         have hmo : (Value.slice (some ⟨bm, 0, none⟩) 64 64).ownBlock = some bm := rfl
         generalize Value.slice (some ⟨bm, 0, none⟩) 64 64 = mv at *
         go_loopw [13] (fun j wr => ∃ i : Nat, i ≤ 64 ∧ j = .int .i64 i ∧ Only (fun b => b = bm) w7 wr ∧ RoomN E20 wr mv (marksG mkP (k + vs.length) i ++ (List.replicate 64 (default : P20)).drop i)) (fun j _ => 64 - (intOf j).toNat)
         case atStart => exact ⟨0, by omega, rfl, Only.refl _ _, by simpa only [marksG, List.range_zero, List.map_nil, List.nil_append, List.drop_zero] using HM7.out⟩
         case round =>
          obtain ⟨w8, rfl⟩ : ∃ w8 : World, w8 = wr := ⟨_, rfl⟩
          obtain ⟨i, hi, rfl, how, hrm⟩ := hrel
          have HW8 := Lib.hid how
          have HM8 := Lib.hid hrm
          clear how hrm
          have hml : (marksG mkP (k + vs.length) i ++ (List.replicate 64 (default : P20)).drop i).length = 64 := by simp [marksG_length]; omega
          by_cases hlt2 : i < 64
          ·obtain ⟨p, hadp, hst⟩ := HM8.out.place i (by rw [hml]; exact hlt2)
           have hadp2 : ∀ W, (Instr.indexAt 55 mv (.int .i64 (i : Int))).run Tryz.prog W = .ok (.pointer (some p)) W := hadp
           have HST := Lib.hid hst
           clear hadp hst
           go_wp2_with fail
           refine (markSumL_P k vs.length i (by omega) (by omega) _).mono ?_
           rintro e w10 ⟨rfl, hx10⟩
           obtain ⟨w9, hsto, hm9, ho9⟩ := HST.out w10 _ (mkP (k + vs.length) i) (HM8.out.below hx10) (by rw [hml]; exact hlt2)
           rw [marksG_set _ _ _ _ (by simpa using hlt2)] at hm9
           have hrun : (Instr.storeAt 48 (.pointer (some p)) (.agg (pC z20 (mkT (k + vs.length) (i))))).run Tryz.prog w10 = .ok () w9 := hsto
           have HALL := Lib.hid (And.intro ((HW8.out.trans (Only.of_below (S := fun _ => False) hx10) (fun _ _ h => h.elim)).trans (ho9.mono (T := fun b => b = bm) (fun b _ e => by rw [hmo] at e; exact (Option.some.inj e).symm)) (fun _ _ h => h)) hm9)
           clear hsto hm9 ho9 hx10
           go_wp2_with (first | (with_reducible refine wpList_store rfl rfl 48 _ _ rfl (.pointer (some p)) (.agg (pC z20 (mkT (k + vs.length) (i)))) rfl rfl hrun ?_))
           go_roundw
           case rel => exact ⟨i + 1, by omega, by go_num, HALL.out.1, HALL.out.2⟩
           case measure => simp [intOf]; omega
          ·obtain rfl : i = 64 := by omega
           have h68 : Only (fun _ => False) w6 w8 := (Only.of_below (S := fun _ => False) HX7.out).trans HW8.out (fun b hb e => by omega)
           have hr8 := HR6.out.only h68 (fun _ _ h => h)
           have hgv8 := HG6.out.only h68 (fun _ _ h => h)
           have hw8 : Only (SS vs) w w8 := HW6.out.trans h68 (fun _ _ h => h.elim)
           have ht8 := HT6.out.other (S := fun _ => False) (fun _ h => h.elim) h68
           have hrv := hr8 k v HV.out
           rw [wroteToG_at _ f _ k hlt] at hrv
           have hms : SliceOf E20 w8 mv (marksG mkP (k + vs.length) 64) := by simpa using HM8.out.slice
           have h63 : (marksG mkP k (f k).length).length + (marksG mkP (k + vs.length) 64).length ≤ 1099511627776 / 8 := by rw [marksG_length, marksG_length]; omega
           have hvlt : ∀ b, v.1.ownBlock = some b → b < w8.heap.size := fun b hb => Nat.lt_of_lt_of_le (HLT.out b ⟨k, v, HV.out, hb⟩) hw8.size
           obtain ⟨q, hadr, hld⟩ := xxat_P (SliceOf.onlyS HE.out hw8 HSEP.out) k v HV.out
           have HL := Lib.hid hld
           have HR8 := Lib.hid hr8
           have HGV8 := Lib.hid hgv8
           have HT8 := Lib.hid ht8
           have HRV := Lib.hid hrv
           have HMS := Lib.hid hms
           have HW8' := Lib.hid hw8
           clear hld hr8 hgv8 ht8 hrv hms hw8 h68 hml HX7 HM7 hmo hbmm hbm HT6 HG6 HR6 HW8 HM8
           go_wp2_with (first | (with_reducible refine wpList_loadL HL.out rfl _ rfl rfl ?_) | (at_builtin; refine Agg.walk_stop ?_))
           refine ⟨?_, trivial⟩
           refine Agg.wpList_growS (E := E20) rfl _ _ rfl rfl rfl (Growing.start HRV.out) HMS.out h63 (by decide) hvlt ?_
           intro g9 w9 hg9
           simp only [Act.put, List.setIfInBounds_toArray, List.set_cons_succ, List.set_cons_zero]
           have HGR := Lib.hid hg9
           clear hg9
           have HW9 := Lib.hid (HW8'.out.trans (HGR.out.only.ss HV.out) (fun _ _ h => h))
           obtain ⟨gp, gn, gc, hgf⟩ := HGR.out.room.form
           have hgown : ∀ b, v.1.ownBlock = some b → ¬ b = bg := fun b hb e => by
            have := HLT.out b ⟨k, v, HV.out, hb⟩
            omega
           have hgl : k < gs6.length := by rw [HT8.out.len]; exact hlt
           have hg5 : RoomN EPP w9 (.slice (some ⟨bg, 0, none⟩) vs.length vs.length) gs6 := HGV8.out.only HGR.out.only (fun b hb hb' => hgown b hb' (by simpa [Value.ownBlock] using hb.symm))
           obtain ⟨p, hadp, hst⟩ := hg5.place k hgl
           obtain ⟨w10, hsto, hg6, ho6⟩ := hst w9 gs6 ⟨_, gp, gn, gc, hgf⟩ hg5 hgl
           have hadp2 : ∀ W, (Instr.indexAt 60 (.slice (some ⟨bg, 0, none⟩) vs.length vs.length) (.int .i64 (k : Int))).run Tryz.prog W = .ok (.pointer (some p)) W := hadp
           have hss : ∀ b, SS vs b → ¬ (Value.slice (some ⟨bg, 0, none⟩) vs.length vs.length).ownBlock = some b := fun b hb e => by
            have := HLT.out b hb
            obtain rfl : bg = b := by simpa [Value.ownBlock] using e
            omega
           have hr6 := ((HR8.out.set HD.out HV.out HGR.out.old HGR.out.only)).only ho6 hss
           rw [wroteToG_same _ f _ k hlt] at hr6
           have hw10 : Only (SS vs) w w10 := HW9.out.trans ho6 (fun b hb e => by
            obtain rfl : bg = b := by simpa [Value.ownBlock] using e
            omega)
           have hB : ∀ b, v.1.ownBlock = some b → b < bg + 1 := fun b hb => by
            have := HLT.out b ⟨k, v, HV.out, hb⟩
            omega
           have hbg8 : bg < w8.heap.size := HGV8.out.lt bg rfl
           have hslice : SliceOf E20 w9 g9 (marksG mkP k (f k).length ++ marksG mkP (k + vs.length) 64) := HGR.out.room.slice
           have ht6 := ((HT8.out.stage HD.out HV.out hB HGR.out.only).next (g := ⟨_, gp, gn, gc, hgf⟩) HV.out hslice (fun b hb => (HGR.out.own b hb).imp id (fun h => by omega))).other (S := fun b => (Value.slice (some ⟨bg, 0, none⟩) vs.length vs.length).ownBlock = some b) (fun b hb => ⟨by
            obtain rfl : bg = b := by simpa [Value.ownBlock] using hb
            omega, fun h => hss b h hb⟩) ho6
           have HALL := Lib.hid (And.intro hw10 (And.intro hr6 (And.intro hg6 ht6)))
           clear hr6 hg6 ht6 hst hadp
           have hrun : (Instr.storeAt 55 (.pointer (some p)) g9).run Tryz.prog w9 = .ok () w10 := hsto
           clear hsto ho6 hss hB hslice hgown hg5
           go_wp2_with (first | (refine wpList_store rfl rfl 55 _ _ rfl (.pointer (some p)) g9 rfl rfl hrun ?_))
           go_roundw
           case rel => exact ⟨k + 1, by omega, by go_num, _, HALL.out.1, HALL.out.2.1, HALL.out.2.2.1, HALL.out.2.2.2⟩
           case measure => simp [intOf]; omega
        ·obtain rfl : k = vs.length := by omega
         clear hlt
         have HGB : Hid (SliceOf EPP w6 (.slice (some ⟨bg, 0, none⟩) vs.length vs.length) gs6) := Lib.hid HG6.out.slice
         have HVB : Hid (SliceOf EPP w6 v0 vs) := Lib.hid (SliceOf.onlyS HE.out HW6.out HSEP.out)
         have HRB : Hid (∀ k v, vs[k]? = some v → SliceOf E20 w6 v.1 (marksG mkP k (f k).length)) := Lib.hid (fun k v hv => by
          have h := (HR6.out k v hv).slice
          rwa [wroteToG_at _ f _ k (List.getElem?_eq_some_iff.1 hv).1] at h)
         go_wp2_with fail
         go_loopw [14] (fun i wr => ∃ k : Nat, k ≤ vs.length ∧ i = .int .i64 k ∧ Below w6.heap.size w6 wr) (fun i _ => vs.length - (intOf i).toNat)
         case atStart => exact ⟨0, by omega, rfl, Below.refl _ _⟩
         case round =>
          obtain ⟨w7, rfl⟩ : ∃ w7 : World, w7 = wr := ⟨_, rfl⟩
          obtain ⟨k, hk, rfl, hw7⟩ := hrel
          have HX7 := Lib.hid hw7
          clear hw7
          by_cases hlt : k < vs.length
          ·obtain ⟨v, hvk⟩ : ∃ v, vs[k]? = some v := ⟨_, List.getElem?_eq_getElem hlt⟩
           obtain ⟨g, hgk⟩ := Got.lenk HT6.out.len hlt
           have hfk := hf k
           have HV := Lib.hid hvk
           have HGK := Lib.hid hgk
           clear hvk hgk
           go_wp2_with fail
           go_loopw [15] (fun j wr => ∃ i : Nat, i ≤ (f k).length ∧ j = .int .i64 i ∧ Below w6.heap.size w6 wr) (fun j _ => (f k).length - (intOf j).toNat)
           case atStart => exact ⟨0, by omega, rfl, HX7.out⟩
           case round =>
            obtain ⟨w8, rfl⟩ : ∃ w8 : World, w8 = wr := ⟨_, rfl⟩
            obtain ⟨i, hi, rfl, hw8⟩ := hrel
            have HX8 := Lib.hid hw8
            clear hw8
            obtain ⟨qg, hadg, hldg⟩ := xxat_P (SliceOf.below HGB.out HX8.out) k g HGK.out
            obtain ⟨qv, hadv, hldv⟩ := xxat_P (SliceOf.below HVB.out HX8.out) k v HV.out
            have hgb : SliceOf E20 w8 g.1 (marksG mkP k (f k).length ++ marksG mkP (k + vs.length) 64) := SliceOf.below (HT6.out.at_ k g v hlt HGK.out HV.out) HX8.out
            have hvb : SliceOf E20 w8 v.1 (marksG mkP k (f k).length) := SliceOf.below (HRB.out k v HV.out) HX8.out
            have hlr := fun W => xlen_P hvb W
            rw [marksG_length] at hlr
            have HLG := Lib.hid hldg
            have HLV := Lib.hid hldv
            have HGBB := Lib.hid hgb
            have HVBB := Lib.hid hvb
            clear hldg hldv hgb hvb
            by_cases hlt2 : i < (f k).length
            ·obtain ⟨pg, hadgi, hlgi⟩ := xat_P HGBB.out i (mkP k i) (by rw [List.getElem?_append_left (by rw [marksG_length]; exact hlt2)]; exact marksG_get _ _ _ _ hlt2)
             have HLGI := Lib.hid (show LoadsL Tryz.prog _ 48 (some pg) (.agg (pC z20 (mkT (k) (i)))) from hlgi)
             obtain ⟨pv, hadvi, hlvi⟩ := xat_P HVBB.out i (mkP k i) (marksG_get _ _ _ _ hlt2)
             have HLVI := Lib.hid (show LoadsL Tryz.prog _ 48 (some pv) (.agg (pC z20 (mkT (k) (i)))) from hlvi)
             clear hlvi hlgi
             go_wp2_with (first | (with_reducible refine wpList_loadL HLV.out rfl _ rfl rfl ?_))
             try simp only [Act.put, List.setIfInBounds_toArray, List.set_cons_succ, List.set_cons_zero]
             refine wp_region_later_lit (by kernel_rfl) (by kernel_rfl) ?_
             repeat (first | go_big_quiet_skip | ((first | (with_reducible refine wpQuiet_loadL HLV.out rfl _ rfl rfl ?_) | (with_reducible refine wpQuiet_loadL HLVI.out rfl _ rfl rfl ?_) | (with_reducible refine wpQuiet_loadL HLG.out rfl _ rfl rfl ?_) | (with_reducible refine wpQuiet_loadL HLGI.out rfl _ rfl rfl ?_) | (with_reducible refine Agg.wpQuiet_eql (by kernel_rfl) 48 48 _ _ rfl (pC z20 (mkT k i)) (pC z20 (mkT k i)) rfl rfl true (by kernel_rfl) (eqM_P k i) ?_)); simp only [Act.put, List.setIfInBounds_toArray, List.set_cons_succ, List.set_cons_zero]) | go_big_quiet_step ((go_at_call 132; exact Calls.later (markPath_any k i (by omega) (by omega) _))))
             refine wpQuiet_nil ?_
             intro _ hw'
             obtain ⟨x1, rfl⟩ := hw'
             go_wp2_with fail
             go_roundw
             case rel => exact ⟨i + 1, by omega, by go_num, belowThen HX8.out (Nat.le_refl _) x1.h⟩
             case measure => simp [intOf]; omega
            ·obtain rfl : i = (f k).length := by omega
             go_wp2_with (first | (with_reducible refine wpList_loadL HLV.out rfl _ rfl rfl ?_))
             go_roundw
             case rel => exact ⟨k + 1, by omega, by go_num, HX8.out⟩
             case measure => simp [intOf]; omega
          ·obtain rfl : k = vs.length := by omega
           clear hlt
           have HFIN := Lib.hid (And.intro (HW6.out.trans (Only.of_below (S := fun _ => False) HX7.out) (fun _ _ h => h.elim)) (HR6.out.below HX7.out))
           go_wp2_with fail
           go_ret
           exact ⟨rfl, HFIN.out.1, _, HFIN.out.2, fun j => by rw [wroteToG_len]⟩
end Go.Proofs.YtdebbmembkbniaaGreat
/-! (*spencekit.bag).apart of rows of paths alone; spencekit.ApartPaths. -/
namespace Go.Proofs.YtdebbmembkbniaaGreat
open Go.RowKit Pl Go.Agg
theorem flatBytes_nilQ (w : World) : Calls Tryz.prog 96 #[.slice none 0 0] w fun e w' => e = .returned (.bool true) ∧ Below w.heap.size w w' := by
 refine (flatBytes_any (.slice none 0 0) [] (fun _ => []) w (SliceOf.nil _ _ _) (fun k v h => by simp at h) (fun i j u v h => by simp at h) (fun b h => by simp [Value.ownBlock] at h) (by simp) (fun _ => by simp)).mono ?_
 rintro e w' ⟨rfl, ho, _⟩
 exact ⟨rfl, (ho.mono (T := fun _ => False) fun b _ h => by obtain ⟨i, u, hi, _⟩ := h; simp at hi).below (Nat.le_refl _) fun _ h => h.elim⟩
def bagQ (v0 : Value) : Array Value := #[.slice none 0 0, .slice none 0 0, .slice none 0 0, .slice none 0 0, .slice none 0 0, .slice none 0 0, .slice none 0 0, v0, .slice none 0 0, .slice none 0 0, .slice none 0 0, .slice none 0 0, .slice none 0 0, .slice none 0 0, .slice none 0 0, .slice none 0 0, .slice none 0 0, .slice none 0 0, .slice none 0 0, .slice none 0 0, .slice none 0 0]
def ApQ (w : World) (vs : List SV) (f : Nat → List P20) (w' : World) : Prop := Only (SS vs) w w' ∧ ∃ f', RoomsOf E20 w' vs f' ∧ ∀ j, (f' j).length = (f j).length
theorem ApQ.below {w : World} {vs : List SV} {f : Nat → List P20} (a b : World) (h : ApQ w vs f a) (hb : Below a.heap.size a b) : ApQ w vs f b := by
 obtain ⟨h1, f', h2, h3⟩ := h
 exact ⟨h1.trans (Only.of_below (S := fun _ => False) hb) (fun _ _ h => h.elim), f', h2.below hb, h3⟩
set_option maxRecDepth 100000 in
set_option maxHeartbeats 2000000 in
theorem apartQ_any (g : Nat) (v0 : Value) (vs : List SV) (f : Nat → List P20) (w : World) (hg : Blk w g 135 (bagQ v0)) (hgS : ¬ SS vs g) (he : SliceOf EPP w v0 vs) (hr : RoomsOf E20 w vs f) (hd : Dist vs) (hsep : ∀ b, v0.ownBlock = some b → ¬ SS vs b) (hn : vs.length ≤ 4194304) (hf : ∀ j, (f j).length ≤ 8388608) :
  Calls Tryz.prog 59 #[.pointer (some ⟨g, 0, none⟩)] w fun e w' => e = .returned (.bool true) ∧ ApQ w vs f w' := by
 have hld : ∀ (k : Nat) (v : Value) (ty : TypeId) (d : TypeDesc), (bagQ v0)[k]? = some v → Tryz.prog.underlying ty = some d → (match d with | .struct _ | .array _ _ => true | _ => false) = false →
   ∀ w', ApQ w vs f w' → LoadsL Tryz.prog w' ty (some ⟨g, k, none⟩) v := by
  intro k v ty d hk hu hd w' hx
  have hb : Blk w' g 135 (bagQ v0) := (hx.1.block g hg.lt hgS).trans hg
  exact hb.one (P := Tryz.prog) k hk hu (by cases d <;> first | rfl | cases hd)
 have HLD := Lib.hid hld
 clear hld
 have HCC : Hid (∀ a b, ApQ w vs f a → Below a.heap.size a b → ApQ w vs f b) := Lib.hid ApQ.below
 have HCB : Hid (∀ x : Cls (ApQ w vs f), Calls Tryz.prog 98 #[v0] x.w fun e w' => e = .returned (.bool true) ∧ ApQ w vs f w') := Lib.hid (fun x => by
  obtain ⟨x, h1, f', h2, h3⟩ := x
  refine (flatPaths_any v0 vs f' x (SliceOf.onlyS he h1 hsep) h2 hd hsep hn (fun j => by rw [h3]; exact hf j)).mono ?_
  rintro e w' ⟨rfl, h4, f2, h5, h6⟩
  exact ⟨rfl, h1.trans h4 (fun _ _ h => h), f2, h5, fun j => by rw [h6, h3]⟩)
 have h0 : ApQ w vs f w := ⟨Only.refl _ _, f, hr, fun _ => rfl⟩
 have HC := Lib.hid h0
 clear h0 hr hd hsep hf he hg
 go_enter Tryz.func59, Tryz.ntmps59
 simp only [List.append_eq, List.cons_append, List.nil_append]
 have HL := Lib.hid (HLD.out 0 (.slice none 0 0) 115 _ rfl Tryz.underlying115 rfl _ HC.out)
 go_wp2_with (first | (with_reducible refine wpList_loadL HL.out rfl _ rfl rfl ?_))
 clear HL
 refine (flatLimbs_nil _).mono ?_
 rintro e w1 ⟨rfl, h1⟩
 have HC := Lib.hid (HCC.out _ _ HC.out h1)
 clear h1
 have HL := Lib.hid (HLD.out 1 (.slice none 0 0) 116 _ rfl Tryz.underlying116 rfl _ HC.out)
 go_wp2_with (first | (with_reducible refine wpList_loadL HL.out rfl _ rfl rfl ?_))
 clear HL
 refine (flatWords_nil _).mono ?_
 rintro e w2 ⟨rfl, h2⟩
 have HC := Lib.hid (HCC.out _ _ HC.out h2)
 clear h2
 have HL := Lib.hid (HLD.out 2 (.slice none 0 0) 117 _ rfl Tryz.underlying117 rfl _ HC.out)
 go_wp2_with (first | (with_reducible refine wpList_loadL HL.out rfl _ rfl rfl ?_))
 clear HL
 refine (flatInts_nil _).mono ?_
 rintro e w3 ⟨rfl, h3⟩
 have HC := Lib.hid (HCC.out _ _ HC.out h3)
 clear h3
 have HL := Lib.hid (HLD.out 3 (.slice none 0 0) 118 _ rfl Tryz.underlying118 rfl _ HC.out)
 go_wp2_with (first | (with_reducible refine wpList_loadL HL.out rfl _ rfl rfl ?_))
 clear HL
 refine (flatLongs_nil _).mono ?_
 rintro e w4 ⟨rfl, h4⟩
 have HC := Lib.hid (HCC.out _ _ HC.out h4)
 clear h4
 have HL := Lib.hid (HLD.out 4 (.slice none 0 0) 119 _ rfl Tryz.underlying119 rfl _ HC.out)
 go_wp2_with (first | (with_reducible refine wpList_loadL HL.out rfl _ rfl rfl ?_))
 clear HL
 refine (flatTexts_nil _).mono ?_
 rintro e w5 ⟨rfl, h5⟩
 have HC := Lib.hid (HCC.out _ _ HC.out h5)
 clear h5
 have HL := Lib.hid (HLD.out 5 (.slice none 0 0) 62 _ rfl Tryz.underlying62 rfl _ HC.out)
 go_wp2_with (first | (with_reducible refine wpList_loadL HL.out rfl _ rfl rfl ?_))
 clear HL
 refine (flatBytes_nilQ _).mono ?_
 rintro e w6 ⟨rfl, h6⟩
 have HC := Lib.hid (HCC.out _ _ HC.out h6)
 clear h6
 have HL := Lib.hid (HLD.out 6 (.slice none 0 0) 120 _ rfl Tryz.underlying120 rfl _ HC.out)
 go_wp2_with (first | (with_reducible refine wpList_loadL HL.out rfl _ rfl rfl ?_))
 clear HL
 refine (flatTruths_nil _).mono ?_
 rintro e w7 ⟨rfl, h7⟩
 have HC := Lib.hid (HCC.out _ _ HC.out h7)
 clear h7
 have HL := Lib.hid (HLD.out 7 (v0) 60 _ rfl Tryz.underlying60 rfl _ HC.out)
 go_wp2_with (first | (with_reducible refine wpList_loadL HL.out rfl _ rfl rfl ?_))
 clear HL
 refine (HCB.out ⟨_, HC.out⟩).mono ?_
 rintro e w8 ⟨rfl, h8⟩
 have HC := Lib.hid h8
 clear h8
 have HL := Lib.hid (HLD.out 8 (.slice none 0 0) 121 _ rfl Tryz.underlying121 rfl _ HC.out)
 go_wp2_with (first | (with_reducible refine wpList_loadL HL.out rfl _ rfl rfl ?_))
 clear HL
 refine (flatKids_nil _).mono ?_
 rintro e w9 ⟨rfl, h9⟩
 have HC := Lib.hid (HCC.out _ _ HC.out h9)
 clear h9
 have HL := Lib.hid (HLD.out 9 (.slice none 0 0) 122 _ rfl Tryz.underlying122 rfl _ HC.out)
 go_wp2_with (first | (with_reducible refine wpList_loadL HL.out rfl _ rfl rfl ?_))
 clear HL
 refine (flatNodes_nil _).mono ?_
 rintro e w10 ⟨rfl, h10⟩
 have HC := Lib.hid (HCC.out _ _ HC.out h10)
 clear h10
 have HL := Lib.hid (HLD.out 10 (.slice none 0 0) 123 _ rfl Tryz.underlying123 rfl _ HC.out)
 go_wp2_with (first | (with_reducible refine wpList_loadL HL.out rfl _ rfl rfl ?_))
 clear HL
 refine (flatLines_nil _).mono ?_
 rintro e w11 ⟨rfl, h11⟩
 have HC := Lib.hid (HCC.out _ _ HC.out h11)
 clear h11
 have HL := Lib.hid (HLD.out 11 (.slice none 0 0) 124 _ rfl Tryz.underlying124 rfl _ HC.out)
 go_wp2_with (first | (with_reducible refine wpList_loadL HL.out rfl _ rfl rfl ?_))
 clear HL
 refine (flatChanges_nil _).mono ?_
 rintro e w12 ⟨rfl, h12⟩
 have HC := Lib.hid (HCC.out _ _ HC.out h12)
 clear h12
 have HL := Lib.hid (HLD.out 12 (.slice none 0 0) 125 _ rfl Tryz.underlying125 rfl _ HC.out)
 go_wp2_with (first | (with_reducible refine wpList_loadL HL.out rfl _ rfl rfl ?_))
 clear HL
 refine (flatRuns_nil _).mono ?_
 rintro e w13 ⟨rfl, h13⟩
 have HC := Lib.hid (HCC.out _ _ HC.out h13)
 clear h13
 have HL := Lib.hid (HLD.out 13 (.slice none 0 0) 126 _ rfl Tryz.underlying126 rfl _ HC.out)
 go_wp2_with (first | (with_reducible refine wpList_loadL HL.out rfl _ rfl rfl ?_))
 clear HL
 refine (flatObjects_nil _).mono ?_
 rintro e w14 ⟨rfl, h14⟩
 have HC := Lib.hid (HCC.out _ _ HC.out h14)
 clear h14
 have HL := Lib.hid (HLD.out 14 (.slice none 0 0) 127 _ rfl Tryz.underlying127 rfl _ HC.out)
 go_wp2_with (first | (with_reducible refine wpList_loadL HL.out rfl _ rfl rfl ?_))
 clear HL
 refine (flatQuotas_nil _).mono ?_
 rintro e w15 ⟨rfl, h15⟩
 have HC := Lib.hid (HCC.out _ _ HC.out h15)
 clear h15
 have HL := Lib.hid (HLD.out 15 (.slice none 0 0) 128 _ rfl Tryz.underlying128 rfl _ HC.out)
 go_wp2_with (first | (with_reducible refine wpList_loadL HL.out rfl _ rfl rfl ?_))
 clear HL
 refine (flatNameds_nil _).mono ?_
 rintro e w16 ⟨rfl, h16⟩
 have HC := Lib.hid (HCC.out _ _ HC.out h16)
 clear h16
 have HL := Lib.hid (HLD.out 16 (.slice none 0 0) 129 _ rfl Tryz.underlying129 rfl _ HC.out)
 go_wp2_with (first | (with_reducible refine wpList_loadL HL.out rfl _ rfl rfl ?_))
 clear HL
 refine (flatDrvs_nil _).mono ?_
 rintro e w17 ⟨rfl, h17⟩
 have HC := Lib.hid (HCC.out _ _ HC.out h17)
 clear h17
 have HL := Lib.hid (HLD.out 17 (.slice none 0 0) 130 _ rfl Tryz.underlying130 rfl _ HC.out)
 go_wp2_with (first | (with_reducible refine wpList_loadL HL.out rfl _ rfl rfl ?_))
 clear HL
 refine (flatMades_nil _).mono ?_
 rintro e w18 ⟨rfl, h18⟩
 have HC := Lib.hid (HCC.out _ _ HC.out h18)
 clear h18
 have HL := Lib.hid (HLD.out 18 (.slice none 0 0) 131 _ rfl Tryz.underlying131 rfl _ HC.out)
 go_wp2_with (first | (with_reducible refine wpList_loadL HL.out rfl _ rfl rfl ?_))
 clear HL
 refine (flatBuilts_nil _).mono ?_
 rintro e w19 ⟨rfl, h19⟩
 have HC := Lib.hid (HCC.out _ _ HC.out h19)
 clear h19
 have HL := Lib.hid (HLD.out 19 (.slice none 0 0) 132 _ rfl Tryz.underlying132 rfl _ HC.out)
 go_wp2_with (first | (with_reducible refine wpList_loadL HL.out rfl _ rfl rfl ?_))
 clear HL
 refine (flatRequests_nil _).mono ?_
 rintro e w20 ⟨rfl, h20⟩
 have HC := Lib.hid (HCC.out _ _ HC.out h20)
 clear h20
 have HL := Lib.hid (HLD.out 20 (.slice none 0 0) 133 _ rfl Tryz.underlying133 rfl _ HC.out)
 go_wp2_with (first | (with_reducible refine wpList_loadL HL.out rfl _ rfl rfl ?_))
 clear HL
 refine (flatReplies_nil _).mono ?_
 rintro e w21 ⟨rfl, h21⟩
 have HC := Lib.hid (HCC.out _ _ HC.out h21)
 clear h21
 go_wp2_with fail
 go_ret
 exact ⟨rfl, HC.out⟩
theorem bag_pushQ {w w1 : World} {g : Nat} {vp v1 : Value} {l : List SV} (hb : Blk w g 135 (bagQ vp)) (ho : Own EPP (g + 1) w1 v1 l) (hp : Pushed EPP (g + 1) w w1 vp) :
  ∃ w2, (Instr.storeAt 60 (.pointer (some ⟨g, 7, none⟩)) v1).run Tryz.prog w1 = .ok () w2 ∧ Blk w2 g 135 (bagQ v1) ∧ Own EPP (g + 1) w2 v1 l ∧ Below g w w2 := by
 have h1 : Blk w1 g 135 (bagQ vp) := hp.blk g _ _ _ (by decide) hb
 obtain ⟨p, c, rfl⟩ := ho.slice.form
 refine ⟨_, h1.run_put 7 (by simp [bagQ]) _ rfl rfl (by kernel_rfl), h1.set 7 _, ho.keep fun k cur t fr hk hb => ?_, ?_⟩
 ·rw [Below.heap_setCell _ _ _ _ (by show k ≠ g; omega)]; exact hb
 ·exact (hp.below g (by omega) (Nat.le_of_lt hb.lt)).setCell (Nat.le_refl _) _
set_option maxRecDepth 100000 in
set_option maxHeartbeats 1000000 in
theorem putPathsQ_any (g : Nat) (vp : Value) (ps : List SV) (x : SV) (w : World) (hb : Blk w g 135 (bagQ vp)) (ho : Own EPP (g + 1) w vp ps) (hn : ps.length ≤ 4194304) :
  Calls Tryz.prog 58 #[.pointer (some ⟨g, 0, none⟩), x.1] w fun e w' => (∃ r, e = .returned r) ∧ ∃ v', Blk w' g 135 (bagQ v') ∧ Own EPP (g + 1) w' v' (ps ++ [x]) ∧ Below g w w' := by
 have HL := Lib.hid (hb.one (P := Tryz.prog) 7 rfl (by kernel_rfl : Tryz.prog.underlying 60 = some (.slice 55)) rfl : LoadsL Tryz.prog w 60 (some ⟨g, 7, none⟩) vp)
 have HB := Lib.hid hb
 have HO := Lib.hid ho
 have hlt := hb.lt
 have h63 : ps.length + 1 ≤ 1099511627776 / 8 := by omega
 have hbase : g + 1 ≤ w.heap.size := hlt
 clear hb ho
 go_enter Tryz.func58, Tryz.ntmps58
 go_wp2_with (first | (with_reducible refine wpList_loadL HL.out rfl _ rfl rfl ?_) | (refine wpList_push (E := EPP) (base := g + 1) rfl rfl 10 rfl _ rfl _ rfl x rfl (fun _ => rfl) (by simp) HO.out h63 (by decide) hbase ?_; intro u1 v1 w1 ho1 hp1; obtain ⟨w2, hrun, hfin⟩ := bag_pushQ HB.out ho1 hp1; have HFIN := Lib.hid hfin; clear ho1 hp1 hfin) | (refine wpList_store rfl rfl 60 _ _ rfl (.pointer (some ⟨g, 7, none⟩)) _ rfl rfl hrun ?_))
 refine bodyPost_end (results_none rfl _ _ _) rfl ?_
 exact ⟨⟨_, rfl⟩, _, HFIN.out.1, HFIN.out.2.1, HFIN.out.2.2⟩
set_option maxRecDepth 100000 in
set_option maxHeartbeats 1000000 in
theorem apartPathsQ_any (v0 : Value) (vs : List SV) (f : Nat → List P20) (w : World) (he : SliceOf EPP w v0 vs) (hr : RoomsOf E20 w vs f) (hd : Dist vs) (hn : vs.length ≤ 4194304) (hf : ∀ j, (f j).length ≤ 8388608) :
  Calls Tryz.prog 25 #[v0] w fun e w' => e = .returned (.bool true) ∧ Only (SS vs) w w' := by
 have hlv := fun W => xxlen_P he W
 have HE := Lib.hid he
 have HR := Lib.hid hr
 have HD := Lib.hid hd
 clear he hr hd
 have hbld : ∀ W, (Instr.build 135 #[]).run Tryz.prog W = .ok (.agg (bagQ (.slice none 0 0))) W := fun W => by kernel_rfl
 have HBLD := Lib.hid hbld
 clear hbld
 go_enter Tryz.func25, Tryz.ntmps25
 go_wp2_with (first | (with_reducible refine wpList_build0 135 rfl rfl (.agg (bagQ (.slice none 0 0))) HBLD.out ?_) | (with_reducible refine wpList_box rfl 135 _ rfl (bagQ (.slice none 0 0)) rfl ?_; intro g w1 hb1 hx1 hlt1))
 go_loopw [4] (fun i wr => ∃ k : Nat, k ≤ vs.length ∧ i = .int .i64 k ∧ ∃ u, Blk wr g 135 (bagQ u) ∧ Own EPP (g + 1) wr u (vs.take k) ∧ Below w.heap.size w wr) (fun i _ => vs.length - (intOf i).toNat)
 case atStart => exact ⟨0, by omega, rfl, _, hb1, Own.nil _ _ _, hx1⟩
 case round =>
  clear hb1 hx1
  obtain ⟨w2, rfl⟩ : ∃ w2 : World, w2 = wr := ⟨_, rfl⟩
  obtain ⟨k, hk, rfl, u, hb, ho, hw⟩ := hrel
  have HB := Lib.hid hb
  have HO := Lib.hid ho
  have HW := Lib.hid hw
  clear hb ho hw
  by_cases hlt : k < vs.length
  ·obtain ⟨v, hvk⟩ : ∃ v, vs[k]? = some v := ⟨_, List.getElem?_eq_getElem hlt⟩
   have HV := Lib.hid hvk
   obtain ⟨q, hadr, hld⟩ := xxat_P (SliceOf.below HE.out HW.out) k v hvk
   have HL := Lib.hid hld
   have hkl : (vs.take k).length ≤ k := List.length_take_le _ _
   clear hvk hld
   go_wp2_with (first | (with_reducible refine wpList_loadL HL.out rfl _ rfl rfl ?_))
   refine (putPathsQ_any g u (vs.take k) v w2 HB.out HO.out (by omega)).mono ?_
   rintro e w3 ⟨⟨r, rfl⟩, u3, hb3, ho3, hw3⟩
   have ht : vs.take k ++ [v] = vs.take (k + 1) := by rw [List.take_add_one, HV.out]; rfl
   rw [ht] at ho3
   go_wp2_with fail
   go_roundw
   case rel => exact ⟨k + 1, by omega, by go_num, _, hb3, ho3, HW.out.trans (hw3.mono hlt1)⟩
   case measure => simp [intOf]; omega
  ·obtain rfl : k = vs.length := by omega
   have ho := HO.out
   rw [List.take_length] at ho
   have hss : ∀ b, SS vs b → b < w.heap.size := HR.out.lt
   have hsep : ∀ b, u.ownBlock = some b → ¬ SS vs b := fun b hb h => by
    have h1 := (ho.block b hb).1
    have h2 := hss b h
    omega
   have hgS : ¬ SS vs g := fun h => by have := hss g h; omega
   have HA := Lib.hid (apartQ_any g u vs f w2 HB.out hgS ho.slice (HR.out.below HW.out) HD.out hsep hn hf)
   clear ho hss hsep hgS
   go_wp2_with fail
   refine HA.out.mono ?_
   rintro e w3 ⟨rfl, h3⟩
   go_wp2_with fail
   go_ret
   exact ⟨rfl, (Only.of_below HW.out).trans h3.1 (fun _ _ h => h)⟩
end Go.Proofs.YtdebbmembkbniaaGreat
/-! spencekit.SamePaths. -/
namespace Go.Proofs.YtdebbmembkbniaaGreat
open Go.RowKit Pl Go.Agg
theorem ne_atP {a b : List P20} {k : Nat} {x y : P20} (hx : a[k]? = some x) (hy : b[k]? = some y) (h : ¬ x = y) : a ≠ b := by
 rintro rfl
 rw [hx] at hy
 exact h (Option.some.inj hy)
theorem take_succP {a b : List P20} {k : Nat} {x y : P20} (hx : a[k]? = some x) (hy : b[k]? = some y) (ht : a.take k = b.take k) (h : x = y) : a.take (k + 1) = b.take (k + 1) := by
 rw [List.take_add_one, List.take_add_one, hx, hy, ht, h]
set_option maxRecDepth 100000 in
set_option maxHeartbeats 1000000 in
theorem samePaths_any (v u : Value) (a b : List P20) (_ha : a.length ≤ 1048576) (hb : b.length ≤ 1048576) (w : World) (he : ElemsAt w v a) (hf : ElemsAt w u b) :
  Calls Tryz.prog 23 #[v, u] w fun e w' => e = .returned (.bool (decide (a = b))) ∧ Below w.heap.size w w' := by
 have hlv := fun W => elems_len he W
 have hlu := fun W => elems_len hf W
 have HE := Lib.hid he
 have HF := Lib.hid hf
 clear he hf
 by_cases hlen : a.length = b.length
 ·have hne : ((a.length : Int) != (b.length : Int)) = false := by simp [hlen]
  have HLEN := Lib.hid hlen
  rw [hlen] at hlv hne
  clear hlen
  go_enter Tryz.func23, Tryz.ntmps23
  go_wp2_with fail
  go_loopw [5] (fun i wr => ∃ k : Nat, k ≤ b.length ∧ i = .int .i64 k ∧ a.take k = b.take k ∧ Below w.heap.size w wr) (fun i _ => b.length - (intOf i).toNat)
  case atStart => exact ⟨0, by omega, rfl, rfl, Below.refl _ _⟩
  case round =>
   obtain ⟨w1, rfl⟩ : ∃ w1 : World, w1 = wr := ⟨_, rfl⟩
   obtain ⟨k, hk, rfl, htk, hw⟩ := hrel
   have HTK := Lib.hid htk
   clear htk
   by_cases hlt : k < b.length
   ·obtain ⟨y, hyk⟩ : ∃ y, b[k]? = some y := ⟨_, List.getElem?_eq_getElem hlt⟩
    obtain ⟨x, hxk⟩ : ∃ x, a[k]? = some x := ⟨_, List.getElem?_eq_getElem (by rw [HLEN.out]; exact hlt)⟩
    obtain ⟨p, hadr, hld, _⟩ := elem_at (HE.out.below hw) k x hxk
    obtain ⟨q, hadq, hlq, _⟩ := elem_at (HF.out.below hw) k y hyk
    have HLX := Lib.hid hld
    have HLY := Lib.hid hlq
    have HX := Lib.hid hxk
    have HY := Lib.hid hyk
    have HQ := Lib.hid (fun W => (show (binOp .neq 48 (.agg (pC x.1.1 x.1.2)) (.agg (pC y.1.1 y.1.2))).run Tryz.prog W = .ok (.bool (!(decide (x = y)))) W by rw [neqPB]))
    clear hld hlq hxk hyk
    by_cases hxy : x = y
    ·have HXY := Lib.hid hxy
     have HD := Lib.hid (fun W => (HQ.out W).trans (by simp [hxy] : _ = .ok (.bool false) W))
     clear hxy
     go_wp2_with fail
     try simp only [Act.put, List.setIfInBounds_toArray, List.set_cons_succ, List.set_cons_zero]
     refine wp_region_later_lit (by kernel_rfl) (by kernel_rfl) ?_
     repeat (first | go_big_quiet_skip | ((first | (with_reducible refine wpQuiet_loadL HLX.out rfl _ rfl rfl ?_) | (with_reducible refine wpQuiet_loadL HLY.out rfl _ rfl rfl ?_) | (with_reducible refine Agg.wpQuiet_neq 48 48 _ _ rfl rfl (pC x.1.1 x.1.2) (pC y.1.1 y.1.2) rfl rfl (false) (by kernel_rfl) HD.out ?_)); simp only [Act.put, List.setIfInBounds_toArray, List.set_cons_succ, List.set_cons_zero]) | go_big_quiet_step (fail))
     refine wpQuiet_nil ?_
     intro _ hw'
     obtain ⟨x1, rfl⟩ := hw'
     go_wp2_with fail
     go_roundw
     case rel => exact ⟨k + 1, by omega, by go_num, take_succP HX.out HY.out HTK.out HXY.out, belowThen hw (Nat.le_refl _) x1.h⟩
     case measure => simp [intOf]; omega
    ·have HXY := Lib.hid hxy
     have HD := Lib.hid (fun W => (HQ.out W).trans (by simp [hxy] : _ = .ok (.bool true) W))
     clear hxy
     go_wp2_with fail
     try simp only [Act.put, List.setIfInBounds_toArray, List.set_cons_succ, List.set_cons_zero]
     refine wp_region_later_lit (by kernel_rfl) (by kernel_rfl) ?_
     repeat (first | go_big_quiet_skip | ((first | (with_reducible refine wpQuiet_loadL HLX.out rfl _ rfl rfl ?_) | (with_reducible refine wpQuiet_loadL HLY.out rfl _ rfl rfl ?_) | (with_reducible refine Agg.wpQuiet_neq 48 48 _ _ rfl rfl (pC x.1.1 x.1.2) (pC y.1.1 y.1.2) rfl rfl (true) (by kernel_rfl) HD.out ?_)); simp only [Act.put, List.setIfInBounds_toArray, List.set_cons_succ, List.set_cons_zero]) | go_big_quiet_step (fail))
     refine wpQuiet_nil ?_
     intro _ hw'
     obtain ⟨x1, rfl⟩ := hw'
     have HR := Lib.hid (decide_eq_false (ne_atP HX.out HY.out HXY.out))
     go_wp2_with fail
     go_ret
     exact ⟨ret_bool HR.out.symm, belowThen hw (Nat.le_refl _) x1.h⟩
   ·obtain rfl : k = b.length := by omega
    have HR := Lib.hid (show decide (a = b) = true from by
     have h := HTK.out
     rw [List.take_length, ← HLEN.out, List.take_length] at h
     simpa using h)
    go_wp2_with fail
    go_ret
    exact ⟨ret_bool HR.out.symm, hw⟩
 ·have hne : ((a.length : Int) != (b.length : Int)) = true := by simp [bne_iff_ne]; omega
  have HR := Lib.hid (show decide (a = b) = false from by
   refine decide_eq_false fun h => hlen (by rw [h]))
  clear hlen
  go_enter Tryz.func23, Tryz.ntmps23
  go_wp2_with fail
  go_ret
  exact ⟨ret_bool HR.out.symm, Below.refl _ _⟩
end Go.Proofs.YtdebbmembkbniaaGreat
