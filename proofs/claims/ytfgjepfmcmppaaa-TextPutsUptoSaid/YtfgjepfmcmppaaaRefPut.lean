/- spenceref17.Put -/
import Derived.Test.YtfgjepfmcmppaaaRefCan
import Derived.Test.YtfgjepfmcmppaaaRefDig
import Derived.Test.YtfgjepfmcmppaaaTPut2
namespace Go.Proofs.Ytfgjepfmcmppaaa
open Go.RowKit Pl Go.Agg
/-- the text so far -/
def headT (d : Drv) (k : Nat) : List UInt8 := wDrv ++ d.1 ++ [10] ++ (d.2.1.take k).flatMap fun x => lineT x ++ [10]
theorem headT_succ {d : Drv} {k : Nat} {x : Nam} (h : d.2.1[k]? = some x) : headT d (k + 1) = headT d k ++ lineT x ++ [10] := by
  simp [headT, List.take_add_one, h]
theorem headT_all (d : Drv) : headT d d.2.1.length ++ wRun ++ digs16 d.2.2 ++ [10] = textD d := by
  simp [headT, textD]
theorem headT_length {d : Drv} {k : Nat} (h1 : isName d.1 = true) (h4 : canAll [] d.2.1 = true) (h8 : d.2.1.length ≤ 8) : (headT d k).length ≤ 800 := by
  have e1 := isName_le h1
  have e2 := lines_length (d.2.1.take k) (fun x hx => canAll_name _ _ h4 x (List.mem_of_mem_take hx))
  have e3 : (d.2.1.take k).length ≤ d.2.1.length := by simp; omega
  simp only [headT, List.length_append, wDrv, List.length_cons, List.length_nil] at e2 ⊢; omega
theorem catL (h a n b : List UInt8) : ((((((⟨h.toArray⟩ : ByteArray) ++ ⟨a.toArray⟩) ++ ⟨n.toArray⟩) ++ ⟨([32] : List UInt8).toArray⟩) ++ ⟨b.toArray⟩) ++ ⟨([10] : List UInt8).toArray⟩) = ⟨(h ++ (a ++ n ++ [32] ++ b) ++ [10]).toArray⟩ := by
  rw [bytes_append, bytes_append, bytes_append, bytes_append, bytes_append]; simp [List.append_assoc]
set_option maxRecDepth 100000 in
set_option maxHeartbeats 4000000 in
theorem refPut_any (v : Value) (d : Drv) (h1 : d.1.length ≤ 1048576) (hl : d.2.1.length ≤ 1048576) (hsz : namsSz d.2.1 ≤ 4194304) (w : World) (hd : DrvAt w v d) :
    Calls Try.prog 15 #[v] w fun e w' => ∃ vb, e = .returned (.tuple #[vb, .int .i64 (putE d : Int)]) ∧ PutOut w w' vb (putB d) ∧ Below w.heap.size w w' := by
  have HD0 := Lib.hid hd
  obtain ⟨vi, vr, rfl, hvi, hvr⟩ := hd
  have hli := nams_len hvi
  have HVI := Lib.hid hvi
  have HVR := Lib.hid hvr
  clear hvi hvr
  go_enter Try.func15, Try.ntmps15
  go_wp2_with (first | (with_reducible refine Agg.wpList_box rfl 25 _ rfl (#[.string ⟨d.1.toArray⟩, vi, vr]) rfl ?_; intro g w1 hb hx1 hg) | (with_reducible refine Agg.wpList_loadL (DrvL.of_blk hb).all rfl _ rfl rfl ?_))

  refine (refCan_any _ d h1 hl hsz _ (HD0.out.below hx1)).mono ?_
  rintro e w2 ⟨rfl, hx⟩
  have HD := Lib.hid ((DrvL.of_blk hb).below hx)
  have hw2 := Agg.belowThen hx1 (Nat.le_refl _) hx
  clear hb hx1 hg hx
  cases hc : canDrv d with
  | false =>
    have HR : Hid (putE d = 2 ∧ putB d = []) := Lib.hid (by simp [putE, putB, hc])
    clear hc
    go_wp2_with fail
    go_ret2
    exact ⟨_, by rw [HR.out.1]; rfl, .inl ⟨rfl, HR.out.2⟩, hw2⟩
  | true =>
    have HC := Lib.hid hc
    have hparts := canDrv_parts hc
    have htl := textD_length hc
    have hn24 := isName_le hparts.1
    have hl8 := hparts.2.1
    have hr1 := hparts.2.2.1
    have HCA := Lib.hid hparts.2.2.2
    have HHL : Hid (∀ k, (headT d k).length ≤ 800) := Lib.hid (fun k => headT_length hparts.1 hparts.2.2.2 hl8)
    have HH0 : Hid ((((⟨wDrv.toArray⟩ : ByteArray) ++ ⟨d.1.toArray⟩) ++ ⟨([10] : List UInt8).toArray⟩) = ⟨(headT d 0).toArray⟩) := Lib.hid (by rw [cat3]; simp [headT])
    clear hc hparts
    go_wp2_with (first | (with_reducible refine Agg.wpList_loadL HD.out.name rfl _ rfl rfl ?_))

    go_loopw [4, 5] (fun out i wr => ∃ k : Nat, k ≤ d.2.1.length ∧ i = .int .i64 k ∧ out = .string ⟨(headT d k).toArray⟩ ∧ Below w2.heap.size w2 wr) (fun _ i _ => d.2.1.length - (intOf i).toNat)
    case atStart => exact ⟨0, by omega, rfl, strB HH0.out, Below.refl _ _⟩
    case round =>
      obtain ⟨w3, rfl⟩ : ∃ w3 : World, w3 = wr := ⟨_, rfl⟩
      obtain ⟨k, hk, rfl, rfl, hx⟩ := hrel
      have HD3 := Lib.hid (HD.out.below hx)
      have hhl := HHL.out k
      have hw3 := Agg.belowThen hw2 (Nat.le_refl _) hx
      by_cases hlt : k < d.2.1.length
      · obtain ⟨x, hxk⟩ : ∃ x, d.2.1[k]? = some x := ⟨_, List.getElem?_eq_getElem hlt⟩
        obtain ⟨p, hadr, hld⟩ := nam_at (HVI.out.below hw3) k x hxk
        have hxn := isName_le (canAll_name _ _ HCA.out x (List.mem_of_getElem? hxk))
        have HL := Lib.hid hld.all
        have HS := Lib.hid (headT_succ hxk)
        have hd1 : decide (k < d.2.1.length) = true := by simpa using hlt
        have hll : (letters x.2.2.1.1).length ≤ 32 := by rw [letters_length]; omega
        have hpl := pathS_le57 x.2.1.1.1 x.2.1.1.2
        have hsb : x.2.1.1.2.length ≤ 4194304 := by
          have := Nat.le_trans (nam_le_sum (List.mem_of_getElem? hxk)) hsz
          unfold nmSz at this; omega
        clear hld hxk
        cases his : x.2.2.2 with
        | true =>
          have HR : Hid (lineT x = wClass ++ x.1 ++ [32] ++ letters x.2.2.1.1) := Lib.hid (by simp [lineT, his])
          go_wp2_with (first | (with_reducible refine Agg.wpList_loadL HD3.out.inp rfl _ rfl rfl ?_) | (with_reducible refine Agg.wpList_loadL HL.out rfl _ rfl rfl ?_) | (refine Agg.wpList_new rfl rfl rfl 64 6 27 rfl rfl rfl (by decide) (nmC zN) (nmC x) nmC_zero (by rw [nmC_size, nmC_size]) (nmC_info x) (nmC_one x) rfl (by simp [Act.put]) ?_; intro g2 w4 hb2 hx4 hg2) | (have his2 := (NamB.of_blk hb2).is; rw [his] at his2; refine Agg.wpList_loadL his2 rfl _ rfl rfl ?_))

          have HB := Lib.hid (NamB.of_blk hb2)
          have hx5 := Agg.belowThen hx (Nat.le_refl _) hx4
          clear hb2 hx4 hg2 his
          try simp only [Act.put, List.setIfInBounds_toArray, List.set_cons_succ, List.set_cons_zero]
          refine Agg.wp_region_later_lit (by kernel_rfl) (by kernel_rfl) ?_
          repeat (first | go_big_quiet_skip | ((first | (with_reducible refine Agg.wpQuiet_loadL HB.out.name rfl _ rfl rfl ?_) | (with_reducible refine Agg.wpQuiet_loadL HB.out.cls rfl _ rfl rfl ?_)); simp only [Act.put, List.setIfInBounds_toArray, List.set_cons_succ, List.set_cons_zero]) | go_big_quiet_step ((go_at_call 30; exact Agg.Calls.later (refLetters_any _ x.2.2.1.2 _))))
          refine wpQuiet_nil ?_
          intro _ hw'
          obtain ⟨x1, rfl⟩ := hw'
          go_wp2_with fail
          go_roundw
          case rel => exact ⟨k + 1, by omega, by go_num, by rw [HS.out, HR.out]; exact strB (catL (headT d k) wClass x.1 (letters x.2.2.1.1)), Agg.belowThen hx5 (Nat.le_refl _) x1.h⟩
          case measure => simp [intOf]; omega
        | false =>
          have HR : Hid (lineT x = wSrc ++ x.1 ++ [32] ++ pathS x.2.1.1.1 x.2.1.1.2) := Lib.hid (by simp [lineT, his])
          go_wp2_with (first | (with_reducible refine Agg.wpList_loadL HD3.out.inp rfl _ rfl rfl ?_) | (with_reducible refine Agg.wpList_loadL HL.out rfl _ rfl rfl ?_) | (refine Agg.wpList_new rfl rfl rfl 64 6 27 rfl rfl rfl (by decide) (nmC zN) (nmC x) nmC_zero (by rw [nmC_size, nmC_size]) (nmC_info x) (nmC_one x) rfl (by simp [Act.put]) ?_; intro g2 w4 hb2 hx4 hg2) | (have his2 := (NamB.of_blk hb2).is; rw [his] at his2; refine Agg.wpList_loadL his2 rfl _ rfl rfl ?_) | (with_reducible refine Agg.wpList_loadL (NamB.of_blk hb2).src rfl _ rfl rfl ?_))

          refine (refPath_any _ _ x.2.1.2 (by omega) _).mono ?_
          rintro e w5 ⟨rfl, hx5⟩
          have HB := Lib.hid ((NamB.of_blk hb2).below hx5)
          have hx6 := Agg.belowThen (Agg.belowThen hx (Nat.le_refl _) hx4) (Nat.le_refl _) hx5
          clear hb2 hx4 hg2 his hx5
          go_wp2_with (first | (with_reducible refine Agg.wpList_loadL HB.out.name rfl _ rfl rfl ?_))

          go_roundw
          case rel => exact ⟨k + 1, by omega, by go_num, by rw [HS.out, HR.out]; exact strB (catL (headT d k) wSrc x.1 (pathS x.2.1.1.1 x.2.1.1.2)), hx6⟩
          case measure => simp [intOf]; omega
      · obtain rfl : k = d.2.1.length := by omega
        have hd1 : decide (d.2.1.length < d.2.1.length) = false := by simp
        go_wp2_with (first | (with_reducible refine Agg.wpList_loadL HD3.out.inp rfl _ rfl rfl ?_) | (with_reducible refine Agg.wpList_loadL HD3.out.rcp rfl _ rfl rfl ?_))

        refine (refDigits_any _ d.2.2 (by omega) _ (HVR.out.below hw3)).mono ?_
        rintro e w5 ⟨rfl, hx5⟩
        have hw5 := Agg.belowThen hw3 (Nat.le_refl _) hx5
        have hdl := digs16_length d.2.2
        have HTX : Hid (((((⟨(headT d d.2.1.length).toArray⟩ : ByteArray) ++ ⟨wRun.toArray⟩) ++ ⟨(digs16 d.2.2).toArray⟩) ++ ⟨([10] : List UInt8).toArray⟩) = ⟨(textD d).toArray⟩) := Lib.hid (by rw [cat4, headT_all])
        have hln := str_len' (textD d)
        clear hx5
        by_cases h2000 : (textD d).length ≤ 2000
        · have hd2 : decide (2000 < ((textD d).length : Int)) = false := by simp; omega
          have HR : Hid (putE d = 0 ∧ putB d = textD d) := Lib.hid (by simp [putE, putB, HC.out, h2000])
          have hadd := HTX.out
          simp only [wRun] at hadd
          go_wp2_with (first | (with_reducible refine wpList_toBytes (textD d) _ rfl rfl rfl ?_; intro v9 w9 hn9 hx9))
          go_ret2
          exact ⟨_, by rw [HR.out.1]; rfl, .inr ⟨w5, hw5, by rw [HR.out.2]; exact hn9⟩, Agg.belowThen hw5 (Nat.le_refl _) hx9⟩
        · have hd2 : decide (2000 < ((textD d).length : Int)) = true := by simp; omega
          have HR : Hid (putE d = 3 ∧ putB d = []) := Lib.hid (by simp [putE, putB, HC.out, h2000])
          have hadd := HTX.out
          simp only [wRun] at hadd
          go_wp2_with fail
          go_ret2
          exact ⟨_, by rw [HR.out.1]; rfl, .inl ⟨rfl, HR.out.2⟩, hw5⟩
end Go.Proofs.Ytfgjepfmcmppaaa
