/- text.Put -/
import Derived.Test.YtfgjepfmcmppaaaTPut
namespace Go.Proofs.Ytfgjepfmcmppaaa
open Go.RowKit Pl Go.Agg
theorem join_any {base : Nat} {w : World} {v : Value} {L : List (List UInt8)} (hown : Own ES base w v L) (h0 : L ≠ []) (sep : List UInt8) (hN : L.length ≤ 140737488355328) (hlen : (Lib.join L sep).length ≤ 140737488355328) :
    Calls Try.prog 42 #[v, .string ⟨sep.toArray⟩] w fun e w' => e = .returned (.string ⟨(Lib.join L sep).toArray⟩) ∧ Below w.heap.size w w' := by
  have hs := hown.slice
  obtain ⟨_, ⟨_, hn⟩ | ⟨g, cap, cur, rfl, _, hcur, hle, _⟩⟩ := hown
  · exact absurd (List.length_eq_zero_iff.1 hn) h0
  · have hm : (L.map fun s => (⟨s.toArray⟩ : ByteArray)).map (·.data.toList) = L := by simp [Function.comp_def]
    have h := Try.strings_Join g 0 cap (L.map fun s => (⟨s.toArray⟩ : ByteArray)) ⟨sep.toArray⟩ w (fun j x hj => by
      rw [List.getElem?_map] at hj
      cases hl : L[j]? with
      | none => rw [hl] at hj; simp at hj
      | some s =>
        rw [hl] at hj
        obtain rfl := Option.some.inj hj
        rcases hs with ⟨p, c, e, rfl⟩ | ⟨p, c, e, _, hc⟩
        · simp at hl
        · injection e with e1 e2 e3
          injection e1 with e1
          subst e1
          have := hc (j * 1 + 0) (.string ⟨s.toArray⟩) (ES.flat_get L j s 0 _ hl rfl)
          rwa [add_plain, Nat.mul_one, Nat.add_zero] at this) (Agg.heap_lt hcur) (by simpa using hN) (by simpa using hle) (by rw [hm]; exact hlen)
    rw [hm] at h
    simpa using h
theorem lineT_length (x : Nam) (h : isName x.1 = true) : (lineT x).length ≤ 88 := by
  have h1 := isName_le h
  have h2 := pathS_le57 x.2.1.1.1 x.2.1.1.2
  unfold lineT
  split <;> simp [wClass, wSrc, letters_length] <;> omega
theorem canAll_name (b : List UInt8) (l : List Nam) (h : canAll b l = true) : ∀ x ∈ l, isName x.1 = true := by
  induction l generalizing b with
  | nil => simp
  | cons y l ih =>
    simp only [canAll, Bool.and_eq_true, canNm] at h
    intro x hx
    rcases List.mem_cons.1 hx with rfl | hx
    · exact h.1.1.1
    · exact ih _ h.2 x hx
theorem lines_length (l : List Nam) (h : ∀ x ∈ l, isName x.1 = true) : (l.flatMap fun x => lineT x ++ [10]).length ≤ 89 * l.length := by
  induction l with
  | nil => simp
  | cons x l ih =>
    have h1 := lineT_length x (h x (by simp))
    have h2 := ih fun y hy => h y (by simp [hy])
    simp only [List.flatMap_cons, List.length_append, List.length_cons, List.length_nil] at h2 ⊢; omega
theorem join_text (a : List UInt8) (M : List (List UInt8)) (z : List UInt8) : Lib.join (a :: M ++ [z]) [10] ++ [10] = a ++ [10] ++ M.flatMap (fun s => s ++ [10]) ++ z ++ [10] := by
  induction M generalizing a with
  | nil => simp [Lib.join]
  | cons m M ih =>
    have := ih m
    have e : Lib.join (a :: (m :: M) ++ [z]) [10] = a ++ [10] ++ Lib.join (m :: M ++ [z]) [10] := by simp [Lib.join, List.intercalate, List.intersperse]
    rw [e, List.append_assoc, this]
    simp [List.append_assoc]
theorem textD_join (d : Drv) : Lib.join ((wDrv ++ d.1) :: d.2.1.map lineT ++ [wRun ++ digs16 d.2.2]) [10] ++ [10] = textD d := by
  rw [join_text, List.flatMap_map, textD]
  simp [List.append_assoc]
theorem canDrv_parts {d : Drv} (h : canDrv d = true) : isName d.1 = true ∧ d.2.1.length ≤ 8 ∧ d.2.2.length ≤ 1000 ∧ canAll [] d.2.1 = true := by
  simp only [canDrv, Bool.and_eq_true, decide_eq_true_eq] at h
  exact ⟨h.1.1.1, h.1.1.2, h.1.2, h.2⟩
theorem textD_length {d : Drv} (h : canDrv d = true) : (textD d).length ≤ 3000 := by
  obtain ⟨h1, h2, h3, h4⟩ := canDrv_parts h
  have e1 := isName_le h1
  have e2 := lines_length d.2.1 (canAll_name _ _ h4)
  have e3 := digs16_length d.2.2
  simp only [textD, List.length_append, wDrv, wRun, List.length_cons, List.length_nil]; omega
/-- what Put hands out -/
def PutOut (w w' : World) (v : Value) (s : List UInt8) : Prop := (v = .slice none 0 0 ∧ s = []) ∨ ∃ w1, Below w.heap.size w w1 ∧ NewBytes w1 w' v s
theorem PutOut.slice {w w' : World} {v : Value} {s : List UInt8} (h : PutOut w w' v s) : BytesAt w' v s := by
  rcases h with ⟨rfl, rfl⟩ | ⟨w1, _, h⟩
  · exact SliceOf.nil _ _ _
  · exact h.slice
set_option maxRecDepth 100000 in
set_option maxHeartbeats 4000000 in
theorem put_any (v : Value) (d : Drv) (hl : d.2.1.length ≤ 1048576) (w : World) (hd : DrvAt w v d) :
    Calls Try.prog 14 #[v] w fun e w' => ∃ vb, e = .returned (.tuple #[vb, .int .i64 (putE d : Int)]) ∧ PutOut w w' vb (putB d) ∧ Below w.heap.size w w' := by
  have HD0 := Lib.hid hd
  obtain ⟨vi, vr, rfl, hvi, hvr⟩ := hd
  have hli := nams_len hvi
  have HVI := Lib.hid hvi
  have HVR := Lib.hid hvr
  clear hvi hvr
  go_enter Try.func14, Try.ntmps14
  go_wp2_with (first | (with_reducible refine Agg.wpList_box rfl 25 _ rfl (#[.string ⟨d.1.toArray⟩, vi, vr]) rfl ?_; intro g w1 hb hx1 hg) | (with_reducible refine Agg.wpList_loadL (DrvL.of_blk hb).all (by kernel_rfl) _ rfl rfl ?_))

  refine (textCan_any _ d hl _ (HD0.out.below hx1)).mono ?_
  rintro e w2 ⟨rfl, hx⟩
  have HBK := Lib.hid (hb.below hx)
  have HD := Lib.hid ((DrvL.of_blk hb).below hx)
  have hw2 := Agg.belowThen hx1 (Nat.le_refl _) hx
  clear hb hx1 hg hx
  cases hc : canDrv d with
  | false =>
    have HR : Hid (putE d = 2 ∧ putB d = []) := Lib.hid (by simp [putE, putB, hc])
    clear hc
    go_wp2_with fail
    go_ret2
    exact ⟨_, by rw [HR.out.1]; rfl, .inl ⟨rfl, HR.out.2⟩, hw2⟩
  | true =>
    have HC := Lib.hid hc
    have hparts := canDrv_parts hc
    have htl := textD_length hc
    have hn24 := isName_le hparts.1
    have hl8 := hparts.2.1
    have hr1 := hparts.2.2.1
    have HCA := Lib.hid hparts.2.2.2
    clear hc hparts
    have hsz := hw2.size
    go_wp2_with (first | (with_reducible refine Agg.wpList_loadL HD.out.name (by kernel_rfl) _ rfl rfl ?_) | (refine Agg.wpList_slice1 (E := ES) (base := w.heap.size) rfl _ rfl (wDrv ++ d.1) (congrArg Value.string (Agg.bytes_append wDrv d.1)) hsz ?_; intro v3 w3 ho3 hx3) | (with_reducible refine Agg.wpList_loadL (HD.out.below hx3).inp (by kernel_rfl) _ rfl rfl ?_))
    have HBK3 := Lib.hid (HBK.out.below hx3)
    have hw3 := Agg.belowThen hw2 (Nat.le_refl _) hx3
    have HO3 := Lib.hid ho3
    clear hx3 ho3
    go_loopw [4, 18] (fun out i wr => ∃ k : Nat, k ≤ d.2.1.length ∧ i = .int .i64 k ∧ Own ES w.heap.size wr out ((wDrv ++ d.1) :: (d.2.1.take k).map lineT) ∧ Below w.heap.size w wr ∧ Blk wr g 25 #[.string ⟨d.1.toArray⟩, vi, vr]) (fun _ i _ => d.2.1.length - (intOf i).toNat)
    case atStart => exact ⟨0, by omega, rfl, HO3.out, hw3, HBK3.out⟩
    case round =>
      obtain ⟨w4, rfl⟩ : ∃ w4 : World, w4 = wr := ⟨_, rfl⟩
      obtain ⟨k, hk, rfl, hown, hw, hdl⟩ := hrel
      have HOWN := Lib.hid hown
      have HDL := Lib.hid hdl
      clear hown hdl
      by_cases hlt : k < d.2.1.length
      · obtain ⟨x, hxk⟩ : ∃ x, d.2.1[k]? = some x := ⟨_, List.getElem?_eq_getElem hlt⟩
        obtain ⟨p, hadr, hld⟩ := nam_at (HVI.out.below hw) k x hxk
        have hxn := isName_le (canAll_name _ _ HCA.out x (List.mem_of_getElem? hxk))
        have HL := Lib.hid hld.all
        have HX := Lib.hid hxk
        have hd1 : decide (k < d.2.1.length) = true := by simpa using hlt
        clear hld hxk
        go_wp2_with (first | (with_reducible refine Agg.wpList_loadL HL.out (by kernel_rfl) _ rfl rfl ?_) | (refine Agg.wpList_new rfl rfl rfl 64 6 21 rfl rfl rfl (by decide) (nmC zN) (nmC x) nmC_zero (by rw [nmC_size, nmC_size]) (nmC_info x) (nmC_one x) rfl (by simp [Act.put]) ?_; intro g2 w5 hb2 hx5 hg2) | (with_reducible refine Agg.wpList_loadL (NamB.of_blk hb2).all (by kernel_rfl) _ rfl rfl ?_))
        have hw5 := Agg.belowThen hw (Nat.le_refl _) hx5
        have HO5 := Lib.hid (HOWN.out.below hx5)
        have HDL5 := Lib.hid (HDL.out.below hx5)
        clear hb2 hx5 hg2
        refine (line_any x (by omega) _).mono ?_
        rintro e w6 ⟨rfl, hx6⟩
        have hw6 := Agg.belowThen hw5 (Nat.le_refl _) hx6
        have HO6 := Lib.hid (HO5.out.below hx6)
        have HDL6 := Lib.hid (HDL5.out.below hx6)
        have hsz6 := hw6.size
        have h63 : ((wDrv ++ d.1) :: (d.2.1.take k).map lineT).length + 1 ≤ 1099511627776 / 8 := by simp; omega
        clear hx6
        go_wp2_with (first | (refine Agg.wpList_push (E := ES) (base := w.heap.size) rfl rfl 25 rfl _ rfl _ rfl (lineT x) rfl (fun _ => rfl) (by simp) HO6.out h63 (by decide) hsz6 ?_; intro u7 v7 w7 ho7 hp7))
        go_roundw
        case rel =>
          refine ⟨k + 1, by omega, by go_num, ?_, hw6.trans (hp7.below _ (Nat.le_refl _) hsz6), hp7.blk g _ _ _ (by decide) HDL6.out⟩
          rw [List.take_add_one, HX.out]
          simpa using ho7
        case measure => simp [intOf]; omega
      · obtain rfl : k = d.2.1.length := by omega
        have ho := HOWN.out
        rw [List.take_length] at ho
        have HO := Lib.hid ho
        have HD4 := Lib.hid (DrvL.of_blk HDL.out)
        have hd1 : decide (d.2.1.length < d.2.1.length) = false := by simp
        clear ho
        go_wp2_with (first | (with_reducible refine Agg.wpList_loadL HD4.out.rcp (by kernel_rfl) _ rfl rfl ?_))

        refine (shown_any _ d.2.2 (by omega) _ (HVR.out.below hw)).mono ?_
        rintro e w5 ⟨rfl, hx5⟩
        have hw5 := Agg.belowThen hw (Nat.le_refl _) hx5
        have HO5 := Lib.hid (HO.out.below hx5)
        have hsz5 := hw5.size
        have hdl := digs16_length d.2.2
        have h63 : ((wDrv ++ d.1) :: d.2.1.map lineT).length + 1 ≤ 1099511627776 / 8 := by simp; omega
        clear hx5
        go_wp2_with (first | (refine Agg.wpList_push (E := ES) (base := w.heap.size) rfl rfl 33 rfl _ rfl _ rfl (wRun ++ digs16 d.2.2) (congrArg Value.string (Agg.bytes_append wRun (digs16 d.2.2))) (fun _ => rfl) (by simp) HO5.out h63 (by decide) hsz5 ?_; intro u7 v7 w7 ho7 hp7))
        have hw7 := hw5.trans (hp7.below _ (Nat.le_refl _) hsz5)
        have htx := textD_join d
        have hjl : (Lib.join ((wDrv ++ d.1) :: d.2.1.map lineT ++ [wRun ++ digs16 d.2.2]) [10]).length ≤ 3000 := by
          have : (Lib.join ((wDrv ++ d.1) :: d.2.1.map lineT ++ [wRun ++ digs16 d.2.2]) [10]).length + 1 = (textD d).length := by rw [← htx]; simp
          omega
        refine (join_any ho7 (by simp) [10] (by simp; omega) (by omega)).mono ?_
        rintro e w8 ⟨rfl, hx8⟩
        have hw8 := Agg.belowThen hw7 (Nat.le_refl _) hx8
        have HTX : Hid ((⟨(Lib.join ((wDrv ++ d.1) :: d.2.1.map lineT ++ [wRun ++ digs16 d.2.2]) [10]).toArray⟩ : ByteArray) ++ ⟨#[10]⟩ = ⟨(textD d).toArray⟩) := Lib.hid (by rw [← htx]; exact Agg.bytes_append _ [10])
        have hln := str_len' (textD d)
        clear hx8 ho7 hp7 htx hw7
        generalize Lib.join ((wDrv ++ d.1) :: d.2.1.map lineT ++ [wRun ++ digs16 d.2.2]) [10] = J at *
        by_cases h2000 : (textD d).length ≤ 2000
        · have hd2 : decide (2000 < ((textD d).length : Int)) = false := by simp; omega
          have HR : Hid (putE d = 0 ∧ putB d = textD d) := Lib.hid (by simp [putE, putB, HC.out, h2000])
          have hadd := HTX.out
          go_wp2_with (first | (with_reducible refine wpList_toBytes (textD d) _ rfl (by kernel_rfl) rfl ?_; intro v9 w9 hn9 hx9))
          go_ret2
          exact ⟨_, by rw [HR.out.1]; rfl, .inr ⟨w8, hw8, by rw [HR.out.2]; exact hn9⟩, Agg.belowThen hw8 (Nat.le_refl _) hx9⟩
        · have hd2 : decide (2000 < ((textD d).length : Int)) = true := by simp; omega
          have HR : Hid (putE d = 3 ∧ putB d = []) := Lib.hid (by simp [putE, putB, HC.out, h2000])
          have hadd := HTX.out
          go_wp2_with fail
          go_ret2
          exact ⟨_, by rw [HR.out.1]; rfl, .inl ⟨rfl, HR.out.2⟩, hw8⟩
end Go.Proofs.Ytfgjepfmcmppaaa
