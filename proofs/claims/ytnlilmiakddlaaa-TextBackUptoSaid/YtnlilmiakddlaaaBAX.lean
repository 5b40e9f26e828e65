/- spencelaw17.awake, TextUnlike (Several texts in one.) -/
import Derived.Test.YtnlilmiakddlaaaBAG
import Derived.Test.YtnlilmiakddlaaaBAK
import Derived.Test.YtnlilmiakddlaaaBAE
import Derived.Test.YtnlilmiakddlaaaBAT
/-! text.shown -/
namespace Go.Proofs.Ytnlilmiakddlaaa
open Go.RowKit Pl Go.Agg
theorem ret_str {a b : List UInt8} (h : a = b) : Ending.returned (.string ⟨a.toArray⟩) = .returned (.string ⟨b.toArray⟩) := by rw [h]
def hexA : List UInt8 := [48, 49, 50, 51, 52, 53, 54, 55, 56, 57, 97, 98, 99, 100, 101, 102]
theorem hexA_get : ∀ n, n < 16 → hexA[n]? = some (hexd n) := by decide
theorem hex_index (n : Nat) (hn : n < 16) (W : World) : (Instr.index 9 (.string ⟨#[48, 49, 50, 51, 52, 53, 54, 55, 56, 57, 97, 98, 99, 100, 101, 102]⟩) (.int .u8 (n : Int))).run Try.prog W = .ok (.int .u8 ((hexd n).toNat : Int)) W :=
  Agg.run_index_str (s := hexA) W Try.underlying9 (hexA_get n hn)
theorem and15 : ∀ n : Nat, n < 256 → bits .and .u8 (n : Int) 15 = ((n % 16 : Nat) : Int) := by decide +kernel
set_option maxRecDepth 100000 in
set_option maxHeartbeats 2000000 in
theorem shown_any (v : Value) (b : List UInt8) (hl : b.length ≤ 1048576) (w : World) (hb : BytesAt w v b) :
    Calls Try.prog 13 #[v] w fun e w' => e = .returned (.string ⟨(digs16 b).toArray⟩) ∧ Below w.heap.size w w' := by
  have hlb := bytes_len hb
  have HB := Lib.hid hb
  clear hb
  by_cases h0 : b = []
  · subst h0
    go_enter Try.func13, Try.ntmps13
    go_wp2_with fail
    go_ret
    exact ⟨rfl, Below.refl _ _⟩
  · have hq : ((b.length : Int) == 0) = false := by
      rw [beq_eq_false_iff_ne]
      have := List.length_pos_iff.2 h0
      omega
    have HD : Hid (digs16 b = hexs b) := Lib.hid (by rw [digs16, if_neg h0])
    clear h0
    go_enter Try.func13, Try.ntmps13
    go_wp2_with (first | (with_reducible refine Agg.wpList_make0 (base := w.heap.size) EB rfl .i64 .i64 _ (2 * b.length) rfl rfl (by omega) (by decide) (Nat.le_refl _) ?_; intro v1 w1 ho1 hx1))
    go_loopw [3, 15] (fun out i wr => ∃ k : Nat, k ≤ b.length ∧ i = .int .i64 k ∧ Own EB w.heap.size wr out (hexs (b.take k)) ∧ Below w.heap.size w wr) (fun _ i _ => b.length - (intOf i).toNat)
    case atStart => exact ⟨0, by omega, rfl, ho1, hx1⟩
    case round =>
      clear ho1 hx1
      obtain ⟨w2, rfl⟩ : ∃ w2 : World, w2 = wr := ⟨_, rfl⟩
      obtain ⟨k, hk, rfl, hown, hw⟩ := hrel
      have HOWN := Lib.hid hown
      clear hown
      by_cases hlt : k < b.length
      · obtain ⟨c, hck⟩ : ∃ c, b[k]? = some c := ⟨_, List.getElem?_eq_getElem hlt⟩
        obtain ⟨p, hadr, hld⟩ := byte_at (HB.out.below hw) k c hck
        have HL := Lib.hid hld
        have HS := Lib.hid (hexs_succ hck)
        have hc0 := c.toNat_lt
        have hhl := hexs_length (b.take k)
        have hkl : (b.take k).length ≤ k := List.length_take_le _ _
        clear hld hck
        go_wp2_with (first | (with_reducible refine Agg.wpList_loadL HL.out (by kernel_rfl) _ rfl rfl ?_))
        try simp only [Act.put, List.setIfInBounds_toArray, List.set_cons_succ, List.set_cons_zero]
        have hi1 : ∀ W, (Instr.index 9 (.string ⟨#[48, 49, 50, 51, 52, 53, 54, 55, 56, 57, 97, 98, 99, 100, 101, 102]⟩) (.int .u8 ((c.toNat : Int) / 16))).run Try.prog W = .ok (.int .u8 ((hexd (c.toNat / 16)).toNat : Int)) W := fun W => hex_index (c.toNat / 16) (by omega) W
        have hi2 : ∀ W, (Instr.index 9 (.string ⟨#[48, 49, 50, 51, 52, 53, 54, 55, 56, 57, 97, 98, 99, 100, 101, 102]⟩) (.int .u8 (bits .and .u8 (c.toNat : Int) 15))).run Try.prog W = .ok (.int .u8 ((hexd (c.toNat % 16)).toNat : Int)) W := fun W => by rw [and15 _ hc0]; exact hex_index (c.toNat % 16) (by omega) W
        have hbs : ∀ W, (Instr.buildSlice 23 2 #[(0, .int .u8 ((hexd (c.toNat / 16)).toNat : Int)), (1, .int .u8 ((hexd (c.toNat % 16)).toNat : Int))]).run Try.prog W = _ := fun W => Agg.run_slice_two (E := EB) (hexd (c.toNat / 16)) (hexd (c.toNat % 16)) W
        have hx2 : Below w2.heap.size w2 (w2.drew.alloc (.cells ((EB.val (hexd (c.toNat / 16))).cells ++ (EB.val (hexd (c.toNat % 16))).cells) 5)) := ((Below.refl w2.heap.size w2).drew).alloc (Nat.le_refl _) _
        have HO2 := Lib.hid (HOWN.out.below hx2)
        have HM2 : Hid (SliceOf EB (w2.drew.alloc (.cells ((EB.val (hexd (c.toNat / 16))).cells ++ (EB.val (hexd (c.toNat % 16))).cells) 5)) (.slice (some ⟨w2.heap.size, 0, none⟩) 2 2) [hexd (c.toNat / 16), hexd (c.toNat % 16)]) := Lib.hid (slice_of_block2 (Blk.new w2.drew 5 _))
        have hbase : w.heap.size ≤ (w2.drew.alloc (.cells ((EB.val (hexd (c.toNat / 16))).cells ++ (EB.val (hexd (c.toNat % 16))).cells) 5)).heap.size := Nat.le_trans hw.size hx2.size
        have h63 : (hexs (b.take k)).length + [hexd (c.toNat / 16), hexd (c.toNat % 16)].length ≤ 1099511627776 / 8 := by rw [hhl]; simp; omega
        have HX2 := Lib.hid hx2
        clear hx2
        go_region_law ((refine Agg.step_appendS (E := EB) (base := w.heap.size) rfl _ _ rfl _ rfl rfl [hexd (c.toNat / 16), hexd (c.toNat % 16)] HO2.out HM2.out h63 (by decide) hbase ?_; intro v3 w3 ho3 hp3))
        all_goals
          have hP := hp3.below w.heap.size (Nat.le_refl _) hbase
          go_wp2_with fail
          go_roundw
          case rel => exact ⟨k + 1, by omega, by go_num, by rw [HS.out]; exact ho3, (hw.trans (HX2.out.mono hw.size)).trans hP⟩
          case measure => simp [intOf]; omega
      · obtain rfl : k = b.length := by omega
        have ho := HOWN.out
        rw [List.take_length] at ho
        have HO := Lib.hid ho.slice
        clear ho
        go_wp2_with (first | (with_reducible refine wpList_toStr HO.out _ rfl (by kernel_rfl) rfl ?_))
        go_ret
        exact ⟨ret_str HD.out.symm, hw⟩
end Go.Proofs.Ytnlilmiakddlaaa
/-! text.line, text.Put -/
namespace Go.Proofs.Ytnlilmiakddlaaa
open Go.RowKit Pl Go.Agg
theorem ret_strB {a b : ByteArray} (h : a = b) : Ending.returned (.string a) = .returned (.string b) := by rw [h]
theorem pathS_le57 (h n : List UInt8) : (pathS h n).length ≤ 57 := by
  unfold pathS
  split
  · rename_i hn
    have := isName_le hn
    simp [letters_length]; omega
  · simp
theorem cat4 (a b c d : List UInt8) : (((⟨a.toArray⟩ : ByteArray) ++ ⟨b.toArray⟩) ++ ⟨c.toArray⟩) ++ ⟨d.toArray⟩ = ⟨(a ++ b ++ c ++ d).toArray⟩ := by rw [bytes_append, bytes_append, bytes_append]
set_option maxRecDepth 100000 in
set_option maxHeartbeats 2000000 in
theorem line_any (x : Nam) (h1 : x.1.length ≤ 1048576) (w : World) :
    Calls Try.prog 11 #[.agg (nmC x)] w fun e w' => e = .returned (.string ⟨(lineT x).toArray⟩) ∧ Below w.heap.size w w' := by
  have hll : (letters x.2.2.1.1).length ≤ 32 := by rw [letters_length]; omega
  have hpl := pathS_le57 x.2.1.1.1 x.2.1.1.2
  cases his : x.2.2.2 with
  | true =>
    have HR : Hid (lineT x = wClass ++ x.1 ++ [32] ++ letters x.2.2.1.1) := Lib.hid (by simp [lineT, his])
    go_enter Try.func11, Try.ntmps11
    go_wp2_with (first | (with_reducible refine Agg.wpList_box rfl 44 _ rfl (nmC x) rfl ?_; intro g w1 hb hx1 hg) | (have his2 := (NamB.of_blk hb).is; rw [his] at his2; with_reducible refine Agg.wpList_loadL his2 (by kernel_rfl) _ rfl rfl ?_))

    have HB := Lib.hid (NamB.of_blk hb)
    have hw1 := hx1
    clear hb hx1 hg his
    try simp only [Act.put, List.setIfInBounds_toArray, List.set_cons_succ, List.set_cons_zero]
    refine Agg.wp_region_later_lit (by kernel_rfl) (by kernel_rfl) ?_
    repeat (first | go_big_quiet_skip | ((first | (with_reducible refine Agg.wpQuiet_loadL HB.out.name (by kernel_rfl) _ rfl rfl ?_) | (with_reducible refine Agg.wpQuiet_loadL HB.out.cls (by kernel_rfl) _ rfl rfl ?_)); simp only [Act.put, List.setIfInBounds_toArray, List.set_cons_succ, List.set_cons_zero]) | go_big_quiet_step ((go_at_call 19; exact Agg.Calls.later (letters_any _ x.2.2.1.2 _))))
    refine wpQuiet_nil ?_
    intro _ hw'
    obtain ⟨x1, rfl⟩ := hw'
    go_wp2_with fail
    go_ret
    exact ⟨ret_strB (by rw [HR.out]; exact cat4 wClass x.1 [32] (letters x.2.2.1.1)), Agg.belowThen hw1 (Nat.le_refl _) x1.h⟩
  | false =>
    have HR : Hid (lineT x = wSrc ++ x.1 ++ [32] ++ pathS x.2.1.1.1 x.2.1.1.2) := Lib.hid (by simp [lineT, his])
    go_enter Try.func11, Try.ntmps11
    go_wp2_with (first | (with_reducible refine Agg.wpList_box rfl 44 _ rfl (nmC x) rfl ?_; intro g w1 hb hx1 hg) | (have his2 := (NamB.of_blk hb).is; rw [his] at his2; with_reducible refine Agg.wpList_loadL his2 (by kernel_rfl) _ rfl rfl ?_) | (with_reducible refine Agg.wpList_loadL (NamB.of_blk hb).src (by kernel_rfl) _ rfl rfl ?_))

    refine (path_any _ _ x.2.1.2 _).mono ?_
    rintro e w2 ⟨rfl, hx⟩
    have HB := Lib.hid ((NamB.of_blk hb).below hx)
    have hw2 := Agg.belowThen hx1 (Nat.le_refl _) hx
    clear hb hx1 hg his hx
    go_wp2_with (first | (with_reducible refine Agg.wpList_loadL HB.out.name (by kernel_rfl) _ rfl rfl ?_))

    go_ret
    exact ⟨ret_strB (by rw [HR.out]; exact cat4 wSrc x.1 [32] (pathS x.2.1.1.1 x.2.1.1.2)), hw2⟩
end Go.Proofs.Ytnlilmiakddlaaa
/-! text.Put -/
namespace Go.Proofs.Ytnlilmiakddlaaa
open Go.RowKit Pl Go.Agg
theorem join_any {base : Nat} {w : World} {v : Value} {L : List (List UInt8)} (hown : Own ES base w v L) (h0 : L ≠ []) (sep : List UInt8) (hN : L.length ≤ 140737488355328) (hlen : (Lib.join L sep).length ≤ 140737488355328) :
    Calls Try.prog 12 #[v, .string ⟨sep.toArray⟩] w fun e w' => e = .returned (.string ⟨(Lib.join L sep).toArray⟩) ∧ Below w.heap.size w w' := by
  have hs := hown.slice
  obtain ⟨_, ⟨_, hn⟩ | ⟨g, cap, cur, rfl, _, hcur, hle, _⟩⟩ := hown
  · exact absurd (List.length_eq_zero_iff.1 hn) h0
  · have hm : (L.map fun s => (⟨s.toArray⟩ : ByteArray)).map (·.data.toList) = L := by simp [Function.comp_def]
    have h := Try.strings_Join g 0 cap (L.map fun s => (⟨s.toArray⟩ : ByteArray)) ⟨sep.toArray⟩ w (fun j x hj => by
      rw [List.getElem?_map] at hj
      cases hl : L[j]? with
      | none => rw [hl] at hj; simp at hj
      | some s =>
        rw [hl] at hj
        obtain rfl := Option.some.inj hj
        rcases hs with ⟨p, c, e, rfl⟩ | ⟨p, c, e, _, hc⟩
        · simp at hl
        · injection e with e1 e2 e3
          injection e1 with e1
          subst e1
          have := hc (j * 1 + 0) (.string ⟨s.toArray⟩) (ES.flat_get L j s 0 _ hl rfl)
          rwa [add_plain, Nat.mul_one, Nat.add_zero] at this) (Agg.heap_lt hcur) (by simpa using hN) (by simpa using hle) (by rw [hm]; exact hlen)
    rw [hm] at h
    simpa using h
theorem lineT_length (x : Nam) (h : isName x.1 = true) : (lineT x).length ≤ 88 := by
  have h1 := isName_le h
  have h2 := pathS_le57 x.2.1.1.1 x.2.1.1.2
  unfold lineT
  split <;> simp [wClass, wSrc, letters_length] <;> omega
theorem canAll_name (b : List UInt8) (l : List Nam) (h : canAll b l = true) : ∀ x ∈ l, isName x.1 = true := by
  induction l generalizing b with
  | nil => simp
  | cons y l ih =>
    simp only [canAll, Bool.and_eq_true, canNm] at h
    intro x hx
    rcases List.mem_cons.1 hx with rfl | hx
    · exact h.1.1.1
    · exact ih _ h.2 x hx
theorem lines_length (l : List Nam) (h : ∀ x ∈ l, isName x.1 = true) : (l.flatMap fun x => lineT x ++ [10]).length ≤ 89 * l.length := by
  induction l with
  | nil => simp
  | cons x l ih =>
    have h1 := lineT_length x (h x (by simp))
    have h2 := ih fun y hy => h y (by simp [hy])
    simp only [List.flatMap_cons, List.length_append, List.length_cons, List.length_nil] at h2 ⊢; omega
theorem join_text (a : List UInt8) (M : List (List UInt8)) (z : List UInt8) : Lib.join (a :: M ++ [z]) [10] ++ [10] = a ++ [10] ++ M.flatMap (fun s => s ++ [10]) ++ z ++ [10] := by
  induction M generalizing a with
  | nil => simp [Lib.join]
  | cons m M ih =>
    have := ih m
    have e : Lib.join (a :: (m :: M) ++ [z]) [10] = a ++ [10] ++ Lib.join (m :: M ++ [z]) [10] := by simp [Lib.join, List.intercalate, List.intersperse]
    rw [e, List.append_assoc, this]
    simp [List.append_assoc]
theorem textD_join (d : Drv) : Lib.join ((wDrv ++ d.1) :: d.2.1.map lineT ++ [wRun ++ digs16 d.2.2]) [10] ++ [10] = textD d := by
  rw [join_text, List.flatMap_map, textD]
  simp [List.append_assoc]
theorem canDrv_parts {d : Drv} (h : canDrv d = true) : isName d.1 = true ∧ d.2.1.length ≤ 8 ∧ d.2.2.length ≤ 1000 ∧ canAll [] d.2.1 = true := by
  simp only [canDrv, Bool.and_eq_true, decide_eq_true_eq] at h
  exact ⟨h.1.1.1, h.1.1.2, h.1.2, h.2⟩
theorem textD_length {d : Drv} (h : canDrv d = true) : (textD d).length ≤ 3000 := by
  obtain ⟨h1, h2, h3, h4⟩ := canDrv_parts h
  have e1 := isName_le h1
  have e2 := lines_length d.2.1 (canAll_name _ _ h4)
  have e3 := digs16_length d.2.2
  simp only [textD, List.length_append, wDrv, wRun, List.length_cons, List.length_nil]; omega
/-- what Put hands out -/
def PutOut (w w' : World) (v : Value) (s : List UInt8) : Prop := (v = .slice none 0 0 ∧ s = []) ∨ ∃ w1, Below w.heap.size w w1 ∧ NewBytes w1 w' v s
theorem PutOut.slice {w w' : World} {v : Value} {s : List UInt8} (h : PutOut w w' v s) : BytesAt w' v s := by
  rcases h with ⟨rfl, rfl⟩ | ⟨w1, _, h⟩
  · exact SliceOf.nil _ _ _
  · exact h.slice
set_option maxRecDepth 100000 in
set_option maxHeartbeats 4000000 in
theorem put_any (v : Value) (d : Drv) (hl : d.2.1.length ≤ 1048576) (w : World) (hd : DrvAt w v d) :
    Calls Try.prog 6 #[v] w fun e w' => ∃ vb, e = .returned (.tuple #[vb, .int .i64 (putE d : Int)]) ∧ PutOut w w' vb (putB d) ∧ Below w.heap.size w w' := by
  have HD0 := Lib.hid hd
  obtain ⟨vi, vr, rfl, hvi, hvr⟩ := hd
  have hli := nams_len hvi
  have HVI := Lib.hid hvi
  have HVR := Lib.hid hvr
  clear hvi hvr
  go_enter Try.func6, Try.ntmps6
  go_wp2_with (first | (with_reducible refine Agg.wpList_box rfl 25 _ rfl (#[.string ⟨d.1.toArray⟩, vi, vr]) rfl ?_; intro g w1 hb hx1 hg) | (with_reducible refine Agg.wpList_loadL (DrvL.of_blk hb).all (by kernel_rfl) _ rfl rfl ?_))

  refine (textCan_any _ d hl _ (HD0.out.below hx1)).mono ?_
  rintro e w2 ⟨rfl, hx⟩
  have HBK := Lib.hid (hb.below hx)
  have HD := Lib.hid ((DrvL.of_blk hb).below hx)
  have hw2 := Agg.belowThen hx1 (Nat.le_refl _) hx
  clear hb hx1 hg hx
  cases hc : canDrv d with
  | false =>
    have HR : Hid (putE d = 2 ∧ putB d = []) := Lib.hid (by simp [putE, putB, hc])
    clear hc
    go_wp2_with fail
    go_ret2
    exact ⟨_, by rw [HR.out.1]; rfl, .inl ⟨rfl, HR.out.2⟩, hw2⟩
  | true =>
    have HC := Lib.hid hc
    have hparts := canDrv_parts hc
    have htl := textD_length hc
    have hn24 := isName_le hparts.1
    have hl8 := hparts.2.1
    have hr1 := hparts.2.2.1
    have HCA := Lib.hid hparts.2.2.2
    clear hc hparts
    have hsz := hw2.size
    go_wp2_with (first | (with_reducible refine Agg.wpList_loadL HD.out.name (by kernel_rfl) _ rfl rfl ?_) | (refine Agg.wpList_slice1 (E := ES) (base := w.heap.size) rfl _ rfl (wDrv ++ d.1) (congrArg Value.string (Agg.bytes_append wDrv d.1)) hsz ?_; intro v3 w3 ho3 hx3) | (with_reducible refine Agg.wpList_loadL (HD.out.below hx3).inp (by kernel_rfl) _ rfl rfl ?_))
    have HBK3 := Lib.hid (HBK.out.below hx3)
    have hw3 := Agg.belowThen hw2 (Nat.le_refl _) hx3
    have HO3 := Lib.hid ho3
    clear hx3 ho3
    go_loopw [4, 18] (fun out i wr => ∃ k : Nat, k ≤ d.2.1.length ∧ i = .int .i64 k ∧ Own ES w.heap.size wr out ((wDrv ++ d.1) :: (d.2.1.take k).map lineT) ∧ Below w.heap.size w wr ∧ Blk wr g 25 #[.string ⟨d.1.toArray⟩, vi, vr]) (fun _ i _ => d.2.1.length - (intOf i).toNat)
    case atStart => exact ⟨0, by omega, rfl, HO3.out, hw3, HBK3.out⟩
    case round =>
      obtain ⟨w4, rfl⟩ : ∃ w4 : World, w4 = wr := ⟨_, rfl⟩
      obtain ⟨k, hk, rfl, hown, hw, hdl⟩ := hrel
      have HOWN := Lib.hid hown
      have HDL := Lib.hid hdl
      clear hown hdl
      by_cases hlt : k < d.2.1.length
      · obtain ⟨x, hxk⟩ : ∃ x, d.2.1[k]? = some x := ⟨_, List.getElem?_eq_getElem hlt⟩
        obtain ⟨p, hadr, hld⟩ := nam_at (HVI.out.below hw) k x hxk
        have hxn := isName_le (canAll_name _ _ HCA.out x (List.mem_of_getElem? hxk))
        have HL := Lib.hid hld.all
        have HX := Lib.hid hxk
        have hd1 : decide (k < d.2.1.length) = true := by simpa using hlt
        clear hld hxk
        go_wp2_with (first | (with_reducible refine Agg.wpList_loadL HL.out (by kernel_rfl) _ rfl rfl ?_) | (refine Agg.wpList_new rfl rfl rfl 44 6 21 rfl rfl rfl (by decide) (nmC zN) (nmC x) nmC_zero (by rw [nmC_size, nmC_size]) (nmC_info x) (nmC_one x) rfl (by simp [Act.put]) ?_; intro g2 w5 hb2 hx5 hg2) | (with_reducible refine Agg.wpList_loadL (NamB.of_blk hb2).all (by kernel_rfl) _ rfl rfl ?_))
        have hw5 := Agg.belowThen hw (Nat.le_refl _) hx5
        have HO5 := Lib.hid (HOWN.out.below hx5)
        have HDL5 := Lib.hid (HDL.out.below hx5)
        clear hb2 hx5 hg2
        refine (line_any x (by omega) _).mono ?_
        rintro e w6 ⟨rfl, hx6⟩
        have hw6 := Agg.belowThen hw5 (Nat.le_refl _) hx6
        have HO6 := Lib.hid (HO5.out.below hx6)
        have HDL6 := Lib.hid (HDL5.out.below hx6)
        have hsz6 := hw6.size
        have h63 : ((wDrv ++ d.1) :: (d.2.1.take k).map lineT).length + 1 ≤ 1099511627776 / 8 := by simp; omega
        clear hx6
        go_wp2_with (first | (refine Agg.wpList_push (E := ES) (base := w.heap.size) rfl rfl 25 rfl _ rfl _ rfl (lineT x) rfl (fun _ => rfl) (by simp) HO6.out h63 (by decide) hsz6 ?_; intro u7 v7 w7 ho7 hp7))
        go_roundw
        case rel =>
          refine ⟨k + 1, by omega, by go_num, ?_, hw6.trans (hp7.below _ (Nat.le_refl _) hsz6), hp7.blk g _ _ _ (by decide) HDL6.out⟩
          rw [List.take_add_one, HX.out]
          simpa using ho7
        case measure => simp [intOf]; omega
      · obtain rfl : k = d.2.1.length := by omega
        have ho := HOWN.out
        rw [List.take_length] at ho
        have HO := Lib.hid ho
        have HD4 := Lib.hid (DrvL.of_blk HDL.out)
        have hd1 : decide (d.2.1.length < d.2.1.length) = false := by simp
        clear ho
        go_wp2_with (first | (with_reducible refine Agg.wpList_loadL HD4.out.rcp (by kernel_rfl) _ rfl rfl ?_))

        refine (shown_any _ d.2.2 (by omega) _ (HVR.out.below hw)).mono ?_
        rintro e w5 ⟨rfl, hx5⟩
        have hw5 := Agg.belowThen hw (Nat.le_refl _) hx5
        have HO5 := Lib.hid (HO.out.below hx5)
        have hsz5 := hw5.size
        have hdl := digs16_length d.2.2
        have h63 : ((wDrv ++ d.1) :: d.2.1.map lineT).length + 1 ≤ 1099511627776 / 8 := by simp; omega
        clear hx5
        go_wp2_with (first | (refine Agg.wpList_push (E := ES) (base := w.heap.size) rfl rfl 33 rfl _ rfl _ rfl (wRun ++ digs16 d.2.2) (congrArg Value.string (Agg.bytes_append wRun (digs16 d.2.2))) (fun _ => rfl) (by simp) HO5.out h63 (by decide) hsz5 ?_; intro u7 v7 w7 ho7 hp7))
        have hw7 := hw5.trans (hp7.below _ (Nat.le_refl _) hsz5)
        have htx := textD_join d
        have hjl : (Lib.join ((wDrv ++ d.1) :: d.2.1.map lineT ++ [wRun ++ digs16 d.2.2]) [10]).length ≤ 3000 := by
          have : (Lib.join ((wDrv ++ d.1) :: d.2.1.map lineT ++ [wRun ++ digs16 d.2.2]) [10]).length + 1 = (textD d).length := by rw [← htx]; simp
          omega
        refine (join_any ho7 (by simp) [10] (by simp; omega) (by omega)).mono ?_
        rintro e w8 ⟨rfl, hx8⟩
        have hw8 := Agg.belowThen hw7 (Nat.le_refl _) hx8
        have HTX : Hid ((⟨(Lib.join ((wDrv ++ d.1) :: d.2.1.map lineT ++ [wRun ++ digs16 d.2.2]) [10]).toArray⟩ : ByteArray) ++ ⟨#[10]⟩ = ⟨(textD d).toArray⟩) := Lib.hid (by rw [← htx]; exact Agg.bytes_append _ [10])
        have hln := str_len' (textD d)
        clear hx8 ho7 hp7 htx hw7
        generalize Lib.join ((wDrv ++ d.1) :: d.2.1.map lineT ++ [wRun ++ digs16 d.2.2]) [10] = J at *
        by_cases h2000 : (textD d).length ≤ 2000
        · have hd2 : decide (2000 < ((textD d).length : Int)) = false := by simp; omega
          have HR : Hid (putE d = 0 ∧ putB d = textD d) := Lib.hid (by simp [putE, putB, HC.out, h2000])
          have hadd := HTX.out
          go_wp2_with (first | (with_reducible refine wpList_toBytes (textD d) _ rfl (by kernel_rfl) rfl ?_; intro v9 w9 hn9 hx9))
          go_ret2
          exact ⟨_, by rw [HR.out.1]; rfl, .inr ⟨w8, hw8, by rw [HR.out.2]; exact hn9⟩, Agg.belowThen hw8 (Nat.le_refl _) hx9⟩
        · have hd2 : decide (2000 < ((textD d).length : Int)) = true := by simp; omega
          have HR : Hid (putE d = 3 ∧ putB d = []) := Lib.hid (by simp [putE, putB, HC.out, h2000])
          have hadd := HTX.out
          go_wp2_with fail
          go_ret2
          exact ⟨_, by rw [HR.out.1]; rfl, .inl ⟨rfl, HR.out.2⟩, hw8⟩
end Go.Proofs.Ytnlilmiakddlaaa
/-! spencekit.SameDrv, DrvOf -/
namespace Go.Proofs.Ytnlilmiakddlaaa
open Go.RowKit Pl Go.Agg
theorem drv_eq (c d : Drv) : decide (c = d) = ((c.1 == d.1) && (decide (c.2.1 = d.2.1) && decide (c.2.2 = d.2.2))) := by
  rw [Bool.eq_iff_iff]
  simp [Prod.ext_iff]
set_option maxRecDepth 100000 in
set_option maxHeartbeats 2000000 in
theorem sameDrv_any (v u : Value) (c d : Drv) (hc1 : c.2.1.length ≤ 1048576) (hd1 : d.2.1.length ≤ 1048576) (hc2 : c.2.2.length ≤ 1048576) (hd2 : d.2.2.length ≤ 1048576) (w : World) (hc : DrvAt w v c) (hd : DrvAt w u d) :
    Calls Try.prog 9 #[v, u] w fun e w' => e = .returned (.bool (decide (c = d))) ∧ Below w.heap.size w w' := by
  obtain ⟨vi, vr, rfl, hvi, hvr⟩ := hc
  obtain ⟨ui, ur, rfl, hui, hur⟩ := hd
  have hta := Agg.bytes_toList c.1
  have htb := Agg.bytes_toList d.1
  have H1 := Lib.hid hvi
  have H2 := Lib.hid hvr
  have H3 := Lib.hid hui
  have H4 := Lib.hid hur
  have HE := Lib.hid (drv_eq c d)
  clear hvi hvr hui hur
  cases hn : c.1 == d.1 with
  | false =>
    have HR : Hid (decide (c = d) = false) := Lib.hid (by rw [HE.out, hn]; rfl)
    go_enter Try.func9, Try.ntmps9
    go_wp2_with (first | (with_reducible refine Agg.wpList_box rfl 25 _ rfl (#[.string ⟨c.1.toArray⟩, vi, vr]) rfl ?_; intro g w1 hb hx1 hg) | (with_reducible refine Agg.wpList_box rfl 25 _ rfl (#[.string ⟨d.1.toArray⟩, ui, ur]) rfl ?_; intro g2 w2 hb2 hx2 hg2) | (with_reducible refine Agg.wpList_loadL ((DrvL.of_blk hb).below hx2).name (by kernel_rfl) _ rfl rfl ?_) | (with_reducible refine Agg.wpList_loadL (DrvL.of_blk hb2).name (by kernel_rfl) _ rfl rfl ?_) | (with_reducible refine Agg.wpList_loadL ((DrvL.of_blk hb).below hx2).inp (by kernel_rfl) _ rfl rfl ?_) | (with_reducible refine Agg.wpList_loadL (DrvL.of_blk hb2).inp (by kernel_rfl) _ rfl rfl ?_))

    go_ret
    exact ⟨ret_bool HR.out.symm, Agg.belowThen hx1 (Nat.le_refl _) hx2⟩
  | true =>
    have HN := Lib.hid hn
    go_enter Try.func9, Try.ntmps9
    go_wp2_with (first | (with_reducible refine Agg.wpList_box rfl 25 _ rfl (#[.string ⟨c.1.toArray⟩, vi, vr]) rfl ?_; intro g w1 hb hx1 hg) | (with_reducible refine Agg.wpList_box rfl 25 _ rfl (#[.string ⟨d.1.toArray⟩, ui, ur]) rfl ?_; intro g2 w2 hb2 hx2 hg2) | (with_reducible refine Agg.wpList_loadL ((DrvL.of_blk hb).below hx2).name (by kernel_rfl) _ rfl rfl ?_) | (with_reducible refine Agg.wpList_loadL (DrvL.of_blk hb2).name (by kernel_rfl) _ rfl rfl ?_) | (with_reducible refine Agg.wpList_loadL ((DrvL.of_blk hb).below hx2).inp (by kernel_rfl) _ rfl rfl ?_) | (with_reducible refine Agg.wpList_loadL (DrvL.of_blk hb2).inp (by kernel_rfl) _ rfl rfl ?_))

    have hw2 := Agg.belowThen hx1 (Nat.le_refl _) hx2
    refine (sameNams_any _ _ _ _ hc1 hd1 _ (H1.out.below hw2) (H3.out.below hw2)).mono ?_
    rintro e w3 ⟨rfl, hx⟩
    have HD1 := Lib.hid (((DrvL.of_blk hb).below hx2).below hx)
    have HD2 := Lib.hid ((DrvL.of_blk hb2).below hx)
    have hw3 := Agg.belowThen hw2 (Nat.le_refl _) hx
    clear hx hb hb2 hx1 hx2 hg hg2 hw2
    cases hi : decide (c.2.1 = d.2.1) with
    | false =>
      have HR : Hid (decide (c = d) = false) := Lib.hid (by rw [HE.out, HN.out, hi]; rfl)
      clear hi
      go_wp2_with fail
      go_ret
      exact ⟨ret_bool HR.out.symm, hw3⟩
    | true =>
      have HR : Hid (decide (c = d) = decide (c.2.2 = d.2.2)) := Lib.hid (by rw [HE.out, HN.out, hi]; rfl)
      clear hi
      go_wp2_with (first | (with_reducible refine Agg.wpList_loadL HD1.out.rcp (by kernel_rfl) _ rfl rfl ?_) | (with_reducible refine Agg.wpList_loadL HD2.out.rcp (by kernel_rfl) _ rfl rfl ?_))

      refine (sameBytes_any _ _ _ _ hc2 hd2 _ (H2.out.below hw3) (H4.out.below hw3)).mono ?_
      rintro e w4 ⟨rfl, hx⟩
      have hw4 := Agg.belowThen hw3 (Nat.le_refl _) hx
      clear hx
      generalize decide (c.2.2 = d.2.2) = b at *
      go_wp2_with fail
      go_ret
      exact ⟨ret_bool HR.out.symm, hw4⟩
/-! DrvOf -/
theorem ret_nat {a b : Nat} (h : a = b) : Ending.returned (.int .i64 (a : Int)) = .returned (.int .i64 (b : Int)) := by rw [h]
def nmSz (x : Nam) : Nat := 1 + x.1.length + x.2.1.1.2.length
def drvGo (m : Nat) : Nat → List Nam → Nat
  | n, [] => n
  | n, x :: l => if n ≤ m then drvGo m (n + nmSz x) l else n
def drvN (m : Nat) (d : Drv) : Nat := drvGo m (1 + d.1.length + d.2.2.length) d.2.1
def namsSz (l : List Nam) : Nat := (l.map nmSz).sum
theorem drop_at {α : Type} {l : List α} {k : Nat} {x : α} (h : l[k]? = some x) : l.drop k = x :: l.drop (k + 1) := by
  obtain ⟨hk, rfl⟩ := List.getElem?_eq_some_iff.1 h
  exact List.drop_eq_getElem_cons hk
theorem drvGo_le (m : Nat) (l : List Nam) (n : Nat) : drvGo m n l ≤ n + namsSz l := by
  induction l generalizing n with
  | nil => simp [drvGo]
  | cons x l ih =>
    unfold drvGo
    split
    · have := ih (n + nmSz x)
      simp only [namsSz, List.map_cons, List.sum_cons] at this ⊢; omega
    · simp only [namsSz, List.map_cons, List.sum_cons]; omega
set_option maxRecDepth 100000 in
set_option maxHeartbeats 2000000 in
theorem drvOf_any (v : Value) (d : Drv) (m : Nat) (hm : m ≤ 1048576) (h1 : d.1.length ≤ 1048576) (h2 : d.2.2.length ≤ 1048576) (h3 : d.2.1.length ≤ 1048576) (h4 : namsSz d.2.1 ≤ 4194304) (w : World) (hd : DrvAt w v d) :
    Calls Try.prog 5 #[v, .int .i64 (m : Int)] w fun e w' => e = .returned (.int .i64 (drvN m d : Int)) ∧ Below w.heap.size w w' := by
  obtain ⟨vi, vr, rfl, hvi, hvr⟩ := hd
  have hli := nams_len hvi
  have hlr := bytes_len hvr
  have hls := str_len' d.1
  have HVI := Lib.hid hvi
  clear hvi hvr
  go_enter Try.func5, Try.ntmps5
  go_wp2_with (first | (with_reducible refine Agg.wpList_box rfl 25 _ rfl (#[.string ⟨d.1.toArray⟩, vi, vr]) rfl ?_; intro g w1 hb hx1 hg) | (with_reducible refine Agg.wpList_loadL (DrvL.of_blk hb).name (by kernel_rfl) _ rfl rfl ?_) | (with_reducible refine Agg.wpList_loadL (DrvL.of_blk hb).rcp (by kernel_rfl) _ rfl rfl ?_))

  have HD := Lib.hid (DrvL.of_blk hb)
  have HVI1 := Lib.hid (HVI.out.below hx1)
  have hw1 := hx1
  clear hb hx1 hg hls hlr
  obtain ⟨N0, hN0⟩ : ∃ n : Nat, n = 1 + d.1.length + d.2.2.length := ⟨_, rfl⟩
  have HN0 := Lib.hid hN0
  clear hN0
  go_loopw [5, 6] (fun n i wr => ∃ (k N : Nat), k ≤ d.2.1.length ∧ i = .int .i64 k ∧ n = .int .i64 (N : Int) ∧ drvGo m N (d.2.1.drop k) = drvN m d ∧ N + namsSz (d.2.1.drop k) ≤ 8388608 ∧ Below w1.heap.size w1 wr) (fun _ i _ => d.2.1.length - (intOf i).toNat)
  case atStart => exact ⟨0, N0, by omega, rfl, by rw [HN0.out]; simp, by rw [HN0.out]; rfl, by rw [HN0.out]; simp; omega, Below.refl _ _⟩
  case round =>
    obtain ⟨w2, rfl⟩ : ∃ w2 : World, w2 = wr := ⟨_, rfl⟩
    obtain ⟨k, N, hk, rfl, rfl, hgo, hbd, hx⟩ := hrel
    have HD2 := Lib.hid (HD.out.below hx)
    have hNb : N ≤ 8388608 := by omega
    by_cases hlt : k < d.2.1.length ∧ N ≤ m
    · obtain ⟨hlt, hNm⟩ := hlt
      obtain ⟨x, hxk⟩ : ∃ x, d.2.1[k]? = some x := ⟨_, List.getElem?_eq_getElem hlt⟩
      rw [drop_at hxk] at hgo hbd
      have hgo2 : drvGo m (N + nmSz x) (d.2.1.drop (k + 1)) = drvN m d := by rw [← hgo, drvGo, if_pos hNm]
      have hbd2 : N + nmSz x + namsSz (d.2.1.drop (k + 1)) ≤ 8388608 := by simp only [namsSz, List.map_cons, List.sum_cons] at hbd ⊢; omega
      have hbb : x.1.length + x.2.1.1.2.length ≤ 8388608 := by unfold nmSz at hbd2; omega
      have HG := Lib.hid hgo2
      have HBD := Lib.hid hbd2
      clear hgo hbd hgo2 hbd2
      obtain ⟨p, hadr, hld⟩ := nam_at (HVI1.out.below hx) k x hxk
      have HL := Lib.hid hld
      have hls1 := str_len' x.1
      have hls2 := str_len' x.2.1.1.2
      have hd1 : decide (k < d.2.1.length) = true := by simpa using hlt
      have hd2 : decide (N ≤ m) = true := by simpa using hNm
      clear hld hxk
      go_wp2_with (first | (with_reducible refine Agg.wpList_loadL HD2.out.inp (by kernel_rfl) _ rfl rfl ?_))

      try simp only [Act.put, List.setIfInBounds_toArray, List.set_cons_succ, List.set_cons_zero]
      refine Agg.wp_region_later_lit (by kernel_rfl) (by kernel_rfl) ?_
      repeat (first | go_big_quiet_skip | ((first | (with_reducible refine Agg.wpQuiet_loadL HD2.out.inp (by kernel_rfl) _ rfl rfl ?_) | (with_reducible refine Agg.wpQuiet_loadL HL.out.name (by kernel_rfl) _ rfl rfl ?_) | (with_reducible refine Agg.wpQuiet_loadL HL.out.sname (by kernel_rfl) _ rfl rfl ?_)); simp only [Act.put, List.setIfInBounds_toArray, List.set_cons_succ, List.set_cons_zero]) | go_big_quiet_step (fail))
      refine wpQuiet_nil ?_
      intro _ hw'
      obtain ⟨x1, rfl⟩ := hw'
      go_wp2_with fail
      go_roundw
      case rel => exact ⟨k + 1, N + nmSz x, by omega, by go_num, by unfold nmSz; go_num, HG.out, HBD.out, Agg.belowThen hx (Nat.le_refl _) x1.h⟩
      case measure => simp [intOf]; omega
    · have hres : drvN m d = N := by
        rw [← hgo]
        by_cases hk2 : k < d.2.1.length
        · obtain ⟨x, hxk⟩ : ∃ x, d.2.1[k]? = some x := ⟨_, List.getElem?_eq_getElem hk2⟩
          rw [drop_at hxk, drvGo, if_neg (fun h => hlt ⟨hk2, h⟩)]
        · rw [List.drop_eq_nil_of_le (by omega)]; rfl
      have HR := Lib.hid hres
      have hw2 := Agg.belowThen hw1 (Nat.le_refl _) hx
      clear hres hgo
      by_cases hk2 : k < d.2.1.length
      · have hNm : ¬ N ≤ m := fun h => hlt ⟨hk2, h⟩
        have hd1 : decide (k < d.2.1.length) = true := by simpa using hk2
        have hd2 : decide (N ≤ m) = false := by simpa using hNm
        clear hlt
        go_wp2_with (first | (with_reducible refine Agg.wpList_loadL HD2.out.inp (by kernel_rfl) _ rfl rfl ?_))

        go_ret
        exact ⟨ret_nat HR.out.symm, hw2⟩
      · have hd1 : decide (k < d.2.1.length) = false := by simpa using hk2
        clear hlt
        go_wp2_with (first | (with_reducible refine Agg.wpList_loadL HD2.out.inp (by kernel_rfl) _ rfl rfl ?_))

        go_ret
        exact ⟨ret_nat HR.out.symm, hw2⟩
end Go.Proofs.Ytnlilmiakddlaaa
/-! spencelaw17.awake, TextUnlike -/
namespace Go.Proofs.Ytnlilmiakddlaaa
open Go.RowKit Pl Go.Agg
def aDrv : Drv := ([97], [], [1, 255])
theorem aDrv_put : putE aDrv = 0 ∧ putB aDrv = [100, 114, 118, 32, 97, 10, 114, 117, 110, 32, 48, 49, 102, 102, 10] := by decide +kernel
theorem build_drv (p : Option Addr) (n c : Nat) (w : World) : (Instr.build 25 #[(0, .string ⟨#[97]⟩), (2, .slice p n c)]).run Try.prog w = .ok (.agg #[.string ⟨#[97]⟩, .slice none 0 0, .slice p n c]) w := by kernel_rfl
set_option maxRecDepth 100000 in
set_option maxHeartbeats 2000000 in
theorem awake17_any (w : World) : Calls Try.prog 4 #[] w fun e w' => e = .returned (.bool true) ∧ Below w.heap.size w w' := by
  go_enter Try.func4, Try.ntmps4
  go_wp2_with (first | (with_reducible refine Agg.wpList_slice2 (E := EB) rfl _ _ rfl 1 255 rfl rfl ?_; intro v1 w1 hs1 hx1; obtain ⟨p1, c1, rfl⟩ := hs1.form) | (with_reducible refine Agg.wpList_build2 25 0 _ 2 _ rfl (by kernel_rfl) (.string ⟨#[97]⟩) (.slice p1 [(1 : UInt8), 255].length c1) rfl rfl (.agg #[.string ⟨#[97]⟩, .slice none 0 0, .slice p1 [(1 : UInt8), 255].length c1]) (build_drv p1 _ c1) ?_))
  refine (put_any _ aDrv (by decide) _ ⟨_, _, rfl, SliceOf.nil _ _ _, hs1⟩).mono ?_
  rintro e w2 ⟨vb, rfl, hout, hx⟩
  have HS := Lib.hid hout.slice
  rw [aDrv_put.1]
  have hw2 := Agg.belowThen hx1 (Nat.le_refl _) hx
  clear hout hx hx1 hs1
  have hs := HS.out
  rw [aDrv_put.2] at hs
  have HS2 := Lib.hid hs
  clear hs
  go_wp2_with (first | (with_reducible refine wpList_toStr HS2.out _ rfl (by kernel_rfl) rfl ?_))
  go_ret
  exact ⟨rfl, hw2⟩
end Go.Proofs.Ytnlilmiakddlaaa
