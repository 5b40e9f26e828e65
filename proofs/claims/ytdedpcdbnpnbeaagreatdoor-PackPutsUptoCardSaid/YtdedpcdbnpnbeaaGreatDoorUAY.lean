/- A region that draws its order, whose operations read and call, in a class of worlds; over any program. (Several texts in one.) -/
import Derived.Test.YtdedpcdbnpnbeaaGreatDoorUAP
import Derived.Test.YtdedpcdbnpnbeaaGreatDoorUAO
import Derived.Test.YtdedpcdbnpnbeaaGreatDoorUAX
import Derived.Test.YtdedpcdbnpnbeaaGreatDoorUAJ
import Derived.Test.YtdedpcdbnpnbeaaGreatDoorUAF
import Derived.Test.YtdedpcdbnpnbeaaGreatDoorUAQ
import Derived.Test.YtdedpcdbnpnbeaaGreatDoorUAA
import Derived.Test.YtdedpcdbnpnbeaaGreatDoorUAE
/-! spenceref09.text, Bytes. -/
namespace Go.Tr
open Go.Proofs.YtdedpcdbnpnbeaaGreatDoor Go.Agg
theorem kind_ok {k : Int} {b : List UInt8} {l : List K} (h : ok (.mk k b l) = true) : ∃ n : Nat, k = (n : Int) ∧ n ≤ 4 := by
  have ha : alone (.mk k b l) = true := by simp only [ok, Bool.and_eq_true] at h; exact h.1
  rcases alone_cases ha with ⟨rfl, _⟩ | ⟨_, h1, h3, _⟩
  · exact ⟨4, rfl, by omega⟩
  · exact ⟨k.toNat, by omega, by omega⟩
theorem packL_drop {l : List K} {q : Nat} {z : K} (h : l[q]? = some z) : packL (l.drop q) = encT z.1 ++ (packB z.2 ++ packL (l.drop (q + 1))) := by
  obtain ⟨hlt, he⟩ := List.getElem?_eq_some_iff.1 h
  rw [List.drop_eq_getElem_cons hlt, he]
  obtain ⟨n, t⟩ := z
  rfl
end Go.Tr
namespace Go.Proofs.YtdedpcdbnpnbeaaGreatDoor
open Go.RowKit Pl Go.Agg Go.Tr
set_option maxRecDepth 100000 in
set_option maxHeartbeats 8000000 in
theorem rtext_any (v : Value) (b : List UInt8) (hb : b.length ≤ 16777216) (w : World) (hv : BytesAt w v b) :
    Calls Tryz.prog 40 #[v] w fun e w' => ∃ v', e = .returned v' ∧ Agg.Own EB w.heap.size w' v' (encT b) ∧ Below w.heap.size w w' := by
  have hlv := fun W => bytes_len hv W
  have HV := Lib.hid hv
  clear hv
  go_enter Tryz.func40, Tryz.ntmps40
  go_wp2_with fail
  refine (refNumber_any b.length w (by omega)).mono ?_
  rintro e w1 ⟨v1, rfl, ho, hx⟩
  have h7 : (encN b.length).length ≤ 7 := encN_len' 7 _ (by omega) (by omega)
  have HO := Lib.hid ho
  have HX := Lib.hid hx
  have HV1 := Lib.hid (HV.out.below hx)
  clear ho hx
  go_wp2_with (first | (refine Agg.wpList_appendS rfl _ _ rfl v rfl rfl b HO.out HV1.out (by omega) (by decide) HX.out.size ?_; intro v2 w2 ho hpu _; have HO2 := Lib.hid ho; have HX2 := Lib.hid (HX.out.trans (hpu.below _ (Nat.le_refl _) HX.out.size)); clear ho hpu))
  go_ret
  exact ⟨_, rfl, HO2.out, HX2.out⟩
set_option maxRecDepth 100000 in
set_option maxHeartbeats 8000000 in
theorem rbytes_any : ∀ (N : Nat) (t : T) (_ : count t ≤ N) (_ : ok t = true) (_ : (packB t).length ≤ 1048576) (v : Value) (w : World) (_ : NodeAt w v t),
    Calls Tryz.prog 22 #[v] w fun e w' => ∃ v', e = .returned v' ∧ Agg.Own EB w.heap.size w' v' (packB t) ∧ Below w.heap.size w w' := by
  intro N
  induction N with
  | zero => intro t h; have := count_pos t; omega
  | succ N ih =>
  intro t hc hok hp v w hv
  obtain ⟨x, rfl, hx⟩ := hv
  obtain ⟨k, b, l⟩ := t
  obtain ⟨kx, vb, vk⟩ := x
  obtain ⟨hk, hby, ks, hsl, hkv⟩ := hx
  have hk : kx = k := hk
  subst hk
  obtain ⟨kn, rfl, hkn⟩ := kind_ok hok
  have hkl := hkv.len
  have hlk := fun W => kds_len hsl W
  rw [hkl] at hlk
  have HC := Lib.hid (fun x (hx : x ∈ l) => show count x.2 ≤ N by have h1 := countL_mem hx; simp only [count] at hc; omega)
  have HOK := Lib.hid (fun x (hx : x ∈ l) => show ok x.2 = true from okL_mem (kids_ok hok) hx)
  have HAL := Lib.hid (show alone (.mk (kn : Int) b l) = true by simp only [ok, Bool.and_eq_true] at hok; exact hok.1)
  have HIH := Lib.hid ih
  have HKV := Lib.hid hkv
  have HSL := Lib.hid hsl
  have HBY := Lib.hid hby
  have HP := Lib.hid hp
  have h2 : (encN kn).length ≤ 7 := encN_len' 7 _ (by omega) (by omega)
  clear ih hc hby hsl hkv hkl hok hp
  go_enter Tryz.func22, Tryz.ntmps22
  go_wp2_with (first | (refine Agg.wpList_box rfl 26 _ rfl (ndC (_, vb, vk)) rfl ?_; intro g1 w1 hb hx hg; have HB1 := Lib.hid hb; have HX1 := Lib.hid hx; have HG1 := Lib.hid (show w.heap.size ≤ g1 from hg); clear hb hx hg) | (with_reducible refine Agg.wpList_loadL (NdL.of_blk HB1.out).kind rfl _ rfl rfl ?_))
  refine (refNumber_any kn w1 (by omega)).mono ?_
  rintro e w2 ⟨v2, rfl, ho, hx⟩
  have HO2 := Lib.hid (ho.lower HX1.out.size)
  have HB2 := Lib.hid (HB1.out.below hx)
  have HX2 := Lib.hid (Agg.belowThen HX1.out (Nat.le_refl _) hx)
  clear ho hx
  by_cases h4 : kn = 4
  · subst h4
    obtain ⟨rfl, hl200⟩ : b = [] ∧ l.length ≤ 200 := by
      rcases alone_cases HAL.out with ⟨_, h, h200, _⟩ | ⟨h, _⟩
      · exact ⟨h, h200⟩
      · exact absurd rfl h
    have h3 : (encN l.length).length ≤ 7 := encN_len' 7 _ (by omega) (by omega)
    go_wp2_with (first | (with_reducible refine Agg.wpList_loadL (NdL.of_blk HB2.out).kind rfl _ rfl rfl ?_) | (with_reducible refine Agg.wpList_loadL (NdL.of_blk HB2.out).kids rfl _ rfl rfl ?_))
    refine (refNumber_any l.length w2 (by omega)).mono ?_
    rintro e w3 ⟨v3, rfl, ho, hx⟩
    have HN3 := Lib.hid ho.slice
    have HO3 := Lib.hid (HO2.out.below hx)
    have HB3 := Lib.hid (HB2.out.below hx)
    have HX3 := Lib.hid (Agg.belowThen HX2.out (Nat.le_refl _) hx)
    clear ho hx
    go_wp2_with (first | (refine Agg.wpList_appendS rfl _ _ rfl v3 rfl rfl (encN l.length) HO3.out HN3.out (by omega) (by decide) HX3.out.size ?_; intro v4 w4 ho hpu _; have HO4 := Lib.hid ho; have HB4 := Lib.hid (show Blk w4 g1 26 (ndC (_, vb, vk)) from hpu.blk g1 _ _ _ (show 26 ≠ 5 by decide) HB3.out); have HX4 := Lib.hid (HX3.out.trans (hpu.below _ (Nat.le_refl _) HX3.out.size)); clear ho hpu))
    go_loopw [3, 4] (fun a i wr => ∃ (q : Nat) (bs : List UInt8), q ≤ l.length ∧ i = .int .i64 (q : Int) ∧ Agg.Own EB w.heap.size wr a bs ∧ bs ++ packL (l.drop q) = packB (.mk 4 [] l) ∧ Blk wr g1 26 (ndC ((4 : Int), vb, vk)) ∧ Below w.heap.size w wr) (fun _ i _ => l.length - (intOf i).toNat)
    case atStart => exact ⟨0, _, by omega, rfl, HO4.out, by simp [packB], HB4.out, HX4.out⟩
    case round =>
      obtain ⟨w5, rfl⟩ : ∃ y : World, y = wr := ⟨_, rfl⟩
      obtain ⟨q, bs, hq, rfl, ho, heq, hb, hx⟩ := hrel
      have HO5 := Lib.hid ho
      have HEQ := Lib.hid heq
      have HB5 := Lib.hid hb
      have HX5 := Lib.hid hx
      clear ho heq hb hx
      by_cases hlt : q < l.length
      · have hlq : decide ((q : Int) < (l.length : Int)) = true := by simp; omega
        obtain ⟨z, hzk⟩ : ∃ z, l[q]? = some z := ⟨_, List.getElem?_eq_getElem hlt⟩
        obtain ⟨y, hyk, hyz, hyn⟩ := HKV.out.at_ q z hzk
        obtain ⟨p, hadr, hle9⟩ := kid_at (HSL.out.below HX5.out) q y hyk
        have HNM := Lib.hid hle9.name
        have hin := List.mem_of_getElem? hzk
        have hst := HEQ.out
        rw [packL_drop hzk] at hst
        have hlen := congrArg List.length hst
        have hpl : (packB (.mk 4 [] l)).length ≤ 1048576 := HP.out
        simp only [List.length_append] at hlen
        have hyl : y.1.length ≤ (encT z.1).length := by rw [hyz, encT, List.length_append]; omega
        have HST := Lib.hid hst
        have hsum : bs.length + (encT z.1).length + (packB z.2).length ≤ 1048576 := by omega
        have HYN := Lib.hid hyn
        have HYK := Lib.hid hyk
        have HYZ := Lib.hid hyz
        have HCZ := Lib.hid (HC.out z hin)
        have HOZ := Lib.hid (HOK.out z hin)
        clear hzk hyk hyz hyn hle9 hin hst hlen hpl
        go_wp2_with (first | (with_reducible refine Agg.wpList_loadL (NdL.of_blk HB5.out).kids rfl _ rfl rfl ?_) | (with_reducible refine Agg.wpList_loadL HNM.out rfl _ rfl rfl ?_) | (refine wpList_toBytes y.1 _ rfl rfl rfl ?_; intro vn w6 hnb hx; have HN6 := Lib.hid hnb.slice; have HO6 := Lib.hid (HO5.out.below hx); have HB6 := Lib.hid (HB5.out.below hx); have HX6 := Lib.hid (Agg.belowThen HX5.out (Nat.le_refl _) hx); clear hnb hx))
        refine (rtext_any vn y.1 (by omega) w6 HN6.out).mono ?_
        rintro e w7 ⟨v7, rfl, ho, hx⟩
        rw [HYZ.out] at ho
        have HT7 := Lib.hid ho.slice
        have HO7 := Lib.hid (HO6.out.below hx)
        have HB7 := Lib.hid (HB6.out.below hx)
        have HX7 := Lib.hid (Agg.belowThen HX6.out (Nat.le_refl _) hx)
        clear ho hx hadr
        go_wp2_with (first | (refine Agg.wpList_appendS rfl _ _ rfl v7 rfl rfl (encT z.1) HO7.out HT7.out (by omega) (by decide) HX7.out.size ?_; intro v8 w8 ho hpu _; have HO8 := Lib.hid ho; have HB8 := Lib.hid (show Blk w8 g1 26 (ndC (_, vb, vk)) from hpu.blk g1 _ _ _ (show 26 ≠ 5 by decide) HB7.out); have HX8 := Lib.hid (HX7.out.trans (hpu.below _ (Nat.le_refl _) HX7.out.size)); clear ho hpu) | (with_reducible refine Agg.wpList_loadL (NdL.of_blk HB8.out).kids rfl _ rfl rfl ?_) | (obtain ⟨p2, hadr2, hle2⟩ := kid_at (HSL.out.below HX8.out) q y HYK.out; have HND := Lib.hid hle2.node.all; clear hle2; refine Agg.wpList_valw rfl (exec_idx rfl rfl rfl (hadr2 _)) ?_) | (with_reducible refine Agg.wpList_loadL HND.out rfl _ rfl rfl ?_))
        refine (HIH.out z.2 HCZ.out HOZ.out (by omega) (.agg (ndC y.2)) w8 ⟨y.2, rfl, NodeV.below HX8.out _ _ HYN.out⟩).mono ?_
        rintro e w9 ⟨v9, rfl, ho, hx⟩
        have HT9 := Lib.hid ho.slice
        have HO9 := Lib.hid (HO8.out.below hx)
        have HB9 := Lib.hid (HB8.out.below hx)
        have HX9 := Lib.hid (Agg.belowThen HX8.out (Nat.le_refl _) hx)
        clear ho hx
        go_wp2_with (first | (refine Agg.wpList_appendS rfl _ _ rfl v9 rfl rfl (packB z.2) HO9.out HT9.out (by simp only [List.length_append]; omega) (by decide) HX9.out.size ?_; intro v10 w10 ho hpu _; have HO10 := Lib.hid ho; have HB10 := Lib.hid (show Blk w10 g1 26 (ndC (_, vb, vk)) from hpu.blk g1 _ _ _ (show 26 ≠ 5 by decide) HB9.out); have HX10 := Lib.hid (HX9.out.trans (hpu.below _ (Nat.le_refl _) HX9.out.size)); clear ho hpu))
        go_roundw
        case rel => exact ⟨q + 1, _, by omega, by go_num, HO10.out, by rw [← HST.out]; simp, HB10.out, HX10.out⟩
        case measure => simp [intOf]; omega
      · obtain rfl : q = l.length := by omega
        have hd9 : decide (((l.length : Nat) : Int) < ((l.length : Nat) : Int)) = false := by simp
        have HR := Lib.hid (show bs = packB (.mk 4 [] l) by have := HEQ.out; rwa [List.drop_length, packL, List.append_nil] at this)
        go_wp2_with (first | (with_reducible refine Agg.wpList_loadL (NdL.of_blk HB5.out).kids rfl _ rfl rfl ?_))
        go_ret
        exact ⟨_, rfl, HR.out ▸ HO5.out, HX5.out⟩
  · have hk1 : decide ((kn : Int) = 4) = false := decide_eq_false (by omega)
    have hk2 : ((kn : Int) == 4) = false := by rw [beq_eq_false_iff_ne]; omega
    have hk3 : decide (¬ (kn : Int) = 4) = true := decide_eq_true (by omega)
    have HPB := Lib.hid (show packB (.mk (kn : Int) b l) = encN kn ++ encT b by rw [packB, if_neg (by omega)]; rfl)
    have hbl : b.length ≤ 1048576 := by have h1 := HP.out; rw [HPB.out] at h1; simp only [encT, List.length_append] at h1; omega
    go_wp2_with (first | (with_reducible refine Agg.wpList_loadL (NdL.of_blk HB2.out).kind rfl _ rfl rfl ?_) | (with_reducible refine Agg.wpList_loadL (NdL.of_blk HB2.out).bytes rfl _ rfl rfl ?_))
    refine (rtext_any _ b (by omega) w2 (HBY.out.below HX2.out)).mono ?_
    rintro e w3 ⟨v3, rfl, ho, hx⟩
    have HN3 := Lib.hid ho.slice
    have HO3 := Lib.hid (HO2.out.below hx)
    have HB3 := Lib.hid (HB2.out.below hx)
    have HX3 := Lib.hid (Agg.belowThen HX2.out (Nat.le_refl _) hx)
    have h3 : (encT b).length ≤ 1048600 := by have := encN_len' 7 b.length (by omega) (by omega); rw [encT, List.length_append]; omega
    clear ho hx
    go_wp2_with (first | (refine Agg.wpList_appendS rfl _ _ rfl v3 rfl rfl (encT b) HO3.out HN3.out (by omega) (by decide) HX3.out.size ?_; intro v4 w4 ho hpu _; have HO4 := Lib.hid ho; have HB4 := Lib.hid (show Blk w4 g1 26 (ndC (_, vb, vk)) from hpu.blk g1 _ _ _ (show 26 ≠ 5 by decide) HB3.out); have HX4 := Lib.hid (HX3.out.trans (hpu.below _ (Nat.le_refl _) HX3.out.size)); clear ho hpu))
    go_ret
    exact ⟨_, rfl, HPB.out ▸ HO4.out, HX4.out⟩
end Go.Proofs.YtdedpcdbnpnbeaaGreatDoor
/-! spenceref09.Pack, Size. -/
namespace Go.Proofs.YtdedpcdbnpnbeaaGreatDoor
open Go.RowKit Pl Go.Agg Go.Tr
set_option maxRecDepth 100000 in
set_option maxHeartbeats 4000000 in
theorem rpack_any (vn : Value) (t : T) (hm : msz t ≤ 1048576) (w : World) (hv : NodeAt w vn t) :
    Calls Tryz.prog 8 #[vn] w fun e w' => ∃ v', e = .returned (.tuple #[v', .int .i64 (pkE t : Int)]) ∧ Agg.Own EB w.heap.size w' v' (pkB t) ∧ Below w.heap.size w w' := by
  obtain ⟨x, rfl, hx⟩ := hv
  have HN := Lib.hid hx
  clear hx
  go_enter Tryz.func8, Tryz.ntmps8
  go_wp2_with (first | (refine Agg.wpList_box rfl 26 _ rfl (ndC x) rfl ?_; intro g1 w1 hb hx hg; have HB1 := Lib.hid hb; have HX1 := Lib.hid hx; clear hb hx hg) | (with_reducible refine Agg.wpList_loadL (NdL.of_blk HB1.out).all rfl _ rfl rfl ?_))
  refine (rright_any (.agg (ndC x)) t hm w1 ⟨x, rfl, HN.out.below HX1.out⟩).mono ?_
  rintro e w2 ⟨rfl, hx⟩
  have HB2 := Lib.hid (HB1.out.below hx)
  have HX2 := Lib.hid (Agg.belowThen HX1.out (Nat.le_refl _) hx)
  clear hx
  cases hr : right t with
  | false =>
    have HE := Lib.hid (show pkE t = 2 ∧ pkB t = [] by simp [pkE, pkB, hr])
    clear hr
    go_wp2_with fail
    go_ret2
    exact ⟨_, by rw [HE.out.1]; rfl, by rw [HE.out.2]; exact Agg.Own.nil _ _ _, HX2.out⟩
  | true =>
    have hpl := right_pack hr
    have HOK := Lib.hid (right_okT hr)
    have HRR := Lib.hid hr
    clear hr
    go_wp2_with (first | (with_reducible refine Agg.wpList_loadL (NdL.of_blk HB2.out).all rfl _ rfl rfl ?_))
    refine (rbytes_any (count t) t (Nat.le_refl _) HOK.out (by omega) (.agg (ndC x)) w2 ⟨x, rfl, HN.out.below HX2.out⟩).mono ?_
    rintro e w3 ⟨v3, rfl, ho, hx⟩
    have hlv := fun W => bytes_len ho.slice W
    have HO3 := Lib.hid (ho.lower HX2.out.size)
    have HX3 := Lib.hid (Agg.belowThen HX2.out (Nat.le_refl _) hx)
    clear ho hx
    by_cases hc : 4096 < (packB t).length
    · have hd : decide (4096 < ((packB t).length : Int)) = true := by simp; omega
      have HE := Lib.hid (show pkE t = 3 ∧ pkB t = [] by
        have : ¬ (packB t).length ≤ 4096 := by omega
        simp [pkE, pkB, HRR.out, this])
      go_wp2_with fail
      go_ret2
      exact ⟨_, by rw [HE.out.1]; rfl, by rw [HE.out.2]; exact Agg.Own.nil _ _ _, HX3.out⟩
    · have hd : decide (4096 < ((packB t).length : Int)) = false := by simp; omega
      have HE := Lib.hid (show pkE t = 0 ∧ pkB t = packB t by
        have : (packB t).length ≤ 4096 := by omega
        simp [pkE, pkB, HRR.out, this])
      go_wp2_with fail
      go_ret2
      exact ⟨v3, by rw [HE.out.1]; rfl, by rw [HE.out.2]; exact HO3.out, HX3.out⟩
set_option maxRecDepth 100000 in
set_option maxHeartbeats 4000000 in
theorem rsize_any (vn : Value) (t : T) (hm : msz t ≤ 1048576) (w : World) (hv : NodeAt w vn t) :
    Calls Tryz.prog 11 #[vn] w fun e w' => e = .returned (.int .i64 (pkN t : Int)) ∧ Below w.heap.size w w' := by
  obtain ⟨x, rfl, hx⟩ := hv
  have HN := Lib.hid hx
  clear hx
  go_enter Tryz.func11, Tryz.ntmps11
  go_wp2_with (first | (refine Agg.wpList_box rfl 26 _ rfl (ndC x) rfl ?_; intro g1 w1 hb hx hg; have HB1 := Lib.hid hb; have HX1 := Lib.hid hx; clear hb hx hg) | (with_reducible refine Agg.wpList_loadL (NdL.of_blk HB1.out).all rfl _ rfl rfl ?_))
  refine (rright_any (.agg (ndC x)) t hm w1 ⟨x, rfl, HN.out.below HX1.out⟩).mono ?_
  rintro e w2 ⟨rfl, hx⟩
  have HB2 := Lib.hid (HB1.out.below hx)
  have HX2 := Lib.hid (Agg.belowThen HX1.out (Nat.le_refl _) hx)
  clear hx
  cases hr : right t with
  | false =>
    have HE := Lib.hid (show pkN t = 0 by simp [pkN, hr])
    clear hr
    go_wp2_with fail
    go_ret
    exact ⟨by rw [HE.out]; rfl, HX2.out⟩
  | true =>
    have hpl := right_pack hr
    have HOK := Lib.hid (right_okT hr)
    have HE := Lib.hid (show pkN t = (packB t).length by simp [pkN, hr])
    clear hr
    go_wp2_with (first | (with_reducible refine Agg.wpList_loadL (NdL.of_blk HB2.out).all rfl _ rfl rfl ?_))
    refine (rbytes_any (count t) t (Nat.le_refl _) HOK.out (by omega) (.agg (ndC x)) w2 ⟨x, rfl, HN.out.below HX2.out⟩).mono ?_
    rintro e w3 ⟨v3, rfl, ho, hx⟩
    have hlv := fun W => bytes_len ho.slice W
    have HX3 := Lib.hid (Agg.belowThen HX2.out (Nat.le_refl _) hx)
    clear ho hx
    go_wp2_with fail
    go_ret
    exact ⟨by rw [HE.out]; rfl, HX3.out⟩
end Go.Proofs.YtdedpcdbnpnbeaaGreatDoor
/-! spencekit.flatX of no rows. -/
namespace Go.Proofs.YtdedpcdbnpnbeaaGreatDoor
open Go.RowKit Pl Go.Agg
theorem wpList_makeE {P : Program} {ops : Array Oper} {rest : List Oper} {o : Oper} {a : Act} {Q : Exit → Act → World → Prop} {w : World} (hg : o.guard = none) (t e : TypeId) (x y : Operand) (ho : o.op = .makeSlice t x y) (hx : a.eval x = .int .i64 0) (hy : a.eval y = .int .i64 0)
    (h1 : P.underlying t = some (.slice e)) (h2 : ((P.info? e).bind (·.zero)).isSome = true) (h : ∀ w', Below w.heap.size w w' → wpList P ops Q rest (a.put o.dst (.slice (some ⟨w.heap.size, 0, none⟩) 0 0)) w') : wpList P ops Q (o :: rest) a w := by
  obtain ⟨z, hz⟩ := Option.isSome_iff_exists.1 h2
  obtain ⟨i, hi, hz⟩ := Option.bind_eq_some_iff.1 hz
  have hr := run_make (P := P) w t e i z h1 hi hz .i64 .i64 0 0 (by omega) (by omega) (by omega) (by omega)
  refine wpList_val hg (v := .slice (some ⟨w.heap.size, 0, none⟩) 0 0) (w' := w.alloc (.cells (madeCells z.cells (0 * i.size)) e)) ?_ (h _ ((Below.refl _ _).alloc (Nat.le_refl _) _))
  simp [execOp, ho, hx, hy, hr]
set_option maxRecDepth 100000 in
set_option maxHeartbeats 1000000 in
theorem flatLimbs_nil (w : World) : Calls Tryz.prog 41 #[.slice none 0 0] w fun e w' => e = .returned (.bool true) ∧ Below w.heap.size w w' := by
  go_enter Tryz.func41, Tryz.ntmps41
  go_wp2_with fail
  go_loopw [3] (fun i wr => i = .int .i64 0 ∧ Below w.heap.size w wr) (fun _ _ => 0)
  case atStart => exact ⟨rfl, Below.refl _ _⟩
  case round =>
  obtain ⟨w1, rfl⟩ : ∃ w2 : World, w2 = wr := ⟨_, rfl⟩
  obtain ⟨rfl, h1⟩ := hrel
  go_wp2_with (first | (with_reducible refine wpList_makeE rfl 48 137 _ _ rfl rfl rfl (by kernel_rfl) (by kernel_rfl) ?_; intro w9 h9))
  go_loopw [6] (fun i wr => i = .int .i64 0 ∧ Below w.heap.size w wr) (fun _ _ => 0)
  case atStart => exact ⟨rfl, Agg.belowThen h1 (Nat.le_refl _) h9⟩
  case round =>
  obtain ⟨w2, rfl⟩ : ∃ w2 : World, w2 = wr := ⟨_, rfl⟩
  obtain ⟨rfl, h2⟩ := hrel
  go_wp2_with fail
  go_loopw [9] (fun i wr => i = .int .i64 0 ∧ Below w.heap.size w wr) (fun _ _ => 0)
  case atStart => exact ⟨rfl, h2⟩
  case round =>
  obtain ⟨w3, rfl⟩ : ∃ w2 : World, w2 = wr := ⟨_, rfl⟩
  obtain ⟨rfl, h3⟩ := hrel
  go_wp2_with fail
  go_loopw [11] (fun i wr => i = .int .i64 0 ∧ Below w.heap.size w wr) (fun _ _ => 0)
  case atStart => exact ⟨rfl, h3⟩
  case round =>
  obtain ⟨w4, rfl⟩ : ∃ w2 : World, w2 = wr := ⟨_, rfl⟩
  obtain ⟨rfl, h4⟩ := hrel
  go_wp2_with fail
  go_loopw [14] (fun i wr => i = .int .i64 0 ∧ Below w.heap.size w wr) (fun _ _ => 0)
  case atStart => exact ⟨rfl, h4⟩
  case round =>
  obtain ⟨w5, rfl⟩ : ∃ w2 : World, w2 = wr := ⟨_, rfl⟩
  obtain ⟨rfl, h5⟩ := hrel
  go_wp2_with fail
  go_ret
  exact ⟨rfl, h5⟩
set_option maxRecDepth 100000 in
set_option maxHeartbeats 1000000 in
theorem flatWords_nil (w : World) : Calls Tryz.prog 42 #[.slice none 0 0] w fun e w' => e = .returned (.bool true) ∧ Below w.heap.size w w' := by
  go_enter Tryz.func42, Tryz.ntmps42
  go_wp2_with fail
  go_loopw [3] (fun i wr => i = .int .i64 0 ∧ Below w.heap.size w wr) (fun _ _ => 0)
  case atStart => exact ⟨rfl, Below.refl _ _⟩
  case round =>
  obtain ⟨w1, rfl⟩ : ∃ w2 : World, w2 = wr := ⟨_, rfl⟩
  obtain ⟨rfl, h1⟩ := hrel
  go_wp2_with (first | (with_reducible refine wpList_makeE rfl 49 139 _ _ rfl rfl rfl (by kernel_rfl) (by kernel_rfl) ?_; intro w9 h9))
  go_loopw [6] (fun i wr => i = .int .i64 0 ∧ Below w.heap.size w wr) (fun _ _ => 0)
  case atStart => exact ⟨rfl, Agg.belowThen h1 (Nat.le_refl _) h9⟩
  case round =>
  obtain ⟨w2, rfl⟩ : ∃ w2 : World, w2 = wr := ⟨_, rfl⟩
  obtain ⟨rfl, h2⟩ := hrel
  go_wp2_with fail
  go_loopw [9] (fun i wr => i = .int .i64 0 ∧ Below w.heap.size w wr) (fun _ _ => 0)
  case atStart => exact ⟨rfl, h2⟩
  case round =>
  obtain ⟨w3, rfl⟩ : ∃ w2 : World, w2 = wr := ⟨_, rfl⟩
  obtain ⟨rfl, h3⟩ := hrel
  go_wp2_with fail
  go_loopw [11] (fun i wr => i = .int .i64 0 ∧ Below w.heap.size w wr) (fun _ _ => 0)
  case atStart => exact ⟨rfl, h3⟩
  case round =>
  obtain ⟨w4, rfl⟩ : ∃ w2 : World, w2 = wr := ⟨_, rfl⟩
  obtain ⟨rfl, h4⟩ := hrel
  go_wp2_with fail
  go_loopw [14] (fun i wr => i = .int .i64 0 ∧ Below w.heap.size w wr) (fun _ _ => 0)
  case atStart => exact ⟨rfl, h4⟩
  case round =>
  obtain ⟨w5, rfl⟩ : ∃ w2 : World, w2 = wr := ⟨_, rfl⟩
  obtain ⟨rfl, h5⟩ := hrel
  go_wp2_with fail
  go_ret
  exact ⟨rfl, h5⟩
set_option maxRecDepth 100000 in
set_option maxHeartbeats 1000000 in
theorem flatInts_nil (w : World) : Calls Tryz.prog 43 #[.slice none 0 0] w fun e w' => e = .returned (.bool true) ∧ Below w.heap.size w w' := by
  go_enter Tryz.func43, Tryz.ntmps43
  go_wp2_with fail
  go_loopw [3] (fun i wr => i = .int .i64 0 ∧ Below w.heap.size w wr) (fun _ _ => 0)
  case atStart => exact ⟨rfl, Below.refl _ _⟩
  case round =>
  obtain ⟨w1, rfl⟩ : ∃ w2 : World, w2 = wr := ⟨_, rfl⟩
  obtain ⟨rfl, h1⟩ := hrel
  go_wp2_with (first | (with_reducible refine wpList_makeE rfl 50 140 _ _ rfl rfl rfl (by kernel_rfl) (by kernel_rfl) ?_; intro w9 h9))
  go_loopw [6] (fun i wr => i = .int .i64 0 ∧ Below w.heap.size w wr) (fun _ _ => 0)
  case atStart => exact ⟨rfl, Agg.belowThen h1 (Nat.le_refl _) h9⟩
  case round =>
  obtain ⟨w2, rfl⟩ : ∃ w2 : World, w2 = wr := ⟨_, rfl⟩
  obtain ⟨rfl, h2⟩ := hrel
  go_wp2_with fail
  go_loopw [9] (fun i wr => i = .int .i64 0 ∧ Below w.heap.size w wr) (fun _ _ => 0)
  case atStart => exact ⟨rfl, h2⟩
  case round =>
  obtain ⟨w3, rfl⟩ : ∃ w2 : World, w2 = wr := ⟨_, rfl⟩
  obtain ⟨rfl, h3⟩ := hrel
  go_wp2_with fail
  go_loopw [11] (fun i wr => i = .int .i64 0 ∧ Below w.heap.size w wr) (fun _ _ => 0)
  case atStart => exact ⟨rfl, h3⟩
  case round =>
  obtain ⟨w4, rfl⟩ : ∃ w2 : World, w2 = wr := ⟨_, rfl⟩
  obtain ⟨rfl, h4⟩ := hrel
  go_wp2_with fail
  go_loopw [14] (fun i wr => i = .int .i64 0 ∧ Below w.heap.size w wr) (fun _ _ => 0)
  case atStart => exact ⟨rfl, h4⟩
  case round =>
  obtain ⟨w5, rfl⟩ : ∃ w2 : World, w2 = wr := ⟨_, rfl⟩
  obtain ⟨rfl, h5⟩ := hrel
  go_wp2_with fail
  go_ret
  exact ⟨rfl, h5⟩
set_option maxRecDepth 100000 in
set_option maxHeartbeats 1000000 in
theorem flatLongs_nil (w : World) : Calls Tryz.prog 44 #[.slice none 0 0] w fun e w' => e = .returned (.bool true) ∧ Below w.heap.size w w' := by
  go_enter Tryz.func44, Tryz.ntmps44
  go_wp2_with fail
  go_loopw [3] (fun i wr => i = .int .i64 0 ∧ Below w.heap.size w wr) (fun _ _ => 0)
  case atStart => exact ⟨rfl, Below.refl _ _⟩
  case round =>
  obtain ⟨w1, rfl⟩ : ∃ w2 : World, w2 = wr := ⟨_, rfl⟩
  obtain ⟨rfl, h1⟩ := hrel
  go_wp2_with (first | (with_reducible refine wpList_makeE rfl 51 141 _ _ rfl rfl rfl (by kernel_rfl) (by kernel_rfl) ?_; intro w9 h9))
  go_loopw [6] (fun i wr => i = .int .i64 0 ∧ Below w.heap.size w wr) (fun _ _ => 0)
  case atStart => exact ⟨rfl, Agg.belowThen h1 (Nat.le_refl _) h9⟩
  case round =>
  obtain ⟨w2, rfl⟩ : ∃ w2 : World, w2 = wr := ⟨_, rfl⟩
  obtain ⟨rfl, h2⟩ := hrel
  go_wp2_with fail
  go_loopw [9] (fun i wr => i = .int .i64 0 ∧ Below w.heap.size w wr) (fun _ _ => 0)
  case atStart => exact ⟨rfl, h2⟩
  case round =>
  obtain ⟨w3, rfl⟩ : ∃ w2 : World, w2 = wr := ⟨_, rfl⟩
  obtain ⟨rfl, h3⟩ := hrel
  go_wp2_with fail
  go_loopw [11] (fun i wr => i = .int .i64 0 ∧ Below w.heap.size w wr) (fun _ _ => 0)
  case atStart => exact ⟨rfl, h3⟩
  case round =>
  obtain ⟨w4, rfl⟩ : ∃ w2 : World, w2 = wr := ⟨_, rfl⟩
  obtain ⟨rfl, h4⟩ := hrel
  go_wp2_with fail
  go_loopw [14] (fun i wr => i = .int .i64 0 ∧ Below w.heap.size w wr) (fun _ _ => 0)
  case atStart => exact ⟨rfl, h4⟩
  case round =>
  obtain ⟨w5, rfl⟩ : ∃ w2 : World, w2 = wr := ⟨_, rfl⟩
  obtain ⟨rfl, h5⟩ := hrel
  go_wp2_with fail
  go_ret
  exact ⟨rfl, h5⟩
set_option maxRecDepth 100000 in
set_option maxHeartbeats 1000000 in
theorem flatTexts_nil (w : World) : Calls Tryz.prog 45 #[.slice none 0 0] w fun e w' => e = .returned (.bool true) ∧ Below w.heap.size w w' := by
  go_enter Tryz.func45, Tryz.ntmps45
  go_wp2_with fail
  go_loopw [3] (fun i wr => i = .int .i64 0 ∧ Below w.heap.size w wr) (fun _ _ => 0)
  case atStart => exact ⟨rfl, Below.refl _ _⟩
  case round =>
  obtain ⟨w1, rfl⟩ : ∃ w2 : World, w2 = wr := ⟨_, rfl⟩
  obtain ⟨rfl, h1⟩ := hrel
  go_wp2_with (first | (with_reducible refine wpList_makeE rfl 52 117 _ _ rfl rfl rfl (by kernel_rfl) (by kernel_rfl) ?_; intro w9 h9))
  go_loopw [6] (fun i wr => i = .int .i64 0 ∧ Below w.heap.size w wr) (fun _ _ => 0)
  case atStart => exact ⟨rfl, Agg.belowThen h1 (Nat.le_refl _) h9⟩
  case round =>
  obtain ⟨w2, rfl⟩ : ∃ w2 : World, w2 = wr := ⟨_, rfl⟩
  obtain ⟨rfl, h2⟩ := hrel
  go_wp2_with fail
  go_loopw [9] (fun i wr => i = .int .i64 0 ∧ Below w.heap.size w wr) (fun _ _ => 0)
  case atStart => exact ⟨rfl, h2⟩
  case round =>
  obtain ⟨w3, rfl⟩ : ∃ w2 : World, w2 = wr := ⟨_, rfl⟩
  obtain ⟨rfl, h3⟩ := hrel
  go_wp2_with fail
  go_loopw [11] (fun i wr => i = .int .i64 0 ∧ Below w.heap.size w wr) (fun _ _ => 0)
  case atStart => exact ⟨rfl, h3⟩
  case round =>
  obtain ⟨w4, rfl⟩ : ∃ w2 : World, w2 = wr := ⟨_, rfl⟩
  obtain ⟨rfl, h4⟩ := hrel
  go_wp2_with fail
  go_loopw [14] (fun i wr => i = .int .i64 0 ∧ Below w.heap.size w wr) (fun _ _ => 0)
  case atStart => exact ⟨rfl, h4⟩
  case round =>
  obtain ⟨w5, rfl⟩ : ∃ w2 : World, w2 = wr := ⟨_, rfl⟩
  obtain ⟨rfl, h5⟩ := hrel
  go_wp2_with fail
  go_ret
  exact ⟨rfl, h5⟩
set_option maxRecDepth 100000 in
set_option maxHeartbeats 1000000 in
theorem flatTruths_nil (w : World) : Calls Tryz.prog 47 #[.slice none 0 0] w fun e w' => e = .returned (.bool true) ∧ Below w.heap.size w w' := by
  go_enter Tryz.func47, Tryz.ntmps47
  go_wp2_with fail
  go_loopw [3] (fun i wr => i = .int .i64 0 ∧ Below w.heap.size w wr) (fun _ _ => 0)
  case atStart => exact ⟨rfl, Below.refl _ _⟩
  case round =>
  obtain ⟨w1, rfl⟩ : ∃ w2 : World, w2 = wr := ⟨_, rfl⟩
  obtain ⟨rfl, h1⟩ := hrel
  go_wp2_with (first | (with_reducible refine wpList_makeE rfl 53 142 _ _ rfl rfl rfl (by kernel_rfl) (by kernel_rfl) ?_; intro w9 h9))
  go_loopw [6] (fun i wr => i = .int .i64 0 ∧ Below w.heap.size w wr) (fun _ _ => 0)
  case atStart => exact ⟨rfl, Agg.belowThen h1 (Nat.le_refl _) h9⟩
  case round =>
  obtain ⟨w2, rfl⟩ : ∃ w2 : World, w2 = wr := ⟨_, rfl⟩
  obtain ⟨rfl, h2⟩ := hrel
  go_wp2_with fail
  go_loopw [9] (fun i wr => i = .int .i64 0 ∧ Below w.heap.size w wr) (fun _ _ => 0)
  case atStart => exact ⟨rfl, h2⟩
  case round =>
  obtain ⟨w3, rfl⟩ : ∃ w2 : World, w2 = wr := ⟨_, rfl⟩
  obtain ⟨rfl, h3⟩ := hrel
  go_wp2_with fail
  go_loopw [11] (fun i wr => i = .int .i64 0 ∧ Below w.heap.size w wr) (fun _ _ => 0)
  case atStart => exact ⟨rfl, h3⟩
  case round =>
  obtain ⟨w4, rfl⟩ : ∃ w2 : World, w2 = wr := ⟨_, rfl⟩
  obtain ⟨rfl, h4⟩ := hrel
  go_wp2_with fail
  go_loopw [14] (fun i wr => i = .int .i64 0 ∧ Below w.heap.size w wr) (fun _ _ => 0)
  case atStart => exact ⟨rfl, h4⟩
  case round =>
  obtain ⟨w5, rfl⟩ : ∃ w2 : World, w2 = wr := ⟨_, rfl⟩
  obtain ⟨rfl, h5⟩ := hrel
  go_wp2_with fail
  go_ret
  exact ⟨rfl, h5⟩
set_option maxRecDepth 100000 in
set_option maxHeartbeats 1000000 in
theorem flatPaths_nil (w : World) : Calls Tryz.prog 48 #[.slice none 0 0] w fun e w' => e = .returned (.bool true) ∧ Below w.heap.size w w' := by
  go_enter Tryz.func48, Tryz.ntmps48
  go_wp2_with fail
  go_loopw [3] (fun i wr => i = .int .i64 0 ∧ Below w.heap.size w wr) (fun _ _ => 0)
  case atStart => exact ⟨rfl, Below.refl _ _⟩
  case round =>
  obtain ⟨w1, rfl⟩ : ∃ w2 : World, w2 = wr := ⟨_, rfl⟩
  obtain ⟨rfl, h1⟩ := hrel
  go_wp2_with (first | (with_reducible refine wpList_makeE rfl 54 143 _ _ rfl rfl rfl (by kernel_rfl) (by kernel_rfl) ?_; intro w9 h9))
  go_loopw [6] (fun i wr => i = .int .i64 0 ∧ Below w.heap.size w wr) (fun _ _ => 0)
  case atStart => exact ⟨rfl, Agg.belowThen h1 (Nat.le_refl _) h9⟩
  case round =>
  obtain ⟨w2, rfl⟩ : ∃ w2 : World, w2 = wr := ⟨_, rfl⟩
  obtain ⟨rfl, h2⟩ := hrel
  go_wp2_with fail
  go_loopw [9] (fun i wr => i = .int .i64 0 ∧ Below w.heap.size w wr) (fun _ _ => 0)
  case atStart => exact ⟨rfl, h2⟩
  case round =>
  obtain ⟨w3, rfl⟩ : ∃ w2 : World, w2 = wr := ⟨_, rfl⟩
  obtain ⟨rfl, h3⟩ := hrel
  go_wp2_with fail
  go_loopw [11] (fun i wr => i = .int .i64 0 ∧ Below w.heap.size w wr) (fun _ _ => 0)
  case atStart => exact ⟨rfl, h3⟩
  case round =>
  obtain ⟨w4, rfl⟩ : ∃ w2 : World, w2 = wr := ⟨_, rfl⟩
  obtain ⟨rfl, h4⟩ := hrel
  go_wp2_with fail
  go_loopw [14] (fun i wr => i = .int .i64 0 ∧ Below w.heap.size w wr) (fun _ _ => 0)
  case atStart => exact ⟨rfl, h4⟩
  case round =>
  obtain ⟨w5, rfl⟩ : ∃ w2 : World, w2 = wr := ⟨_, rfl⟩
  obtain ⟨rfl, h5⟩ := hrel
  go_wp2_with fail
  go_ret
  exact ⟨rfl, h5⟩
set_option maxRecDepth 100000 in
set_option maxHeartbeats 1000000 in
theorem flatKids_nil (w : World) : Calls Tryz.prog 49 #[.slice none 0 0] w fun e w' => e = .returned (.bool true) ∧ Below w.heap.size w w' := by
  go_enter Tryz.func49, Tryz.ntmps49
  go_wp2_with fail
  go_loopw [3] (fun i wr => i = .int .i64 0 ∧ Below w.heap.size w wr) (fun _ _ => 0)
  case atStart => exact ⟨rfl, Below.refl _ _⟩
  case round =>
  obtain ⟨w1, rfl⟩ : ∃ w2 : World, w2 = wr := ⟨_, rfl⟩
  obtain ⟨rfl, h1⟩ := hrel
  go_wp2_with (first | (with_reducible refine wpList_makeE rfl 55 24 _ _ rfl rfl rfl (by kernel_rfl) (by kernel_rfl) ?_; intro w9 h9))
  go_loopw [6] (fun i wr => i = .int .i64 0 ∧ Below w.heap.size w wr) (fun _ _ => 0)
  case atStart => exact ⟨rfl, Agg.belowThen h1 (Nat.le_refl _) h9⟩
  case round =>
  obtain ⟨w2, rfl⟩ : ∃ w2 : World, w2 = wr := ⟨_, rfl⟩
  obtain ⟨rfl, h2⟩ := hrel
  go_wp2_with fail
  go_loopw [9] (fun i wr => i = .int .i64 0 ∧ Below w.heap.size w wr) (fun _ _ => 0)
  case atStart => exact ⟨rfl, h2⟩
  case round =>
  obtain ⟨w3, rfl⟩ : ∃ w2 : World, w2 = wr := ⟨_, rfl⟩
  obtain ⟨rfl, h3⟩ := hrel
  go_wp2_with fail
  go_loopw [11] (fun i wr => i = .int .i64 0 ∧ Below w.heap.size w wr) (fun _ _ => 0)
  case atStart => exact ⟨rfl, h3⟩
  case round =>
  obtain ⟨w4, rfl⟩ : ∃ w2 : World, w2 = wr := ⟨_, rfl⟩
  obtain ⟨rfl, h4⟩ := hrel
  go_wp2_with fail
  go_loopw [14] (fun i wr => i = .int .i64 0 ∧ Below w.heap.size w wr) (fun _ _ => 0)
  case atStart => exact ⟨rfl, h4⟩
  case round =>
  obtain ⟨w5, rfl⟩ : ∃ w2 : World, w2 = wr := ⟨_, rfl⟩
  obtain ⟨rfl, h5⟩ := hrel
  go_wp2_with fail
  go_ret
  exact ⟨rfl, h5⟩
set_option maxRecDepth 100000 in
set_option maxHeartbeats 1000000 in
theorem flatNodes_nil (w : World) : Calls Tryz.prog 50 #[.slice none 0 0] w fun e w' => e = .returned (.bool true) ∧ Below w.heap.size w w' := by
  go_enter Tryz.func50, Tryz.ntmps50
  go_wp2_with fail
  go_loopw [3] (fun i wr => i = .int .i64 0 ∧ Below w.heap.size w wr) (fun _ _ => 0)
  case atStart => exact ⟨rfl, Below.refl _ _⟩
  case round =>
  obtain ⟨w1, rfl⟩ : ∃ w2 : World, w2 = wr := ⟨_, rfl⟩
  obtain ⟨rfl, h1⟩ := hrel
  go_wp2_with (first | (with_reducible refine wpList_makeE rfl 56 149 _ _ rfl rfl rfl (by kernel_rfl) (by kernel_rfl) ?_; intro w9 h9))
  go_loopw [6] (fun i wr => i = .int .i64 0 ∧ Below w.heap.size w wr) (fun _ _ => 0)
  case atStart => exact ⟨rfl, Agg.belowThen h1 (Nat.le_refl _) h9⟩
  case round =>
  obtain ⟨w2, rfl⟩ : ∃ w2 : World, w2 = wr := ⟨_, rfl⟩
  obtain ⟨rfl, h2⟩ := hrel
  go_wp2_with fail
  go_loopw [9] (fun i wr => i = .int .i64 0 ∧ Below w.heap.size w wr) (fun _ _ => 0)
  case atStart => exact ⟨rfl, h2⟩
  case round =>
  obtain ⟨w3, rfl⟩ : ∃ w2 : World, w2 = wr := ⟨_, rfl⟩
  obtain ⟨rfl, h3⟩ := hrel
  go_wp2_with fail
  go_loopw [11] (fun i wr => i = .int .i64 0 ∧ Below w.heap.size w wr) (fun _ _ => 0)
  case atStart => exact ⟨rfl, h3⟩
  case round =>
  obtain ⟨w4, rfl⟩ : ∃ w2 : World, w2 = wr := ⟨_, rfl⟩
  obtain ⟨rfl, h4⟩ := hrel
  go_wp2_with fail
  go_loopw [14] (fun i wr => i = .int .i64 0 ∧ Below w.heap.size w wr) (fun _ _ => 0)
  case atStart => exact ⟨rfl, h4⟩
  case round =>
  obtain ⟨w5, rfl⟩ : ∃ w2 : World, w2 = wr := ⟨_, rfl⟩
  obtain ⟨rfl, h5⟩ := hrel
  go_wp2_with fail
  go_ret
  exact ⟨rfl, h5⟩
set_option maxRecDepth 100000 in
set_option maxHeartbeats 1000000 in
theorem flatLines_nil (w : World) : Calls Tryz.prog 51 #[.slice none 0 0] w fun e w' => e = .returned (.bool true) ∧ Below w.heap.size w w' := by
  go_enter Tryz.func51, Tryz.ntmps51
  go_wp2_with fail
  go_loopw [3] (fun i wr => i = .int .i64 0 ∧ Below w.heap.size w wr) (fun _ _ => 0)
  case atStart => exact ⟨rfl, Below.refl _ _⟩
  case round =>
  obtain ⟨w1, rfl⟩ : ∃ w2 : World, w2 = wr := ⟨_, rfl⟩
  obtain ⟨rfl, h1⟩ := hrel
  go_wp2_with (first | (with_reducible refine wpList_makeE rfl 57 151 _ _ rfl rfl rfl (by kernel_rfl) (by kernel_rfl) ?_; intro w9 h9))
  go_loopw [6] (fun i wr => i = .int .i64 0 ∧ Below w.heap.size w wr) (fun _ _ => 0)
  case atStart => exact ⟨rfl, Agg.belowThen h1 (Nat.le_refl _) h9⟩
  case round =>
  obtain ⟨w2, rfl⟩ : ∃ w2 : World, w2 = wr := ⟨_, rfl⟩
  obtain ⟨rfl, h2⟩ := hrel
  go_wp2_with fail
  go_loopw [9] (fun i wr => i = .int .i64 0 ∧ Below w.heap.size w wr) (fun _ _ => 0)
  case atStart => exact ⟨rfl, h2⟩
  case round =>
  obtain ⟨w3, rfl⟩ : ∃ w2 : World, w2 = wr := ⟨_, rfl⟩
  obtain ⟨rfl, h3⟩ := hrel
  go_wp2_with fail
  go_loopw [11] (fun i wr => i = .int .i64 0 ∧ Below w.heap.size w wr) (fun _ _ => 0)
  case atStart => exact ⟨rfl, h3⟩
  case round =>
  obtain ⟨w4, rfl⟩ : ∃ w2 : World, w2 = wr := ⟨_, rfl⟩
  obtain ⟨rfl, h4⟩ := hrel
  go_wp2_with fail
  go_loopw [14] (fun i wr => i = .int .i64 0 ∧ Below w.heap.size w wr) (fun _ _ => 0)
  case atStart => exact ⟨rfl, h4⟩
  case round =>
  obtain ⟨w5, rfl⟩ : ∃ w2 : World, w2 = wr := ⟨_, rfl⟩
  obtain ⟨rfl, h5⟩ := hrel
  go_wp2_with fail
  go_ret
  exact ⟨rfl, h5⟩
set_option maxRecDepth 100000 in
set_option maxHeartbeats 1000000 in
theorem flatChanges_nil (w : World) : Calls Tryz.prog 52 #[.slice none 0 0] w fun e w' => e = .returned (.bool true) ∧ Below w.heap.size w w' := by
  go_enter Tryz.func52, Tryz.ntmps52
  go_wp2_with fail
  go_loopw [3] (fun i wr => i = .int .i64 0 ∧ Below w.heap.size w wr) (fun _ _ => 0)
  case atStart => exact ⟨rfl, Below.refl _ _⟩
  case round =>
  obtain ⟨w1, rfl⟩ : ∃ w2 : World, w2 = wr := ⟨_, rfl⟩
  obtain ⟨rfl, h1⟩ := hrel
  go_wp2_with (first | (with_reducible refine wpList_makeE rfl 58 156 _ _ rfl rfl rfl (by kernel_rfl) (by kernel_rfl) ?_; intro w9 h9))
  go_loopw [6] (fun i wr => i = .int .i64 0 ∧ Below w.heap.size w wr) (fun _ _ => 0)
  case atStart => exact ⟨rfl, Agg.belowThen h1 (Nat.le_refl _) h9⟩
  case round =>
  obtain ⟨w2, rfl⟩ : ∃ w2 : World, w2 = wr := ⟨_, rfl⟩
  obtain ⟨rfl, h2⟩ := hrel
  go_wp2_with fail
  go_loopw [9] (fun i wr => i = .int .i64 0 ∧ Below w.heap.size w wr) (fun _ _ => 0)
  case atStart => exact ⟨rfl, h2⟩
  case round =>
  obtain ⟨w3, rfl⟩ : ∃ w2 : World, w2 = wr := ⟨_, rfl⟩
  obtain ⟨rfl, h3⟩ := hrel
  go_wp2_with fail
  go_loopw [11] (fun i wr => i = .int .i64 0 ∧ Below w.heap.size w wr) (fun _ _ => 0)
  case atStart => exact ⟨rfl, h3⟩
  case round =>
  obtain ⟨w4, rfl⟩ : ∃ w2 : World, w2 = wr := ⟨_, rfl⟩
  obtain ⟨rfl, h4⟩ := hrel
  go_wp2_with fail
  go_loopw [14] (fun i wr => i = .int .i64 0 ∧ Below w.heap.size w wr) (fun _ _ => 0)
  case atStart => exact ⟨rfl, h4⟩
  case round =>
  obtain ⟨w5, rfl⟩ : ∃ w2 : World, w2 = wr := ⟨_, rfl⟩
  obtain ⟨rfl, h5⟩ := hrel
  go_wp2_with fail
  go_ret
  exact ⟨rfl, h5⟩
set_option maxRecDepth 100000 in
set_option maxHeartbeats 1000000 in
theorem flatRuns_nil (w : World) : Calls Tryz.prog 53 #[.slice none 0 0] w fun e w' => e = .returned (.bool true) ∧ Below w.heap.size w w' := by
  go_enter Tryz.func53, Tryz.ntmps53
  go_wp2_with fail
  go_loopw [3] (fun i wr => i = .int .i64 0 ∧ Below w.heap.size w wr) (fun _ _ => 0)
  case atStart => exact ⟨rfl, Below.refl _ _⟩
  case round =>
  obtain ⟨w1, rfl⟩ : ∃ w2 : World, w2 = wr := ⟨_, rfl⟩
  obtain ⟨rfl, h1⟩ := hrel
  go_wp2_with (first | (with_reducible refine wpList_makeE rfl 59 161 _ _ rfl rfl rfl (by kernel_rfl) (by kernel_rfl) ?_; intro w9 h9))
  go_loopw [6] (fun i wr => i = .int .i64 0 ∧ Below w.heap.size w wr) (fun _ _ => 0)
  case atStart => exact ⟨rfl, Agg.belowThen h1 (Nat.le_refl _) h9⟩
  case round =>
  obtain ⟨w2, rfl⟩ : ∃ w2 : World, w2 = wr := ⟨_, rfl⟩
  obtain ⟨rfl, h2⟩ := hrel
  go_wp2_with fail
  go_loopw [9] (fun i wr => i = .int .i64 0 ∧ Below w.heap.size w wr) (fun _ _ => 0)
  case atStart => exact ⟨rfl, h2⟩
  case round =>
  obtain ⟨w3, rfl⟩ : ∃ w2 : World, w2 = wr := ⟨_, rfl⟩
  obtain ⟨rfl, h3⟩ := hrel
  go_wp2_with fail
  go_loopw [11] (fun i wr => i = .int .i64 0 ∧ Below w.heap.size w wr) (fun _ _ => 0)
  case atStart => exact ⟨rfl, h3⟩
  case round =>
  obtain ⟨w4, rfl⟩ : ∃ w2 : World, w2 = wr := ⟨_, rfl⟩
  obtain ⟨rfl, h4⟩ := hrel
  go_wp2_with fail
  go_loopw [14] (fun i wr => i = .int .i64 0 ∧ Below w.heap.size w wr) (fun _ _ => 0)
  case atStart => exact ⟨rfl, h4⟩
  case round =>
  obtain ⟨w5, rfl⟩ : ∃ w2 : World, w2 = wr := ⟨_, rfl⟩
  obtain ⟨rfl, h5⟩ := hrel
  go_wp2_with fail
  go_ret
  exact ⟨rfl, h5⟩
set_option maxRecDepth 100000 in
set_option maxHeartbeats 1000000 in
theorem flatObjects_nil (w : World) : Calls Tryz.prog 54 #[.slice none 0 0] w fun e w' => e = .returned (.bool true) ∧ Below w.heap.size w w' := by
  go_enter Tryz.func54, Tryz.ntmps54
  go_wp2_with fail
  go_loopw [3] (fun i wr => i = .int .i64 0 ∧ Below w.heap.size w wr) (fun _ _ => 0)
  case atStart => exact ⟨rfl, Below.refl _ _⟩
  case round =>
  obtain ⟨w1, rfl⟩ : ∃ w2 : World, w2 = wr := ⟨_, rfl⟩
  obtain ⟨rfl, h1⟩ := hrel
  go_wp2_with (first | (with_reducible refine wpList_makeE rfl 60 165 _ _ rfl rfl rfl (by kernel_rfl) (by kernel_rfl) ?_; intro w9 h9))
  go_loopw [6] (fun i wr => i = .int .i64 0 ∧ Below w.heap.size w wr) (fun _ _ => 0)
  case atStart => exact ⟨rfl, Agg.belowThen h1 (Nat.le_refl _) h9⟩
  case round =>
  obtain ⟨w2, rfl⟩ : ∃ w2 : World, w2 = wr := ⟨_, rfl⟩
  obtain ⟨rfl, h2⟩ := hrel
  go_wp2_with fail
  go_loopw [9] (fun i wr => i = .int .i64 0 ∧ Below w.heap.size w wr) (fun _ _ => 0)
  case atStart => exact ⟨rfl, h2⟩
  case round =>
  obtain ⟨w3, rfl⟩ : ∃ w2 : World, w2 = wr := ⟨_, rfl⟩
  obtain ⟨rfl, h3⟩ := hrel
  go_wp2_with fail
  go_loopw [11] (fun i wr => i = .int .i64 0 ∧ Below w.heap.size w wr) (fun _ _ => 0)
  case atStart => exact ⟨rfl, h3⟩
  case round =>
  obtain ⟨w4, rfl⟩ : ∃ w2 : World, w2 = wr := ⟨_, rfl⟩
  obtain ⟨rfl, h4⟩ := hrel
  go_wp2_with fail
  go_loopw [14] (fun i wr => i = .int .i64 0 ∧ Below w.heap.size w wr) (fun _ _ => 0)
  case atStart => exact ⟨rfl, h4⟩
  case round =>
  obtain ⟨w5, rfl⟩ : ∃ w2 : World, w2 = wr := ⟨_, rfl⟩
  obtain ⟨rfl, h5⟩ := hrel
  go_wp2_with fail
  go_ret
  exact ⟨rfl, h5⟩
set_option maxRecDepth 100000 in
set_option maxHeartbeats 1000000 in
theorem flatQuotas_nil (w : World) : Calls Tryz.prog 55 #[.slice none 0 0] w fun e w' => e = .returned (.bool true) ∧ Below w.heap.size w w' := by
  go_enter Tryz.func55, Tryz.ntmps55
  go_wp2_with fail
  go_loopw [3] (fun i wr => i = .int .i64 0 ∧ Below w.heap.size w wr) (fun _ _ => 0)
  case atStart => exact ⟨rfl, Below.refl _ _⟩
  case round =>
  obtain ⟨w1, rfl⟩ : ∃ w2 : World, w2 = wr := ⟨_, rfl⟩
  obtain ⟨rfl, h1⟩ := hrel
  go_wp2_with (first | (with_reducible refine wpList_makeE rfl 61 170 _ _ rfl rfl rfl (by kernel_rfl) (by kernel_rfl) ?_; intro w9 h9))
  go_loopw [6] (fun i wr => i = .int .i64 0 ∧ Below w.heap.size w wr) (fun _ _ => 0)
  case atStart => exact ⟨rfl, Agg.belowThen h1 (Nat.le_refl _) h9⟩
  case round =>
  obtain ⟨w2, rfl⟩ : ∃ w2 : World, w2 = wr := ⟨_, rfl⟩
  obtain ⟨rfl, h2⟩ := hrel
  go_wp2_with fail
  go_loopw [9] (fun i wr => i = .int .i64 0 ∧ Below w.heap.size w wr) (fun _ _ => 0)
  case atStart => exact ⟨rfl, h2⟩
  case round =>
  obtain ⟨w3, rfl⟩ : ∃ w2 : World, w2 = wr := ⟨_, rfl⟩
  obtain ⟨rfl, h3⟩ := hrel
  go_wp2_with fail
  go_loopw [11] (fun i wr => i = .int .i64 0 ∧ Below w.heap.size w wr) (fun _ _ => 0)
  case atStart => exact ⟨rfl, h3⟩
  case round =>
  obtain ⟨w4, rfl⟩ : ∃ w2 : World, w2 = wr := ⟨_, rfl⟩
  obtain ⟨rfl, h4⟩ := hrel
  go_wp2_with fail
  go_loopw [14] (fun i wr => i = .int .i64 0 ∧ Below w.heap.size w wr) (fun _ _ => 0)
  case atStart => exact ⟨rfl, h4⟩
  case round =>
  obtain ⟨w5, rfl⟩ : ∃ w2 : World, w2 = wr := ⟨_, rfl⟩
  obtain ⟨rfl, h5⟩ := hrel
  go_wp2_with fail
  go_ret
  exact ⟨rfl, h5⟩
set_option maxRecDepth 100000 in
set_option maxHeartbeats 1000000 in
theorem flatNameds_nil (w : World) : Calls Tryz.prog 56 #[.slice none 0 0] w fun e w' => e = .returned (.bool true) ∧ Below w.heap.size w w' := by
  go_enter Tryz.func56, Tryz.ntmps56
  go_wp2_with fail
  go_loopw [3] (fun i wr => i = .int .i64 0 ∧ Below w.heap.size w wr) (fun _ _ => 0)
  case atStart => exact ⟨rfl, Below.refl _ _⟩
  case round =>
  obtain ⟨w1, rfl⟩ : ∃ w2 : World, w2 = wr := ⟨_, rfl⟩
  obtain ⟨rfl, h1⟩ := hrel
  go_wp2_with (first | (with_reducible refine wpList_makeE rfl 62 174 _ _ rfl rfl rfl (by kernel_rfl) (by kernel_rfl) ?_; intro w9 h9))
  go_loopw [6] (fun i wr => i = .int .i64 0 ∧ Below w.heap.size w wr) (fun _ _ => 0)
  case atStart => exact ⟨rfl, Agg.belowThen h1 (Nat.le_refl _) h9⟩
  case round =>
  obtain ⟨w2, rfl⟩ : ∃ w2 : World, w2 = wr := ⟨_, rfl⟩
  obtain ⟨rfl, h2⟩ := hrel
  go_wp2_with fail
  go_loopw [9] (fun i wr => i = .int .i64 0 ∧ Below w.heap.size w wr) (fun _ _ => 0)
  case atStart => exact ⟨rfl, h2⟩
  case round =>
  obtain ⟨w3, rfl⟩ : ∃ w2 : World, w2 = wr := ⟨_, rfl⟩
  obtain ⟨rfl, h3⟩ := hrel
  go_wp2_with fail
  go_loopw [11] (fun i wr => i = .int .i64 0 ∧ Below w.heap.size w wr) (fun _ _ => 0)
  case atStart => exact ⟨rfl, h3⟩
  case round =>
  obtain ⟨w4, rfl⟩ : ∃ w2 : World, w2 = wr := ⟨_, rfl⟩
  obtain ⟨rfl, h4⟩ := hrel
  go_wp2_with fail
  go_loopw [14] (fun i wr => i = .int .i64 0 ∧ Below w.heap.size w wr) (fun _ _ => 0)
  case atStart => exact ⟨rfl, h4⟩
  case round =>
  obtain ⟨w5, rfl⟩ : ∃ w2 : World, w2 = wr := ⟨_, rfl⟩
  obtain ⟨rfl, h5⟩ := hrel
  go_wp2_with fail
  go_ret
  exact ⟨rfl, h5⟩
set_option maxRecDepth 100000 in
set_option maxHeartbeats 1000000 in
theorem flatDrvs_nil (w : World) : Calls Tryz.prog 57 #[.slice none 0 0] w fun e w' => e = .returned (.bool true) ∧ Below w.heap.size w w' := by
  go_enter Tryz.func57, Tryz.ntmps57
  go_wp2_with fail
  go_loopw [3] (fun i wr => i = .int .i64 0 ∧ Below w.heap.size w wr) (fun _ _ => 0)
  case atStart => exact ⟨rfl, Below.refl _ _⟩
  case round =>
  obtain ⟨w1, rfl⟩ : ∃ w2 : World, w2 = wr := ⟨_, rfl⟩
  obtain ⟨rfl, h1⟩ := hrel
  go_wp2_with (first | (with_reducible refine wpList_makeE rfl 63 180 _ _ rfl rfl rfl (by kernel_rfl) (by kernel_rfl) ?_; intro w9 h9))
  go_loopw [6] (fun i wr => i = .int .i64 0 ∧ Below w.heap.size w wr) (fun _ _ => 0)
  case atStart => exact ⟨rfl, Agg.belowThen h1 (Nat.le_refl _) h9⟩
  case round =>
  obtain ⟨w2, rfl⟩ : ∃ w2 : World, w2 = wr := ⟨_, rfl⟩
  obtain ⟨rfl, h2⟩ := hrel
  go_wp2_with fail
  go_loopw [9] (fun i wr => i = .int .i64 0 ∧ Below w.heap.size w wr) (fun _ _ => 0)
  case atStart => exact ⟨rfl, h2⟩
  case round =>
  obtain ⟨w3, rfl⟩ : ∃ w2 : World, w2 = wr := ⟨_, rfl⟩
  obtain ⟨rfl, h3⟩ := hrel
  go_wp2_with fail
  go_loopw [11] (fun i wr => i = .int .i64 0 ∧ Below w.heap.size w wr) (fun _ _ => 0)
  case atStart => exact ⟨rfl, h3⟩
  case round =>
  obtain ⟨w4, rfl⟩ : ∃ w2 : World, w2 = wr := ⟨_, rfl⟩
  obtain ⟨rfl, h4⟩ := hrel
  go_wp2_with fail
  go_loopw [14] (fun i wr => i = .int .i64 0 ∧ Below w.heap.size w wr) (fun _ _ => 0)
  case atStart => exact ⟨rfl, h4⟩
  case round =>
  obtain ⟨w5, rfl⟩ : ∃ w2 : World, w2 = wr := ⟨_, rfl⟩
  obtain ⟨rfl, h5⟩ := hrel
  go_wp2_with fail
  go_ret
  exact ⟨rfl, h5⟩
set_option maxRecDepth 100000 in
set_option maxHeartbeats 1000000 in
theorem flatMades_nil (w : World) : Calls Tryz.prog 58 #[.slice none 0 0] w fun e w' => e = .returned (.bool true) ∧ Below w.heap.size w w' := by
  go_enter Tryz.func58, Tryz.ntmps58
  go_wp2_with fail
  go_loopw [3] (fun i wr => i = .int .i64 0 ∧ Below w.heap.size w wr) (fun _ _ => 0)
  case atStart => exact ⟨rfl, Below.refl _ _⟩
  case round =>
  obtain ⟨w1, rfl⟩ : ∃ w2 : World, w2 = wr := ⟨_, rfl⟩
  obtain ⟨rfl, h1⟩ := hrel
  go_wp2_with (first | (with_reducible refine wpList_makeE rfl 64 185 _ _ rfl rfl rfl (by kernel_rfl) (by kernel_rfl) ?_; intro w9 h9))
  go_loopw [6] (fun i wr => i = .int .i64 0 ∧ Below w.heap.size w wr) (fun _ _ => 0)
  case atStart => exact ⟨rfl, Agg.belowThen h1 (Nat.le_refl _) h9⟩
  case round =>
  obtain ⟨w2, rfl⟩ : ∃ w2 : World, w2 = wr := ⟨_, rfl⟩
  obtain ⟨rfl, h2⟩ := hrel
  go_wp2_with fail
  go_loopw [9] (fun i wr => i = .int .i64 0 ∧ Below w.heap.size w wr) (fun _ _ => 0)
  case atStart => exact ⟨rfl, h2⟩
  case round =>
  obtain ⟨w3, rfl⟩ : ∃ w2 : World, w2 = wr := ⟨_, rfl⟩
  obtain ⟨rfl, h3⟩ := hrel
  go_wp2_with fail
  go_loopw [11] (fun i wr => i = .int .i64 0 ∧ Below w.heap.size w wr) (fun _ _ => 0)
  case atStart => exact ⟨rfl, h3⟩
  case round =>
  obtain ⟨w4, rfl⟩ : ∃ w2 : World, w2 = wr := ⟨_, rfl⟩
  obtain ⟨rfl, h4⟩ := hrel
  go_wp2_with fail
  go_loopw [14] (fun i wr => i = .int .i64 0 ∧ Below w.heap.size w wr) (fun _ _ => 0)
  case atStart => exact ⟨rfl, h4⟩
  case round =>
  obtain ⟨w5, rfl⟩ : ∃ w2 : World, w2 = wr := ⟨_, rfl⟩
  obtain ⟨rfl, h5⟩ := hrel
  go_wp2_with fail
  go_ret
  exact ⟨rfl, h5⟩
set_option maxRecDepth 100000 in
set_option maxHeartbeats 1000000 in
theorem flatBuilts_nil (w : World) : Calls Tryz.prog 59 #[.slice none 0 0] w fun e w' => e = .returned (.bool true) ∧ Below w.heap.size w w' := by
  go_enter Tryz.func59, Tryz.ntmps59
  go_wp2_with fail
  go_loopw [3] (fun i wr => i = .int .i64 0 ∧ Below w.heap.size w wr) (fun _ _ => 0)
  case atStart => exact ⟨rfl, Below.refl _ _⟩
  case round =>
  obtain ⟨w1, rfl⟩ : ∃ w2 : World, w2 = wr := ⟨_, rfl⟩
  obtain ⟨rfl, h1⟩ := hrel
  go_wp2_with (first | (with_reducible refine wpList_makeE rfl 65 189 _ _ rfl rfl rfl (by kernel_rfl) (by kernel_rfl) ?_; intro w9 h9))
  go_loopw [6] (fun i wr => i = .int .i64 0 ∧ Below w.heap.size w wr) (fun _ _ => 0)
  case atStart => exact ⟨rfl, Agg.belowThen h1 (Nat.le_refl _) h9⟩
  case round =>
  obtain ⟨w2, rfl⟩ : ∃ w2 : World, w2 = wr := ⟨_, rfl⟩
  obtain ⟨rfl, h2⟩ := hrel
  go_wp2_with fail
  go_loopw [9] (fun i wr => i = .int .i64 0 ∧ Below w.heap.size w wr) (fun _ _ => 0)
  case atStart => exact ⟨rfl, h2⟩
  case round =>
  obtain ⟨w3, rfl⟩ : ∃ w2 : World, w2 = wr := ⟨_, rfl⟩
  obtain ⟨rfl, h3⟩ := hrel
  go_wp2_with fail
  go_loopw [11] (fun i wr => i = .int .i64 0 ∧ Below w.heap.size w wr) (fun _ _ => 0)
  case atStart => exact ⟨rfl, h3⟩
  case round =>
  obtain ⟨w4, rfl⟩ : ∃ w2 : World, w2 = wr := ⟨_, rfl⟩
  obtain ⟨rfl, h4⟩ := hrel
  go_wp2_with fail
  go_loopw [14] (fun i wr => i = .int .i64 0 ∧ Below w.heap.size w wr) (fun _ _ => 0)
  case atStart => exact ⟨rfl, h4⟩
  case round =>
  obtain ⟨w5, rfl⟩ : ∃ w2 : World, w2 = wr := ⟨_, rfl⟩
  obtain ⟨rfl, h5⟩ := hrel
  go_wp2_with fail
  go_ret
  exact ⟨rfl, h5⟩
set_option maxRecDepth 100000 in
set_option maxHeartbeats 1000000 in
theorem flatRequests_nil (w : World) : Calls Tryz.prog 60 #[.slice none 0 0] w fun e w' => e = .returned (.bool true) ∧ Below w.heap.size w w' := by
  go_enter Tryz.func60, Tryz.ntmps60
  go_wp2_with fail
  go_loopw [3] (fun i wr => i = .int .i64 0 ∧ Below w.heap.size w wr) (fun _ _ => 0)
  case atStart => exact ⟨rfl, Below.refl _ _⟩
  case round =>
  obtain ⟨w1, rfl⟩ : ∃ w2 : World, w2 = wr := ⟨_, rfl⟩
  obtain ⟨rfl, h1⟩ := hrel
  go_wp2_with (first | (with_reducible refine wpList_makeE rfl 66 194 _ _ rfl rfl rfl (by kernel_rfl) (by kernel_rfl) ?_; intro w9 h9))
  go_loopw [6] (fun i wr => i = .int .i64 0 ∧ Below w.heap.size w wr) (fun _ _ => 0)
  case atStart => exact ⟨rfl, Agg.belowThen h1 (Nat.le_refl _) h9⟩
  case round =>
  obtain ⟨w2, rfl⟩ : ∃ w2 : World, w2 = wr := ⟨_, rfl⟩
  obtain ⟨rfl, h2⟩ := hrel
  go_wp2_with fail
  go_loopw [9] (fun i wr => i = .int .i64 0 ∧ Below w.heap.size w wr) (fun _ _ => 0)
  case atStart => exact ⟨rfl, h2⟩
  case round =>
  obtain ⟨w3, rfl⟩ : ∃ w2 : World, w2 = wr := ⟨_, rfl⟩
  obtain ⟨rfl, h3⟩ := hrel
  go_wp2_with fail
  go_loopw [11] (fun i wr => i = .int .i64 0 ∧ Below w.heap.size w wr) (fun _ _ => 0)
  case atStart => exact ⟨rfl, h3⟩
  case round =>
  obtain ⟨w4, rfl⟩ : ∃ w2 : World, w2 = wr := ⟨_, rfl⟩
  obtain ⟨rfl, h4⟩ := hrel
  go_wp2_with fail
  go_loopw [14] (fun i wr => i = .int .i64 0 ∧ Below w.heap.size w wr) (fun _ _ => 0)
  case atStart => exact ⟨rfl, h4⟩
  case round =>
  obtain ⟨w5, rfl⟩ : ∃ w2 : World, w2 = wr := ⟨_, rfl⟩
  obtain ⟨rfl, h5⟩ := hrel
  go_wp2_with fail
  go_ret
  exact ⟨rfl, h5⟩
set_option maxRecDepth 100000 in
set_option maxHeartbeats 1000000 in
theorem flatReplies_nil (w : World) : Calls Tryz.prog 61 #[.slice none 0 0] w fun e w' => e = .returned (.bool true) ∧ Below w.heap.size w w' := by
  go_enter Tryz.func61, Tryz.ntmps61
  go_wp2_with fail
  go_loopw [3] (fun i wr => i = .int .i64 0 ∧ Below w.heap.size w wr) (fun _ _ => 0)
  case atStart => exact ⟨rfl, Below.refl _ _⟩
  case round =>
  obtain ⟨w1, rfl⟩ : ∃ w2 : World, w2 = wr := ⟨_, rfl⟩
  obtain ⟨rfl, h1⟩ := hrel
  go_wp2_with (first | (with_reducible refine wpList_makeE rfl 67 200 _ _ rfl rfl rfl (by kernel_rfl) (by kernel_rfl) ?_; intro w9 h9))
  go_loopw [6] (fun i wr => i = .int .i64 0 ∧ Below w.heap.size w wr) (fun _ _ => 0)
  case atStart => exact ⟨rfl, Agg.belowThen h1 (Nat.le_refl _) h9⟩
  case round =>
  obtain ⟨w2, rfl⟩ : ∃ w2 : World, w2 = wr := ⟨_, rfl⟩
  obtain ⟨rfl, h2⟩ := hrel
  go_wp2_with fail
  go_loopw [9] (fun i wr => i = .int .i64 0 ∧ Below w.heap.size w wr) (fun _ _ => 0)
  case atStart => exact ⟨rfl, h2⟩
  case round =>
  obtain ⟨w3, rfl⟩ : ∃ w2 : World, w2 = wr := ⟨_, rfl⟩
  obtain ⟨rfl, h3⟩ := hrel
  go_wp2_with fail
  go_loopw [11] (fun i wr => i = .int .i64 0 ∧ Below w.heap.size w wr) (fun _ _ => 0)
  case atStart => exact ⟨rfl, h3⟩
  case round =>
  obtain ⟨w4, rfl⟩ : ∃ w2 : World, w2 = wr := ⟨_, rfl⟩
  obtain ⟨rfl, h4⟩ := hrel
  go_wp2_with fail
  go_loopw [14] (fun i wr => i = .int .i64 0 ∧ Below w.heap.size w wr) (fun _ _ => 0)
  case atStart => exact ⟨rfl, h4⟩
  case round =>
  obtain ⟨w5, rfl⟩ : ∃ w2 : World, w2 = wr := ⟨_, rfl⟩
  obtain ⟨rfl, h5⟩ := hrel
  go_wp2_with fail
  go_ret
  exact ⟨rfl, h5⟩
end Go.Proofs.YtdedpcdbnpnbeaaGreatDoor
/-! A region that draws its order, whose operations read and call, in a class of worlds; over any program. -/
namespace Go.Agg
open Go.RowKit
variable {P : Program}
structure Cls (C : World → Prop) where
  w : World
  h : C w
theorem Calls.cls {C : World → Prop} {f : FuncId} {args : Array Value} {x : Cls C} {v : Value} (h : Calls P f args x.w fun e w' => e = .returned v ∧ C w') :
    Calls P f args x.w fun e w'' => e = .returned v ∧ ∃ y : Cls C, w'' = y.w := h.mono fun _ w' ⟨he, hw⟩ => ⟨he, ⟨w', hw⟩, rfl⟩
theorem Calls.clsB {C : World → Prop} {f : FuncId} {args : Array Value} {x : Cls C} {v : Value} (hC : ∀ w w', C w → Below w.heap.size w w' → C w') (h : Calls P f args x.w fun e w' => e = .returned v ∧ Below x.w.heap.size x.w w') :
    Calls P f args x.w fun e w'' => e = .returned v ∧ ∃ y : Cls C, w'' = y.w := h.mono fun _ w' ⟨he, hw⟩ => ⟨he, ⟨w', hC _ _ x.h hw⟩, rfl⟩
theorem wp_region_cls_lit {id : Nat} {Q : Exit → Act → World → Prop} {a : Act} {w : World} {l : List Oper} (C : World → Prop) (hm : P.follows .mixedOrders = true) (hB : Region.lexB .any l.toArray = true) (hC : C w.drew)
    (h : wpQuiet P l.toArray (fun w' => ∃ x : Cls C, w' = x.w) (fun a' => ∀ w', (∃ x : Cls C, w' = x.w) → Q .normal a' w') l a) : (Code.region id l.toArray true).wp P Q a w :=
  wp_region_quiet (C := fun w' => ∃ x : Cls C, w' = x.w) hm hB ⟨⟨_, hC⟩, rfl⟩ (by simpa using h)
end Go.Agg
