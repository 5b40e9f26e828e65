/- spenceref08.alone: whether a node is right by itself. -/
import Derived.Test.YtfiadgdinhmgbaaGreatDoorEAT
import Derived.Test.YtfiadgdinhmgbaaGreatDoorEAV
namespace Go.Tr
theorem alone_12 {k : Int} {b : List UInt8} {l : List K} (h : k = 1 ∨ k = 2) : alone (.mk k b l) = (decide (b.length ≤ 2048) && l.isEmpty) := by
 rcases h with rfl | rfl <;> simp [alone]
theorem alone_3 {b : List UInt8} {l : List K} : alone (.mk 3 b l) = (decide (1 ≤ b.length) && decide (b.length ≤ 200) && l.isEmpty) := by simp [alone]
theorem alone_4 {b : List UInt8} {l : List K} : alone (.mk 4 b l) = (b.isEmpty && decide (l.length ≤ 200) && named none l) := by simp [alone]
theorem alone_no {k : Int} {b : List UInt8} {l : List K} (h1 : k ≠ 1) (h2 : k ≠ 2) (h3 : k ≠ 3) (h4 : k ≠ 4) : alone (.mk k b l) = false := by simp [alone, h1, h2, h3, h4]
end Go.Tr
namespace Go.Proofs.YtfiadgdinhmgbaaGreatDoor
open Go.RowKit Pl Go.Agg Go.Tr
theorem refNameD (s : List UInt8) {b : Bool} (hb : isName s = b) (hs : s.length ≤ 1048576) (w : World) :
  Calls Tryz.prog 102 #[.string ⟨s.toArray⟩] w fun e w' => e = .returned (.bool b) ∧ Below w.heap.size w w' := by
 subst hb
 exact (refName_any s (by omega) w).mono fun e w' ⟨h1, h2⟩ => ⟨h1, h2 ▸ Below.refl _ _⟩
set_option maxRecDepth 100000 in
set_option maxHeartbeats 8000000 in
theorem ralone_any (v : Value) (t : T) (hm : msz t ≤ 1048576) (w : World) (hv : NodeAt w v t) :
  Calls Tryz.prog 93 #[v] w fun e w' => e = .returned (.bool (alone t)) ∧ Below w.heap.size w w' := by
 obtain ⟨x, rfl, hx⟩ := hv
 obtain ⟨k, b, l⟩ := t
 obtain ⟨kx, vb, vk⟩ := x
 obtain ⟨hk, hby, ks, hsl, hkv⟩ := hx
 have hk : kx = k := hk
 subst hk
 have hkl := hkv.len
 have hlb := fun W => bytes_len hby W
 have hlk := fun W => kds_len hsl W
 rw [hkl] at hlk
 have hbm := bytes_msz kx b l
 have hkm := kids_msz kx b l
 have hlm : mszL l ≤ 1048576 := by simp only [msz] at hm; omega
 have HSL := Lib.hid hsl
 have HN := Lib.hid hkv.nms
 have HLM := Lib.hid (fun x (hx : x ∈ l) => show x.1.length ≤ 1048576 by have := mem_mszL hx; omega)
 clear hby hsl hkv hkl
 go_enter Tryz.func93, Tryz.ntmps93
 by_cases h1 : kx = 1
 ·subst h1
  by_cases hb : b.length ≤ 2048
  ·have hbd : decide ((b.length : Int) ≤ 2048) = true := by simp; omega
   by_cases hl : l.length = 0
   ·have HL := Lib.hid hl
    have hz1 : decide (((l.length : Nat) : Int) = 0) = true := decide_eq_true (by omega)
    have hz2 : (((l.length : Nat) : Int) == 0) = true := by rw [beq_iff_eq]; omega
    clear hl
    go_wp2_with (first | (refine wpList_box rfl 26 _ rfl (ndC (_, vb, vk)) rfl ?_; intro g1 w1 hb hx hg; have HB := Lib.hid hb; have HX := Lib.hid hx; have HS1 := Lib.hid (HSL.out.below hx); clear hb hx hg) | (with_reducible refine wpList_loadL (NdL.of_blk HB.out).kind rfl _ rfl rfl ?_) | (with_reducible refine wpList_loadL (NdL.of_blk HB.out).bytes rfl _ rfl rfl ?_) | (with_reducible refine wpList_loadL (NdL.of_blk HB.out).kids rfl _ rfl rfl ?_))
    go_ret
    exact ⟨ret_bool (by rw [alone_12 (by decide)]; have hl := HL.out; cases l <;> simp_all), HX.out⟩
   ·have HL := Lib.hid hl
    have hz1 : decide (((l.length : Nat) : Int) = 0) = false := decide_eq_false (by omega)
    have hz2 : (((l.length : Nat) : Int) == 0) = false := by rw [beq_eq_false_iff_ne]; omega
    clear hl
    go_wp2_with (first | (refine wpList_box rfl 26 _ rfl (ndC (_, vb, vk)) rfl ?_; intro g1 w1 hb hx hg; have HB := Lib.hid hb; have HX := Lib.hid hx; have HS1 := Lib.hid (HSL.out.below hx); clear hb hx hg) | (with_reducible refine wpList_loadL (NdL.of_blk HB.out).kind rfl _ rfl rfl ?_) | (with_reducible refine wpList_loadL (NdL.of_blk HB.out).bytes rfl _ rfl rfl ?_) | (with_reducible refine wpList_loadL (NdL.of_blk HB.out).kids rfl _ rfl rfl ?_))
    go_ret
    exact ⟨ret_bool (by rw [alone_12 (by decide)]; have hl := HL.out; cases l <;> simp_all), HX.out⟩
  ·have hbd : decide ((b.length : Int) ≤ 2048) = false := by simp; omega
   go_wp2_with (first | (refine wpList_box rfl 26 _ rfl (ndC (_, vb, vk)) rfl ?_; intro g1 w1 hb hx hg; have HB := Lib.hid hb; have HX := Lib.hid hx; have HS1 := Lib.hid (HSL.out.below hx); clear hb hx hg) | (with_reducible refine wpList_loadL (NdL.of_blk HB.out).kind rfl _ rfl rfl ?_) | (with_reducible refine wpList_loadL (NdL.of_blk HB.out).bytes rfl _ rfl rfl ?_) | (with_reducible refine wpList_loadL (NdL.of_blk HB.out).kids rfl _ rfl rfl ?_))
   go_ret
   exact ⟨ret_bool (by rw [alone_12 (by decide)]; simp [hb]), HX.out⟩
 have hk1 : decide (kx = 1) = false := by simpa using h1
 have hq1 : (kx == 1) = false := by simpa using h1
 by_cases h2 : kx = 2
 ·subst h2
  by_cases hb : b.length ≤ 2048
  ·have hbd : decide ((b.length : Int) ≤ 2048) = true := by simp; omega
   by_cases hl : l.length = 0
   ·have HL := Lib.hid hl
    have hz1 : decide (((l.length : Nat) : Int) = 0) = true := decide_eq_true (by omega)
    have hz2 : (((l.length : Nat) : Int) == 0) = true := by rw [beq_iff_eq]; omega
    clear hl
    go_wp2_with (first | (refine wpList_box rfl 26 _ rfl (ndC (_, vb, vk)) rfl ?_; intro g1 w1 hb hx hg; have HB := Lib.hid hb; have HX := Lib.hid hx; have HS1 := Lib.hid (HSL.out.below hx); clear hb hx hg) | (with_reducible refine wpList_loadL (NdL.of_blk HB.out).kind rfl _ rfl rfl ?_) | (with_reducible refine wpList_loadL (NdL.of_blk HB.out).bytes rfl _ rfl rfl ?_) | (with_reducible refine wpList_loadL (NdL.of_blk HB.out).kids rfl _ rfl rfl ?_))
    go_ret
    exact ⟨ret_bool (by rw [alone_12 (by decide)]; have hl := HL.out; cases l <;> simp_all), HX.out⟩
   ·have HL := Lib.hid hl
    have hz1 : decide (((l.length : Nat) : Int) = 0) = false := decide_eq_false (by omega)
    have hz2 : (((l.length : Nat) : Int) == 0) = false := by rw [beq_eq_false_iff_ne]; omega
    clear hl
    go_wp2_with (first | (refine wpList_box rfl 26 _ rfl (ndC (_, vb, vk)) rfl ?_; intro g1 w1 hb hx hg; have HB := Lib.hid hb; have HX := Lib.hid hx; have HS1 := Lib.hid (HSL.out.below hx); clear hb hx hg) | (with_reducible refine wpList_loadL (NdL.of_blk HB.out).kind rfl _ rfl rfl ?_) | (with_reducible refine wpList_loadL (NdL.of_blk HB.out).bytes rfl _ rfl rfl ?_) | (with_reducible refine wpList_loadL (NdL.of_blk HB.out).kids rfl _ rfl rfl ?_))
    go_ret
    exact ⟨ret_bool (by rw [alone_12 (by decide)]; have hl := HL.out; cases l <;> simp_all), HX.out⟩
  ·have hbd : decide ((b.length : Int) ≤ 2048) = false := by simp; omega
   go_wp2_with (first | (refine wpList_box rfl 26 _ rfl (ndC (_, vb, vk)) rfl ?_; intro g1 w1 hb hx hg; have HB := Lib.hid hb; have HX := Lib.hid hx; have HS1 := Lib.hid (HSL.out.below hx); clear hb hx hg) | (with_reducible refine wpList_loadL (NdL.of_blk HB.out).kind rfl _ rfl rfl ?_) | (with_reducible refine wpList_loadL (NdL.of_blk HB.out).bytes rfl _ rfl rfl ?_) | (with_reducible refine wpList_loadL (NdL.of_blk HB.out).kids rfl _ rfl rfl ?_))
   go_ret
   exact ⟨ret_bool (by rw [alone_12 (by decide)]; simp [hb]), HX.out⟩
 have hk2 : decide (kx = 2) = false := by simpa using h2
 have hq2 : (kx == 2) = false := by simpa using h2
 by_cases h3 : kx = 3
 ·subst h3
  by_cases hb : 1 ≤ b.length
  ·have hbd : decide ((b.length : Int) ≥ 1) = true := by simp; omega
   have hbd2 : decide (1 ≤ (b.length : Int)) = true := by simp; omega
   by_cases hc : b.length ≤ 200
   ·have hcd : decide ((b.length : Int) ≤ 200) = true := by simp; omega
    by_cases hl : l.length = 0
    ·have HL := Lib.hid hl
     have hz1 : decide (((l.length : Nat) : Int) = 0) = true := decide_eq_true (by omega)
     have hz2 : (((l.length : Nat) : Int) == 0) = true := by rw [beq_iff_eq]; omega
     clear hl
     go_wp2_with (first | (refine wpList_box rfl 26 _ rfl (ndC (_, vb, vk)) rfl ?_; intro g1 w1 hb hx hg; have HB := Lib.hid hb; have HX := Lib.hid hx; have HS1 := Lib.hid (HSL.out.below hx); clear hb hx hg) | (with_reducible refine wpList_loadL (NdL.of_blk HB.out).kind rfl _ rfl rfl ?_) | (with_reducible refine wpList_loadL (NdL.of_blk HB.out).bytes rfl _ rfl rfl ?_) | (with_reducible refine wpList_loadL (NdL.of_blk HB.out).kids rfl _ rfl rfl ?_))
     go_ret
     exact ⟨ret_bool (by rw [alone_3]; have hl := HL.out; cases l <;> simp_all), HX.out⟩
    ·have HL := Lib.hid hl
     have hz1 : decide (((l.length : Nat) : Int) = 0) = false := decide_eq_false (by omega)
     have hz2 : (((l.length : Nat) : Int) == 0) = false := by rw [beq_eq_false_iff_ne]; omega
     clear hl
     go_wp2_with (first | (refine wpList_box rfl 26 _ rfl (ndC (_, vb, vk)) rfl ?_; intro g1 w1 hb hx hg; have HB := Lib.hid hb; have HX := Lib.hid hx; have HS1 := Lib.hid (HSL.out.below hx); clear hb hx hg) | (with_reducible refine wpList_loadL (NdL.of_blk HB.out).kind rfl _ rfl rfl ?_) | (with_reducible refine wpList_loadL (NdL.of_blk HB.out).bytes rfl _ rfl rfl ?_) | (with_reducible refine wpList_loadL (NdL.of_blk HB.out).kids rfl _ rfl rfl ?_))
     go_ret
     exact ⟨ret_bool (by rw [alone_3]; have hl := HL.out; cases l <;> simp_all), HX.out⟩
   ·have hcd : decide ((b.length : Int) ≤ 200) = false := by simp; omega
    go_wp2_with (first | (refine wpList_box rfl 26 _ rfl (ndC (_, vb, vk)) rfl ?_; intro g1 w1 hb hx hg; have HB := Lib.hid hb; have HX := Lib.hid hx; have HS1 := Lib.hid (HSL.out.below hx); clear hb hx hg) | (with_reducible refine wpList_loadL (NdL.of_blk HB.out).kind rfl _ rfl rfl ?_) | (with_reducible refine wpList_loadL (NdL.of_blk HB.out).bytes rfl _ rfl rfl ?_) | (with_reducible refine wpList_loadL (NdL.of_blk HB.out).kids rfl _ rfl rfl ?_))
    go_ret
    exact ⟨ret_bool (by rw [alone_3]; simp [hc]), HX.out⟩
  ·have hbd : decide ((b.length : Int) ≥ 1) = false := by simp; omega
   have hbd2 : decide (1 ≤ (b.length : Int)) = false := by simp; omega
   go_wp2_with (first | (refine wpList_box rfl 26 _ rfl (ndC (_, vb, vk)) rfl ?_; intro g1 w1 hb hx hg; have HB := Lib.hid hb; have HX := Lib.hid hx; have HS1 := Lib.hid (HSL.out.below hx); clear hb hx hg) | (with_reducible refine wpList_loadL (NdL.of_blk HB.out).kind rfl _ rfl rfl ?_) | (with_reducible refine wpList_loadL (NdL.of_blk HB.out).bytes rfl _ rfl rfl ?_) | (with_reducible refine wpList_loadL (NdL.of_blk HB.out).kids rfl _ rfl rfl ?_))
   go_ret
   exact ⟨ret_bool (by rw [alone_3]; simp [hb]), HX.out⟩
 have hk3 : decide (kx = 3) = false := by simpa using h3
 have hq3 : (kx == 3) = false := by simpa using h3
 by_cases h4 : kx = 4
 ·subst h4
  go_wp2_with (first | (refine wpList_box rfl 26 _ rfl (ndC (_, vb, vk)) rfl ?_; intro g1 w1 hb hx hg; have HB := Lib.hid hb; have HX := Lib.hid hx; have HS1 := Lib.hid (HSL.out.below hx); clear hb hx hg) | (with_reducible refine wpList_loadL (NdL.of_blk HB.out).kind rfl _ rfl rfl ?_))
  go_loopw [3] (fun i wr => ∃ q : Nat, q ≤ l.length ∧ q ≤ 201 ∧ i = .int .i64 (q : Int) ∧ named none (l.take q) = true ∧ Blk wr g1 26 (ndC (4, vb, vk)) ∧ Below w.heap.size w wr) (fun i _ => l.length - (intOf i).toNat)
  case atStart => exact ⟨0, by omega, by omega, rfl, rfl, HB.out, HX.out⟩
  case round =>
   obtain ⟨w2, rfl⟩ : ∃ y : World, y = wr := ⟨_, rfl⟩
   obtain ⟨q, hq, hq2, rfl, hnm, hb, hx⟩ := hrel
   have HNM := Lib.hid hnm
   have HB2 := Lib.hid hb
   have HX2 := Lib.hid hx
   have HSX := Lib.hid (HSL.out.below hx)
   clear hnm hb hx
   by_cases hlt : q < l.length
   ·have hd : decide ((q : Int) < (l.length : Int)) = true := by simp; omega
    by_cases hq200 : q ≤ 200
    ·have hd2 : decide ((q : Int) ≤ 200) = true := by simp; omega
     obtain ⟨z, hzk⟩ : ∃ z, l[q]? = some z := ⟨_, List.getElem?_eq_getElem hlt⟩
     obtain ⟨y, hyk, hyz⟩ := HN.out.at_ q z hzk
     obtain ⟨pp, hadr, hle⟩ := kid_at HSX.out q y hyk
     have HY := Lib.hid hle.name
     have HSN := Lib.hid (show named none (l.take (q + 1)) = (named none (l.take q) && nameOk (lastN none (l.take q)) z.1) by rw [take_succ' hzk, named_snoc])
     have HYZ := Lib.hid hyz
     have hyl : y.1.length ≤ 1048576 := by rw [hyz]; exact HLM.out z (List.mem_of_getElem? hzk)
     clear hle hyz hyk hzk
     have HBAD : Hid (nameOk (lastN none (l.take q)) z.1 = false → alone (.mk 4 b l) = false) := Lib.hid (fun h => by rw [alone_4, named_take (k := q + 1) (by rw [HSN.out, h, Bool.and_false]), Bool.and_false])
     have HNX : Hid (nameOk (lastN none (l.take q)) z.1 = true → named none (l.take (q + 1)) = true) := Lib.hid (fun h => by rw [HSN.out, h, HNM.out]; rfl)
     go_wp2_with (first | (with_reducible refine wpList_loadL (NdL.of_blk HB2.out).kids rfl _ rfl rfl ?_))
     cases hnx : isName z.1 with
     | false =>
      have HR := Lib.hid (HBAD.out (by simp [nameOk, hnx]))
      have HC := Lib.hid (fun W => refNameD y.1 (b := false) (by rw [HYZ.out]; exact hnx) hyl W)
      clear hnx
      try simp only [Act.put, List.setIfInBounds_toArray, List.set_cons_succ, List.set_cons_zero]
      refine wp_region_later_lit (by kernel_rfl) (by kernel_rfl) ?_
      repeat (first | go_big_quiet_skip | ((first | (with_reducible refine wpQuiet_loadL (NdL.of_blk HB2.out).kids rfl _ rfl rfl ?_) | (with_reducible refine wpQuiet_loadL HY.out rfl _ rfl rfl ?_)); simp only [Act.put, List.setIfInBounds_toArray, List.set_cons_succ, List.set_cons_zero]) | go_big_quiet_step (first | (go_at_call 102; first | (with_reducible exact Calls.later (HC.out _)))))
      refine wpQuiet_nil ?_
      intro _ hw'
      obtain ⟨x1, rfl⟩ := hw'
      go_wp2_with fail
      go_ret
      exact ⟨ret_bool HR.out.symm, belowThen HX2.out (Nat.le_refl _) x1.h⟩
     | true =>
      have HC := Lib.hid (fun W => refNameD y.1 (b := true) (by rw [HYZ.out]; exact hnx) hyl W)
      by_cases hk0 : q = 0
      ·have hkd : decide (0 < (q : Int)) = false := by simp <;> omega
       have hkd2 : decide (0 < q) = false := by simp <;> omega
       have HG := Lib.hid (HNX.out (by subst hk0; simp [nameOk, hnx, lastN]))
       clear hnx hk0
       try simp only [Act.put, List.setIfInBounds_toArray, List.set_cons_succ, List.set_cons_zero]
       refine wp_region_later_lit (by kernel_rfl) (by kernel_rfl) ?_
       repeat (first | go_big_quiet_skip | ((first | (with_reducible refine wpQuiet_loadL (NdL.of_blk HB2.out).kids rfl _ rfl rfl ?_) | (with_reducible refine wpQuiet_loadL HY.out rfl _ rfl rfl ?_)); simp only [Act.put, List.setIfInBounds_toArray, List.set_cons_succ, List.set_cons_zero]) | go_big_quiet_step (first | (go_at_call 102; first | (with_reducible exact Calls.later (HC.out _)))))
       refine wpQuiet_nil ?_
       intro _ hw'
       obtain ⟨x1, rfl⟩ := hw'
       have HB5 := Lib.hid (HB2.out.below x1.h)
       have hx6 := belowThen HX2.out (Nat.le_refl _) x1.h
       go_wp2_with fail
       go_roundw
       case rel => exact ⟨q + 1, by omega, by omega, by go_num, HG.out, HB5.out, hx6⟩
       case measure => simp [intOf]; omega
      ·have hkd : 0 < q := by omega
       have hkd2 : decide (0 < q) = true := by simpa using hkd
       obtain ⟨u, huk⟩ : ∃ u, l[q - 1]? = some u := ⟨_, List.getElem?_eq_getElem (by omega)⟩
       obtain ⟨s, hsk, hsu⟩ := HN.out.at_ (q - 1) u huk
       obtain ⟨pq, hadq, hlq⟩ := kid_at HSX.out (q - 1) s hsk
       have hlz := lastN_take hkd huk
       have HQ := Lib.hid hlq.name
       have hwr := i64_predK q (by omega) (by omega)
       cases hbl : Op.bytesLess u.1 z.1 with
       | false =>
        have HR := Lib.hid (HBAD.out (by rw [hlz]; simp [nameOk, hbl]))
        have HGE := Lib.hid (show (!Op.bytesLess s.1 y.1) = true by rw [hsu, HYZ.out, hbl]; rfl)
        clear hnx hbl hlq hsk hsu hlz huk
        try simp only [Act.put, List.setIfInBounds_toArray, List.set_cons_succ, List.set_cons_zero]
        refine wp_region_later_lit (by kernel_rfl) (by kernel_rfl) ?_
        repeat (first | go_big_quiet_skip | ((first | (with_reducible refine wpQuiet_loadL (NdL.of_blk HB2.out).kids rfl _ rfl rfl ?_) | (with_reducible refine wpQuiet_loadL HY.out rfl _ rfl rfl ?_) | (with_reducible refine wpQuiet_loadL HQ.out rfl _ rfl rfl ?_) | (with_reducible refine wpQuiet_geqS rfl rfl rfl rfl true HGE.out ?_)); simp only [Act.put, List.setIfInBounds_toArray, List.set_cons_succ, List.set_cons_zero]) | go_big_quiet_step (first | (go_at_call 102; first | (with_reducible exact Calls.later (HC.out _)))))
        refine wpQuiet_nil ?_
        intro _ hw'
        obtain ⟨x1, rfl⟩ := hw'
        go_wp2_with fail
        go_ret
        exact ⟨ret_bool HR.out.symm, belowThen HX2.out (Nat.le_refl _) x1.h⟩
       | true =>
        have HG := Lib.hid (HNX.out (by rw [hlz]; simp [nameOk, hnx, hbl]))
        have HGE := Lib.hid (show (!Op.bytesLess s.1 y.1) = false by rw [hsu, HYZ.out, hbl]; rfl)
        clear hnx hbl hlq hsk hsu hlz huk
        try simp only [Act.put, List.setIfInBounds_toArray, List.set_cons_succ, List.set_cons_zero]
        refine wp_region_later_lit (by kernel_rfl) (by kernel_rfl) ?_
        repeat (first | go_big_quiet_skip | ((first | (with_reducible refine wpQuiet_loadL (NdL.of_blk HB2.out).kids rfl _ rfl rfl ?_) | (with_reducible refine wpQuiet_loadL HY.out rfl _ rfl rfl ?_) | (with_reducible refine wpQuiet_loadL HQ.out rfl _ rfl rfl ?_) | (with_reducible refine wpQuiet_geqS rfl rfl rfl rfl false HGE.out ?_)); simp only [Act.put, List.setIfInBounds_toArray, List.set_cons_succ, List.set_cons_zero]) | go_big_quiet_step (first | (go_at_call 102; first | (with_reducible exact Calls.later (HC.out _)))))
        refine wpQuiet_nil ?_
        intro _ hw'
        obtain ⟨x1, rfl⟩ := hw'
        have HB5 := Lib.hid (HB2.out.below x1.h)
        have hx6 := belowThen HX2.out (Nat.le_refl _) x1.h
        go_wp2_with fail
        go_roundw
        case rel => exact ⟨q + 1, by omega, by omega, by go_num, HG.out, HB5.out, hx6⟩
        case measure => simp [intOf]; omega
    ·have hd2 : decide ((q : Int) ≤ 200) = false := by simp; omega
     by_cases hb0 : b.length = 0
     ·have HB0 := Lib.hid hb0
      have hz1 : decide (((b.length : Nat) : Int) = 0) = true := decide_eq_true (by omega)
      have hz2 : (((b.length : Nat) : Int) == 0) = true := by rw [beq_iff_eq]; omega
      have hl2 : decide ((l.length : Int) ≤ 200) = false := by simp; omega
      clear hb0
      go_wp2_with (first | (with_reducible refine wpList_loadL (NdL.of_blk HB2.out).bytes rfl _ rfl rfl ?_) | (with_reducible refine wpList_loadL (NdL.of_blk HB2.out).kids rfl _ rfl rfl ?_))
      go_ret
      exact ⟨ret_bool (by rw [alone_4]; have : ¬ l.length ≤ 200 := (by omega); simp [this]), HX2.out⟩
     ·have HB0 := Lib.hid hb0
      have hz1 : decide (((b.length : Nat) : Int) = 0) = false := decide_eq_false (by omega)
      have hz2 : (((b.length : Nat) : Int) == 0) = false := by rw [beq_eq_false_iff_ne]; omega
      have hl2 : decide ((l.length : Int) ≤ 200) = false := by simp; omega
      clear hb0
      go_wp2_with (first | (with_reducible refine wpList_loadL (NdL.of_blk HB2.out).bytes rfl _ rfl rfl ?_) | (with_reducible refine wpList_loadL (NdL.of_blk HB2.out).kids rfl _ rfl rfl ?_))
      go_ret
      exact ⟨ret_bool (by rw [alone_4]; have : ¬ l.length ≤ 200 := (by omega); simp [this]), HX2.out⟩
   ·obtain rfl : q = l.length := by omega
    have hd1 : decide (((l.length : Nat) : Int) < ((l.length : Nat) : Int)) = false := by simp
    have HR := Lib.hid (show named none l = true by have := HNM.out; rwa [List.take_length] at this)
    by_cases hb0 : b.length = 0
    ·have HB0 := Lib.hid hb0
     have hz1 : decide (((b.length : Nat) : Int) = 0) = true := decide_eq_true (by omega)
     have hz2 : (((b.length : Nat) : Int) == 0) = true := by rw [beq_iff_eq]; omega
     clear hb0
     by_cases hl2 : l.length ≤ 200
     ·have hl3 : decide ((l.length : Int) ≤ 200) = true := by simp; omega
      go_wp2_with (first | (with_reducible refine wpList_loadL (NdL.of_blk HB2.out).bytes rfl _ rfl rfl ?_) | (with_reducible refine wpList_loadL (NdL.of_blk HB2.out).kids rfl _ rfl rfl ?_))
      go_ret
      exact ⟨ret_bool (by rw [alone_4, HR.out]; have h0 := HB0.out; cases b <;> simp_all), HX2.out⟩
     ·have hl3 : decide ((l.length : Int) ≤ 200) = false := by simp; omega
      go_wp2_with (first | (with_reducible refine wpList_loadL (NdL.of_blk HB2.out).bytes rfl _ rfl rfl ?_) | (with_reducible refine wpList_loadL (NdL.of_blk HB2.out).kids rfl _ rfl rfl ?_))
      go_ret
      exact ⟨ret_bool (by rw [alone_4, HR.out]; have h0 := HB0.out; cases b <;> simp_all), HX2.out⟩
    ·have HB0 := Lib.hid hb0
     have hz1 : decide (((b.length : Nat) : Int) = 0) = false := decide_eq_false (by omega)
     have hz2 : (((b.length : Nat) : Int) == 0) = false := by rw [beq_eq_false_iff_ne]; omega
     clear hb0
     go_wp2_with (first | (with_reducible refine wpList_loadL (NdL.of_blk HB2.out).bytes rfl _ rfl rfl ?_) | (with_reducible refine wpList_loadL (NdL.of_blk HB2.out).kids rfl _ rfl rfl ?_))
     go_ret
     exact ⟨ret_bool (by rw [alone_4, HR.out]; have h0 := HB0.out; cases b <;> simp_all), HX2.out⟩
 have hk4 : decide (kx = 4) = false := by simpa using h4
 have hq4 : (kx == 4) = false := by simpa using h4
 go_wp2_with (first | (refine wpList_box rfl 26 _ rfl (ndC (_, vb, vk)) rfl ?_; intro g1 w1 hb hx hg; have HB := Lib.hid hb; have HX := Lib.hid hx; have HS1 := Lib.hid (HSL.out.below hx); clear hb hx hg) | (with_reducible refine wpList_loadL (NdL.of_blk HB.out).kind rfl _ rfl rfl ?_) | (with_reducible refine wpList_loadL (NdL.of_blk HB.out).bytes rfl _ rfl rfl ?_) | (with_reducible refine wpList_loadL (NdL.of_blk HB.out).kids rfl _ rfl rfl ?_))
 go_ret
 exact ⟨ret_bool (alone_no h1 h2 h3 h4).symm, HX.out⟩
end Go.Proofs.YtfiadgdinhmgbaaGreatDoor
