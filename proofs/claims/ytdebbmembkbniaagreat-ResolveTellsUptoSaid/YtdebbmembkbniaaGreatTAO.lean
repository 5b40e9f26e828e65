/- code.Cursor.Num. (Several texts in one.) -/
import Derived.Test.YtdebbmembkbniaaGreatTAA
import Derived.Test.YtdebbmembkbniaaGreatTAJ
import Derived.Test.YtdebbmembkbniaaGreatTAD
import Derived.Shelf.Abstract
import Derived.Test.YtdebbmembkbniaaGreatTAC
import Derived.WalkMore
/-! (of general use) spenceref03: bit, Letters, value, within. -/
namespace Go.Proofs.YtdebbmembkbniaaGreat
open Go.RowKit Pl
theorem within_any (c lo hi : Int) (w : World) :
  Calls Tryz.prog 87 #[.int .u8 c, .int .u8 lo, .int .u8 hi] w fun e w' => e = .returned (.bool (wi c lo hi)) ∧ w = w' := by
 by_cases h : lo ≤ c
 ·go_enter Tryz.func87, Tryz.ntmps87
  go_wp2_with fail
  go_ret
  exact ⟨by simp [wi, h], rfl⟩
 ·have hd : decide (lo ≤ c) = false := by simp; omega
  go_enter Tryz.func87, Tryz.ntmps87
  go_wp2_with fail
  go_ret
  exact ⟨by simp [wi, hd], rfl⟩
def part (h : List UInt8) (i t : Nat) : Nat := num 256 (nats h) / 2 ^ (5 * i + t) % 2 ^ (5 - t)
end Go.Proofs.YtdebbmembkbniaaGreat
/-! spenceref03.Name. -/
namespace Go.Proofs.YtdebbmembkbniaaGreat
open Go.RowKit Pl
theorem sgn_wi (c : UInt8) : sgn c = (wi c.toNat 97 122 || wi c.toNat 65 90 || wi c.toNat 48 57 || ((c.toNat : Int) == 46) || ((c.toNat : Int) == 95) || ((c.toNat : Int) == 43) || ((c.toNat : Int) == 45)) := by
 have : ∀ n : Nat, n < 256 → sgn (UInt8.ofNat n) = (wi n 97 122 || wi n 65 90 || wi n 48 57 || ((n : Int) == 46) || ((n : Int) == 95) || ((n : Int) == 43) || ((n : Int) == 45)) := by decide +kernel
 have h := this c.toNat c.toNat_lt
 rwa [UInt8.ofNat_toNat] at h
theorem n45 {x : Int} (h : (x != 45) = false) : x = 45 := by simpa using h
set_option maxRecDepth 100000 in
set_option maxHeartbeats 2000000 in
theorem refName_any (s : List UInt8) (hs : s.length ≤ 9223372036854775807) (w : World) :
  Calls Tryz.prog 54 #[.string ⟨s.toArray⟩] w fun e w' => e = .returned (.bool (isName s)) ∧ w = w' := by
 have hsz := Agg.bytes_size s
 have HS := Lib.hid hsz
 have hlen : ∀ w, (Builtin.len_ #[9] 3 #[.string ⟨s.toArray⟩]).run Tryz.prog w = .ok (.int .i64 (s.length : Int)) w := fun w => by rw [run_len_string w 9 3 _ Tryz.underlying9, hsz]; rfl
 clear hsz
 go_enter Tryz.func54, Tryz.ntmps54
 go_wp2_with fail
 go_loop [3] (fun i => ∃ k : Nat, k ≤ s.length ∧ i = .int .i64 k ∧ ∀ j (hj : j < s.length), j < k → sgn s[j] = true) (fun i => s.length - (intOf i).toNat)
 case atStart => exact ⟨0, by omega, rfl, by intros; omega⟩
 case round =>
  obtain ⟨k, hk, rfl, hg⟩ := hrel
  have HG := Lib.hid hg
  clear hg
  by_cases hlt : k < s.length
  ·have hix := fun w => Agg.run_index_str (P := Tryz.prog) (k := .i64) (c := s[k]) w Tryz.underlying9 (List.getElem?_eq_getElem hlt)
   have hsg := sgn_wi s[k]
   have HS := Lib.hid hsg
   clear hsg
   generalize hc : s[k] = c at hix HS
   have HC := Lib.hid hc
   clear hc
   go_wp2_with (go_at_call 87; refine (within_any _ _ _ _).mono ?_; rintro e w' ⟨rfl, rfl⟩)
   ·have h45 : ((c.toNat : Int) != 45) = true := by assumption
    have hsg : sgn s[k] = false := by rw [HC.out, HS.out]; simp [*]; simpa using h45
    go_ret
    exact ⟨ret_bool (isName_bad s k hlt hsg).symm, rfl⟩
   all_goals
    have hsg : sgn s[k] = true := by rw [HC.out, HS.out]; first | (simp [*]; done) | (have h45 := n45 ‹((c.toNat : Int) != 45) = false›; simp [h45]; done)
    go_round
    case rel => exact ⟨k + 1, by omega, by go_num, fun j hj h => by
     rcases Nat.lt_or_ge j k with h' | h'
     ·exact HG.out j hj h'
     ·obtain rfl : j = k := by omega
      exact hsg⟩
    case measure => simp [intOf]; omega
  ·obtain rfl : k = s.length := by omega
   have hgood := isName_good s (fun j hj => HG.out j hj hj)
   have HI := Lib.hid hgood
   clear hgood
   cases s with
   | nil =>
    simp only [List.length_nil] at hlen
    go_wp2_with fail
    go_ret
    exact ⟨ret_bool (by rw [HI.out]; rfl), rfl⟩
   | cons c l =>
    have hix : ∀ w, (Instr.index 9 (.string ⟨(c :: l).toArray⟩) (.int .i64 0)).run Tryz.prog w = .ok (.int .u8 (c.toNat : Int)) w := fun w => Agg.run_index_str (i := 0) w Tryz.underlying9 rfl
    simp only [List.length_cons] at hlen
    go_wp2_with fail
    all_goals go_ret
    all_goals refine ⟨ret_bool ?_, rfl⟩
    all_goals rw [HI.out]
    ·have h24 : (l.length : Int) + 1 ≤ 24 := by assumption
     have e : (((c.toNat : Int)) != 46) = (c != 46) := by
      rw [Bool.eq_iff_iff]; simp only [bne_iff_ne, ne_eq]; rw [← UInt8.toNat_inj]; simp; omega
     simp [e, show l.length + 1 ≤ 24 by omega]
    ·have h24 : 24 < (l.length : Int) + 1 := by assumption
     simp [show ¬ l.length + 1 ≤ 24 by omega]
end Go.Proofs.YtdebbmembkbniaaGreat
/-! spenceref20.Can. -/
namespace Go.Proofs.YtdebbmembkbniaaGreat
open Go.RowKit Pl Go.Agg
theorem refNameD (s : List UInt8) {b : Bool} (hb : isName s = b) (hs : s.length ≤ 1048576) (w : World) :
  Calls Tryz.prog 54 #[.string ⟨s.toArray⟩] w fun e w' => e = .returned (.bool b) ∧ Below w.heap.size w w' := by
 subst hb
 exact (refName_any s (by omega) w).mono fun e w' ⟨h1, h2⟩ => ⟨h1, by subst h2; exact Below.refl _ _⟩
structure RfiB (w : World) (g : Nat) (x : Rin) : Prop where
 all : LoadsL Tryz.prog w 95 (some ⟨g, 0, none⟩) (.agg (riC x))
 name : LoadsL Tryz.prog w 9 (some ⟨g, 0, none⟩) (.string ⟨x.1.toArray⟩)
 path : LoadsL Tryz.prog w 48 (some ⟨g, 1, none⟩) (.agg (pC x.2.1.1 x.2.1.2))
 pname : LoadsL Tryz.prog w 9 (some ⟨g, 21, none⟩) (.string ⟨x.2.1.2.toArray⟩)
theorem RfiB.of_blk {w : World} {g : Nat} {x : Rin} (h : Blk w g 95 (riC x)) : RfiB w g x where
 all := h.loads rfC_under rfl (rfC_info x)
 name := h.one 0 (riC_name x) Tryz.underlying9 rfl
 path := h.sub 1 _ (riC_path x) pC_under rfl (pC_info _ _ x.2.2)
 pname := h.one 21 (riC_path x 20 _ (pC_name _ _ x.2.2)) Tryz.underlying9 rfl
theorem behindR_at {l : List Rin} {k : Nat} {y : Rin} (hk : 0 < k) (h : l[k - 1]? = some y) : behindR (l.take k) = y.1 := by
 obtain ⟨j, rfl⟩ : ∃ j, k = j + 1 := ⟨k - 1, by omega⟩
 rw [behindR_succ (by simpa using h)]
theorem less_nilR {s : List UInt8} (h : isName s = true) : Op.bytesLess [] s = true := by
 cases s with
 | nil => exact absurd h (by decide)
 | cons c s => rfl
theorem i64_predR (n : Nat) (h0 : 0 < n) (h : n ≤ 1048576) : IntKind.i64.wrap ((n : Int) - 1) = ((n - 1 : Nat) : Int) := by
 rw [IntKind.wrap_i64]; omega
def RvLen (d : Rv) : Prop := d.1.length ≤ 1048576 ∧ d.2.1.length ≤ 1048576 ∧ ∀ x ∈ d.2.1, x.1.length ≤ 1048576 ∧ x.2.1.2.length ≤ 1048576
set_option maxRecDepth 100000 in
set_option maxHeartbeats 8000000 in
theorem rfCan_any (v : Value) (d : Rv) (hb : RvLen d) (w : World) (hd : RfAt w v d) :
  Calls Tryz.prog 19 #[v] w fun e w' => e = .returned (.bool (canRv d)) ∧ Below w.heap.size w w' := by
 obtain ⟨vi, vr, rfl, hvi, hvr⟩ := hd
 obtain ⟨hl1, hl, hlx⟩ := hb
 have HLX := Lib.hid hlx
 have hli := rfs_len hvi
 have hlr := bytes_len hvr
 have HVI := Lib.hid hvi
 clear hvi hvr hlx
 go_enter Tryz.func19, Tryz.ntmps19
 go_wp2_with (first | (with_reducible refine wpList_box rfl 36 _ rfl (#[.string ⟨d.1.toArray⟩, vi, vr]) rfl ?_; intro g w1 hb hx1 hg))
 have HD := Lib.hid (RfB.of_blk hb)
 have HVI1 := Lib.hid (HVI.out.below hx1)
 have hw1 := hx1
 clear hb hx1 hg
 go_loopw [3] (fun i wr => ∃ k : Nat, k ≤ d.2.1.length ∧ i = .int .i64 k ∧ canRs [] (d.2.1.take k) = true ∧ Below w1.heap.size w1 wr) (fun i _ => d.2.1.length - (intOf i).toNat)
 case atStart => exact ⟨0, by omega, rfl, rfl, Below.refl _ _⟩
 case round =>
  obtain ⟨w2, rfl⟩ : ∃ w2 : World, w2 = wr := ⟨_, rfl⟩
  obtain ⟨k, hk, rfl, hcan, hx⟩ := hrel
  have HCAN := Lib.hid hcan
  have HD2 := Lib.hid (HD.out.below hx)
  clear hcan
  by_cases hlt : k < d.2.1.length
  ·obtain ⟨x, hxk⟩ : ∃ x, d.2.1[k]? = some x := ⟨_, List.getElem?_eq_getElem hlt⟩
   obtain ⟨p, hadr, hld, _⟩ := rf_at (HVI1.out.below hx) k x hxk
   have HL := Lib.hid hld
   have HXB := Lib.hid (HLX.out x (List.mem_of_getElem? hxk))
   have HCS := Lib.hid (canRs_succ hxk)
   have hd1 : decide (k < d.2.1.length) = true := by simpa using hlt
   clear hld hxk
   go_wp2_with (first | (with_reducible refine wpList_loadL HD2.out.inp rfl _ rfl rfl ?_) | (with_reducible refine wpList_loadL HL.out rfl _ rfl rfl ?_) | (refine wpList_new rfl rfl rfl 95 4 16 rfl rfl rfl (by decide) (riC zR) (riC x) rfC_zero (by rw [riC_size, riC_size]) (rfC_info x) (riC_one x) rfl (by simp [Act.put]) ?_; intro g2 w3 hb2 hx3 hg2))
   have hx5 := belowThen hx (Nat.le_refl _) hx3
   have HB := Lib.hid (RfiB.of_blk hb2)
   have HD4 := Lib.hid (HD2.out.below hx3)
   have HB1 := Lib.hid (show x.1.length ≤ 1048576 from HXB.out.1)
   have HB2 := Lib.hid (show x.2.1.2.length ≤ 1048576 from HXB.out.2)
   clear hb2 hx3 hg2 hadr
   have HBAD : Hid (canRi x (behindR (d.2.1.take k)) = false → canRv d = false) := Lib.hid (fun h => by
    have := canRs_take (l := d.2.1) (k := k + 1) (by rw [HCS.out, h, Bool.and_false])
    simp [canRv, this])
   cases hnx : isName x.1 with
   | false =>
    have HR : Hid (canRv d = false) := Lib.hid (HBAD.out (by simp [canRi, hnx]))
    have HN1 := Lib.hid (fun W => refNameD x.1 hnx HB1.out W)
    clear hnx
    try simp only [Act.put, List.setIfInBounds_toArray, List.set_cons_succ, List.set_cons_zero]
    refine wp_region_later_lit (by kernel_rfl) (by kernel_rfl) ?_
    repeat (first | go_big_quiet_skip | ((first | (with_reducible refine wpQuiet_loadL HB.out.name rfl _ rfl rfl ?_)); simp only [Act.put, List.setIfInBounds_toArray, List.set_cons_succ, List.set_cons_zero]) | go_big_quiet_step ((go_at_call 54; exact Calls.later (HN1.out _))))
    refine wpQuiet_nil ?_
    intro _ hw'
    obtain ⟨x1, rfl⟩ := hw'
    go_wp2_with fail
    go_ret
    exact ⟨ret_bool HR.out.symm, belowThen hw1 (Nat.le_refl _) (belowThen hx5 (Nat.le_refl _) x1.h)⟩
   | true =>
    have HN1 := Lib.hid (fun W => refNameD x.1 hnx HB1.out W)
    cases hpx : isName x.2.1.2 with
    | false =>
     have HR : Hid (canRv d = false) := Lib.hid (HBAD.out (by simp [canRi, hpx]))
     have HN2 := Lib.hid (fun W => refNameD x.2.1.2 hpx HB2.out W)
     clear hnx hpx
     try simp only [Act.put, List.setIfInBounds_toArray, List.set_cons_succ, List.set_cons_zero]
     refine wp_region_later_lit (by kernel_rfl) (by kernel_rfl) ?_
     repeat (first | go_big_quiet_skip | ((first | (with_reducible refine wpQuiet_loadL HB.out.name rfl _ rfl rfl ?_) | (with_reducible refine wpQuiet_loadL HB.out.pname rfl _ rfl rfl ?_)); simp only [Act.put, List.setIfInBounds_toArray, List.set_cons_succ, List.set_cons_zero]) | go_big_quiet_step ((go_at_call 54; first | (with_reducible exact Calls.later (HN1.out _)) | (with_reducible exact Calls.later (HN2.out _)))))
     refine wpQuiet_nil ?_
     intro _ hw'
     obtain ⟨x1, rfl⟩ := hw'
     go_wp2_with fail
     go_ret
     exact ⟨ret_bool HR.out.symm, belowThen hw1 (Nat.le_refl _) (belowThen hx5 (Nat.le_refl _) x1.h)⟩
    | true =>
     have HN2 := Lib.hid (fun W => refNameD x.2.1.2 hpx HB2.out W)
     by_cases hk0 : k = 0
     ·have hkd : decide (0 < (k : Int)) = false := by simp; omega
      have HG : Hid (canRi x (behindR (d.2.1.take k)) = true) := Lib.hid (by subst hk0; simp [canRi, hnx, hpx, behindR, less_nilR hnx])
      clear hnx hpx
      try simp only [Act.put, List.setIfInBounds_toArray, List.set_cons_succ, List.set_cons_zero]
      refine wp_region_later_lit (by kernel_rfl) (by kernel_rfl) ?_
      repeat (first | go_big_quiet_skip | ((first | (with_reducible refine wpQuiet_loadL HB.out.name rfl _ rfl rfl ?_) | (with_reducible refine wpQuiet_loadL HB.out.pname rfl _ rfl rfl ?_)); simp only [Act.put, List.setIfInBounds_toArray, List.set_cons_succ, List.set_cons_zero]) | go_big_quiet_step ((go_at_call 54; first | (with_reducible exact Calls.later (HN1.out _)) | (with_reducible exact Calls.later (HN2.out _)))))
      refine wpQuiet_nil ?_
      intro _ hw'
      obtain ⟨x1, rfl⟩ := hw'
      have hx6 := belowThen hx5 (Nat.le_refl _) x1.h
      go_wp2_with fail
      go_roundw
      case rel => exact ⟨k + 1, by omega, by go_num, by rw [HCS.out, HCAN.out, HG.out]; rfl, hx6⟩
      case measure => simp [intOf]; omega
     ·have hkd : 0 < k := by omega
      have hkd2 : decide (0 < k) = true := by simpa using hkd
      have hlt0 : k - 1 < d.2.1.length := by omega
      obtain ⟨y, hyk⟩ : ∃ y, d.2.1[k - 1]? = some y := ⟨_, List.getElem?_eq_getElem hlt0⟩
      obtain ⟨q, hadq, _, hlq⟩ := rf_at (HVI1.out.below hx5) (k - 1) y hyk
      have hby := behindR_at (by omega) hyk
      have HQ := Lib.hid hlq
      have hwr := i64_predR k (by omega) (by omega)
      cases hbl : Op.bytesLess y.1 x.1 with
      | false =>
       have HR : Hid (canRv d = false) := Lib.hid (HBAD.out (by rw [hby]; simp [canRi, hbl]))
       have HGE := Lib.hid (show (!Op.bytesLess y.1 x.1) = true by rw [hbl]; rfl)
       clear hnx hpx hbl hlq hyk hby
       try simp only [Act.put, List.setIfInBounds_toArray, List.set_cons_succ, List.set_cons_zero]
       refine wp_region_later_lit (by kernel_rfl) (by kernel_rfl) ?_
       repeat (first | go_big_quiet_skip | ((first | (with_reducible refine wpQuiet_loadL HB.out.name rfl _ rfl rfl ?_) | (with_reducible refine wpQuiet_loadL HB.out.pname rfl _ rfl rfl ?_) | (with_reducible refine wpQuiet_loadL HD4.out.inp rfl _ rfl rfl ?_) | (with_reducible refine wpQuiet_loadL HQ.out.name rfl _ rfl rfl ?_) | (with_reducible refine wpQuiet_geqS rfl rfl rfl rfl true HGE.out ?_)); simp only [Act.put, List.setIfInBounds_toArray, List.set_cons_succ, List.set_cons_zero]) | go_big_quiet_step ((go_at_call 54; first | (with_reducible exact Calls.later (HN1.out _)) | (with_reducible exact Calls.later (HN2.out _)))))
       refine wpQuiet_nil ?_
       intro _ hw'
       obtain ⟨x1, rfl⟩ := hw'
       go_wp2_with fail
       go_ret
       exact ⟨ret_bool HR.out.symm, belowThen hw1 (Nat.le_refl _) (belowThen hx5 (Nat.le_refl _) x1.h)⟩
      | true =>
       have HG : Hid (canRi x (behindR (d.2.1.take k)) = true) := Lib.hid (by rw [hby]; simp [canRi, hnx, hpx, hbl])
       have HGE := Lib.hid (show (!Op.bytesLess y.1 x.1) = false by rw [hbl]; rfl)
       clear hnx hpx hbl hlq hyk hby
       try simp only [Act.put, List.setIfInBounds_toArray, List.set_cons_succ, List.set_cons_zero]
       refine wp_region_later_lit (by kernel_rfl) (by kernel_rfl) ?_
       repeat (first | go_big_quiet_skip | ((first | (with_reducible refine wpQuiet_loadL HB.out.name rfl _ rfl rfl ?_) | (with_reducible refine wpQuiet_loadL HB.out.pname rfl _ rfl rfl ?_) | (with_reducible refine wpQuiet_loadL HD4.out.inp rfl _ rfl rfl ?_) | (with_reducible refine wpQuiet_loadL HQ.out.name rfl _ rfl rfl ?_) | (with_reducible refine wpQuiet_geqS rfl rfl rfl rfl false HGE.out ?_)); simp only [Act.put, List.setIfInBounds_toArray, List.set_cons_succ, List.set_cons_zero]) | go_big_quiet_step ((go_at_call 54; first | (with_reducible exact Calls.later (HN1.out _)) | (with_reducible exact Calls.later (HN2.out _)))))
       refine wpQuiet_nil ?_
       intro _ hw'
       obtain ⟨x1, rfl⟩ := hw'
       have hx6 := belowThen hx5 (Nat.le_refl _) x1.h
       go_wp2_with fail
       go_roundw
       case rel => exact ⟨k + 1, by omega, by go_num, by rw [HCS.out, HCAN.out, HG.out]; rfl, hx6⟩
       case measure => simp [intOf]; omega
  ·obtain rfl : k = d.2.1.length := by omega
   have hw2 := belowThen hw1 (Nat.le_refl _) hx
   have hca := HCAN.out
   rw [List.take_length] at hca
   have HR0 : Hid (canRv d = (isName d.1 && decide (d.2.1.length ≤ 8) && decide (d.2.2.length ≤ 1000))) := Lib.hid (by simp [canRv, hca])
   have hd1 : decide (d.2.1.length < d.2.1.length) = false := by simp
   clear hca hx
   go_wp2_with (first | (with_reducible refine wpList_loadL HD2.out.inp rfl _ rfl rfl ?_) | (with_reducible refine wpList_loadL HD2.out.name rfl _ rfl rfl ?_))
   refine (refNameD _ rfl hl1 _).mono ?_
   rintro e w3 ⟨rfl, hx⟩
   have hw3 := belowThen hw2 (Nat.le_refl _) hx
   have HD3 := Lib.hid (HD2.out.below hx)
   clear hx
   cases hnm : isName d.1 with
   | false =>
    have HR : Hid (canRv d = false) := Lib.hid (by rw [HR0.out, hnm]; rfl)
    clear hnm
    go_wp2_with fail
    go_ret
    exact ⟨ret_bool HR.out.symm, hw3⟩
   | true =>
    by_cases h8 : d.2.1.length ≤ 8
    ·have hd8 : decide ((d.2.1.length : Int) ≤ 8) = true := by simp; omega
     by_cases h9 : d.2.2.length ≤ 1000
     ·have hd9 : decide ((d.2.2.length : Int) ≤ 1000) = true := by simp; omega
      have HR : Hid (canRv d = true) := Lib.hid (by rw [HR0.out, hnm]; simp [h8, h9])
      clear hnm
      go_wp2_with (first | (with_reducible refine wpList_loadL HD3.out.inp (by kernel_rfl) _ rfl rfl ?_) | (with_reducible refine wpList_loadL HD3.out.rcp (by kernel_rfl) _ rfl rfl ?_))
      go_ret
      exact ⟨ret_bool HR.out.symm, hw3⟩
     ·have hd9 : decide ((d.2.2.length : Int) ≤ 1000) = false := by simp; omega
      have HR : Hid (canRv d = false) := Lib.hid (by rw [HR0.out]; simp [h9])
      clear hnm
      go_wp2_with (first | (with_reducible refine wpList_loadL HD3.out.inp (by kernel_rfl) _ rfl rfl ?_) | (with_reducible refine wpList_loadL HD3.out.rcp (by kernel_rfl) _ rfl rfl ?_))
      go_ret
      exact ⟨ret_bool HR.out.symm, hw3⟩
    ·have hd8 : decide ((d.2.1.length : Int) ≤ 8) = false := by simp; omega
     have HR : Hid (canRv d = false) := Lib.hid (by rw [HR0.out]; simp [h8])
     clear hnm
     go_wp2_with (first | (with_reducible refine wpList_loadL HD3.out.inp (by kernel_rfl) _ rfl rfl ?_) | (with_reducible refine wpList_loadL HD3.out.rcp (by kernel_rfl) _ rfl rfl ?_))
     go_ret
     exact ⟨ret_bool HR.out.symm, hw3⟩
end Go.Proofs.YtdebbmembkbniaaGreat
/-! spenceref01.Number. -/
namespace Go.Proofs.YtdebbmembkbniaaGreat
open Go.RowKit Pl Go.Agg
set_option maxRecDepth 100000 in
set_option maxHeartbeats 1000000 in
theorem refNumber_any (n : Nat) (w : World) (hn : n < 4398046511104) :
  Calls Tryz.prog 78 #[.int .i64 (n : Int)] w fun e w' => ∃ v, e = .returned v ∧ Own EB w.heap.size w' v (encN n) ∧ Below w.heap.size w w' := by
 go_enter Tryz.func78, Tryz.ntmps78
 go_wp2_with fail
 go_loopw [0, 3] (fun x out wr => ∃ k : Nat, x = .int .i64 (k : Int) ∧ k < 4398046511104 ∧ ∃ bs, Own EB w.heap.size wr out bs ∧ bs ++ encN k = encN n ∧ Below w.heap.size w wr) (fun x _ _ => (intOf x).toNat)
 case atStart => exact ⟨n, rfl, hn, [], Own.nil _ _ _, rfl, Below.refl _ _⟩
 case round =>
  obtain ⟨w1, rfl⟩ : ∃ w1 : World, w1 = wr := ⟨_, rfl⟩
  obtain ⟨k, rfl, hk, bs, ho, heq, hw⟩ := hrel
  have hbs : bs.length ≤ 6 := by
   have h1 := congrArg List.length heq
   have h2 := encN_len' 6 n (by omega) (by omega)
   simp only [List.length_append] at h1
   omega
  have h63 : bs.length + 1 ≤ 1099511627776 / 8 := by omega
  have hsz := hw.size
  have HO := Lib.hid ho
  have HEQ := Lib.hid heq
  have HW := Lib.hid hw
  clear ho heq hw
  by_cases hlt : 128 ≤ k
  ·have hI : (128 : Int) ≤ (k : Int) := by omega
   obtain ⟨c, hc⟩ : ∃ c : UInt8, c.toNat = k % 128 + 128 := ⟨UInt8.ofNat (k % 128 + 128), by simp; omega⟩
   have hcc : (k : Int) % 128 + 128 = (c.toNat : Int) := by omega
   have HE : Hid (bs ++ [c] ++ encN (k / 128) = encN n) := Lib.hid (by
    have e : UInt8.ofNat (k % 128 + 128) = c := by rw [← hc]; simp
    rw [← HEQ.out, encN_ge hlt, e, List.append_assoc]; rfl)
   clear hlt hc
   go_wp2_with (first | (refine wpList_push (E := EB) (base := w.heap.size) rfl rfl 11 rfl _ rfl _ rfl (c) rfl (fun _ => rfl) (by simp) HO.out h63 (by decide) hsz ?_; intro u5 v5 w5 ho5 hp5; have HO5 := Lib.hid ho5; have HP5 := Lib.hid (HW.out.trans (hp5.below w.heap.size (Nat.le_refl _) hsz)); clear ho5 hp5))
   go_roundw
   case rel => exact ⟨k / 128, by go_num, by omega, _, HO5.out, HE.out, HP5.out⟩
   case measure => simp [intOf]; omega
  ·obtain ⟨c, rfl⟩ : ∃ c : UInt8, k = c.toNat := ⟨UInt8.ofNat k, by simp; omega⟩
   have hI : ¬ (128 : Int) ≤ (c.toNat : Int) := by omega
   have HE : Hid (bs ++ [c] = encN n) := Lib.hid (by rw [← HEQ.out, encN_lt (by omega), UInt8.ofNat_toNat])
   clear hlt
   go_wp2_with (first | (refine wpList_push (E := EB) (base := w.heap.size) rfl rfl 18 rfl _ rfl _ rfl (c) rfl (fun _ => rfl) (by simp) HO.out h63 (by decide) hsz ?_; intro u5 v5 w5 ho5 hp5; have HO5 := Lib.hid ho5; have HP5 := Lib.hid (HW.out.trans (hp5.below w.heap.size (Nat.le_refl _) hsz)); clear ho5 hp5))
   go_ret
   exact ⟨_, rfl, by rw [← HE.out]; exact HO5.out, HP5.out⟩
end Go.Proofs.YtdebbmembkbniaaGreat
/-! spenceref01.Maker: Num, Raw, Text, Done. -/
namespace Go.Agg
open Go.RowKit
theorem step_appendO {P : Program} {α : Type} {E : Elem P α} {base : Nat} {ops : Array Oper} {o : Oper} {a : Act} {w : World} {Q : Exit → Act → World → Prop} {v : Value} {l : List α} {K : Act → World → Prop} {F : Prop} (hg : o.guard = none) (s x : Operand) (ho : o.op = .call { callee := .builtin .append, args := #[s, x], argTypes := #[E.st, E.st] }) (vx : Value) (hs : a.eval s = v) (hx : a.eval x = vx) (m : List α)
  (hown : Own E base w v l) (hm : SliceOf E w vx m) (h63 : l.length + m.length ≤ 1099511627776 / 8) (hby : E.bytes ≤ 1000) (hbase : base ≤ w.heap.size)
  (h : ∀ v' w', Own E base w' v' (l ++ m) → Pushed E base w w' v → Grew w v v' → K (a.put o.dst v') w') : if Region.wanted o (yielded ops a.tmps) = true then o.wp P a w K Q else F := by
 obtain ⟨v', w', hrun, h2, h3, h4, _⟩ := run_append (ty := o.type) hown _ m hm h63 hby hbase
 exact step_val hg (v := v') (w' := w') (by simp [execOp, ho, resolve, invoke, builtin, hs, hx, hrun]) (h v' w' h2 (pushed_of hown h3) (grew_of (Nat.le_refl _) h4))
end Go.Agg
namespace Go.Proofs.YtdebbmembkbniaaGreat
open Go.RowKit Pl Go.Agg
structure MrV (g : Nat) (w : World) (v : Value) (b : List UInt8) : Prop where
 blk : Blk w g 92 (mkC v)
 own : Own EB (g + 1) w v b
section
variable {g : Nat} {w w' : World} {v : Value} {b : List UInt8}
theorem MrV.load (h : MrV g w v b) : LoadsL Tryz.prog w 23 (some ⟨g, 0, none⟩) v :=
 h.blk.one (P := Tryz.prog) 0 rfl (by kernel_rfl : Tryz.prog.underlying 23 = some (.slice 5)) rfl
theorem MrV.bad (h : MrV g w v b) : LoadsL Tryz.prog w 4 (some ⟨g, 1, none⟩) (.bool false) :=
 h.blk.one (P := Tryz.prog) 1 rfl Tryz.underlying4 rfl
theorem MrV.below (h : MrV g w v b) (hb : Below w.heap.size w w') : MrV g w' v b := ⟨h.blk.below hb, h.own.below hb⟩
theorem MrV.ge (h : MrV g w v b) : ∀ k, v.ownBlock = some k → g ≤ k := fun k hk => by have := (h.own.block k hk).1; omega
theorem MrV.lt (h : MrV g w v b) : ∀ k, v.ownBlock = some k → k < w.heap.size := fun k hk => by
 obtain ⟨_, cur, hc⟩ := h.own.block k hk
 exact Agg.heap_lt hc
theorem MrV.put {w1 : World} {v1 : Value} {l : List UInt8} (h : MrV g w v b) (ho : Own EB (g + 1) w1 v1 l) (hp : Pushed EB (g + 1) w w1 v) (hgr : Grew w v v1) :
  ∃ w2, (Instr.storeAt 23 (.pointer (some ⟨g, 0, none⟩)) v1).run Tryz.prog w1 = .ok () w2 ∧ MrV g w2 v1 l ∧ MkStep g w w2 v v1 := by
 have h1 : Blk w1 g 92 (mkC v) := hp.blk g _ _ _ (by decide) h.blk
 obtain ⟨p, c, rfl⟩ := ho.slice.form
 refine ⟨_, h1.run_put 0 (by simp [mkC]) _ rfl rfl (by kernel_rfl), ⟨h1.set 0 _, ho.keep fun k cur t fr hk hb => ?_⟩, ⟨?_, hgr⟩⟩
 ·rw [Below.heap_setCell _ _ _ _ (by show k ≠ g; omega)]; exact hb
 ·refine (hp.only.mono fun _ _ h => .inr h).trans (T := fun k => k = g) ⟨rfl, rfl, rfl, by simp [World.setCell], fun k _ hk => Below.heap_setCell _ _ _ _ hk⟩ fun _ _ h => .inl h
theorem MrV.stepBelow {v1 : Value} (h : MrV g w v b) (hs : MkStep g w w' v v1) : Below g w w' := hs.below (Nat.le_of_lt h.blk.lt) h.ge
end
set_option maxRecDepth 100000 in
set_option maxHeartbeats 1000000 in
theorem rmNum_any (g : Nat) (v : Value) (n : Nat) (b : List UInt8) (w : World) (hn : n ≤ 1099511627776) (hb : b.length ≤ 16777216) (hm : MrV g w v b) :
  Calls Tryz.prog 37 #[.pointer (some ⟨g, 0, none⟩), .int .i64 (n : Int)] w fun e w' => (∃ r, e = .returned r) ∧ ∃ v', MrV g w' v' (b ++ encN n) ∧ MkStep g w w' v v' := by
 have hlo : ¬ (n : Int) < 0 := by omega
 have hhi : ¬ (1099511627776 : Int) < (n : Int) := by omega
 have HEN := Lib.hid (enters_of Tryz.func78 (by kernel_rfl) rfl : ∀ args w, (callFunc 78 args).run Tryz.prog w = .ok (.enter 78 args) w)
 have HD := Lib.hid ((Below.refl w.heap.size w).drew)
 have HM := Lib.hid hm
 have HLDa := Lib.hid (hm.below HD.out).load.now
 clear hm
 go_enter Tryz.func37, Tryz.ntmps37
 go_wp2_with fail
 try simp only [Act.put, List.setIfInBounds_toArray, List.set_cons_succ, List.set_cons_zero]
 refine wp_region_any (by kernel_rfl) ?_
 refine any_take 0 (.pointer (some ⟨g, 0, none⟩)) rfl (by kernel_rfl) (fun _ _ _ h => h) rfl (fun W => by kernel_rfl) ?_
 try simp only [Act.put, List.setIfInBounds_toArray, List.set_cons_succ, List.set_cons_zero]
 refine any_take 1 (.pointer (some ⟨g, 0, none⟩)) rfl (by kernel_rfl) (fun _ _ _ h => h) rfl (fun W => by kernel_rfl) ?_
 try simp only [Act.put, List.setIfInBounds_toArray, List.set_cons_succ, List.set_cons_zero]
 refine any_take 2 (.pointer (some ⟨g, 0, none⟩)) rfl (by kernel_rfl) (fun _ _ _ h => h) rfl (fun W => by kernel_rfl) ?_
 try simp only [Act.put, List.setIfInBounds_toArray, List.set_cons_succ, List.set_cons_zero]
 refine any_take 3 (.pointer (some ⟨g, 0, none⟩)) rfl (by kernel_rfl) (fun _ _ _ h => h) rfl (fun W => by kernel_rfl) ?_
 try simp only [Act.put, List.setIfInBounds_toArray, List.set_cons_succ, List.set_cons_zero]
 refine any_take 5 (.int .i64 (n : Int)) rfl (by kernel_rfl) (fun _ _ _ h => h) rfl (fun W => by kernel_rfl) ?_
 try simp only [Act.put, List.setIfInBounds_toArray, List.set_cons_succ, List.set_cons_zero]
 refine any_ready [4, 6] (by kernel_rfl) (by simp) ?_
 refine any_cons rfl ?_ ?_
 ·refine step_load rfl 23 _ rfl _ v rfl HLDa.out ?_
  try simp only [Act.put, List.setIfInBounds_toArray, List.set_cons_succ, List.set_cons_zero]
  refine any_one 6 rfl (by kernel_rfl) ?_
  refine step_call rfl 78 _ _ rfl #[.int .i64 (n : Int)] (by simp only [List.map_toArray, List.map_cons, List.map_nil]; rfl) (fun W => HEN.out _ W) ?_
  refine (refNumber_any n _ (by omega)).mono ?_
  rintro e w2 ⟨u, rfl, hu, hx⟩
  have HX := Lib.hid (belowThen HD.out (Nat.le_refl _) hx)
  have HU := Lib.hid hu.slice
  have HM2 := Lib.hid (HM.out.below HX.out)
  have HLDb := Lib.hid HM2.out.load.now
  clear hu hx
  refine ⟨_, rfl, ?_⟩
  try simp only [Act.put, List.setIfInBounds_toArray, List.set_cons_succ, List.set_cons_zero]
  refine any_one 7 rfl (by kernel_rfl) ?_
  refine Agg.step_appendO (E := EB) (base := g + 1) rfl _ _ rfl u rfl rfl (encN n) HM2.out.own HU.out (by have := encN_len hn; omega) (by decide) HM2.out.blk.lt ?_
  intro v3 w3 ho3 hp3 hg3
  obtain ⟨w4, hrun, hmk, hst⟩ := MrV.put HM2.out ho3 hp3 hg3
  have HMK := Lib.hid hmk
  have HST := Lib.hid hst
  clear hmk hst ho3 hp3 hg3
  try simp only [Act.put, List.setIfInBounds_toArray, List.set_cons_succ, List.set_cons_zero]
  refine any_take 8 (.pointer (some ⟨g, 0, none⟩)) rfl (by kernel_rfl) (fun _ _ _ h => h) rfl (fun W => by kernel_rfl) ?_
  try simp only [Act.put, List.setIfInBounds_toArray, List.set_cons_succ, List.set_cons_zero]
  refine any_take 9 (.pointer (some ⟨g, 0, none⟩)) rfl (by kernel_rfl) (fun _ _ _ h => h) rfl (fun W => by kernel_rfl) ?_
  try simp only [Act.put, List.setIfInBounds_toArray, List.set_cons_succ, List.set_cons_zero]
  refine any_one 10 rfl (by kernel_rfl) ?_
  refine Agg.step_store rfl rfl 23 _ _ rfl (.pointer (some ⟨g, 0, none⟩)) _ rfl rfl hrun ?_
  clear hrun
  try simp only [Act.put, List.setIfInBounds_toArray, List.set_cons_succ, List.set_cons_zero]
  refine any_end (by kernel_rfl) ?_
  refine bodyPost_end (results_none rfl _ _ _) rfl ?_
  exact ⟨⟨_, rfl⟩, v3, HMK.out, (MkStep.of_below HX.out).trans HST.out⟩
 refine any_cons rfl ?_ ?_
 ·refine step_call rfl 78 _ _ rfl #[.int .i64 (n : Int)] (by simp only [List.map_toArray, List.map_cons, List.map_nil]; rfl) (fun W => HEN.out _ W) ?_
  refine (refNumber_any n _ (by omega)).mono ?_
  rintro e w2 ⟨u, rfl, hu, hx⟩
  have HX := Lib.hid (belowThen HD.out (Nat.le_refl _) hx)
  have HU := Lib.hid hu.slice
  have HM2 := Lib.hid (HM.out.below HX.out)
  have HLDb := Lib.hid HM2.out.load.now
  clear hu hx
  refine ⟨_, rfl, ?_⟩
  try simp only [Act.put, List.setIfInBounds_toArray, List.set_cons_succ, List.set_cons_zero]
  refine any_one 4 rfl (by kernel_rfl) ?_
  refine step_load rfl 23 _ rfl _ v rfl HLDb.out ?_
  try simp only [Act.put, List.setIfInBounds_toArray, List.set_cons_succ, List.set_cons_zero]
  refine any_one 7 rfl (by kernel_rfl) ?_
  refine Agg.step_appendO (E := EB) (base := g + 1) rfl _ _ rfl u rfl rfl (encN n) HM2.out.own HU.out (by have := encN_len hn; omega) (by decide) HM2.out.blk.lt ?_
  intro v3 w3 ho3 hp3 hg3
  obtain ⟨w4, hrun, hmk, hst⟩ := MrV.put HM2.out ho3 hp3 hg3
  have HMK := Lib.hid hmk
  have HST := Lib.hid hst
  clear hmk hst ho3 hp3 hg3
  try simp only [Act.put, List.setIfInBounds_toArray, List.set_cons_succ, List.set_cons_zero]
  refine any_take 8 (.pointer (some ⟨g, 0, none⟩)) rfl (by kernel_rfl) (fun _ _ _ h => h) rfl (fun W => by kernel_rfl) ?_
  try simp only [Act.put, List.setIfInBounds_toArray, List.set_cons_succ, List.set_cons_zero]
  refine any_take 9 (.pointer (some ⟨g, 0, none⟩)) rfl (by kernel_rfl) (fun _ _ _ h => h) rfl (fun W => by kernel_rfl) ?_
  try simp only [Act.put, List.setIfInBounds_toArray, List.set_cons_succ, List.set_cons_zero]
  refine any_one 10 rfl (by kernel_rfl) ?_
  refine Agg.step_store rfl rfl 23 _ _ rfl (.pointer (some ⟨g, 0, none⟩)) _ rfl rfl hrun ?_
  clear hrun
  try simp only [Act.put, List.setIfInBounds_toArray, List.set_cons_succ, List.set_cons_zero]
  refine any_end (by kernel_rfl) ?_
  refine bodyPost_end (results_none rfl _ _ _) rfl ?_
  exact ⟨⟨_, rfl⟩, v3, HMK.out, (MkStep.of_below HX.out).trans HST.out⟩
 exact AllReady.nil
set_option maxRecDepth 100000 in
set_option maxHeartbeats 1000000 in
theorem rmRaw_any (g : Nat) (v x : Value) (l b : List UInt8) (w : World) (hb : b.length ≤ 16777216) (hl : l.length ≤ 16777216) (hx : SliceOf EB w x l) (hm : MrV g w v b) :
  Calls Tryz.prog 38 #[.pointer (some ⟨g, 0, none⟩), x] w fun e w' => (∃ r, e = .returned r) ∧ ∃ v', MrV g w' v' (b ++ l) ∧ MkStep g w w' v v' := by
 have HM := Lib.hid hm
 have HX := Lib.hid hx
 have HO := Lib.hid hm.own
 have h63 : b.length + l.length ≤ 1099511627776 / 8 := by omega
 have hbase : g + 1 ≤ w.heap.size := hm.blk.lt
 clear hm hx
 go_enter Tryz.func38, Tryz.ntmps38
 go_wp2_with (first | (with_reducible refine wpList_loadL HM.out.load rfl _ rfl rfl ?_) | (refine Agg.wpList_appendO (E := EB) (base := g + 1) rfl _ _ rfl x rfl rfl l HO.out HX.out h63 (by decide) hbase ?_; intro v1 w2 ho1 hp1 hgr1; obtain ⟨w3, hrun, hmk, hst⟩ := MrV.put HM.out ho1 hp1 hgr1; have HMK := Lib.hid hmk; have HST := Lib.hid hst; clear ho1 hp1 hgr1 hmk hst) | (refine wpList_store rfl rfl 23 _ _ rfl (.pointer (some ⟨g, 0, none⟩)) _ rfl rfl hrun ?_))
 refine bodyPost_end (results_none rfl _ _ _) rfl ?_
 exact ⟨⟨_, rfl⟩, v1, HMK.out, HST.out⟩
set_option maxRecDepth 100000 in
set_option maxHeartbeats 1000000 in
theorem rmText_any (g : Nat) (v x : Value) (l b : List UInt8) (w : World) (hb : b.length ≤ 4194304) (hl : l.length ≤ 1048576) (hx : Off EB g w v x l) (hm : MrV g w v b) :
  Calls Tryz.prog 36 #[.pointer (some ⟨g, 0, none⟩), x] w fun e w' => (∃ r, e = .returned r) ∧ ∃ v', MrV g w' v' (b ++ (encN l.length ++ l)) ∧ MkStep g w w' v v' := by
 have HM := Lib.hid hm
 have HX := Lib.hid hx
 have hlx := fun W => bytes_len hx.slice W
 have hhi : ¬ (1048576 : Int) < (l.length : Int) := by omega
 have hen := encN_len (n := l.length) (by omega)
 clear hm hx
 go_enter Tryz.func36, Tryz.ntmps36
 go_wp2_with fail
 refine (rmNum_any g v l.length b _ (by omega) (by omega) HM.out).mono ?_
 rintro e w1 ⟨⟨r, rfl⟩, v1, hm1, hs1⟩
 have HM1 := Lib.hid hm1
 have HS1 := Lib.hid hs1
 have HX1 := Lib.hid (HX.out.step hs1)
 clear hm1 hs1
 go_wp2_with fail
 refine (rmRaw_any g v1 x l (b ++ encN l.length) _ (by simp only [List.length_append]; omega) (by omega) HX1.out.slice HM1.out).mono ?_
 rintro e w2 ⟨⟨r2, rfl⟩, v2, hm2, hs2⟩
 have HM2 := Lib.hid hm2
 have HS2 := Lib.hid (HS1.out.trans hs2)
 clear hm2 hs2
 go_wp2_with fail
 refine bodyPost_end (results_none rfl _ _ _) rfl ?_
 exact ⟨⟨_, rfl⟩, v2, by rw [← List.append_assoc]; exact HM2.out, HS2.out⟩
set_option maxRecDepth 100000 in
set_option maxHeartbeats 1000000 in
theorem rmDone_any (g : Nat) (v : Value) (b : List UInt8) (w : World) (hb : b.length ≤ 33554432) (hm : MrV g w v b) :
  Calls Tryz.prog 39 #[.pointer (some ⟨g, 0, none⟩)] w fun e w' => ∃ v', e = .returned (.tuple #[v', .int .i64 0]) ∧ Own EB w.heap.size w' v' b ∧ Below w.heap.size w w' := by
 have HM := Lib.hid hm
 clear hm
 go_enter Tryz.func39, Tryz.ntmps39
 go_wp2_with (first | (with_reducible refine wpList_loadL HM.out.bad rfl _ rfl rfl ?_) | (refine wpList_slice0 (base := w.heap.size) EB rfl rfl (Nat.le_refl _) ?_; intro v0 w1 ho1 hx1 hne1; have HO1 := Lib.hid ho1; have HX1 := Lib.hid hx1; have HM1 := Lib.hid (HM.out.below hx1); have hsz1 := hx1.size; clear ho1 hx1 hne1) | (with_reducible refine wpList_loadL HM1.out.load rfl _ rfl rfl ?_) | (refine Agg.wpList_appendS (E := EB) (base := w.heap.size) rfl _ _ rfl v rfl rfl b HO1.out HM1.out.own.slice (by simp; omega) (by decide) hsz1 ?_; intro v2 w2 ho2 hp2 hne2; have HO2 := Lib.hid ho2; have HX2 := Lib.hid (HX1.out.trans (hp2.below w.heap.size (Nat.le_refl _) hsz1)); clear ho2 hp2 hne2))
 go_ret2
 exact ⟨_, rfl, by simpa using HO2.out, HX2.out⟩
end Go.Proofs.YtdebbmembkbniaaGreat
/-! Numbers out of bytes: the plain law of code.Cursor. -/
namespace Go.Agg
def numGo : Nat → Nat → List UInt8 → Nat × Nat
 | _, n, [] => (0, n)
 | k, n, c :: t => if k = 6 then (0, n) else if c.toNat < 128 then (k + 1, n + c.toNat * 128 ^ k) else numGo (k + 1) (n + c.toNat % 128 * 128 ^ k) t
def dec : Nat → List UInt8 → Nat × Nat
 | _, [] => (0, 0)
 | 0, _ :: _ => (0, 0)
 | f + 1, c :: t => if c.toNat < 128 then (1, c.toNat) else if (dec f t).1 = 0 then (0, 0) else ((dec f t).1 + 1, c.toNat % 128 + 128 * (dec f t).2)
theorem numGo_dec : ∀ (l : List UInt8) (k n : Nat), k ≤ 6 → if (dec (6 - k) l).1 = 0 then (numGo k n l).1 = 0 else numGo k n l = (k + (dec (6 - k) l).1, n + (dec (6 - k) l).2 * 128 ^ k) := by
 intro l
 induction l with
 | nil => intro k n _; cases h : 6 - k <;> simp [dec, numGo]
 | cons c t ih =>
  intro k n hk
  by_cases h6 : k = 6
  ·subst h6; simp [dec, numGo]
  ·have hf : 6 - k = (6 - (k + 1)) + 1 := by omega
   rw [hf]
   simp only [dec, numGo, if_neg h6]
   by_cases hc : c.toNat < 128
   ·simp [hc]
   ·simp only [if_neg hc]
    have := ih (k + 1) (n + c.toNat % 128 * 128 ^ k) (by omega)
    by_cases h0 : (dec (6 - (k + 1)) t).1 = 0
    ·rw [if_pos h0] at this ⊢
     simpa using this
    ·rw [if_neg h0] at this
     rw [if_neg h0]
     simp only [if_neg (show ¬ (dec (6 - (k + 1)) t).1 + 1 = 0 by omega)]
     rw [this]
     refine Prod.ext (by show k + 1 + _ = k + (_ + 1); omega) ?_
     show n + c.toNat % 128 * 128 ^ k + (dec (6 - (k + 1)) t).2 * 128 ^ (k + 1) = n + (c.toNat % 128 + 128 * (dec (6 - (k + 1)) t).2) * 128 ^ k
     rw [Nat.pow_succ, Nat.add_mul, ← Nat.add_assoc]
     congr 1
     rw [Nat.mul_comm 128, Nat.mul_assoc, Nat.mul_comm (128 ^ k) 128]
theorem dec_le : ∀ (f : Nat) (l : List UInt8), (dec f l).1 ≤ f ∧ (dec f l).1 ≤ l.length ∧ (dec f l).2 < 128 ^ f := by
 intro f
 induction f with
 | zero => intro l; cases l <;> simp [dec]
 | succ f ih =>
  intro l
  cases l with
  | nil => simp [dec]; exact Nat.pow_pos (by omega)
  | cons c t =>
   obtain ⟨h1, h2, h3⟩ := ih t
   simp only [dec]
   have hp : 0 < 128 ^ f := Nat.pow_pos (by omega)
   rw [Nat.pow_succ]
   split
   ·refine ⟨by show 1 ≤ f + 1; omega, by simp, ?_⟩
    show c.toNat < 128 ^ f * 128
    omega
   ·split
    ·refine ⟨by simp, by simp, ?_⟩
     show 0 < 128 ^ f * 128
     omega
    ·refine ⟨by show _ + 1 ≤ _; omega, by show _ + 1 ≤ (c :: t).length; simp only [List.length_cons]; omega, ?_⟩
     show c.toNat % 128 + 128 * (dec f t).2 < 128 ^ f * 128
     have : c.toNat % 128 < 128 := Nat.mod_lt _ (by omega)
     omega
theorem dec_enc : ∀ (f : Nat) (l : List UInt8), (dec f l).1 ≠ 0 → (encN (dec f l).2).length ≤ (dec f l).1 ∧ ((encN (dec f l).2).length = (dec f l).1 → l.take (dec f l).1 = encN (dec f l).2) := by
 intro f
 induction f with
 | zero => intro l h; cases l <;> simp [dec] at h
 | succ f ih =>
  intro l h
  cases l with
  | nil => simp [dec] at h
  | cons c t =>
   simp only [dec] at h ⊢
   by_cases hc : c.toNat < 128
   ·simp only [if_pos hc]
    rw [encN_lt hc]
    simp
   ·simp only [if_neg hc] at h ⊢
    by_cases h0 : (dec f t).1 = 0
    ·simp [h0] at h
    ·simp only [if_neg h0] at h ⊢
     obtain ⟨h1, h2⟩ := ih t h0
     have hc2 := c.toNat_lt
     by_cases hv : (dec f t).2 = 0
     ·rw [hv, Nat.mul_zero, Nat.add_zero, encN_lt (Nat.mod_lt _ (by omega))]
      refine ⟨by simp, fun h => ?_⟩
      simp only [List.length_cons, List.length_nil] at h
      omega
     ·have hge : 128 ≤ c.toNat % 128 + 128 * (dec f t).2 := by omega
      have hd : (c.toNat % 128 + 128 * (dec f t).2) / 128 = (dec f t).2 := by omega
      have hm : (c.toNat % 128 + 128 * (dec f t).2) % 128 = c.toNat % 128 := by omega
      rw [encN_ge hge, hd, hm]
      refine ⟨by simp only [List.length_cons]; omega, fun h => ?_⟩
      simp only [List.length_cons] at h
      rw [List.take_succ_cons, h2 (by omega)]
      congr 1
      have : c.toNat % 128 + 128 = c.toNat := by omega
      rw [this]
      simp
def getN (most : Nat) (b : List UInt8) : Option (Nat × List UInt8) :=
 if (dec 6 b).1 = 0 ∨ (dec 6 b).1 ≠ (encN (dec 6 b).2).length ∨ 1099511627776 < (dec 6 b).2 ∨ most < (dec 6 b).2 then none else some ((dec 6 b).2, b.drop (dec 6 b).1)
theorem getN_some {most n : Nat} {b y : List UInt8} (h : getN most b = some (n, y)) : b = encN n ++ y ∧ n ≤ most ∧ n ≤ 1099511627776 := by
 unfold getN at h
 split at h
 ·cases h
 ·rename_i hc
  have h1 : (dec 6 b).1 ≠ 0 := fun e => hc (.inl e)
  have h2 : (dec 6 b).1 = (encN (dec 6 b).2).length := Decidable.byContradiction fun e => hc (.inr (.inl e))
  obtain ⟨rfl, rfl⟩ : (dec 6 b).2 = n ∧ b.drop (dec 6 b).1 = y := by simpa using h
  have := (dec_enc 6 b h1).2 h2.symm
  exact ⟨by rw [← this, List.take_append_drop], by omega, by omega⟩
end Go.Agg
/-! code.Cursor: fail, length, Num. -/
namespace Go.Proofs.YtdebbmembkbniaaGreat
open Go.RowKit Pl Go.Agg
def cuC (v : Value) (e : Nat) : Array Value := #[v, .int .i64 (e : Int)]
theorem restKeepT {base : Nat} {w w' : World} {v : Value} {r : List UInt8} (h : Rest base w v r) (hk : ∀ (g : Nat) (cur : Array Value) (fr : Nat × Nat), w.heap[g]? = some (Obj.cells cur 5 fr) → w'.heap[g]? = some (Obj.cells cur 5 fr)) : Rest base w' v r := by
 rcases h with h | ⟨g, off, cap, cs, rfl, hle, hg, hb, hc⟩
 ·exact .inl h
 ·exact .inr ⟨g, off, cap, cs, rfl, hle, hg, hk g cs _ hb, hc⟩
structure CuV (base g : Nat) (w : World) (v : Value) (r : List UInt8) (e : Nat) : Prop where
 blk : Blk w g 158 (cuC v e)
 rest : Rest base w v r
section
variable {base g : Nat} {w w' : World} {v : Value} {r : List UInt8} {e : Nat}
theorem CuV.load (h : CuV base g w v r e) : LoadsL Tryz.prog w 23 (some ⟨g, 0, none⟩) v :=
 h.blk.one (P := Tryz.prog) 0 rfl (by kernel_rfl : Tryz.prog.underlying 23 = some (.slice 5)) rfl
theorem CuV.err (h : CuV base g w v r e) : LoadsL Tryz.prog w 30 (some ⟨g, 1, none⟩) (.int .i64 (e : Int)) :=
 h.blk.one (P := Tryz.prog) 1 rfl Tryz.underlying30 rfl
theorem CuV.below (h : CuV base g w v r e) (hb : Below w.heap.size w w') : CuV base g w' v r e := ⟨h.blk.below hb, h.rest.below hb⟩
theorem CuV.put (h : CuV base g w v r e) (i : Nat) (hi : i < 2) (u : Value) (hu : u.cells = #[u]) (h1 : u.oneCell' = true) {ty : TypeId} (hs : (Tryz.prog.info? ty).map (·.size) = some 1) :
  ∃ w', (Instr.storeAt ty (.pointer (some ⟨g, i, none⟩)) u).run Tryz.prog w = .ok () w' ∧ Blk w' g 158 ((cuC v e).setIfInBounds i u) ∧ Only (· = g) w w' ∧ (∀ {B : Nat} {x : Value} {l : List UInt8}, Rest B w x l → Rest B w' x l) := by
 refine ⟨_, h.blk.run_put i (by simpa [cuC] using hi) u hu h1 hs, h.blk.set i u, ⟨rfl, rfl, rfl, by simp [World.setCell], fun k _ hk => Below.heap_setCell _ _ _ _ hk⟩, fun {B x l} hr => restKeepT hr fun k cur fr hk => ?_⟩
 rw [Below.heap_setCell _ _ _ _ (by
  show k ≠ g
  rintro rfl
  have hb := h.blk
  unfold Blk at hb
  rw [hk] at hb
  injection hb with hb
  injection hb with _ hb
  exact absurd hb (by decide))]
 exact hk
end
set_option maxRecDepth 100000 in
set_option maxHeartbeats 1000000 in
theorem fail_any (base g : Nat) (v : Value) (r : List UInt8) (e c : Nat) (w : World) (hm : CuV base g w v r e) :
  Calls Tryz.prog 80 #[.pointer (some ⟨g, 0, none⟩), .int .i64 (c : Int)] w fun x w' => (∃ r, x = .returned r) ∧ CuV base g w' (.slice none 0 0) [] (if e = 0 then c else e) ∧ Only (· = g) w w' := by
 have HE := Lib.hid hm.err
 have HM := Lib.hid hm
 clear hm
 by_cases h0 : e = 0
 ·subst h0
  obtain ⟨w1, hrun1, hb1, ho1, hr1⟩ := HM.out.put (ty := 30) 1 (by omega) (.int .i64 (c : Int)) rfl rfl (by kernel_rfl)
  have hm1 : CuV base g w1 v r c := ⟨hb1, hr1 HM.out.rest⟩
  obtain ⟨w2, hrun2, hb2, ho2, _⟩ := hm1.put (ty := 23) 0 (by omega) (.slice none 0 0) rfl rfl (by kernel_rfl)
  have HO := Lib.hid (ho1.trans ho2 fun _ _ h => h)
  have HB := Lib.hid hb2
  clear hb1 ho1 hr1 hm1 hb2 ho2
  go_enter Tryz.func80, Tryz.ntmps80
  go_wp2_with (first | (with_reducible refine wpList_loadL HE.out rfl _ rfl rfl ?_) | (refine wpList_store rfl rfl 30 _ _ rfl (.pointer (some ⟨g, 1, none⟩)) _ rfl rfl hrun1 ?_) | (refine wpList_store rfl rfl 23 _ _ rfl (.pointer (some ⟨g, 0, none⟩)) _ rfl rfl hrun2 ?_))
  refine bodyPost_end (results_none rfl _ _ _) rfl ?_
  exact ⟨⟨_, rfl⟩, ⟨HB.out, .inl ⟨rfl, rfl⟩⟩, HO.out⟩
 ·obtain ⟨w2, hrun2, hb2, ho2, _⟩ := HM.out.put (ty := 23) 0 (by omega) (.slice none 0 0) rfl rfl (by kernel_rfl)
  have hq : ((e : Int) == 0) = false := by simp [h0]
  have HH := Lib.hid h0
  have HO := Lib.hid ho2
  have HB := Lib.hid hb2
  clear hb2 ho2 h0
  go_enter Tryz.func80, Tryz.ntmps80
  go_wp2_with (first | (with_reducible refine wpList_loadL HE.out rfl _ rfl rfl ?_) | (refine wpList_store rfl rfl 23 _ _ rfl (.pointer (some ⟨g, 0, none⟩)) _ rfl rfl hrun2 ?_))
  refine bodyPost_end (results_none rfl _ _ _) rfl ?_
  exact ⟨⟨_, rfl⟩, ⟨HB.out, .inl ⟨rfl, rfl⟩⟩, HO.out⟩
set_option maxRecDepth 100000 in
set_option maxHeartbeats 1000000 in
theorem length_any (n : Nat) (w : World) (hn : n < 4398046511104) :
  Calls Tryz.prog 79 #[.int .u64 (n : Int)] w fun e w' => e = .returned (.int .i64 ((encN n).length : Int)) ∧ w' = w := by
 go_enter Tryz.func79, Tryz.ntmps79
 go_wp2_with fail
 go_loopw [0, 3] (fun x m wr => ∃ k j : Nat, x = .int .u64 (k : Int) ∧ m = .int .i64 (j : Int) ∧ k < 4398046511104 ∧ j ≤ 100 ∧ j + (encN k).length = (encN n).length + 1 ∧ wr = w) (fun x _ _ => (intOf x).toNat)
 case atStart => exact ⟨n, 1, rfl, rfl, hn, by omega, by omega, rfl⟩
 case round =>
  obtain ⟨k, j, rfl, rfl, hk, hj, heq, rfl⟩ := hrel
  have h7 : (encN n).length ≤ 6 := encN_len' 6 n (by omega) (by omega)
  have hpos : 0 < (encN k).length := by rw [encN]; split <;> simp
  by_cases hlt : 128 ≤ k
  ·have hI : (128 : Int) ≤ (k : Int) := by omega
   have hE := encN_ge hlt
   have HE := Lib.hid (show j + 1 + (encN (k / 128)).length = (encN n).length + 1 by rw [hE] at heq; simp only [List.length_cons] at heq; omega)
   have hj6 : j ≤ 6 := by omega
   clear hE heq hpos
   go_wp2_with fail
   go_roundw
   case rel => exact ⟨k / 128, j + 1, by go_num, by go_num, by omega, by omega, HE.out, trivial⟩
   case measure => simp [intOf]; omega
  ·have hI : ¬ (128 : Int) ≤ (k : Int) := by omega
   have hj2 : (j : Int) = ((encN n).length : Int) := by rw [encN_lt (by omega)] at heq; simp only [List.length_cons, List.length_nil] at heq; omega
   have HJ := Lib.hid hj2
   clear hj2 heq hpos
   go_wp2_with fail
   go_ret
   exact ⟨by rw [← HJ.out]; rfl, rfl⟩
end Go.Proofs.YtdebbmembkbniaaGreat
/-! code.Cursor.Num. -/
namespace Go.Proofs.YtdebbmembkbniaaGreat
open Go.RowKit Pl Go.Agg
theorem runLow (p : Option Addr) (n c k : Nat) (hk : k ≤ n) (W : World) : (Instr.sliceAt 23 (.slice p n c) (some (.int .i64 (k : Int))) none none).run Tryz.prog W = .ok (.slice (if c = k then p else p.map (·.add k)) (n - k) (c - k)) W := by
 have hu : Tryz.prog.underlying 23 = some (.slice 5) := by kernel_rfl
 simp [Instr.sliceAt, Instr.slice, Instr.sliceBounds, Instr.sliceBound, run_underlying hu, Sem.run_bind, asIntOf]
 intro h
 omega
theorem rest_low {base : Nat} {w : World} {v : Value} {r : List UInt8} (h : Rest base w v r) (k : Nat) (hk : k ≤ r.length) :
  ∃ vx, (∀ W, (Instr.sliceAt 23 v (some (.int .i64 (k : Int))) none none).run Tryz.prog W = .ok vx W) ∧ Rest base w vx (r.drop k) ∧ vx.cells = #[vx] ∧ vx.oneCell' = true := by
 have h' := h
 rcases h with ⟨rfl, rfl⟩ | ⟨g, off, cap, cs, rfl, hle, hg, hb, hsz, hc⟩
 ·obtain rfl : k = 0 := by simpa using hk
  exact ⟨_, fun W => runLow _ _ _ 0 (by omega) W, by simpa using h', rfl, rfl⟩
 ·refine ⟨_, fun W => runLow _ _ _ k hk W, ?_, rfl, rfl⟩
  by_cases hck : cap = k
  ·rw [if_pos hck, show r.length - k = 0 by omega, show cap - k = 0 by omega]
   exact h'.empty (List.drop_eq_nil_of_le (by omega))
  ·rw [if_neg hck]
   have := h'.drop k hk
   have e : (some (⟨g, off, none⟩ : Addr)).map (·.add k) = some ⟨g, off + k, none⟩ := by rw [Option.map_some, add_plain]
   rw [e]
   exact this
theorem or_shift (N x k : Nat) (hx : x < 128) (hN : N < 128 ^ k) (hk : k ≤ 5) : bits .or .u64 (N : Int) (IntKind.u64.wrap ((x : Int) * 2 ^ (7 * k))) = ((N + x * 128 ^ k : Nat) : Int) := by
 have e : 128 ^ k = 2 ^ (7 * k) := by rw [Nat.pow_mul]
 have h5 : 2 ^ (7 * k) ≤ 2 ^ 35 := Nat.pow_le_pow_right (by omega) (by omega)
 have hp : x * 2 ^ (7 * k) ≤ 128 * 2 ^ 35 := Nat.mul_le_mul (by omega) h5
 have e2 : (x : Int) * 2 ^ (7 * k) = ((x * 2 ^ (7 * k) : Nat) : Int) := by push_cast; rfl
 rw [e] at hN
 rw [e2, IntKind.wrap_u64, Int.emod_eq_of_lt (by omega) (by omega), u64_or_nat _ _ (by omega) (by omega), e, Nat.or_comm, Nat.mul_comm, ← Nat.two_pow_add_eq_or_of_lt hN, Nat.add_comm]
theorem andNot128 (b : UInt8) : bits .andNot .u8 (b.toNat : Int) 128 = ((b.toNat % 128 : Nat) : Int) := by
 have h : ∀ m : Nat, m < 256 → bits .andNot .u8 (m : Int) 128 = ((m % 128 : Nat) : Int) := by decide +kernel
 exact h _ b.toNat_lt
def CNum (base g most : Nat) (r : List UInt8) (e : Nat) (x : Ending) (w' : World) : Prop :=
 (∃ n y v', getN most r = some (n, y) ∧ x = .returned (.int .i64 (n : Int)) ∧ CuV base g w' v' y e) ∨
 (getN most r = none ∧ x = .returned (.int .i64 0) ∧ CuV base g w' (.slice none 0 0) [] (if e = 0 then 4 else e))
set_option maxRecDepth 100000 in
set_option maxHeartbeats 4000000 in
theorem cnum_any (base g most : Nat) (v : Value) (r : List UInt8) (e : Nat) (w : World) (hr : r.length ≤ 16777216) (hmo : most ≤ 1099511627776) (hm : CuV base g w v r e) :
  Calls Tryz.prog 42 #[.pointer (some ⟨g, 0, none⟩), .int .i64 (most : Int)] w fun x w' => CNum base g most r e x w' ∧ Only (· = g) w w' := by
 have hlr := fun W => bytes_len hm.rest.slice W
 have HM := Lib.hid hm
 clear hm
 go_enter Tryz.func42, Tryz.ntmps42
 go_wp2_with fail
 go_step3
 go_wp2_with (first | (with_reducible refine wpList_loadL HM.out.load rfl _ rfl rfl ?_))
 go_step3
 go_wp2_with (first | (with_reducible refine wpList_loadL HM.out.load rfl _ rfl rfl ?_))
 go_loopw [5, 6, 16] (fun n m i wr => ∃ k N : Nat, k ≤ r.length ∧ k ≤ 6 ∧ i = .int .i64 (k : Int) ∧ n = .int .u64 (N : Int) ∧ m = .int .i64 0 ∧ N < 128 ^ k ∧ numGo 0 0 r = numGo k N (r.drop k) ∧ wr = w) (fun _ _ i _ => 7 - (intOf i).toNat)
 case atStart => exact ⟨0, 0, by omega, by omega, rfl, rfl, rfl, by simp, by simp, rfl⟩
 case round =>
  obtain ⟨k, N, hkl, hk6, rfl, rfl, rfl, hN, hgo, rfl⟩ := hrel
  have HGO := Lib.hid hgo
  have HNN := Lib.hid hN
  clear hgo hN
  by_cases hlt : k < r.length
  ·obtain ⟨b, hbk⟩ : ∃ b, r[k]? = some b := ⟨_, List.getElem?_eq_getElem hlt⟩
   have hdrop : r.drop k = b :: r.drop (k + 1) := by
    obtain ⟨h1, rfl⟩ := List.getElem?_eq_some_iff.1 hbk
    exact List.drop_eq_getElem_cons h1
   obtain ⟨q, hadr, hld⟩ := byte_at HM.out.rest.slice k b hbk
   have HL := Lib.hid hld
   have hb256 : b.toNat < 256 := b.toNat_lt
   by_cases h6 : k = 6
   ·have h6I : ((k : Int) == 6) = true := by simp; omega
    have HGO := Lib.hid (show numGo 0 0 r = (0, N) by rw [HGO.out, hdrop, numGo, if_pos h6])
    clear hld hbk hdrop h6
    go_wp2_with (first | (with_reducible refine wpList_loadL HL.out rfl _ rfl rfl ?_))
    have HNONE := Lib.hid (show getN most r = none by
     have hd := numGo_dec r 0 0 (by omega)
     have h0 : (dec 6 r).1 = 0 := by
      by_cases h0 : (dec 6 r).1 = 0
      ·exact h0
      ·rw [if_neg h0, HGO.out] at hd
       have h1 : (0 : Nat) = 0 + (dec 6 r).1 := congrArg Prod.fst hd
       omega
     unfold getN
     rw [if_pos (.inl h0)])
    skip
    go_wp2_with fail
    refine (fail_any base g v r e 4 _ HM.out).mono ?_
    rintro x w9 ⟨⟨rr, rfl⟩, hcu, hon⟩
    have HCU := Lib.hid hcu
    have HON := Lib.hid hon
    clear hcu hon
    go_wp2_with fail
    try rw [Exit.noGoto_ret]
    go_ret
    exact ⟨.inr ⟨HNONE.out, rfl, HCU.out⟩, HON.out⟩

   ·have hk5 : k ≤ 5 := by omega
    have h6I : ((k : Int) == 6) = false := by simp; omega
    have HGO := Lib.hid (show numGo 0 0 r = if b.toNat < 128 then (k + 1, N + b.toNat * 128 ^ k) else numGo (k + 1) (N + b.toNat % 128 * 128 ^ k) (r.drop (k + 1)) by rw [HGO.out, hdrop, numGo, if_neg h6])
    clear hld hbk hdrop h6
    by_cases hb : b.toNat < 128
    ·have hI : (b.toNat : Int) < 128 := by omega
     obtain ⟨M, hM⟩ : ∃ M, N + b.toNat * 128 ^ k = M := ⟨_, rfl⟩
     have hor := or_shift N b.toNat k hb HNN.out hk5
     rw [hM] at hor
     have HDEC := Lib.hid (show dec 6 r = (k + 1, M) by
      have hd := numGo_dec r 0 0 (by omega)
      have hg := HGO.out
      rw [if_pos hb, hM] at hg
      rw [hg] at hd
      split at hd
      ·exact absurd hd (by simp)
      ·simp only [Nat.zero_add, Nat.pow_zero, Nat.mul_one, Nat.sub_zero] at hd
       exact hd.symm)
     have HMB := Lib.hid (show M < 4398046511104 by
      have := (dec_le 6 r).2.2
      rw [HDEC.out] at this
      exact this)
     clear hM hb
     go_wp2_with (first | (with_reducible refine wpList_loadL HL.out rfl _ rfl rfl ?_))
     refine (length_any M _ HMB.out).mono ?_
     rintro x w8 ⟨rfl, rfl⟩
     obtain ⟨ln, hln⟩ : ∃ n, (encN M).length = n := ⟨_, rfl⟩
     rw [hln]
     have HLN := Lib.hid hln
     clear hln
     by_cases h1 : k + 1 = ln
     ·have hne : ((k : Int) + 1 != (ln : Int)) = false := by simp; omega
      by_cases h2 : 1099511627776 < M
      ·have h2I : (1099511627776 : Int) < (M : Int) := by omega
       have HNONE := Lib.hid (show getN most r = none by unfold getN; rw [HDEC.out, if_pos (.inr (.inr (.inl h2)))])
       clear h1 h2
       go_wp2_with fail
       refine (fail_any base g v r e 4 _ HM.out).mono ?_
       rintro x w9 ⟨⟨rr, rfl⟩, hcu, hon⟩
       have HCU := Lib.hid hcu
       have HON := Lib.hid hon
       clear hcu hon
       go_wp2_with fail
       try rw [Exit.noGoto_ret]
       go_ret
       exact ⟨.inr ⟨HNONE.out, rfl, HCU.out⟩, HON.out⟩

      ·have h2I : ¬ (1099511627776 : Int) < (M : Int) := by omega
       by_cases h3 : most < M
       ·have h3I : (most : Int) < (M : Int) := by omega
        have HNONE := Lib.hid (show getN most r = none by unfold getN; rw [HDEC.out, if_pos (.inr (.inr (.inr h3)))])
        clear h1 h2 h3
        go_wp2_with fail
        refine (fail_any base g v r e 4 _ HM.out).mono ?_
        rintro x w9 ⟨⟨rr, rfl⟩, hcu, hon⟩
        have HCU := Lib.hid hcu
        have HON := Lib.hid hon
        clear hcu hon
        go_wp2_with fail
        try rw [Exit.noGoto_ret]
        go_ret
        exact ⟨.inr ⟨HNONE.out, rfl, HCU.out⟩, HON.out⟩

       ·have h3I : ¬ (most : Int) < (M : Int) := by omega
        have HSOME := Lib.hid (show getN most r = some (M, r.drop (k + 1)) by
         unfold getN
         rw [HDEC.out, if_neg (by
          rintro (h | h | h | h)
          ·exact absurd h (by simp)
          ·exact h (by show k + 1 = (encN M).length; rw [HLN.out]; exact h1)
          ·exact h2 h
          ·exact h3 h)])
        have h3N : ¬ most < M := h3
        have hk0 : ((k : Int) + 1 == 0) = false := by simp; omega
        have hm0 : ¬ (most : Int) < 0 := by omega
        clear h1 h2 h3
        obtain ⟨vx, hsv, hrx, hvc, hv1⟩ := rest_low HM.out.rest (k + 1) (by omega)
        rw [show ((k + 1 : Nat) : Int) = (k : Int) + 1 by omega] at hsv
        obtain ⟨w9, hrun, hb9, ho9, hr9⟩ := HM.out.put (ty := 23) 0 (by omega) vx hvc hv1 (by kernel_rfl)
        have HCU := Lib.hid (show CuV base g w9 vx (r.drop (k + 1)) e from ⟨hb9, hr9 hrx⟩)
        have HON := Lib.hid ho9
        clear hrx hvc hv1 hb9 ho9 hr9
        go_wp2_with (first | (with_reducible refine wpList_loadL HM.out.load rfl _ rfl rfl ?_) | (refine wpList_store rfl rfl 23 _ _ rfl (.pointer (some ⟨g, 0, none⟩)) _ rfl rfl hrun ?_))
        try rw [Exit.noGoto_ret]
        go_ret
        exact ⟨.inl ⟨M, _, vx, HSOME.out, rfl, HCU.out⟩, HON.out⟩
     ·have hne : ((k : Int) + 1 != (ln : Int)) = true := by simp; omega
      have HNONE := Lib.hid (show getN most r = none by unfold getN; rw [HDEC.out, if_pos (.inr (.inl (by show k + 1 ≠ (encN M).length; rw [HLN.out]; exact h1)))])
      clear h1
      go_wp2_with fail
      refine (fail_any base g v r e 4 _ HM.out).mono ?_
      rintro x w9 ⟨⟨rr, rfl⟩, hcu, hon⟩
      have HCU := Lib.hid hcu
      have HON := Lib.hid hon
      clear hcu hon
      go_wp2_with fail
      try rw [Exit.noGoto_ret]
      go_ret
      exact ⟨.inr ⟨HNONE.out, rfl, HCU.out⟩, HON.out⟩


    ·have hI : ¬ (b.toNat : Int) < 128 := by omega
     have hand := andNot128 b
     obtain ⟨x, hx⟩ : ∃ x, b.toNat % 128 = x := ⟨_, rfl⟩
     rw [hx] at hand
     have hx128 : x < 128 := by omega
     obtain ⟨M, hM⟩ : ∃ M, N + x * 128 ^ k = M := ⟨_, rfl⟩
     have hor := or_shift N x k hx128 HNN.out hk5
     rw [hM] at hor
     have HGO2 := Lib.hid (show numGo 0 0 r = numGo (k + 1) M (r.drop (k + 1)) by rw [HGO.out, if_neg hb, hx, hM])
     have HM2 := Lib.hid (show M < 128 ^ (k + 1) by
      have h1 := HNN.out
      have h2 : x * 128 ^ k ≤ 127 * 128 ^ k := Nat.mul_le_mul (by omega) (Nat.le_refl _)
      rw [Nat.pow_succ]
      omega)
     clear hb hx hM
     go_wp2_with (first | (with_reducible refine wpList_loadL HL.out rfl _ rfl rfl ?_))
     go_roundw
     case rel => exact ⟨k + 1, M, by omega, by omega, by go_num, rfl, rfl, HM2.out, HGO2.out, trivial⟩
     case measure => simp [intOf]; omega
  ·have HGO := Lib.hid (show numGo 0 0 r = (0, N) by rw [HGO.out, List.drop_eq_nil_of_le (by omega)]; rfl)
   have HNONE := Lib.hid (show getN most r = none by
    have hd := numGo_dec r 0 0 (by omega)
    have h0 : (dec 6 r).1 = 0 := by
     by_cases h0 : (dec 6 r).1 = 0
     ·exact h0
     ·rw [if_neg h0, HGO.out] at hd
      have h1 : (0 : Nat) = 0 + (dec 6 r).1 := congrArg Prod.fst hd
      omega
    unfold getN
    rw [if_pos (.inl h0)])
   skip
   go_wp2_with fail
   refine (fail_any base g v r e 4 _ HM.out).mono ?_
   rintro x w9 ⟨⟨rr, rfl⟩, hcu, hon⟩
   have HCU := Lib.hid hcu
   have HON := Lib.hid hon
   clear hcu hon
   go_wp2_with fail
   try rw [Exit.noGoto_ret]
   go_ret
   exact ⟨.inr ⟨HNONE.out, rfl, HCU.out⟩, HON.out⟩

end Go.Proofs.YtdebbmembkbniaaGreat
