/- tree.find: where a kid of a name is. -/
import Derived.Test.YtfiadgdinhmgbaaGreatDoorEAL
import Derived.Test.YtfiadgdinhmgbaaGreatDoorEAP
import Derived.Test.YtfiadgdinhmgbaaGreatDoorEAQ
namespace Go.Tr
open Go.Lib (compareBytes)
theorem compare_casesT : ∀ (a b : List UInt8), compareBytes a b = if Op.bytesLess a b then -1 else if Op.bytesLess b a then 1 else 0
 | [], [] => rfl
 | [], _ :: _ => by simp [compareBytes, Op.bytesLess]
 | _ :: _, [] => by simp [compareBytes, Op.bytesLess]
 | x :: a, y :: b => by
  have ih := compare_casesT a b
  unfold compareBytes Op.bytesLess
  by_cases h1 : x < y
  ·simp [h1]
  ·by_cases h2 : y < x
   ·have : ¬ x = y := fun e => by subst e; exact h1 h2
    simp [h1, h2, this]
   ·have : x = y := UInt8.le_antisymm (UInt8.not_lt.1 h2) (UInt8.not_lt.1 h1)
    subst this
    simp [h1, ih]
theorem cmp_neg (a b : List UInt8) : decide (compareBytes a b < 0) = Op.bytesLess a b := by
 rw [compare_casesT]
 cases h : Op.bytesLess a b with
 | true => simp
 | false => cases h2 : Op.bytesLess b a <;> simp
theorem cmp_zero (a b : List UInt8) : (compareBytes a b == 0) = decide (a = b) := by
 rw [compare_casesT]
 cases h : Op.bytesLess a b with
 | true =>
  have hne : ¬ a = b := fun e => by rw [e, bytesLess_irrefl] at h; cases h
  simp [hne]
 | false =>
  by_cases e : a = b
  ·subst e; simp [bytesLess_irrefl]
  ·have := bytesLess_total a b e h
   simp [this, e]
structure SrK (l : List K) (n : List UInt8) (i j : Nat) : Prop where
 le : i ≤ j
 top : j ≤ l.length
 low : ∀ (t : Nat) x, t < i → l[t]? = some x → Op.bytesLess x.1 n = true
 high : ∀ (t : Nat) x, j ≤ t → l[t]? = some x → Op.bytesLess x.1 n = false
theorem SrK.start (l : List K) (n : List UInt8) : SrK l n 0 l.length := ⟨by omega, Nat.le_refl _, fun t _ h => absurd h (by omega), fun t x h hx => by have := (List.getElem?_eq_some_iff.1 hx).1; omega⟩
abbrev RiseK (l : List K) : Prop := l.Pairwise fun x y => Op.bytesLess x.1 y.1 = true
theorem rise_lt {l : List K} (hU : RiseK l) {s t : Nat} {x y : K} (hst : s < t) (hx : l[s]? = some x) (hy : l[t]? = some y) : Op.bytesLess x.1 y.1 = true := by
 obtain ⟨hs, rfl⟩ := List.getElem?_eq_some_iff.1 hx
 obtain ⟨ht, rfl⟩ := List.getElem?_eq_some_iff.1 hy
 exact List.pairwise_iff_getElem.1 hU s t hs ht hst
theorem SrK.up {l : List K} {n : List UInt8} {i j h : Nat} (hU : RiseK l) (hs : SrK l n i j) {x : K} (hh : h < j) (hx : l[h]? = some x) (hlt : Op.bytesLess x.1 n = true) : SrK l n (h + 1) j :=
 ⟨by omega, hs.top, fun t y ht hy => by
  by_cases e : t = h
  ·subst e; rw [hx] at hy; obtain rfl := Option.some.inj hy; exact hlt
  ·exact bytesLess_trans _ _ _ (rise_lt hU (by omega) hy hx) hlt, hs.high⟩
theorem SrK.down {l : List K} {n : List UInt8} {i j h : Nat} (hU : RiseK l) (hs : SrK l n i j) {x : K} (hi : i ≤ h) (hh : h < j) (hx : l[h]? = some x) (hlt : Op.bytesLess x.1 n = false) : SrK l n i h :=
 ⟨hi, by have := hs.top; omega, hs.low, fun t y ht hy => by
  by_cases e : t = h
  ·subst e; rw [hx] at hy; obtain rfl := Option.some.inj hy; exact hlt
  ·cases hq : Op.bytesLess y.1 n with
   | false => rfl
   | true => have := bytesLess_trans _ _ _ (rise_lt hU (by omega) hx hy) hq; rw [hlt] at this; cases this⟩
theorem SrK.found {l : List K} {n : List UInt8} {k : Nat} (hU : RiseK l) {x : K} (hx : l[k]? = some x) (hn : x.1 = n) : place l n = some x.2 := by
 rw [← hn]
 exact place_mem l hU x (List.mem_of_getElem? hx)
theorem SrK.lost {l : List K} {n : List UInt8} {k : Nat} (hU : RiseK l) (hs : SrK l n k k) (h : ∀ x, l[k]? = some x → x.1 ≠ n) : place l n = none := by
 cases hp : place l n with
 | none => rfl
 | some t =>
  obtain ⟨j, hj⟩ := List.mem_iff_getElem?.1 (place_some hp)
  exfalso
  rcases Nat.lt_trichotomy j k with hjk | hjk | hjk
  ·have := hs.low j _ hjk hj
   rw [bytesLess_irrefl] at this; cases this
  ·subst hjk
   exact h _ hj rfl
  ·obtain ⟨x, hx⟩ : ∃ x, l[k]? = some x := ⟨_, List.getElem?_eq_getElem (by have := (List.getElem?_eq_some_iff.1 hj).1; omega)⟩
   have h1 := hs.high k x (Nat.le_refl _) hx
   have h2 := rise_lt hU hjk hx hj
   rw [h1] at h2; cases h2
end Go.Tr
namespace Go.Proofs.YtfiadgdinhmgbaaGreatDoor
open Go.RowKit Pl Go.Agg Go.Tr
open Go.Lib (compareBytes)
set_option maxRecDepth 100000 in
theorem findCmp_any (y : KdV) (n : List UInt8) (w : World) :
  Calls Tryz.prog 97 #[.agg (kdC y), .string ⟨n.toArray⟩] w fun e w' => e = .returned (.int .i64 (compareBytes y.1 n)) ∧ Below w.heap.size w w' := by
 go_enter Tryz.func97, Tryz.ntmps97
 go_wp2_with (first | (refine wpList_box rfl 28 _ rfl (kdC y) rfl ?_; intro g1 w1 hb hx hg; have HB1 := Lib.hid (KdL.ofB hb).name; have HX1 := Lib.hid hx; clear hb hx hg) | (with_reducible refine wpList_loadL HB1.out rfl _ rfl rfl ?_))
 refine (Tryz.strings_Compare ⟨y.1.toArray⟩ ⟨n.toArray⟩ w1).mono ?_
 rintro e w2 ⟨rfl, rfl⟩
 go_wp2_with fail
 go_ret
 exact ⟨rfl, HX1.out⟩
set_option maxRecDepth 100000 in
set_option maxHeartbeats 8000000 in
theorem searchK_any (v : Value) (ks : List KdV) (l : List K) (hl : l.length ≤ 1048576) (hU : RiseK l) (n : List UInt8) (w : World) (hs : SliceOf EK w v ks) (hk : NmsAre ks l) :
  Calls Tryz.prog 96 #[v, .string ⟨n.toArray⟩, .func (.func 97) #[] #[]] w fun e w' => ∃ (k : Nat) (b : Bool), e = .returned (.tuple #[.int .i64 (k : Int), .bool b]) ∧ SrK l n k k ∧ (b = true ↔ ∃ x, l[k]? = some x ∧ x.1 = n) ∧ Below w.heap.size w w' := by
 have hkl := hk.len
 have hlv := fun W => kds_len hs W
 rw [hkl] at hlv
 have HS := Lib.hid hs
 have HU := Lib.hid hU
 have HK := Lib.hid hk
 clear hs hU hk
 go_enter Tryz.func96, Tryz.ntmps96
 go_wp2_with fail
 go_loopw [9, 10] (fun i j wr => ∃ a b : Nat, i = .int .i64 (a : Int) ∧ j = .int .i64 (b : Int) ∧ SrK l n a b ∧ Below w.heap.size w wr) (fun i j _ => (intOf j).toNat - (intOf i).toNat)
 case atStart => exact ⟨0, l.length, rfl, rfl, SrK.start l n, Below.refl _ _⟩
 case round =>
  obtain ⟨wr1, rfl⟩ : ∃ y : World, y = wr := ⟨_, rfl⟩
  obtain ⟨a, b, rfl, rfl, hsr, hw⟩ := hrel
  have hab := hsr.le
  have hbn := hsr.top
  have HR := Lib.hid hsr
  have HW := Lib.hid hw
  have HSW := Lib.hid (HS.out.below hw)
  clear hsr hw
  by_cases hlt : a < b
  ·have hd : decide ((a : Int) < (b : Int)) = true := by simp; omega
   obtain ⟨h, hh⟩ : ∃ h, (a + b) / 2 = h := ⟨_, rfl⟩
   have hha : a ≤ h := by omega
   have hhb : h < b := by omega
   have hmid : ((a : Int) + (b : Int)) / 2 = (h : Int) := by omega
   obtain ⟨x, hxk⟩ : ∃ x, l[h]? = some x := ⟨_, List.getElem?_eq_getElem (by omega)⟩
   obtain ⟨y, hyk, hyx⟩ := HK.out.at_ _ x hxk
   obtain ⟨q, hadr, hq⟩ := kid_at HSW.out _ y hyk
   have HQ := Lib.hid hq.all
   have HX := Lib.hid hxk
   have HYX := Lib.hid hyx
   clear hq hxk hyk hyx hh
   obtain ⟨c, hc⟩ : ∃ c, compareBytes y.1 n = c := ⟨_, rfl⟩
   have HC := Lib.hid (show Calls Tryz.prog 97 #[.agg (kdC y), .string ⟨n.toArray⟩] wr1 fun e w' => e = .returned (.int .i64 c) ∧ Below wr1.heap.size wr1 w' by have := findCmp_any y n wr1; rwa [hc] at this)
   have HCC := Lib.hid (show decide (c < 0) = Op.bytesLess x.1 n by rw [← hc, HYX.out, cmp_neg])
   clear hc
   by_cases h1 : c < 0
   ·have hd1 := decide_eq_true h1
    have HLT := Lib.hid (show Op.bytesLess x.1 n = true by rw [← HCC.out]; exact hd1)
    go_wp2_with (first | (with_reducible refine wpList_loadL HQ.out rfl _ rfl rfl ?_))
    refine HC.out.mono ?_
    rintro e w2 ⟨rfl, hx⟩
    have HW2 := Lib.hid (belowThen HW.out (Nat.le_refl _) hx)
    clear hx
    go_wp2_with fail
    go_roundw
    case rel => exact ⟨h + 1, b, by go_num, rfl, HR.out.up HU.out hhb HX.out HLT.out, HW2.out⟩
    case measure => simp [intOf]; omega
   ·have hd1 := decide_eq_false h1
    have HLT := Lib.hid (show Op.bytesLess x.1 n = false by rw [← HCC.out]; exact hd1)
    go_wp2_with (first | (with_reducible refine wpList_loadL HQ.out rfl _ rfl rfl ?_))
    refine HC.out.mono ?_
    rintro e w2 ⟨rfl, hx⟩
    have HW2 := Lib.hid (belowThen HW.out (Nat.le_refl _) hx)
    clear hx
    go_wp2_with fail
    go_roundw
    case rel => exact ⟨a, h, rfl, rfl, HR.out.down HU.out hha hhb HX.out HLT.out, HW2.out⟩
    case measure => simp [intOf]; omega
  ·obtain rfl : a = b := by omega
   have hd : decide ((a : Int) < (a : Int)) = false := by simp
   by_cases hlt2 : a < l.length
   ·have hd2 : decide ((a : Int) < (l.length : Int)) = true := by simp; omega
    obtain ⟨x, hxk⟩ : ∃ x, l[a]? = some x := ⟨_, List.getElem?_eq_getElem hlt2⟩
    obtain ⟨y, hyk, hyx⟩ := HK.out.at_ _ x hxk
    obtain ⟨q, hadr, hq⟩ := kid_at HSW.out _ y hyk
    have HQ := Lib.hid hq.all
    have HX := Lib.hid hxk
    have HYX := Lib.hid hyx
    clear hq hxk hyk hyx
    obtain ⟨c, hc⟩ : ∃ c, compareBytes y.1 n = c := ⟨_, rfl⟩
    have HC := Lib.hid (show Calls Tryz.prog 97 #[.agg (kdC y), .string ⟨n.toArray⟩] wr1 fun e w' => e = .returned (.int .i64 c) ∧ Below wr1.heap.size wr1 w' by have := findCmp_any y n wr1; rwa [hc] at this)
    obtain ⟨d, hd3⟩ : ∃ d, (c == 0) = d := ⟨_, rfl⟩
    have HCC := Lib.hid (show d = decide (x.1 = n) by rw [← hd3, ← hc, HYX.out, cmp_zero])
    clear hc
    go_wp2_with (first | (with_reducible refine wpList_loadL HQ.out rfl _ rfl rfl ?_))
    refine HC.out.mono ?_
    rintro e w2 ⟨rfl, hx⟩
    have HW2 := Lib.hid (belowThen HW.out (Nat.le_refl _) hx)
    clear hx
    go_wp2_with fail
    go_ret2
    refine ⟨a, d, rfl, HR.out, ?_, HW2.out⟩
    rw [HCC.out, decide_eq_true_eq]
    exact ⟨fun h => ⟨x, HX.out, h⟩, fun ⟨y, h1, h2⟩ => (by rw [HX.out] at h1; obtain rfl := Option.some.inj h1; exact h2)⟩
   ·have hd2 : decide ((a : Int) < (l.length : Int)) = false := by simp; omega
    go_wp2_with fail
    go_ret2
    exact ⟨a, false, rfl, HR.out, ⟨fun h => (by cases h), fun ⟨y, h1, _⟩ => (by have := (List.getElem?_eq_some_iff.1 h1).1; omega)⟩, HW.out⟩
set_option maxRecDepth 100000 in
set_option maxHeartbeats 4000000 in
theorem find_any (x : NdV) (l : List K) (ks : List KdV) (hl : l.length ≤ 1048576) (hU : RiseK l) (n : List UInt8) (w : World) (hs : SliceOf EK w x.2.2.1 ks) (hk : NmsAre ks l) :
  Calls Tryz.prog 53 #[.agg (ndC x), .string ⟨n.toArray⟩] w fun e w' => ∃ (k : Nat) (b : Bool), e = .returned (.tuple #[.int .i64 (k : Int), .bool b]) ∧ SrK l n k k ∧ (b = true ↔ ∃ x, l[k]? = some x ∧ x.1 = n) ∧ Below w.heap.size w w' := by
 have HS := Lib.hid hs
 clear hs
 go_enter Tryz.func53, Tryz.ntmps53
 go_wp2_with (first | (refine wpList_box rfl 26 _ rfl (ndC x) rfl ?_; intro g1 w1 hb hx hg; have HB1 := Lib.hid (NdL.of_blk hb).kids; have HX1 := Lib.hid hx; clear hb hx hg) | (with_reducible refine wpList_loadL HB1.out rfl _ rfl rfl ?_))
 refine (searchK_any x.2.2.1 ks l hl hU n w1 (HS.out.below HX1.out) hk).mono ?_
 rintro e w2 ⟨k, b, rfl, h1, h2, hx⟩
 have HX2 := Lib.hid (belowThen HX1.out (Nat.le_refl _) hx)
 have H1 := Lib.hid h1
 have H2 := Lib.hid h2
 clear h1 h2 hx
 go_wp2_with fail
 go_ret2
 exact ⟨k, b, rfl, H1.out, H2.out, HX2.out⟩
end Go.Proofs.YtfiadgdinhmgbaaGreatDoor
