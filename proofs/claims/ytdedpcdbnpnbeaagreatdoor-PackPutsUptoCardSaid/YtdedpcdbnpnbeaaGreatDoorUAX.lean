/- spenceref01.Number. (Several texts in one.) -/
import Derived.Test.YtdedpcdbnpnbeaaGreatDoorUAW
import Derived.Test.YtdedpcdbnpnbeaaGreatDoorUAH
import Derived.Test.YtdedpcdbnpnbeaaGreatDoorUAT
import Derived.Test.YtdedpcdbnpnbeaaGreatDoorUAD
import Derived.Test.YtdedpcdbnpnbeaaGreatDoorUAJ
/-! spencekit.KeptKid, KeptKids, KeptNode. -/
namespace Go.Proofs.YtdedpcdbnpnbeaaGreatDoor
open Go.RowKit Pl Go.Agg Go.Tr
theorem LentO.lent0 {α : Type} {E : Elem Tryz.prog α} {M l : List α} {base : Nat} {w : World} {u : Value} (h : LentO E M base w u l) (hM : 0 < M.length) : Lent E M base w u l := LentO.lent h hM
def KepC (N : Nat) : Prop := ∀ (t : T) (_ : count t ≤ N) (_ : msz t ≤ 1048576) (x y : NdV) (bs : List Nat) (base : Nat) (w : World) (_ : LenT base w x t bs) (_ : NodeV w y t),
  Calls Tryz.prog 13 #[.agg (ndC x), .agg (ndC y)] w fun e w' => e = .returned (.bool true) ∧ Below w.heap.size w w'
set_option maxRecDepth 100000 in
set_option maxHeartbeats 4000000 in
theorem keptKid_any {N : Nat} (ih : KepC N) (x y : KdV) (z : K) (hc : count z.2 ≤ N) (hm : msz z.2 ≤ 1048576) (hx1 : x.1 = z.1) (hy1 : y.1 = z.1) (bs : List Nat) (base : Nat) (w : World) (hx2 : LenT base w x.2 z.2 bs) (hy2 : NodeV w y.2 z.2) :
    Calls Tryz.prog 62 #[.agg (kdC x), .agg (kdC y)] w fun e w' => e = .returned (.bool true) ∧ Below w.heap.size w w' := by
  have HSK := Lib.hid (fun W (hW : Below w.heap.size w W) => show Calls Tryz.prog 63 #[.agg (kdC x), .agg (kdC y)] W fun e w' => e = .returned (.bool true) ∧ Below W.heap.size W w' by
    have h := snKid_any (sn_all (count z.2)) z z (Nat.le_refl _) hm hm x y W hx1 (NodeV.below hW _ _ (LenT.reads _ _ _ hx2)) hy1 (NodeV.below hW _ _ hy2)
    rwa [decide_eq_true (rfl : z = z)] at h)
  have HKN := Lib.hid (fun W (hW : Below w.heap.size w W) => ih z.2 hc hm x.2 y.2 bs base W (hx2.below hW) (NodeV.below hW _ _ hy2))
  clear hx2 hy2 ih
  go_enter Tryz.func62, Tryz.ntmps62
  go_wp2_with (first | (refine Agg.wpList_box rfl 40 _ rfl (kdC x) rfl ?_; intro g1 w1 hb hx hg; have HA1 := Lib.hid hb; have HX1 := Lib.hid hx; clear hb hx hg) | (refine Agg.wpList_box rfl 40 _ rfl (kdC y) rfl ?_; intro g2 w2 hb hx hg; have HB2 := Lib.hid hb; have HA2 := Lib.hid (HA1.out.below hx); have HX2 := Lib.hid (Agg.belowThen HX1.out (Nat.le_refl _) hx); clear hb hx hg) | (with_reducible refine Agg.wpList_loadL (KdL.of_blk HA2.out).all rfl _ rfl rfl ?_) | (with_reducible refine Agg.wpList_loadL (KdL.of_blk HB2.out).all rfl _ rfl rfl ?_))
  refine (HSK.out _ HX2.out).mono ?_
  rintro e w3 ⟨rfl, hx⟩
  have HA3 := Lib.hid (HA2.out.below hx)
  have HB3 := Lib.hid (HB2.out.below hx)
  have HX3 := Lib.hid (Agg.belowThen HX2.out (Nat.le_refl _) hx)
  clear hx
  go_wp2_with (first | (with_reducible refine Agg.wpList_loadL (kid_node HA3.out) rfl _ rfl rfl ?_) | (with_reducible refine Agg.wpList_loadL (kid_node HB3.out) rfl _ rfl rfl ?_))
  refine (HKN.out _ HX3.out).mono ?_
  rintro e w4 ⟨rfl, hx⟩
  have HX4 := Lib.hid (Agg.belowThen HX3.out (Nat.le_refl _) hx)
  clear hx
  go_wp2_with fail
  go_ret
  exact ⟨rfl, HX4.out⟩
theorem nodeV_zero (w : World) : NodeV w ndZ (.mk 0 [] []) := ⟨rfl, SliceOf.nil _ _ _, [], SliceOf.nil _ _ _, trivial⟩
theorem markKid_off (k n : Nat) (hk : n ≤ k) (w : World) : Calls Tryz.prog 34 #[.int .i64 1, .int .i64 ((k : Int) - (n : Int))] w fun e w' => e = .returned (.agg (kdC (mkT 1 (k - n), ndZ))) ∧ Below w.heap.size w w' := by
  rw [show ((k : Int) - (n : Int)) = ((k - n : Nat) : Int) by omega]
  exact markKid_any 1 (k - n) w
set_option maxRecDepth 100000 in
set_option maxHeartbeats 8000000 in
theorem keptKids_any {N : Nat} (ih : KepC N) (l : List K) (hcn : ∀ x ∈ l, count x.2 ≤ N) (hm : mszL l ≤ 1048576) (u v : Value) (lv ks : List KdV) (cs : List Nat) (base : Nat) (w : World) (hu : LentO EK (marksG mkK 1 12) base w u lv) (hl : LenL base w lv l cs) (hs : SliceOf EK w v ks) (hkv : KidsV w ks l) :
    Calls Tryz.prog 26 #[u, v] w fun e w' => e = .returned (.bool true) ∧ Below w.heap.size w w' := by
  have hlen := (LenL.reads _ _ _ hl).len
  have hkl := hkv.len
  have hlv := fun W => kds_len hs W
  rw [hkl] at hlv
  have hll : l.length ≤ 1048576 := Nat.le_trans (len_mszL l) hm
  have HS := Lib.hid hs
  have HKV := Lib.hid hkv
  have HL := Lib.hid hl
  have HIH := Lib.hid ih
  have HC := Lib.hid hcn
  have HM := Lib.hid (fun x (hx : x ∈ l) => show msz x.2 ≤ 1048576 by have := mem_mszL hx; omega)
  obtain ⟨g, cap, rfl, _, hcap, ha⟩ := hu.lent0 (by rw [marksG_length]; omega)
  rw [marksG_length] at hcap ha
  rw [hlen] at hcap ha
  have HA := Lib.hid ha
  clear hs hkv hl ih hcn hm ha hu
  simp only [hlen]
  have hne : ((l.length : Int) != (l.length : Int)) = false := by simp
  go_enter Tryz.func26, Tryz.ntmps26
  go_wp2_with fail
  go_loopw [6] (fun i wr => ∃ k : Nat, k ≤ l.length + 12 ∧ i = .int .i64 (k : Int) ∧ Below w.heap.size w wr) (fun i _ => l.length + 12 - (intOf i).toNat)
  case atStart => exact ⟨0, by omega, rfl, Below.refl _ _⟩
  case round =>
    obtain ⟨w1, rfl⟩ : ∃ w1 : World, w1 = wr := ⟨_, rfl⟩
    obtain ⟨k, hk, rfl, hw⟩ := hrel
    have HW := Lib.hid hw
    clear hw
    by_cases hlt : k < l.length + 12
    · by_cases hlt2 : k < l.length
      · obtain ⟨z, hzk⟩ : ∃ z, l[k]? = some z := ⟨_, List.getElem?_eq_getElem hlt2⟩
        obtain ⟨y, hyk, hyz, hyn⟩ := HKV.out.at_ k z hzk
        obtain ⟨x, bs, hxk, hxz, hxn⟩ := LenL.at_ k z HL.out hzk
        have hin := List.mem_of_getElem? hzk
        obtain ⟨pv, hadv, hldv⟩ := kid_at (HS.out.below HW.out) k y hyk
        obtain ⟨pa, hadp, hlda⟩ := kid_at (SliceOf.below HA.out HW.out) k x (by rw [List.getElem?_append_left (by omega)]; exact hxk)
        have HLA := Lib.hid hlda.all
        have HLV := Lib.hid hldv.all
        have hcz := HC.out z hin
        have hmz := HM.out z hin
        have HKB := Lib.hid (fun q : Later w1 => keptKid_any HIH.out x y z hcz hmz hxz hyz bs base q.w ((hxn.below HW.out).below q.h) (NodeV.below q.h _ _ (NodeV.below HW.out _ _ hyn)))
        have hd1 : decide ((k : Int) < (l.length : Int)) = true := decide_eq_true (by omega)
        have hd3 : decide (l.length ≤ k) = false := decide_eq_false (by omega)
        clear hyk hxk hxz hyz hldv hlda hxn hyn hzk hin hcz hmz
        go_wp2_with fail
        try simp only [List.append_eq, List.cons_append, List.nil_append]
        try simp only [Act.put, List.setIfInBounds_toArray, List.set_cons_succ, List.set_cons_zero]
        refine Agg.wp_region_later_lit (by kernel_rfl) (by kernel_rfl) ?_
        repeat (first | go_big_quiet_skip | ((first | (with_reducible refine Agg.wpQuiet_loadL HLA.out rfl _ rfl rfl ?_) | (with_reducible refine Agg.wpQuiet_loadL HLV.out rfl _ rfl rfl ?_)); simp only [Act.put, List.setIfInBounds_toArray, List.set_cons_succ, List.set_cons_zero]) | go_big_quiet_step ((first | (go_at_call 62; exact Agg.Calls.later (HKB.out _)))))
        refine wpQuiet_nil ?_
        intro _ hw'
        obtain ⟨x1, rfl⟩ := hw'
        go_wp2_with fail
        go_roundw
        case rel => exact ⟨k + 1, by omega, by go_num, Agg.belowThen HW.out (Nat.le_refl _) x1.h⟩
        case measure => simp [intOf]; omega
      · obtain ⟨m, hmm⟩ : ∃ m, m = mkT 1 (k - l.length) := ⟨_, rfl⟩
        obtain ⟨pa, hadp, hlda⟩ := kid_at (SliceOf.below HA.out HW.out) k (m, ndZ) (by rw [List.getElem?_append_right (by omega), hlen, hmm]; exact marksG_get mkK _ _ _ (by omega))
        have HLA := Lib.hid hlda.all
        have HMN := Lib.hid (fun q : Later w1 => (show Calls Tryz.prog 34 #[.int .i64 1, .int .i64 ((k : Int) - (l.length : Int))] q.w fun e w' => e = .returned (.agg (kdC (m, ndZ))) ∧ Below q.w.heap.size q.w w' by rw [hmm]; exact markKid_off k l.length (by omega) q.w))
        have hml : msz (.mk 0 [] []) ≤ 1048576 := by decide +kernel
        have HSB := Lib.hid (fun q : Later w1 => (show Calls Tryz.prog 63 #[.agg (kdC (m, ndZ)), .agg (kdC (m, ndZ))] q.w fun e w' => e = .returned (.bool true) ∧ Below q.w.heap.size q.w w' by
          have h := snKid_any (sn_all (count (.mk 0 [] []))) (m, .mk 0 [] []) (m, .mk 0 [] []) (Nat.le_refl _) hml hml (m, ndZ) (m, ndZ) q.w rfl (nodeV_zero _) rfl (nodeV_zero _)
          rwa [decide_eq_true rfl] at h))
        have hd1 : decide ((k : Int) < (l.length : Int)) = false := decide_eq_false (by omega)
        have hd3 : decide (l.length ≤ k) = true := decide_eq_true (by omega)
        clear hlda hmm hml
        go_wp2_with fail
        try simp only [List.append_eq, List.cons_append, List.nil_append]
        try simp only [Act.put, List.setIfInBounds_toArray, List.set_cons_succ, List.set_cons_zero]
        refine Agg.wp_region_later_lit (by kernel_rfl) (by kernel_rfl) ?_
        repeat (first | go_big_quiet_skip | ((first | (with_reducible refine Agg.wpQuiet_loadL HLA.out rfl _ rfl rfl ?_)); simp only [Act.put, List.setIfInBounds_toArray, List.set_cons_succ, List.set_cons_zero]) | go_big_quiet_step ((first | (go_at_call 34; exact Agg.Calls.later (HMN.out _)) | (go_at_call 63; exact Agg.Calls.later (HSB.out _)))))
        refine wpQuiet_nil ?_
        intro _ hw'
        obtain ⟨x1, rfl⟩ := hw'
        go_wp2_with fail
        go_roundw
        case rel => exact ⟨k + 1, by omega, by go_num, Agg.belowThen HW.out (Nat.le_refl _) x1.h⟩
        case measure => simp [intOf]; omega
    · obtain rfl : k = l.length + 12 := by omega
      go_wp2_with fail
      go_ret
      exact ⟨rfl, HW.out⟩
set_option maxRecDepth 100000 in
set_option maxHeartbeats 4000000 in
theorem keptNode_of {N : Nat} (ih : KepC N) : KepC (N + 1) := by
  intro t hc hm x y bs base w hx hy
  have HSN := Lib.hid (fun W (hW : Below w.heap.size w W) => show Calls Tryz.prog 16 #[.agg (ndC x), .agg (ndC y)] W fun e w' => e = .returned (.bool true) ∧ Below W.heap.size W w' by
    have h := sameNode_any t t hm hm (.agg (ndC x)) (.agg (ndC y)) W ⟨x, rfl, NodeV.below hW _ _ (LenT.reads _ _ _ hx)⟩ ⟨y, rfl, NodeV.below hW _ _ hy⟩
    rwa [(same_iff t t).2 rfl] at h)
  obtain ⟨k, b, l⟩ := t
  have hbl : b.length ≤ 1048576 := Nat.le_trans (bytes_msz k b l) hm
  have hml : mszL l ≤ 1048576 := by simp only [msz] at hm; omega
  obtain ⟨hk, hxb, lv, cs, hxk, hxl, _⟩ := hx
  obtain ⟨hk2, hyb, ks, hyk, hyl⟩ := hy
  have HKB := Lib.hid (fun W (hW : Below w.heap.size w W) => keptBytes_any x.2.1.1 y.2.1.1 b hbl base W ((hxb.below hW).lent0 (by rw [marks_length]; omega)) (SliceOf.below hyb hW))
  have HKK := Lib.hid (fun W (hW : Below w.heap.size w W) => keptKids_any ih l (fun x hx => by have h1 := countL_mem hx; simp only [count] at hc; omega) hml x.2.2.1 y.2.2.1 lv ks cs base W (hxk.below hW) (hxl.below hW) (SliceOf.below hyk hW) (KidsV.below hW _ _ hyl))
  clear hxb hxk hxl hyb hyk hyl ih hc hm
  go_enter Tryz.func13, Tryz.ntmps13
  go_wp2_with (first | (refine Agg.wpList_box rfl 26 _ rfl (ndC x) rfl ?_; intro g1 w1 hb hx hg; have HA1 := Lib.hid hb; have HX1 := Lib.hid hx; clear hb hx hg) | (refine Agg.wpList_box rfl 26 _ rfl (ndC y) rfl ?_; intro g2 w2 hb hx hg; have HB2 := Lib.hid hb; have HA2 := Lib.hid (HA1.out.below hx); have HX2 := Lib.hid (Agg.belowThen HX1.out (Nat.le_refl _) hx); clear hb hx hg) | (with_reducible refine Agg.wpList_loadL (NdL.of_blk HA2.out).all rfl _ rfl rfl ?_) | (with_reducible refine Agg.wpList_loadL (NdL.of_blk HB2.out).all rfl _ rfl rfl ?_))
  refine (HSN.out _ HX2.out).mono ?_
  rintro e w3 ⟨rfl, hx⟩
  have HA3 := Lib.hid (HA2.out.below hx)
  have HB3 := Lib.hid (HB2.out.below hx)
  have HX3 := Lib.hid (Agg.belowThen HX2.out (Nat.le_refl _) hx)
  clear hx
  go_wp2_with (first | (with_reducible refine Agg.wpList_loadL (NdL.of_blk HA3.out).bytes rfl _ rfl rfl ?_) | (with_reducible refine Agg.wpList_loadL (NdL.of_blk HB3.out).bytes rfl _ rfl rfl ?_))
  refine (HKB.out _ HX3.out).mono ?_
  rintro e w4 ⟨rfl, hx⟩
  have HA4 := Lib.hid (HA3.out.below hx)
  have HB4 := Lib.hid (HB3.out.below hx)
  have HX4 := Lib.hid (Agg.belowThen HX3.out (Nat.le_refl _) hx)
  clear hx
  go_wp2_with (first | (with_reducible refine Agg.wpList_loadL (NdL.of_blk HA4.out).kids rfl _ rfl rfl ?_) | (with_reducible refine Agg.wpList_loadL (NdL.of_blk HB4.out).kids rfl _ rfl rfl ?_))
  refine (HKK.out _ HX4.out).mono ?_
  rintro e w5 ⟨rfl, hx⟩
  have HX5 := Lib.hid (Agg.belowThen HX4.out (Nat.le_refl _) hx)
  clear hx
  go_wp2_with fail
  go_ret
  exact ⟨rfl, HX5.out⟩
theorem keptNode_all : ∀ N, KepC N
  | 0 => fun t hc => by have := count_pos t; omega
  | N + 1 => keptNode_of (keptNode_all N)
end Go.Proofs.YtdedpcdbnpnbeaaGreatDoor
/-! (of general use) spenceref03: bit, Letters, value, within. -/
namespace Go.Proofs.YtdedpcdbnpnbeaaGreatDoor
open Go.RowKit Pl
theorem within_any (c lo hi : Int) (w : World) :
    Calls Tryz.prog 117 #[.int .u8 c, .int .u8 lo, .int .u8 hi] w fun e w' => e = .returned (.bool (wi c lo hi)) ∧ w = w' := by
  by_cases h : lo ≤ c
  · go_enter Tryz.func117, Tryz.ntmps117
    go_wp2_with fail
    go_ret
    exact ⟨by simp [wi, h], rfl⟩
  · have hd : decide (lo ≤ c) = false := by simp; omega
    go_enter Tryz.func117, Tryz.ntmps117
    go_wp2_with fail
    go_ret
    exact ⟨by simp [wi, hd], rfl⟩
/-- bit i of a hash, as a number -/
def bitAt (h : List UInt8) (i : Nat) : Nat := num 256 (nats h) / 2 ^ i % 2
theorem bitAt_eq (h : List UInt8) (i : Nat) (hi : i / 8 < h.length) : bitAt h i = (h[i / 8]?.getD 0).toNat / 2 ^ (i % 8) % 2 := by
  have hd := digs_num 256 (nats h) (nats_lt h)
  have hq := digs_getElem? 256 (nats h).length (num 256 (nats h)) (i / 8) (by simpa [nats] using hi)
  rw [hd] at hq
  have hn : (nats h)[i / 8]? = some (h[i / 8]?.getD 0).toNat := by simp [nats, List.getElem?_eq_getElem hi]
  rw [hn] at hq
  have hx := Option.some.inj hq
  unfold bitAt
  have e : num 256 (nats h) / 2 ^ i = num 256 (nats h) / 256 ^ (i / 8) / 2 ^ (i % 8) := by
    rw [pow256, Nat.div_div_eq_div_mul, ← Nat.pow_add, Nat.div_add_mod]
  rw [e, hx]
  generalize num 256 (nats h) / 256 ^ (i / 8) = y
  have hr : i % 8 < 8 := Nat.mod_lt _ (by omega)
  generalize i % 8 = r at hr
  have : r = 0 ∨ r = 1 ∨ r = 2 ∨ r = 3 ∨ r = 4 ∨ r = 5 ∨ r = 6 ∨ r = 7 := by omega
  rcases this with rfl | rfl | rfl | rfl | rfl | rfl | rfl | rfl <;> omega
/-- a letter's value, or -1 -/
def valI (c : UInt8) : Int := match val c with | some n => (n : Int) | none => -1
/-- the higher bits of letter i, from t on -/
def part (h : List UInt8) (i t : Nat) : Nat := num 256 (nats h) / 2 ^ (5 * i + t) % 2 ^ (5 - t)
theorem part_lt (h : List UInt8) (i t : Nat) : part h i t < 32 :=
  Nat.lt_of_lt_of_le (Nat.mod_lt _ (Nat.pow_pos (by omega))) (Nat.pow_le_pow_right (n := 2) (by omega) (by omega : 5 - t ≤ 5))
theorem part_5 (h : List UInt8) (i : Nat) : part h i 5 = 0 := by simp [part, Nat.mod_one]
theorem part_0 (h : List UInt8) (i : Nat) : part h i 0 = num 256 (nats h) / 32 ^ i % 32 := by simp [part, pow32]
theorem part_step (h : List UInt8) (i t : Nat) (ht : t < 5) : part h i t = 2 * part h i (t + 1) + bitAt h (5 * i + t) := by
  unfold part bitAt
  rw [show 5 - t = (5 - (t + 1)) + 1 by omega, Nat.pow_succ', Nat.mod_mul, Nat.div_div_eq_div_mul, ← Nat.pow_succ, show (5 * i + t).succ = 5 * i + (t + 1) by omega]
  omega
theorem bitAt_lt (h : List UInt8) (i : Nat) : bitAt h i < 2 := Nat.mod_lt _ (by omega)
theorem refLetters_step (h : List UInt8) (k : Nat) (hk : k < 32) : ({ data := (List.take k (letters h)).toArray } : ByteArray) ++
    ByteArray.extract ⟨#[48, 49, 50, 51, 52, 53, 54, 55, 56, 57, 97, 98, 99, 100, 102, 103, 104, 105, 106, 107, 108, 109, 110, 112, 113, 114, 115, 118, 119, 120, 121, 122]⟩ (part h k 0) (part h k 0 + 1) = { data := (List.take (k + 1) (letters h)).toArray } := by
  show ({ data := (List.take k (letters h)).toArray } : ByteArray) ++ ByteArray.extract ⟨alpha.toArray⟩ (part h k 0) (part h k 0 + 1) = { data := (List.take (k + 1) (letters h)).toArray }
  have hp := part_lt h k 0
  have hl : k < (letters h).length := by rw [letters_length]; exact hk
  rw [Agg.bytes_extract, Agg.bytes_append, List.take_succ_eq_append_getElem hl]
  congr 3
  have ha : part h k 0 < alpha.length := hp
  rw [List.take_succ_eq_append_getElem ha, List.drop_append_of_le_length (by simp; omega), List.drop_eq_nil_of_le (by simp; omega), List.nil_append]
  congr 1
  have : (letters h)[k]? = some (letter (part h k 0)) := by
    unfold letters
    rw [List.getElem?_map, digs_getElem? _ _ _ _ hk, part_0]; rfl
  rw [List.getElem?_eq_getElem hl] at this
  rw [Option.some.inj this]
  simp [letter, List.getD, List.getElem?_eq_getElem ha]
end Go.Proofs.YtdedpcdbnpnbeaaGreatDoor
/-! spenceref03.Name. -/
namespace Go.Proofs.YtdedpcdbnpnbeaaGreatDoor
open Go.RowKit Pl
/-- the test of spenceref03.Name: not a sign -/
theorem sgn_wi (c : UInt8) : sgn c = (wi c.toNat 97 122 || wi c.toNat 65 90 || wi c.toNat 48 57 || ((c.toNat : Int) == 46) || ((c.toNat : Int) == 95) || ((c.toNat : Int) == 43) || ((c.toNat : Int) == 45)) := by
  have : ∀ n : Nat, n < 256 → sgn (UInt8.ofNat n) = (wi n 97 122 || wi n 65 90 || wi n 48 57 || ((n : Int) == 46) || ((n : Int) == 95) || ((n : Int) == 43) || ((n : Int) == 45)) := by decide +kernel
  have h := this c.toNat c.toNat_lt
  rwa [UInt8.ofNat_toNat] at h
theorem n45 {x : Int} (h : (x != 45) = false) : x = 45 := by simpa using h
set_option maxRecDepth 100000 in
set_option maxHeartbeats 2000000 in
theorem refName_any (s : List UInt8) (hs : s.length ≤ 9223372036854775807) (w : World) :
    Calls Tryz.prog 110 #[.string ⟨s.toArray⟩] w fun e w' => e = .returned (.bool (isName s)) ∧ w = w' := by
  have hsz := Agg.bytes_size s
  have HS := Lib.hid hsz
  have hlen : ∀ w, (Builtin.len_ #[9] 3 #[.string ⟨s.toArray⟩]).run Tryz.prog w = .ok (.int .i64 (s.length : Int)) w := fun w => by rw [run_len_string w 9 3 _ Tryz.underlying9, hsz]; rfl
  clear hsz
  go_enter Tryz.func110, Tryz.ntmps110
  go_wp2_with fail
  go_loop [3] (fun i => ∃ k : Nat, k ≤ s.length ∧ i = .int .i64 k ∧ ∀ j (hj : j < s.length), j < k → sgn s[j] = true) (fun i => s.length - (intOf i).toNat)
  case atStart => exact ⟨0, by omega, rfl, by intros; omega⟩
  case round =>
    obtain ⟨k, hk, rfl, hg⟩ := hrel
    have HG := Lib.hid hg
    clear hg
    by_cases hlt : k < s.length
    · have hix := fun w => Agg.run_index_str (P := Tryz.prog) (k := .i64) (c := s[k]) w Tryz.underlying9 (List.getElem?_eq_getElem hlt)
      have hsg := sgn_wi s[k]
      have HS := Lib.hid hsg
      clear hsg
      generalize hc : s[k] = c at hix HS
      have HC := Lib.hid hc
      clear hc
      go_wp2_with (go_at_call 117; refine (within_any _ _ _ _).mono ?_; rintro e w' ⟨rfl, rfl⟩)
      · have h45 : ((c.toNat : Int) != 45) = true := by assumption
        have hsg : sgn s[k] = false := by rw [HC.out, HS.out]; simp [*]; simpa using h45
        go_ret
        exact ⟨ret_bool (isName_bad s k hlt hsg).symm, rfl⟩
      all_goals
        have hsg : sgn s[k] = true := by rw [HC.out, HS.out]; first | (simp [*]; done) | (have h45 := n45 ‹((c.toNat : Int) != 45) = false›; simp [h45]; done)
        go_round
        case rel => exact ⟨k + 1, by omega, by go_num, fun j hj h => by
          rcases Nat.lt_or_ge j k with h' | h'
          · exact HG.out j hj h'
          · obtain rfl : j = k := by omega
            exact hsg⟩
        case measure => simp [intOf]; omega
    · obtain rfl : k = s.length := by omega
      have hgood := isName_good s (fun j hj => HG.out j hj hj)
      have HI := Lib.hid hgood
      clear hgood
      cases s with
      | nil =>
        simp only [List.length_nil] at hlen
        go_wp2_with fail
        go_ret
        exact ⟨ret_bool (by rw [HI.out]; rfl), rfl⟩
      | cons c l =>
        have hix : ∀ w, (Instr.index 9 (.string ⟨(c :: l).toArray⟩) (.int .i64 0)).run Tryz.prog w = .ok (.int .u8 (c.toNat : Int)) w := fun w => Agg.run_index_str (i := 0) w Tryz.underlying9 rfl
        simp only [List.length_cons] at hlen
        go_wp2_with fail
        all_goals go_ret
        all_goals refine ⟨ret_bool ?_, rfl⟩
        all_goals rw [HI.out]
        · have h24 : (l.length : Int) + 1 ≤ 24 := by assumption
          have e : (((c.toNat : Int)) != 46) = (c != 46) := by
            rw [Bool.eq_iff_iff]; simp only [bne_iff_ne, ne_eq]; rw [← UInt8.toNat_inj]; simp; omega
          simp [e, show l.length + 1 ≤ 24 by omega]
        · have h24 : 24 < (l.length : Int) + 1 := by assumption
          simp [show ¬ l.length + 1 ≤ 24 by omega]
end Go.Proofs.YtdedpcdbnpnbeaaGreatDoor
/-! spenceref08.alone: whether a node is right by itself. -/
namespace Go.Tr
theorem alone_12 {k : Int} {b : List UInt8} {l : List K} (h : k = 1 ∨ k = 2) : alone (.mk k b l) = (decide (b.length ≤ 2048) && l.isEmpty) := by
  rcases h with rfl | rfl <;> simp [alone]
theorem alone_3 {b : List UInt8} {l : List K} : alone (.mk 3 b l) = (decide (1 ≤ b.length) && decide (b.length ≤ 200) && l.isEmpty) := by simp [alone]
theorem alone_4 {b : List UInt8} {l : List K} : alone (.mk 4 b l) = (b.isEmpty && decide (l.length ≤ 200) && named none l) := by simp [alone]
theorem alone_no {k : Int} {b : List UInt8} {l : List K} (h1 : k ≠ 1) (h2 : k ≠ 2) (h3 : k ≠ 3) (h4 : k ≠ 4) : alone (.mk k b l) = false := by simp [alone, h1, h2, h3, h4]
end Go.Tr
namespace Go.Proofs.YtdedpcdbnpnbeaaGreatDoor
open Go.RowKit Pl Go.Agg Go.Tr
theorem refNameD (s : List UInt8) {b : Bool} (hb : isName s = b) (hs : s.length ≤ 1048576) (w : World) :
    Calls Tryz.prog 110 #[.string ⟨s.toArray⟩] w fun e w' => e = .returned (.bool b) ∧ Below w.heap.size w w' := by
  subst hb
  exact (refName_any s (by omega) w).mono fun e w' ⟨h1, h2⟩ => ⟨h1, h2 ▸ Below.refl _ _⟩
set_option maxRecDepth 100000 in
set_option maxHeartbeats 8000000 in
theorem ralone_any (v : Value) (t : T) (hm : msz t ≤ 1048576) (w : World) (hv : NodeAt w v t) :
    Calls Tryz.prog 77 #[v] w fun e w' => e = .returned (.bool (alone t)) ∧ Below w.heap.size w w' := by
  obtain ⟨x, rfl, hx⟩ := hv
  obtain ⟨k, b, l⟩ := t
  obtain ⟨kx, vb, vk⟩ := x
  obtain ⟨hk, hby, ks, hsl, hkv⟩ := hx
  have hk : kx = k := hk
  subst hk
  have hkl := hkv.len
  have hlb := fun W => bytes_len hby W
  have hlk := fun W => kds_len hsl W
  rw [hkl] at hlk
  have hbm := bytes_msz kx b l
  have hkm := kids_msz kx b l
  have hlm : mszL l ≤ 1048576 := by simp only [msz] at hm; omega
  have HSL := Lib.hid hsl
  have HN := Lib.hid hkv.nms
  have HLM := Lib.hid (fun x (hx : x ∈ l) => show x.1.length ≤ 1048576 by have := mem_mszL hx; omega)
  clear hby hsl hkv hkl
  go_enter Tryz.func77, Tryz.ntmps77
  by_cases h1 : kx = 1
  · subst h1
    by_cases hb : b.length ≤ 2048
    · have hbd : decide ((b.length : Int) ≤ 2048) = true := by simp; omega
      by_cases hl : l.length = 0
      · have HL := Lib.hid hl
        have hz1 : decide (((l.length : Nat) : Int) = 0) = true := decide_eq_true (by omega)
        have hz2 : (((l.length : Nat) : Int) == 0) = true := by rw [beq_iff_eq]; omega
        clear hl
        go_wp2_with (first | (refine Agg.wpList_box rfl 26 _ rfl (ndC (_, vb, vk)) rfl ?_; intro g1 w1 hb hx hg; have HB := Lib.hid hb; have HX := Lib.hid hx; have HS1 := Lib.hid (HSL.out.below hx); clear hb hx hg) | (with_reducible refine Agg.wpList_loadL (NdL.of_blk HB.out).kind rfl _ rfl rfl ?_) | (with_reducible refine Agg.wpList_loadL (NdL.of_blk HB.out).bytes rfl _ rfl rfl ?_) | (with_reducible refine Agg.wpList_loadL (NdL.of_blk HB.out).kids rfl _ rfl rfl ?_))
        go_ret
        exact ⟨ret_bool (by rw [alone_12 (by decide)]; have hl := HL.out; cases l <;> simp_all), HX.out⟩
      · have HL := Lib.hid hl
        have hz1 : decide (((l.length : Nat) : Int) = 0) = false := decide_eq_false (by omega)
        have hz2 : (((l.length : Nat) : Int) == 0) = false := by rw [beq_eq_false_iff_ne]; omega
        clear hl
        go_wp2_with (first | (refine Agg.wpList_box rfl 26 _ rfl (ndC (_, vb, vk)) rfl ?_; intro g1 w1 hb hx hg; have HB := Lib.hid hb; have HX := Lib.hid hx; have HS1 := Lib.hid (HSL.out.below hx); clear hb hx hg) | (with_reducible refine Agg.wpList_loadL (NdL.of_blk HB.out).kind rfl _ rfl rfl ?_) | (with_reducible refine Agg.wpList_loadL (NdL.of_blk HB.out).bytes rfl _ rfl rfl ?_) | (with_reducible refine Agg.wpList_loadL (NdL.of_blk HB.out).kids rfl _ rfl rfl ?_))
        go_ret
        exact ⟨ret_bool (by rw [alone_12 (by decide)]; have hl := HL.out; cases l <;> simp_all), HX.out⟩
    · have hbd : decide ((b.length : Int) ≤ 2048) = false := by simp; omega
      go_wp2_with (first | (refine Agg.wpList_box rfl 26 _ rfl (ndC (_, vb, vk)) rfl ?_; intro g1 w1 hb hx hg; have HB := Lib.hid hb; have HX := Lib.hid hx; have HS1 := Lib.hid (HSL.out.below hx); clear hb hx hg) | (with_reducible refine Agg.wpList_loadL (NdL.of_blk HB.out).kind rfl _ rfl rfl ?_) | (with_reducible refine Agg.wpList_loadL (NdL.of_blk HB.out).bytes rfl _ rfl rfl ?_) | (with_reducible refine Agg.wpList_loadL (NdL.of_blk HB.out).kids rfl _ rfl rfl ?_))
      go_ret
      exact ⟨ret_bool (by rw [alone_12 (by decide)]; simp [hb]), HX.out⟩
  have hk1 : decide (kx = 1) = false := by simpa using h1
  have hq1 : (kx == 1) = false := by simpa using h1
  by_cases h2 : kx = 2
  · subst h2
    by_cases hb : b.length ≤ 2048
    · have hbd : decide ((b.length : Int) ≤ 2048) = true := by simp; omega
      by_cases hl : l.length = 0
      · have HL := Lib.hid hl
        have hz1 : decide (((l.length : Nat) : Int) = 0) = true := decide_eq_true (by omega)
        have hz2 : (((l.length : Nat) : Int) == 0) = true := by rw [beq_iff_eq]; omega
        clear hl
        go_wp2_with (first | (refine Agg.wpList_box rfl 26 _ rfl (ndC (_, vb, vk)) rfl ?_; intro g1 w1 hb hx hg; have HB := Lib.hid hb; have HX := Lib.hid hx; have HS1 := Lib.hid (HSL.out.below hx); clear hb hx hg) | (with_reducible refine Agg.wpList_loadL (NdL.of_blk HB.out).kind rfl _ rfl rfl ?_) | (with_reducible refine Agg.wpList_loadL (NdL.of_blk HB.out).bytes rfl _ rfl rfl ?_) | (with_reducible refine Agg.wpList_loadL (NdL.of_blk HB.out).kids rfl _ rfl rfl ?_))
        go_ret
        exact ⟨ret_bool (by rw [alone_12 (by decide)]; have hl := HL.out; cases l <;> simp_all), HX.out⟩
      · have HL := Lib.hid hl
        have hz1 : decide (((l.length : Nat) : Int) = 0) = false := decide_eq_false (by omega)
        have hz2 : (((l.length : Nat) : Int) == 0) = false := by rw [beq_eq_false_iff_ne]; omega
        clear hl
        go_wp2_with (first | (refine Agg.wpList_box rfl 26 _ rfl (ndC (_, vb, vk)) rfl ?_; intro g1 w1 hb hx hg; have HB := Lib.hid hb; have HX := Lib.hid hx; have HS1 := Lib.hid (HSL.out.below hx); clear hb hx hg) | (with_reducible refine Agg.wpList_loadL (NdL.of_blk HB.out).kind rfl _ rfl rfl ?_) | (with_reducible refine Agg.wpList_loadL (NdL.of_blk HB.out).bytes rfl _ rfl rfl ?_) | (with_reducible refine Agg.wpList_loadL (NdL.of_blk HB.out).kids rfl _ rfl rfl ?_))
        go_ret
        exact ⟨ret_bool (by rw [alone_12 (by decide)]; have hl := HL.out; cases l <;> simp_all), HX.out⟩
    · have hbd : decide ((b.length : Int) ≤ 2048) = false := by simp; omega
      go_wp2_with (first | (refine Agg.wpList_box rfl 26 _ rfl (ndC (_, vb, vk)) rfl ?_; intro g1 w1 hb hx hg; have HB := Lib.hid hb; have HX := Lib.hid hx; have HS1 := Lib.hid (HSL.out.below hx); clear hb hx hg) | (with_reducible refine Agg.wpList_loadL (NdL.of_blk HB.out).kind rfl _ rfl rfl ?_) | (with_reducible refine Agg.wpList_loadL (NdL.of_blk HB.out).bytes rfl _ rfl rfl ?_) | (with_reducible refine Agg.wpList_loadL (NdL.of_blk HB.out).kids rfl _ rfl rfl ?_))
      go_ret
      exact ⟨ret_bool (by rw [alone_12 (by decide)]; simp [hb]), HX.out⟩
  have hk2 : decide (kx = 2) = false := by simpa using h2
  have hq2 : (kx == 2) = false := by simpa using h2
  by_cases h3 : kx = 3
  · subst h3
    by_cases hb : 1 ≤ b.length
    · have hbd : decide ((b.length : Int) ≥ 1) = true := by simp; omega
      have hbd2 : decide (1 ≤ (b.length : Int)) = true := by simp; omega
      by_cases hc : b.length ≤ 200
      · have hcd : decide ((b.length : Int) ≤ 200) = true := by simp; omega
        by_cases hl : l.length = 0
        · have HL := Lib.hid hl
          have hz1 : decide (((l.length : Nat) : Int) = 0) = true := decide_eq_true (by omega)
          have hz2 : (((l.length : Nat) : Int) == 0) = true := by rw [beq_iff_eq]; omega
          clear hl
          go_wp2_with (first | (refine Agg.wpList_box rfl 26 _ rfl (ndC (_, vb, vk)) rfl ?_; intro g1 w1 hb hx hg; have HB := Lib.hid hb; have HX := Lib.hid hx; have HS1 := Lib.hid (HSL.out.below hx); clear hb hx hg) | (with_reducible refine Agg.wpList_loadL (NdL.of_blk HB.out).kind rfl _ rfl rfl ?_) | (with_reducible refine Agg.wpList_loadL (NdL.of_blk HB.out).bytes rfl _ rfl rfl ?_) | (with_reducible refine Agg.wpList_loadL (NdL.of_blk HB.out).kids rfl _ rfl rfl ?_))
          go_ret
          exact ⟨ret_bool (by rw [alone_3]; have hl := HL.out; cases l <;> simp_all), HX.out⟩
        · have HL := Lib.hid hl
          have hz1 : decide (((l.length : Nat) : Int) = 0) = false := decide_eq_false (by omega)
          have hz2 : (((l.length : Nat) : Int) == 0) = false := by rw [beq_eq_false_iff_ne]; omega
          clear hl
          go_wp2_with (first | (refine Agg.wpList_box rfl 26 _ rfl (ndC (_, vb, vk)) rfl ?_; intro g1 w1 hb hx hg; have HB := Lib.hid hb; have HX := Lib.hid hx; have HS1 := Lib.hid (HSL.out.below hx); clear hb hx hg) | (with_reducible refine Agg.wpList_loadL (NdL.of_blk HB.out).kind rfl _ rfl rfl ?_) | (with_reducible refine Agg.wpList_loadL (NdL.of_blk HB.out).bytes rfl _ rfl rfl ?_) | (with_reducible refine Agg.wpList_loadL (NdL.of_blk HB.out).kids rfl _ rfl rfl ?_))
          go_ret
          exact ⟨ret_bool (by rw [alone_3]; have hl := HL.out; cases l <;> simp_all), HX.out⟩
      · have hcd : decide ((b.length : Int) ≤ 200) = false := by simp; omega
        go_wp2_with (first | (refine Agg.wpList_box rfl 26 _ rfl (ndC (_, vb, vk)) rfl ?_; intro g1 w1 hb hx hg; have HB := Lib.hid hb; have HX := Lib.hid hx; have HS1 := Lib.hid (HSL.out.below hx); clear hb hx hg) | (with_reducible refine Agg.wpList_loadL (NdL.of_blk HB.out).kind rfl _ rfl rfl ?_) | (with_reducible refine Agg.wpList_loadL (NdL.of_blk HB.out).bytes rfl _ rfl rfl ?_) | (with_reducible refine Agg.wpList_loadL (NdL.of_blk HB.out).kids rfl _ rfl rfl ?_))
        go_ret
        exact ⟨ret_bool (by rw [alone_3]; simp [hc]), HX.out⟩
    · have hbd : decide ((b.length : Int) ≥ 1) = false := by simp; omega
      have hbd2 : decide (1 ≤ (b.length : Int)) = false := by simp; omega
      go_wp2_with (first | (refine Agg.wpList_box rfl 26 _ rfl (ndC (_, vb, vk)) rfl ?_; intro g1 w1 hb hx hg; have HB := Lib.hid hb; have HX := Lib.hid hx; have HS1 := Lib.hid (HSL.out.below hx); clear hb hx hg) | (with_reducible refine Agg.wpList_loadL (NdL.of_blk HB.out).kind rfl _ rfl rfl ?_) | (with_reducible refine Agg.wpList_loadL (NdL.of_blk HB.out).bytes rfl _ rfl rfl ?_) | (with_reducible refine Agg.wpList_loadL (NdL.of_blk HB.out).kids rfl _ rfl rfl ?_))
      go_ret
      exact ⟨ret_bool (by rw [alone_3]; simp [hb]), HX.out⟩
  have hk3 : decide (kx = 3) = false := by simpa using h3
  have hq3 : (kx == 3) = false := by simpa using h3
  by_cases h4 : kx = 4
  · subst h4
    go_wp2_with (first | (refine Agg.wpList_box rfl 26 _ rfl (ndC (_, vb, vk)) rfl ?_; intro g1 w1 hb hx hg; have HB := Lib.hid hb; have HX := Lib.hid hx; have HS1 := Lib.hid (HSL.out.below hx); clear hb hx hg) | (with_reducible refine Agg.wpList_loadL (NdL.of_blk HB.out).kind rfl _ rfl rfl ?_))
    go_loopw [3] (fun i wr => ∃ q : Nat, q ≤ l.length ∧ q ≤ 201 ∧ i = .int .i64 (q : Int) ∧ named none (l.take q) = true ∧ Blk wr g1 26 (ndC (4, vb, vk)) ∧ Below w.heap.size w wr) (fun i _ => l.length - (intOf i).toNat)
    case atStart => exact ⟨0, by omega, by omega, rfl, rfl, HB.out, HX.out⟩
    case round =>
      obtain ⟨w2, rfl⟩ : ∃ y : World, y = wr := ⟨_, rfl⟩
      obtain ⟨q, hq, hq2, rfl, hnm, hb, hx⟩ := hrel
      have HNM := Lib.hid hnm
      have HB2 := Lib.hid hb
      have HX2 := Lib.hid hx
      have HSX := Lib.hid (HSL.out.below hx)
      clear hnm hb hx
      by_cases hlt : q < l.length
      · have hd : decide ((q : Int) < (l.length : Int)) = true := by simp; omega
        by_cases hq200 : q ≤ 200
        · have hd2 : decide ((q : Int) ≤ 200) = true := by simp; omega
          obtain ⟨z, hzk⟩ : ∃ z, l[q]? = some z := ⟨_, List.getElem?_eq_getElem hlt⟩
          obtain ⟨y, hyk, hyz⟩ := HN.out.at_ q z hzk
          obtain ⟨pp, hadr, hle⟩ := kid_at HSX.out q y hyk
          have HY := Lib.hid hle.name
          have HSN := Lib.hid (show named none (l.take (q + 1)) = (named none (l.take q) && nameOk (lastN none (l.take q)) z.1) by rw [take_succ' hzk, named_snoc])
          have HYZ := Lib.hid hyz
          have hyl : y.1.length ≤ 1048576 := by rw [hyz]; exact HLM.out z (List.mem_of_getElem? hzk)
          clear hle hyz hyk hzk
          have HBAD : Hid (nameOk (lastN none (l.take q)) z.1 = false → alone (.mk 4 b l) = false) := Lib.hid (fun h => by rw [alone_4, named_take (k := q + 1) (by rw [HSN.out, h, Bool.and_false]), Bool.and_false])
          have HNX : Hid (nameOk (lastN none (l.take q)) z.1 = true → named none (l.take (q + 1)) = true) := Lib.hid (fun h => by rw [HSN.out, h, HNM.out]; rfl)
          go_wp2_with (first | (with_reducible refine Agg.wpList_loadL (NdL.of_blk HB2.out).kids rfl _ rfl rfl ?_))
          cases hnx : isName z.1 with
          | false =>
            have HR := Lib.hid (HBAD.out (by simp [nameOk, hnx]))
            have HC := Lib.hid (fun W => refNameD y.1 (b := false) (by rw [HYZ.out]; exact hnx) hyl W)
            clear hnx
            try simp only [Act.put, List.setIfInBounds_toArray, List.set_cons_succ, List.set_cons_zero]
            refine Agg.wp_region_later_lit (by kernel_rfl) (by kernel_rfl) ?_
            repeat (first | go_big_quiet_skip | ((first | (with_reducible refine Agg.wpQuiet_loadL (NdL.of_blk HB2.out).kids rfl _ rfl rfl ?_) | (with_reducible refine Agg.wpQuiet_loadL HY.out rfl _ rfl rfl ?_)); simp only [Act.put, List.setIfInBounds_toArray, List.set_cons_succ, List.set_cons_zero]) | go_big_quiet_step (first | (go_at_call 110; first | (with_reducible exact Agg.Calls.later (HC.out _)))))
            refine wpQuiet_nil ?_
            intro _ hw'
            obtain ⟨x1, rfl⟩ := hw'
            go_wp2_with fail
            go_ret
            exact ⟨ret_bool HR.out.symm, Agg.belowThen HX2.out (Nat.le_refl _) x1.h⟩
          | true =>
            have HC := Lib.hid (fun W => refNameD y.1 (b := true) (by rw [HYZ.out]; exact hnx) hyl W)
            by_cases hk0 : q = 0
            · have hkd : decide (0 < (q : Int)) = false := by simp <;> omega
              have hkd2 : decide (0 < q) = false := by simp <;> omega
              have HG := Lib.hid (HNX.out (by subst hk0; simp [nameOk, hnx, lastN]))
              clear hnx hk0
              try simp only [Act.put, List.setIfInBounds_toArray, List.set_cons_succ, List.set_cons_zero]
              refine Agg.wp_region_later_lit (by kernel_rfl) (by kernel_rfl) ?_
              repeat (first | go_big_quiet_skip | ((first | (with_reducible refine Agg.wpQuiet_loadL (NdL.of_blk HB2.out).kids rfl _ rfl rfl ?_) | (with_reducible refine Agg.wpQuiet_loadL HY.out rfl _ rfl rfl ?_)); simp only [Act.put, List.setIfInBounds_toArray, List.set_cons_succ, List.set_cons_zero]) | go_big_quiet_step (first | (go_at_call 110; first | (with_reducible exact Agg.Calls.later (HC.out _)))))
              refine wpQuiet_nil ?_
              intro _ hw'
              obtain ⟨x1, rfl⟩ := hw'
              have HB5 := Lib.hid (HB2.out.below x1.h)
              have hx6 := Agg.belowThen HX2.out (Nat.le_refl _) x1.h
              go_wp2_with fail
              go_roundw
              case rel => exact ⟨q + 1, by omega, by omega, by go_num, HG.out, HB5.out, hx6⟩
              case measure => simp [intOf]; omega
            · have hkd : 0 < q := by omega
              have hkd2 : decide (0 < q) = true := by simpa using hkd
              obtain ⟨u, huk⟩ : ∃ u, l[q - 1]? = some u := ⟨_, List.getElem?_eq_getElem (by omega)⟩
              obtain ⟨s, hsk, hsu⟩ := HN.out.at_ (q - 1) u huk
              obtain ⟨pq, hadq, hlq⟩ := kid_at HSX.out (q - 1) s hsk
              have hlz := lastN_take hkd huk
              have HQ := Lib.hid hlq.name
              have hwr := i64_predK q (by omega) (by omega)
              cases hbl : Op.bytesLess u.1 z.1 with
              | false =>
                have HR := Lib.hid (HBAD.out (by rw [hlz]; simp [nameOk, hbl]))
                have HGE := Lib.hid (show (!Op.bytesLess s.1 y.1) = true by rw [hsu, HYZ.out, hbl]; rfl)
                clear hnx hbl hlq hsk hsu hlz huk
                try simp only [Act.put, List.setIfInBounds_toArray, List.set_cons_succ, List.set_cons_zero]
                refine Agg.wp_region_later_lit (by kernel_rfl) (by kernel_rfl) ?_
                repeat (first | go_big_quiet_skip | ((first | (with_reducible refine Agg.wpQuiet_loadL (NdL.of_blk HB2.out).kids rfl _ rfl rfl ?_) | (with_reducible refine Agg.wpQuiet_loadL HY.out rfl _ rfl rfl ?_) | (with_reducible refine Agg.wpQuiet_loadL HQ.out rfl _ rfl rfl ?_) | (with_reducible refine wpQuiet_geqS rfl rfl rfl rfl true HGE.out ?_)); simp only [Act.put, List.setIfInBounds_toArray, List.set_cons_succ, List.set_cons_zero]) | go_big_quiet_step (first | (go_at_call 110; first | (with_reducible exact Agg.Calls.later (HC.out _)))))
                refine wpQuiet_nil ?_
                intro _ hw'
                obtain ⟨x1, rfl⟩ := hw'
                go_wp2_with fail
                go_ret
                exact ⟨ret_bool HR.out.symm, Agg.belowThen HX2.out (Nat.le_refl _) x1.h⟩
              | true =>
                have HG := Lib.hid (HNX.out (by rw [hlz]; simp [nameOk, hnx, hbl]))
                have HGE := Lib.hid (show (!Op.bytesLess s.1 y.1) = false by rw [hsu, HYZ.out, hbl]; rfl)
                clear hnx hbl hlq hsk hsu hlz huk
                try simp only [Act.put, List.setIfInBounds_toArray, List.set_cons_succ, List.set_cons_zero]
                refine Agg.wp_region_later_lit (by kernel_rfl) (by kernel_rfl) ?_
                repeat (first | go_big_quiet_skip | ((first | (with_reducible refine Agg.wpQuiet_loadL (NdL.of_blk HB2.out).kids rfl _ rfl rfl ?_) | (with_reducible refine Agg.wpQuiet_loadL HY.out rfl _ rfl rfl ?_) | (with_reducible refine Agg.wpQuiet_loadL HQ.out rfl _ rfl rfl ?_) | (with_reducible refine wpQuiet_geqS rfl rfl rfl rfl false HGE.out ?_)); simp only [Act.put, List.setIfInBounds_toArray, List.set_cons_succ, List.set_cons_zero]) | go_big_quiet_step (first | (go_at_call 110; first | (with_reducible exact Agg.Calls.later (HC.out _)))))
                refine wpQuiet_nil ?_
                intro _ hw'
                obtain ⟨x1, rfl⟩ := hw'
                have HB5 := Lib.hid (HB2.out.below x1.h)
                have hx6 := Agg.belowThen HX2.out (Nat.le_refl _) x1.h
                go_wp2_with fail
                go_roundw
                case rel => exact ⟨q + 1, by omega, by omega, by go_num, HG.out, HB5.out, hx6⟩
                case measure => simp [intOf]; omega
        · have hd2 : decide ((q : Int) ≤ 200) = false := by simp; omega
          by_cases hb0 : b.length = 0
          · have HB0 := Lib.hid hb0
            have hz1 : decide (((b.length : Nat) : Int) = 0) = true := decide_eq_true (by omega)
            have hz2 : (((b.length : Nat) : Int) == 0) = true := by rw [beq_iff_eq]; omega
            have hl2 : decide ((l.length : Int) ≤ 200) = false := by simp; omega
            clear hb0
            go_wp2_with (first | (with_reducible refine Agg.wpList_loadL (NdL.of_blk HB2.out).bytes rfl _ rfl rfl ?_) | (with_reducible refine Agg.wpList_loadL (NdL.of_blk HB2.out).kids rfl _ rfl rfl ?_))
            go_ret
            exact ⟨ret_bool (by rw [alone_4]; have : ¬ l.length ≤ 200 := (by omega); simp [this]), HX2.out⟩
          · have HB0 := Lib.hid hb0
            have hz1 : decide (((b.length : Nat) : Int) = 0) = false := decide_eq_false (by omega)
            have hz2 : (((b.length : Nat) : Int) == 0) = false := by rw [beq_eq_false_iff_ne]; omega
            have hl2 : decide ((l.length : Int) ≤ 200) = false := by simp; omega
            clear hb0
            go_wp2_with (first | (with_reducible refine Agg.wpList_loadL (NdL.of_blk HB2.out).bytes rfl _ rfl rfl ?_) | (with_reducible refine Agg.wpList_loadL (NdL.of_blk HB2.out).kids rfl _ rfl rfl ?_))
            go_ret
            exact ⟨ret_bool (by rw [alone_4]; have : ¬ l.length ≤ 200 := (by omega); simp [this]), HX2.out⟩
      · obtain rfl : q = l.length := by omega
        have hd1 : decide (((l.length : Nat) : Int) < ((l.length : Nat) : Int)) = false := by simp
        have HR := Lib.hid (show named none l = true by have := HNM.out; rwa [List.take_length] at this)
        by_cases hb0 : b.length = 0
        · have HB0 := Lib.hid hb0
          have hz1 : decide (((b.length : Nat) : Int) = 0) = true := decide_eq_true (by omega)
          have hz2 : (((b.length : Nat) : Int) == 0) = true := by rw [beq_iff_eq]; omega
          clear hb0
          by_cases hl2 : l.length ≤ 200
          · have hl3 : decide ((l.length : Int) ≤ 200) = true := by simp; omega
            go_wp2_with (first | (with_reducible refine Agg.wpList_loadL (NdL.of_blk HB2.out).bytes rfl _ rfl rfl ?_) | (with_reducible refine Agg.wpList_loadL (NdL.of_blk HB2.out).kids rfl _ rfl rfl ?_))
            go_ret
            exact ⟨ret_bool (by rw [alone_4, HR.out]; have h0 := HB0.out; cases b <;> simp_all), HX2.out⟩
          · have hl3 : decide ((l.length : Int) ≤ 200) = false := by simp; omega
            go_wp2_with (first | (with_reducible refine Agg.wpList_loadL (NdL.of_blk HB2.out).bytes rfl _ rfl rfl ?_) | (with_reducible refine Agg.wpList_loadL (NdL.of_blk HB2.out).kids rfl _ rfl rfl ?_))
            go_ret
            exact ⟨ret_bool (by rw [alone_4, HR.out]; have h0 := HB0.out; cases b <;> simp_all), HX2.out⟩
        · have HB0 := Lib.hid hb0
          have hz1 : decide (((b.length : Nat) : Int) = 0) = false := decide_eq_false (by omega)
          have hz2 : (((b.length : Nat) : Int) == 0) = false := by rw [beq_eq_false_iff_ne]; omega
          clear hb0
          go_wp2_with (first | (with_reducible refine Agg.wpList_loadL (NdL.of_blk HB2.out).bytes rfl _ rfl rfl ?_) | (with_reducible refine Agg.wpList_loadL (NdL.of_blk HB2.out).kids rfl _ rfl rfl ?_))
          go_ret
          exact ⟨ret_bool (by rw [alone_4, HR.out]; have h0 := HB0.out; cases b <;> simp_all), HX2.out⟩
  have hk4 : decide (kx = 4) = false := by simpa using h4
  have hq4 : (kx == 4) = false := by simpa using h4
  go_wp2_with (first | (refine Agg.wpList_box rfl 26 _ rfl (ndC (_, vb, vk)) rfl ?_; intro g1 w1 hb hx hg; have HB := Lib.hid hb; have HX := Lib.hid hx; have HS1 := Lib.hid (HSL.out.below hx); clear hb hx hg) | (with_reducible refine Agg.wpList_loadL (NdL.of_blk HB.out).kind rfl _ rfl rfl ?_) | (with_reducible refine Agg.wpList_loadL (NdL.of_blk HB.out).bytes rfl _ rfl rfl ?_) | (with_reducible refine Agg.wpList_loadL (NdL.of_blk HB.out).kids rfl _ rfl rfl ?_))
  go_ret
  exact ⟨ret_bool (alone_no h1 h2 h3 h4).symm, HX.out⟩
end Go.Proofs.YtdedpcdbnpnbeaaGreatDoor
/-! spenceref08.nodes: how many nodes, if all are right. No program in sight. -/
namespace Go.Tr
mutual
def nodesR : T → Nat → Nat → Nat
  | .mk k b l, left, d => if left < 1 ∨ d < 1 ∨ alone (.mk k b l) = false then 0 else nodesL l left (d - 1) 1
/-- a round: so many already -/
def nodesL : List K → Nat → Nat → Nat → Nat
  | [], _, _, all => all
  | (_, t) :: l, left, d, all => if nodesR t (left - all) d = 0 then 0 else nodesL l left d (all + nodesR t (left - all) d)
end
mutual
theorem nodesR_eq : ∀ (t : T) (left d : Nat), nodesR t left d = if ok t = true ∧ count t ≤ left ∧ deep t ≤ d then count t else 0
  | .mk k b l, left, d => by
    have ih := nodesL_eq l left (d - 1) 1
    rw [nodesR]
    simp only [ok, count, deep, Bool.and_eq_true]
    by_cases ha : alone (.mk k b l) = true
    · by_cases hl : left < 1
      · rw [if_pos (.inl hl), if_neg (by omega)]
      · by_cases hd : d < 1
        · rw [if_pos (.inr (.inl hd)), if_neg (by omega)]
        · rw [if_neg (by simp [ha]; omega), ih (by omega) (by omega)]
          by_cases hc : okL l = true ∧ 1 + countL l ≤ left ∧ deepL l ≤ d - 1
          · rw [if_pos hc, if_pos ⟨⟨ha, hc.1⟩, hc.2.1, by omega⟩]
          · rw [if_neg hc, if_neg]
            rintro ⟨⟨_, h1⟩, h2, h3⟩
            exact hc ⟨h1, h2, by omega⟩
    · rw [if_pos (.inr (.inr (by simpa using ha))), if_neg]
      rintro ⟨⟨h, _⟩, _⟩
      exact ha h
theorem nodesL_eq : ∀ (l : List K) (left d all : Nat), 0 < all → all ≤ left → nodesL l left d all = if okL l = true ∧ all + countL l ≤ left ∧ deepL l ≤ d then all + countL l else 0
  | [], left, d, all, h, hl => by
    simp [nodesL, okL, countL, deepL, hl]
  | (n, t) :: l, left, d, all, h, hl => by
    have e := nodesR_eq t (left - all) d
    have hp := count_pos t
    rw [nodesL]
    simp only [okL, countL, deepL, Bool.and_eq_true]
    by_cases hc : ok t = true ∧ count t ≤ left - all ∧ deep t ≤ d
    · rw [if_pos hc] at e
      rw [e, if_neg (by omega), nodesL_eq l left d (all + count t) (by omega) (by omega)]
      by_cases hc2 : okL l = true ∧ all + count t + countL l ≤ left ∧ deepL l ≤ d
      · rw [if_pos hc2, if_pos ⟨⟨hc.1, hc2.1⟩, by omega, by omega⟩]; omega
      · rw [if_neg hc2, if_neg]
        rintro ⟨⟨_, h1⟩, h2, h3⟩
        exact hc2 ⟨h1, by omega, by omega⟩
    · rw [if_neg hc] at e
      rw [e, if_pos rfl, if_neg]
      rintro ⟨⟨h1, _⟩, h2, h3⟩
      exact hc ⟨h1, by omega, by omega⟩
end
/-- the document's right is the program's -/
theorem nodesR_right (t : T) : decide (0 < nodesR t 200 8) = right t := by
  have hp := count_pos t
  rw [nodesR_eq, right, lookB, Bool.eq_iff_iff, decide_eq_true_iff]
  simp only [Bool.and_eq_true, decide_eq_true_eq]
  constructor
  · intro h
    split at h
    · next hc => exact ⟨⟨hc.1, by omega⟩, by omega⟩
    · omega
  · rintro ⟨⟨h1, h2⟩, h3⟩
    rw [if_pos ⟨h1, by omega, by omega⟩]; exact hp
end Go.Tr
/-! spenceref08.nodes, Right. -/
namespace Go.Tr
theorem nodesL_step {l : List K} {q : Nat} {z : K} (h : l[q]? = some z) {left d al m : Nat} (hm : nodesR z.2 (left - al) d = m) (h0 : m ≠ 0) : nodesL (l.drop q) left d al = nodesL (l.drop (q + 1)) left d (al + m) := by
  obtain ⟨hlt, he⟩ := List.getElem?_eq_some_iff.1 h
  rw [List.drop_eq_getElem_cons hlt, he]
  obtain ⟨n, t⟩ := z
  have hm : nodesR t (left - al) d = m := hm
  simp [nodesL, hm, h0]
theorem nodesL_stop {l : List K} {q : Nat} {z : K} (h : l[q]? = some z) {left d al : Nat} (hm : nodesR z.2 (left - al) d = 0) : nodesL (l.drop q) left d al = 0 := by
  obtain ⟨hlt, he⟩ := List.getElem?_eq_some_iff.1 h
  rw [List.drop_eq_getElem_cons hlt, he]
  obtain ⟨n, t⟩ := z
  have hm : nodesR t (left - al) d = 0 := hm
  simp [nodesL, hm]
theorem nodesR_le (t : T) (left d : Nat) : nodesR t left d ≤ left := by
  rw [nodesR_eq]; split
  · next h => exact h.2.1
  · omega
end Go.Tr
namespace Go.Proofs.YtdedpcdbnpnbeaaGreatDoor
open Go.RowKit Pl Go.Agg Go.Tr
theorem ret_int {m : Nat} {k : Int} (h : k = (m : Int)) : Ending.returned (.int .i64 k) = Ending.returned (.int .i64 (m : Int)) := by rw [h]
set_option maxRecDepth 100000 in
set_option maxHeartbeats 8000000 in
theorem rnodes_any : ∀ (N : Nat) (t : T) (_ : count t ≤ N) (_ : msz t ≤ 1048576) (left d : Nat) (_ : left ≤ 1000) (_ : d ≤ 1000) (v : Value) (w : World) (_ : NodeAt w v t),
    Calls Tryz.prog 38 #[v, .int .i64 (left : Int), .int .i64 (d : Int)] w fun e w' => e = .returned (.int .i64 (nodesR t left d : Int)) ∧ Below w.heap.size w w' := by
  intro N
  induction N with
  | zero => intro t h; have := count_pos t; omega
  | succ N ih =>
  intro t hc hm left d hl hd v w hv
  obtain ⟨x, rfl, hx⟩ := hv
  have HV := Lib.hid (show NodeAt w (.agg (ndC x)) t from ⟨x, rfl, hx⟩)
  obtain ⟨k, b, l⟩ := t
  obtain ⟨hk, hby, ks, hsl, hkv⟩ := hx
  have hkl := hkv.len
  have hlk := fun W => kds_len hsl W
  rw [hkl] at hlk
  have hkm := kids_msz k b l
  have hl1 : l.length ≤ 1048576 := by omega
  have HM := Lib.hid (fun x (hx : x ∈ l) => show msz x.2 ≤ 1048576 by have := kid_msz (k := k) (b := b) hx; omega)
  have HC := Lib.hid (fun x (hx : x ∈ l) => show count x.2 ≤ N by have h1 := countL_mem hx; simp only [count] at hc; omega)
  have HIH := Lib.hid ih
  have HKV := Lib.hid hkv
  have HSL := Lib.hid hsl
  have HMM := Lib.hid hm
  clear ih hc hby hsl hkv hk hkl hm
  go_enter Tryz.func38, Tryz.ntmps38
  by_cases h1 : left < 1
  · have hd1 : decide ((left : Int) < 1) = true := by simp; omega
    go_wp2_with (first | (refine Agg.wpList_box rfl 26 _ rfl (ndC x) rfl ?_; intro g1 w1 hb hx hg; have HB1 := Lib.hid hb; have HX1 := Lib.hid hx; have HV1 := Lib.hid (HV.out.below hx); clear hb hx hg))
    go_ret
    exact ⟨ret_int (by rw [nodesR, if_pos (.inl h1)]; rfl), HX1.out⟩
  have hd1 : decide ((left : Int) < 1) = false := by simp; omega
  by_cases h2 : d < 1
  · have hd2 : decide ((d : Int) < 1) = true := by simp; omega
    go_wp2_with (first | (refine Agg.wpList_box rfl 26 _ rfl (ndC x) rfl ?_; intro g1 w1 hb hx hg; have HB1 := Lib.hid hb; have HX1 := Lib.hid hx; have HV1 := Lib.hid (HV.out.below hx); clear hb hx hg))
    go_ret
    exact ⟨ret_int (by rw [nodesR, if_pos (.inr (.inl h2))]; rfl), HX1.out⟩
  have hd2 : decide ((d : Int) < 1) = false := by simp; omega
  go_wp2_with (first | (refine Agg.wpList_box rfl 26 _ rfl (ndC x) rfl ?_; intro g1 w1 hb hx hg; have HB1 := Lib.hid hb; have HX1 := Lib.hid hx; have HV1 := Lib.hid (HV.out.below hx); clear hb hx hg) | (with_reducible refine Agg.wpList_loadL (NdL.of_blk HB1.out).all rfl _ rfl rfl ?_))
  refine (ralone_any _ (.mk k b l) HMM.out w1 HV1.out).mono ?_
  rintro e w2 ⟨rfl, hx⟩
  have HB2 := Lib.hid (HB1.out.below hx)
  have HX2 := Lib.hid (Agg.belowThen HX1.out (Nat.le_refl _) hx)
  clear hx
  cases ha : alone (.mk k b l) with
  | false =>
    go_wp2_with fail
    go_ret
    exact ⟨ret_int (by rw [nodesR, if_pos (.inr (.inr ha))]; rfl), HX2.out⟩
  | true =>
    have HE := Lib.hid (show nodesR (.mk k b l) left d = nodesL l left (d - 1) 1 by rw [nodesR, if_neg (by simp [ha]; omega)])
    clear ha
    go_wp2_with fail
    go_loopw [7, 8] (fun a i wr => ∃ (q al : Nat), q ≤ l.length ∧ a = .int .i64 (al : Int) ∧ i = .int .i64 (q : Int) ∧ 1 ≤ al ∧ al ≤ left ∧ nodesL l left (d - 1) 1 = nodesL (l.drop q) left (d - 1) al ∧ Blk wr g1 26 (ndC x) ∧ Below w.heap.size w wr) (fun _ i _ => l.length - (intOf i).toNat)
    case atStart => exact ⟨0, 1, by omega, rfl, rfl, by omega, by omega, rfl, HB2.out, HX2.out⟩
    case round =>
      obtain ⟨w3, rfl⟩ : ∃ y : World, y = wr := ⟨_, rfl⟩
      obtain ⟨q, al, hq, rfl, rfl, h1a, hal, hnl, hb, hx⟩ := hrel
      have HNL := Lib.hid hnl
      have HB := Lib.hid hb
      have HX := Lib.hid hx
      clear hnl hb hx
      by_cases hlt : q < l.length
      · have hlq : decide ((q : Int) < (l.length : Int)) = true := by simp; omega
        obtain ⟨z, hzk⟩ : ∃ z, l[q]? = some z := ⟨_, List.getElem?_eq_getElem hlt⟩
        obtain ⟨y, hyk, hyz, hyn⟩ := HKV.out.at_ q z hzk
        obtain ⟨p, hadr, hle9⟩ := kid_at (HSL.out.below HX.out) q y hyk
        have HND := Lib.hid hle9.node.all
        have hin := List.mem_of_getElem? hzk
        obtain ⟨m, hmm⟩ : ∃ m, nodesR z.2 (left - al) (d - 1) = m := ⟨_, rfl⟩
        have HMM2 := Lib.hid hmm
        have HZ := Lib.hid hzk
        have hml : m ≤ left - al := by rw [← hmm]; exact nodesR_le _ _ _
        have HCALL := Lib.hid (show Calls Tryz.prog 38 #[.agg (ndC y.2), .int .i64 ((left : Int) - (al : Int)), .int .i64 ((d : Int) - 1)] w3 fun e w' => e = .returned (.int .i64 (m : Int)) ∧ Below w3.heap.size w3 w' by
          have h := HIH.out z.2 (HC.out z hin) (HM.out z hin) (left - al) (d - 1) (by omega) (by omega) (.agg (ndC y.2)) w3 ⟨y.2, rfl, NodeV.below HX.out _ _ hyn⟩
          rw [hmm, show ((left - al : Nat) : Int) = (left : Int) - (al : Int) by omega, show ((d - 1 : Nat) : Int) = (d : Int) - 1 by omega] at h
          exact h)
        clear hzk hyk hyz hyn hle9 hin hmm
        go_wp2_with (first | (with_reducible refine Agg.wpList_loadL (NdL.of_blk HB.out).kids rfl _ rfl rfl ?_) | (with_reducible refine Agg.wpList_loadL HND.out rfl _ rfl rfl ?_))
        refine HCALL.out.mono ?_
        rintro e w4 ⟨rfl, hx⟩
        have HB4 := Lib.hid (HB.out.below hx)
        have HX4 := Lib.hid (Agg.belowThen HX.out (Nat.le_refl _) hx)
        clear hx hadr
        by_cases hm0 : m = 0
        · subst hm0
          go_wp2_with fail
          go_ret
          exact ⟨ret_int (by rw [HE.out, HNL.out, nodesL_stop HZ.out HMM2.out]; rfl), HX4.out⟩
        · have hm1 : decide ((m : Int) = 0) = false := decide_eq_false (by omega)
          have hm2 : ((m : Int) == 0) = false := by rw [beq_eq_false_iff_ne]; omega
          have HNX := Lib.hid (HNL.out.trans (nodesL_step HZ.out HMM2.out hm0))
          go_wp2_with fail
          go_roundw
          case rel => exact ⟨q + 1, al + m, by omega, by go_num, by go_num, by omega, by omega, HNX.out, HB4.out, HX4.out⟩
          case measure => simp [intOf]; omega
      · obtain rfl : q = l.length := by omega
        have hd9 : decide (((l.length : Nat) : Int) < ((l.length : Nat) : Int)) = false := by simp
        have HR := Lib.hid (show nodesL l left (d - 1) 1 = al by have := HNL.out; rwa [List.drop_length, nodesL] at this)
        go_wp2_with (first | (with_reducible refine Agg.wpList_loadL (NdL.of_blk HB.out).kids rfl _ rfl rfl ?_))
        go_ret
        exact ⟨ret_int (by rw [HE.out, HR.out]), HX.out⟩
set_option maxRecDepth 100000 in
set_option maxHeartbeats 8000000 in
theorem rright_any (v : Value) (t : T) (hm : msz t ≤ 1048576) (w : World) (hv : NodeAt w v t) :
    Calls Tryz.prog 21 #[v] w fun e w' => e = .returned (.bool (right t)) ∧ Below w.heap.size w w' := by
  obtain ⟨x, rfl, hx⟩ := hv
  have HV := Lib.hid (show NodeAt w (.agg (ndC x)) t from ⟨x, rfl, hx⟩)
  have HMM := Lib.hid hm
  clear hx hm
  go_enter Tryz.func21, Tryz.ntmps21
  go_wp2_with (first | (refine Agg.wpList_box rfl 26 _ rfl (ndC x) rfl ?_; intro g1 w1 hb hx hg; have HB1 := Lib.hid hb; have HX1 := Lib.hid hx; have HV1 := Lib.hid (HV.out.below hx); clear hb hx hg) | (with_reducible refine Agg.wpList_loadL (NdL.of_blk HB1.out).all rfl _ rfl rfl ?_))
  obtain ⟨m, hmm⟩ : ∃ m, nodesR t 200 8 = m := ⟨_, rfl⟩
  have HR := Lib.hid (show decide (0 < m) = right t by rw [← hmm]; exact nodesR_right t)
  refine (show Calls Tryz.prog 38 #[.agg (ndC x), .int .i64 200, .int .i64 8] w1 fun e w' => e = .returned (.int .i64 (m : Int)) ∧ Below w1.heap.size w1 w' from hmm ▸ rnodes_any (count t) t (Nat.le_refl _) HMM.out 200 8 (by omega) (by omega) _ w1 HV1.out).mono ?_
  rintro e w2 ⟨rfl, hx⟩
  have HX2 := Lib.hid (Agg.belowThen HX1.out (Nat.le_refl _) hx)
  clear hx hmm
  go_wp2_with fail
  go_ret
  exact ⟨ret_bool (by rw [← HR.out]), HX2.out⟩
end Go.Proofs.YtdedpcdbnpnbeaaGreatDoor
/-! spenceref01.Number. -/
namespace Go.Proofs.YtdedpcdbnpnbeaaGreatDoor
open Go.RowKit Pl Go.Agg
set_option maxRecDepth 100000 in
set_option maxHeartbeats 1000000 in
theorem refNumber_any (n : Nat) (w : World) (hn : n < 4398046511104) :
    Calls Tryz.prog 39 #[.int .i64 (n : Int)] w fun e w' => ∃ v, e = .returned v ∧ Own EB w.heap.size w' v (encN n) ∧ Below w.heap.size w w' := by
  go_enter Tryz.func39, Tryz.ntmps39
  go_wp2_with fail
  go_loopw [0, 3] (fun x out wr => ∃ k : Nat, x = .int .i64 (k : Int) ∧ k < 4398046511104 ∧ ∃ bs, Own EB w.heap.size wr out bs ∧ bs ++ encN k = encN n ∧ Below w.heap.size w wr) (fun x _ _ => (intOf x).toNat)
  case atStart => exact ⟨n, rfl, hn, [], Own.nil _ _ _, rfl, Below.refl _ _⟩
  case round =>
    obtain ⟨w1, rfl⟩ : ∃ w1 : World, w1 = wr := ⟨_, rfl⟩
    obtain ⟨k, rfl, hk, bs, ho, heq, hw⟩ := hrel
    have hbs : bs.length ≤ 6 := by
      have h1 := congrArg List.length heq
      have h2 := encN_len' 6 n (by omega) (by omega)
      simp only [List.length_append] at h1
      omega
    have h63 : bs.length + 1 ≤ 1099511627776 / 8 := by omega
    have hsz := hw.size
    have HO := Lib.hid ho
    have HEQ := Lib.hid heq
    have HW := Lib.hid hw
    clear ho heq hw
    by_cases hlt : 128 ≤ k
    · have hI : (128 : Int) ≤ (k : Int) := by omega
      obtain ⟨c, hc⟩ : ∃ c : UInt8, c.toNat = k % 128 + 128 := ⟨UInt8.ofNat (k % 128 + 128), by simp; omega⟩
      have hcc : (k : Int) % 128 + 128 = (c.toNat : Int) := by omega
      have HE : Hid (bs ++ [c] ++ encN (k / 128) = encN n) := Lib.hid (by
        have e : UInt8.ofNat (k % 128 + 128) = c := by rw [← hc]; simp
        rw [← HEQ.out, encN_ge hlt, e, List.append_assoc]; rfl)
      clear hlt hc
      go_wp2_with (first | (refine Agg.wpList_push (E := EB) (base := w.heap.size) rfl rfl 11 rfl _ rfl _ rfl (c) rfl (fun _ => rfl) (by simp) HO.out h63 (by decide) hsz ?_; intro u5 v5 w5 ho5 hp5; have HO5 := Lib.hid ho5; have HP5 := Lib.hid (HW.out.trans (hp5.below w.heap.size (Nat.le_refl _) hsz)); clear ho5 hp5))
      go_roundw
      case rel => exact ⟨k / 128, by go_num, by omega, _, HO5.out, HE.out, HP5.out⟩
      case measure => simp [intOf]; omega
    · obtain ⟨c, rfl⟩ : ∃ c : UInt8, k = c.toNat := ⟨UInt8.ofNat k, by simp; omega⟩
      have hI : ¬ (128 : Int) ≤ (c.toNat : Int) := by omega
      have HE : Hid (bs ++ [c] = encN n) := Lib.hid (by rw [← HEQ.out, encN_lt (by omega), UInt8.ofNat_toNat])
      clear hlt
      go_wp2_with (first | (refine Agg.wpList_push (E := EB) (base := w.heap.size) rfl rfl 18 rfl _ rfl _ rfl (c) rfl (fun _ => rfl) (by simp) HO.out h63 (by decide) hsz ?_; intro u5 v5 w5 ho5 hp5; have HO5 := Lib.hid ho5; have HP5 := Lib.hid (HW.out.trans (hp5.below w.heap.size (Nat.le_refl _) hsz)); clear ho5 hp5))
      go_ret
      exact ⟨_, rfl, by rw [← HE.out]; exact HO5.out, HP5.out⟩
end Go.Proofs.YtdedpcdbnpnbeaaGreatDoor
