/- spenceref03.Hash, any text. (Several texts in one.) -/
import Derived.Test.YtpnolgliklmnmaaGreatQAM
import Derived.Test.YtpnolgliklmnmaaGreatQAE
import Derived.Test.YtpnolgliklmnmaaGreatQAF
import Derived.Test.YtpnolgliklmnmaaGreatQAG
import Derived.Test.YtpnolgliklmnmaaGreatQAI
import Derived.Test.YtpnolgliklmnmaaGreatQAJ
/-! spenceref01.Cursor as a state: contracts without cases; Text. -/
namespace Go.Proofs.YtpnolgliklmnmaaGreat
open Go.RowKit Pl Go.Agg
set_option maxRecDepth 100000 in
set_option maxHeartbeats 1000000 in
theorem rcnum_any (base g most : Nat) (s : Option (List UInt8)) (w : World) (hl : stLen s ≤ 16777216) (hmo : most ≤ 1099511627776) (h : CrS base g w s) :
    Calls Tryz.prog 59 #[.pointer (some ⟨g, 0, none⟩), .int .i64 (most : Int)] w fun x w' => x = .returned (.int .i64 ((sNum most s).1 : Int)) ∧ CrS base g w' (sNum most s).2 ∧ Only (· = g) w w' := by
  obtain ⟨v, r, e, hv, hbad, rfl⟩ := h
  by_cases h0 : e = 0
  · subst h0
    refine (rcnum_good base g most v r w (by simpa [stLen] using hl) hmo hv).mono ?_
    rintro x w' ⟨hc, ho⟩
    rcases hc with ⟨n, y, v', hg, rfl, hcu⟩ | ⟨hg, rfl, hcu⟩
    · simp only [if_true, sNum, hg]
      exact ⟨trivial, CrS.good hcu, ho⟩
    · simp only [if_true, sNum, hg]
      exact ⟨rfl, CrS.bad hcu, ho⟩
  · obtain ⟨rfl, rfl⟩ := hbad h0
    simp only [if_neg h0, sNum]
    have hq : ((e : Int) == 0) = false := by simp [h0]
    have H0 := Lib.hid h0
    have HM := Lib.hid hv
    have hlr := fun W => bytes_len hv.rest.slice W
    clear h0 hv hbad hl
    go_enter Tryz.func59, Tryz.ntmps59
    go_wp2_with fail
    go_loopw [5, 6, 7] (fun nn u i wr => i = .int .i64 0 ∧ wr = w) (fun _ _ i _ => 0)
    case atStart => exact ⟨rfl, rfl⟩
    case round =>
      obtain ⟨rfl, rfl⟩ := hrel
      go_wp2_with (first | (with_reducible refine Agg.wpList_loadL HM.out.load rfl _ rfl rfl ?_) | (with_reducible refine Agg.wpList_loadL HM.out.err rfl _ rfl rfl ?_))
      refine (rfail_any base g (.slice none 0 0) [] e 4 _ HM.out).mono ?_
      rintro x w9 ⟨⟨rr, rfl⟩, hcu, hon⟩
      rw [if_neg H0.out] at hcu
      have HCU := Lib.hid hcu
      have HON := Lib.hid hon
      clear hcu hon
      go_wp2_with fail
      go_ret
      exact ⟨rfl, CrS.bad ⟨e, H0.out, HCU.out⟩, HON.out⟩
set_option maxRecDepth 100000 in
set_option maxHeartbeats 1000000 in
theorem rcraw_any (base g many : Nat) (s : Option (List UInt8)) (w : World) (hl : stLen s ≤ 16777216) (hmo : many ≤ 1099511627776) (h : CrS base g w s) :
    Calls Tryz.prog 62 #[.pointer (some ⟨g, 0, none⟩), .int .i64 (many : Int)] w fun x w' => ∃ u, x = .returned u ∧ Own EB w.heap.size w' u (sRaw many s).1 ∧ CrS base g w' (sRaw many s).2 ∧ Only (· = g) w w' := by
  obtain ⟨v, r, e, hv, hbad, rfl⟩ := h
  by_cases h0 : e = 0
  · subst h0
    by_cases hle : many ≤ r.length
    · refine (rcraw_good base g many v r w (by simpa [stLen] using hl) hle hv).mono ?_
      rintro x w' ⟨u, v', rfl, hu, hcu, ho⟩
      simp only [if_true, sRaw, if_pos hle]
      exact ⟨u, rfl, hu, CrS.good hcu, ho⟩
    · simp only [if_true, sRaw, if_neg hle]
      have hI : (r.length : Int) < (many : Int) := by omega
      have hI0 : ¬ (many : Int) < 0 := by omega
      have HM := Lib.hid hv
      have hlr := fun W => bytes_len hv.rest.slice W
      clear hv hbad hl hle
      go_enter Tryz.func62, Tryz.ntmps62
      go_wp2_with (first | (with_reducible refine Agg.wpList_loadL HM.out.load rfl _ rfl rfl ?_) | (with_reducible refine Agg.wpList_loadL HM.out.err rfl _ rfl rfl ?_))
      refine (rfail_any base g v r 0 4 _ HM.out).mono ?_
      rintro x w9 ⟨⟨rr, rfl⟩, hcu, hon⟩
      have HCU := Lib.hid hcu
      have HON := Lib.hid hon
      clear hcu hon
      go_wp2_with fail
      go_ret
      exact ⟨_, rfl, Own.nil _ _ _, CrS.bad ⟨4, by omega, HCU.out⟩, HON.out⟩
  · obtain ⟨rfl, rfl⟩ := hbad h0
    simp only [if_neg h0, sRaw]
    have hq : ((e : Int) != 0) = true := by simp [h0]
    have H0 := Lib.hid h0
    have HM := Lib.hid hv
    clear h0 hv hbad hl
    go_enter Tryz.func62, Tryz.ntmps62
    go_wp2_with (first | (with_reducible refine Agg.wpList_loadL HM.out.load rfl _ rfl rfl ?_) | (with_reducible refine Agg.wpList_loadL HM.out.err rfl _ rfl rfl ?_))
    refine (rfail_any base g (.slice none 0 0) [] e 4 _ HM.out).mono ?_
    rintro x w9 ⟨⟨rr, rfl⟩, hcu, hon⟩
    rw [if_neg H0.out] at hcu
    have HCU := Lib.hid hcu
    have HON := Lib.hid hon
    clear hcu hon
    go_wp2_with fail
    go_ret
    exact ⟨_, rfl, Own.nil _ _ _, CrS.bad ⟨e, H0.out, HCU.out⟩, HON.out⟩
theorem rcnum_40 (base g : Nat) (s : Option (List UInt8)) (w : World) (hl : stLen s ≤ 16777216) (h : CrS base g w s) :
    Calls Tryz.prog 59 #[.pointer (some ⟨g, 0, none⟩), .int .i64 1099511627776] w fun x w' => x = .returned (.int .i64 ((sNum 1099511627776 s).1 : Int)) ∧ CrS base g w' (sNum 1099511627776 s).2 ∧ Only (· = g) w w' := by
  have h1 := rcnum_any base g 1099511627776 s w hl (Nat.le_refl _) h
  rw [show ((1099511627776 : Nat) : Int) = (1099511627776 : Int) from by simp] at h1
  exact h1
theorem sText_num (most : Nat) (s : Option (List UInt8)) : sText most s = match (sNum 1099511627776 s).2 with
    | none => ([], none)
    | some y => if (sNum 1099511627776 s).1 ≤ most then sRaw (sNum 1099511627776 s).1 (some y) else ([], none) := by
  cases s with
  | none => rfl
  | some r =>
    cases hg : getN 1099511627776 r with
    | none => simp [sText, getT, sNum, hg]
    | some p =>
      obtain ⟨n, y⟩ := p
      have e : sNum 1099511627776 (some r) = (n, some y) := by simp only [sNum, hg]
      rw [e]
      simp only [sText, getT, hg, sRaw]
      by_cases h1 : n ≤ most <;> by_cases h2 : n ≤ y.length <;> simp [h1, h2]
set_option maxRecDepth 100000 in
set_option maxHeartbeats 2000000 in
theorem rctext_any (base g most : Nat) (s : Option (List UInt8)) (w : World) (hl : stLen s ≤ 16777216) (h : CrS base g w s) :
    Calls Tryz.prog 60 #[.pointer (some ⟨g, 0, none⟩), .int .i64 (most : Int)] w fun x w' => ∃ u, x = .returned u ∧ Own EB w.heap.size w' u (sText most s).1 ∧ CrS base g w' (sText most s).2 ∧ Only (· = g) w w' := by
  rw [sText_num]
  have hle := sNum_len 1099511627776 s
  have hn40 : (sNum 1099511627776 s).1 ≤ 1099511627776 := by
    cases s with
    | none => simp [sNum]
    | some r =>
      simp only [sNum]
      cases hg : getN 1099511627776 r with
      | none => simp
      | some p => obtain ⟨n, y⟩ := p; exact (getN_some hg).2.1
  have HC := Lib.hid (rcnum_40 base g s w hl h)
  obtain ⟨n, s', hns⟩ : ∃ n s', sNum 1099511627776 s = (n, s') := ⟨_, _, rfl⟩
  rw [hns] at hle hn40
  simp only [hns]
  have HNS := Lib.hid hns
  clear h hns
  go_enter Tryz.func60, Tryz.ntmps60
  go_wp2_with fail
  refine HC.out.mono ?_
  rintro x w1 ⟨rfl, hc, ho⟩
  rw [HNS.out] at hc ⊢
  obtain ⟨v1, r1, e1, hv1, hbad, hs'⟩ := hc
  have HO := Lib.hid ho
  have HM := Lib.hid hv1
  have hlr := fun W => bytes_len hv1.rest.slice W
  have hsz := ho.size
  clear ho hv1 HC
  by_cases h0 : e1 = 0
  · subst h0
    rw [if_pos rfl] at hs'
    have hs' : s' = some r1 := hs'
    subst hs'
    by_cases hm : n ≤ most
    · have hI : ¬ (most : Int) < (n : Int) := by omega
      have HMO := Lib.hid hm
      clear hbad hm
      go_wp2_with (first | (with_reducible refine Agg.wpList_loadL HM.out.err rfl _ rfl rfl ?_))
      refine (rcraw_any base g n (some r1) _ (Nat.le_trans hle hl) hn40 (CrS.good HM.out)).mono ?_
      rintro x w2 ⟨u, rfl, hu, hcu, ho2⟩
      have HU := Lib.hid (hu.lower hsz)
      have HCU := Lib.hid hcu
      have HON := Lib.hid (HO.out.trans ho2 fun _ _ h => h)
      clear hu hcu ho2
      go_wp2_with fail
      go_ret
      all_goals first
        | exact ⟨_, rfl, HU.out, HCU.out, HON.out⟩
        | (exfalso; have := HMO.out; omega)
    · have hI : (most : Int) < (n : Int) := by omega
      have HMO := Lib.hid hm
      clear hbad hm
      go_wp2_with (first | (with_reducible refine Agg.wpList_loadL HM.out.err rfl _ rfl rfl ?_))
      refine (rfail_any base g v1 r1 0 3 _ HM.out).mono ?_
      rintro x w9 ⟨⟨rr, rfl⟩, hcu, hon⟩
      have HCU := Lib.hid hcu
      have HON := Lib.hid (HO.out.trans hon fun _ _ h => h)
      clear hcu hon
      go_wp2_with (first | (with_reducible refine Agg.wpList_loadL HCU.out.err rfl _ rfl rfl ?_))
      go_ret
      all_goals first
        | exact ⟨_, rfl, Own.nil _ _ _, CrS.bad ⟨3, by omega, HCU.out⟩, HON.out⟩
        | (exfalso; have := HMO.out; omega)
  · rw [if_neg h0] at hs'
    have hs' : s' = none := hs'
    subst hs'
    obtain ⟨rfl, rfl⟩ := hbad h0
    have hq : ((e1 : Int) == 0) = false := by simp [h0]
    have hq2 : ((e1 : Int) != 0) = true := by simp [h0]
    have H0 := Lib.hid h0
    clear h0 hbad
    go_wp2_with (first | (with_reducible refine Agg.wpList_loadL HM.out.err rfl _ rfl rfl ?_))
    go_ret
    exact ⟨_, rfl, Own.nil _ _ _, CrS.bad ⟨e1, H0.out, HM.out⟩, HO.out⟩
end Go.Proofs.YtpnolgliklmnmaaGreat
/-! Blocks that a step leaves alone. -/
namespace Go.Agg
open Go.RowKit
variable {P : Program}
theorem Blk.type {w : World} {g : Nat} {t t' : TypeId} {cs cs' : Array Value} (h : Blk w g t cs) (h' : Blk w g t' cs') : t = t' := by
  unfold Blk at h h'
  rw [h] at h'
  injection h' with h'
  injection h' with _ h'
theorem Blk.only {w w' : World} {S : Nat → Prop} {g : Nat} {t : TypeId} {cs : Array Value} (h : Blk w g t cs) (ho : Only S w w') (hS : ¬ S g) : Blk w' g t cs := (ho.block g h.lt hS).trans h
theorem Only.of_eq {w w' : World} {g : Nat} {S : Nat → Prop} (hb : Below g w w') (hs : w'.heap.size = w.heap.size) (hk : ∀ k, k ≠ g → w'.heap[k]? = w.heap[k]?) (hg : S g) : Only S w w' :=
  ⟨hb.os, hb.tape, hb.output, Nat.le_of_eq hs.symm, fun k _ hn => hk k (fun e => hn (e ▸ hg))⟩
end Go.Agg
/-! spenceref03: bit, Letters, value, within. -/
namespace Go.Proofs.YtpnolgliklmnmaaGreat
open Go.RowKit Pl
theorem within_any (c lo hi : Int) (w : World) :
    Calls Tryz.prog 94 #[.int .u8 c, .int .u8 lo, .int .u8 hi] w fun e w' => e = .returned (.bool (wi c lo hi)) ∧ w = w' := by
  by_cases h : lo ≤ c
  · go_enter Tryz.func94, Tryz.ntmps94
    go_wp2_with fail
    go_ret
    exact ⟨by simp [wi, h], rfl⟩
  · have hd : decide (lo ≤ c) = false := by simp; omega
    go_enter Tryz.func94, Tryz.ntmps94
    go_wp2_with fail
    go_ret
    exact ⟨by simp [wi, hd], rfl⟩
/-- bit i of a hash, as a number -/
def bitAt (h : List UInt8) (i : Nat) : Nat := num 256 (nats h) / 2 ^ i % 2
theorem bitAt_eq (h : List UInt8) (i : Nat) (hi : i / 8 < h.length) : bitAt h i = (h[i / 8]?.getD 0).toNat / 2 ^ (i % 8) % 2 := by
  have hd := digs_num 256 (nats h) (nats_lt h)
  have hq := digs_getElem? 256 (nats h).length (num 256 (nats h)) (i / 8) (by simpa [nats] using hi)
  rw [hd] at hq
  have hn : (nats h)[i / 8]? = some (h[i / 8]?.getD 0).toNat := by simp [nats, List.getElem?_eq_getElem hi]
  rw [hn] at hq
  have hx := Option.some.inj hq
  unfold bitAt
  have e : num 256 (nats h) / 2 ^ i = num 256 (nats h) / 256 ^ (i / 8) / 2 ^ (i % 8) := by
    rw [pow256, Nat.div_div_eq_div_mul, ← Nat.pow_add, Nat.div_add_mod]
  rw [e, hx]
  generalize num 256 (nats h) / 256 ^ (i / 8) = y
  have hr : i % 8 < 8 := Nat.mod_lt _ (by omega)
  generalize i % 8 = r at hr
  have : r = 0 ∨ r = 1 ∨ r = 2 ∨ r = 3 ∨ r = 4 ∨ r = 5 ∨ r = 6 ∨ r = 7 := by omega
  rcases this with rfl | rfl | rfl | rfl | rfl | rfl | rfl | rfl <;> omega
set_option maxHeartbeats 400000 in
theorem bit_any (h : List UInt8) (hl : h.length = 20) (i : Nat) (hi : i < 160) (w : World) :
    Calls Tryz.prog 155 #[.agg (hC h), .int .i64 (i : Int)] w fun e w' => e = .returned (.int .i64 (bitAt h i : Nat)) ∧ Below w.heap.size w w' := by
  have hc : (w.alloc (.cells (hC h) 25)).cell? ⟨w.heap.size, i / 8, none⟩ = some (.int .u8 ((h[i / 8]?.getD 0).toNat : Int)) := by
    rw [cell_of_row _ _ _ _ _ _ (heap_alloc_new _ _)]
    simp [hC, Lib.byteCells, List.getElem?_eq_getElem (show i / 8 < h.length by omega)]
  have he := bitAt_eq h i (by omega)
  have HE := Lib.hid he
  clear he hl
  have hb := u8_lt (h[i / 8]?.getD 0)
  go_enter Tryz.func155, Tryz.ntmps155
  go_wp2_with fail
  go_ret
  refine ⟨ret_num ?_, (Below.refl _ _).alloc (Nat.le_refl _) _⟩
  rw [HE.out]
  have e : ((h[i / 8]?.getD 0).toNat : Int) / 2 ^ (i % 8) = (((h[i / 8]?.getD 0).toNat / 2 ^ (i % 8) : Nat) : Int) := by simp
  rw [e, Int.tmod_eq_emod_of_nonneg (Int.natCast_nonneg _)]
  simp
/-- a letter's value, or -1 -/
def valI (c : UInt8) : Int := match val c with | some n => (n : Int) | none => -1
theorem value_any (c : UInt8) (w : World) :
    Calls Tryz.prog 158 #[.int .u8 (c.toNat : Int)] w fun e w' => e = .returned (.int .i64 (valI c)) ∧ w = w' := by
  go_enter Tryz.func158, Tryz.ntmps158
  go_wp2_with fail
  go_loop [3] (fun i => ∃ k : Nat, k ≤ 32 ∧ i = .int .i64 k ∧ ∀ j, j < k → letter j ≠ c) (fun i => 32 - (intOf i).toNat)
  case atStart => exact ⟨0, by omega, rfl, by intros; omega⟩
  case round =>
    obtain ⟨k, hk, rfl, hn⟩ := hrel
    have HN := Lib.hid hn
    clear hn
    by_cases hlt : k < 32
    · have hla := letter_at .i64 k hlt
      by_cases hc : letter k = c
      · have hd : ((((letter k).toNat : Int)) == (c.toNat : Int)) = true := by simp [hc]
        go_wp2_with fail
        go_ret
        exact ⟨ret_num (by unfold valI; rw [← hc, val_letter k hlt]), rfl⟩
      · have hd : ((((letter k).toNat : Int)) == (c.toNat : Int)) = false := by
          simp only [beq_eq_false_iff_ne, ne_eq]; intro h; apply hc; exact UInt8.toNat_inj.1 (by omega)
        go_wp2_with fail
        go_round
        case rel => exact ⟨k + 1, by omega, by go_num, fun j hj => by
          rcases Nat.lt_or_ge j k with h | h
          · exact HN.out j h
          · obtain rfl : j = k := by omega
            exact hc⟩
        case measure => simp [intOf]; omega
    · obtain rfl : k = 32 := by omega
      have hnone : val c = none := by
        cases hv : val c with
        | none => rfl
        | some n => exact absurd (letter_val hv) (HN.out n (val_lt hv))
      go_wp2_with fail
      go_ret
      exact ⟨ret_num (by unfold valI; rw [hnone]), rfl⟩
theorem bit_int (h : List UInt8) (hl : h.length = 20) (i : Int) (h0 : 0 ≤ i) (hi : i < 160) (w : World) :
    Calls Tryz.prog 155 #[.agg (hC h), .int .i64 i] w fun e w' => e = .returned (.int .i64 (bitAt h i.toNat : Nat)) ∧ Below w.heap.size w w' := by
  obtain ⟨n, rfl⟩ := Int.eq_ofNat_of_zero_le h0
  exact bit_any h hl n (by omega) w
/-- the higher bits of letter i, from t on -/
def part (h : List UInt8) (i t : Nat) : Nat := num 256 (nats h) / 2 ^ (5 * i + t) % 2 ^ (5 - t)
theorem part_lt (h : List UInt8) (i t : Nat) : part h i t < 32 :=
  Nat.lt_of_lt_of_le (Nat.mod_lt _ (Nat.pow_pos (by omega))) (Nat.pow_le_pow_right (n := 2) (by omega) (by omega : 5 - t ≤ 5))
theorem part_5 (h : List UInt8) (i : Nat) : part h i 5 = 0 := by simp [part, Nat.mod_one]
theorem part_0 (h : List UInt8) (i : Nat) : part h i 0 = num 256 (nats h) / 32 ^ i % 32 := by simp [part, pow32]
theorem part_step (h : List UInt8) (i t : Nat) (ht : t < 5) : part h i t = 2 * part h i (t + 1) + bitAt h (5 * i + t) := by
  unfold part bitAt
  rw [show 5 - t = (5 - (t + 1)) + 1 by omega, Nat.pow_succ', Nat.mod_mul, Nat.div_div_eq_div_mul, ← Nat.pow_succ, show (5 * i + t).succ = 5 * i + (t + 1) by omega]
  omega
theorem bitAt_lt (h : List UInt8) (i : Nat) : bitAt h i < 2 := Nat.mod_lt _ (by omega)
theorem refLetters_step (h : List UInt8) (k : Nat) (hk : k < 32) : ({ data := (List.take k (letters h)).toArray } : ByteArray) ++
    ByteArray.extract ⟨#[48, 49, 50, 51, 52, 53, 54, 55, 56, 57, 97, 98, 99, 100, 102, 103, 104, 105, 106, 107, 108, 109, 110, 112, 113, 114, 115, 118, 119, 120, 121, 122]⟩ (part h k 0) (part h k 0 + 1) = { data := (List.take (k + 1) (letters h)).toArray } := by
  show ({ data := (List.take k (letters h)).toArray } : ByteArray) ++ ByteArray.extract ⟨alpha.toArray⟩ (part h k 0) (part h k 0 + 1) = { data := (List.take (k + 1) (letters h)).toArray }
  have hp := part_lt h k 0
  have hl : k < (letters h).length := by rw [letters_length]; exact hk
  rw [Agg.bytes_extract, Agg.bytes_append, List.take_succ_eq_append_getElem hl]
  congr 3
  have ha : part h k 0 < alpha.length := hp
  rw [List.take_succ_eq_append_getElem ha, List.drop_append_of_le_length (by simp; omega), List.drop_eq_nil_of_le (by simp; omega), List.nil_append]
  congr 1
  have : (letters h)[k]? = some (letter (part h k 0)) := by
    unfold letters
    rw [List.getElem?_map, digs_getElem? _ _ _ _ hk, part_0]; rfl
  rw [List.getElem?_eq_getElem hl] at this
  rw [Option.some.inj this]
  simp [letter, List.getD, List.getElem?_eq_getElem ha]
set_option maxHeartbeats 400000 in
theorem refLetters_any (h : List UInt8) (hl : h.length = 20) (w : World) :
    Calls Tryz.prog 125 #[.agg (hC h)] w fun e w' => e = .returned (.string ⟨(letters h).toArray⟩) ∧ Below w.heap.size w w' := by
  have HL := Lib.hid hl
  clear hl
  go_enter Tryz.func125, Tryz.ntmps125
  go_wp2_with fail
  go_loopw [3, 4] (fun o i wr => ∃ k : Nat, k ≤ 32 ∧ i = .int .i64 k ∧ o = .string ⟨((letters h).take k).toArray⟩ ∧ wr.heap[w.heap.size]? = some (.cells (hC h) 25 (0, 0)) ∧ Below w.heap.size w wr)
    (fun _ i _ => 32 - (intOf i).toNat)
  case atStart => exact ⟨0, by omega, rfl, rfl, heap_alloc_new _ _, (Below.refl _ _).alloc (Nat.le_refl _) _⟩
  case round =>
    obtain ⟨k, hk, rfl, rfl, hb, hw⟩ := hrel
    by_cases hlt : k < 32
    · have hd : decide ((k : Int) < 32) = true := by simp; omega
      go_wp2_with fail
      go_loopw [5, 6] (fun n i wr => ∃ t : Nat, t ≤ 5 ∧ i = .int .i64 ((t : Int) - 1) ∧ n = .int .i64 (part h k t : Nat) ∧ wr.heap[w.heap.size]? = some (.cells (hC h) 25 (0, 0)) ∧ Below w.heap.size w wr)
        (fun _ i _ => (intOf i + 1).toNat)
      case atStart => exact ⟨5, by omega, rfl, by rw [part_5]; rfl, hb, hw⟩
      case round =>
        obtain ⟨t, ht, rfl, rfl, hb, hw⟩ := hrel
        have hp := part_lt h k t
        by_cases h1 : 1 ≤ t
        · go_wp2_with (first | (with_reducible refine wpList_load_row rfl 25 _ rfl w.heap.size rfl 25 (hC h) (0, 0) (.array 20 5) hb Tryz.underlying25 rfl ?hs ?_))
          case hs => rw [hC_size, HL.out]; kernel_rfl
          go_wp2_with fail
          refine (bit_int h HL.out _ (by omega) (by omega) _).mono ?_
          rintro e w' ⟨rfl, hw'⟩
          have hbl := bitAt_lt h (5 * k + (t - 1))
          go_wp2_with fail
          go_roundw
          case rel => exact ⟨t - 1, by omega, by go_num, by rw [part_step h k (t - 1) (by omega), show t - 1 + 1 = t by omega]; go_num, Agg.keep' hw' hb, hw.trans (hw'.mono hw.size)⟩
          case measure => simp [intOf]; omega
        · obtain rfl : t = 0 := by omega
          go_wp2_with fail
          go_roundw
          case rel =>
            refine ⟨k + 1, by omega, by go_num, ?_, hb, hw⟩
            exact congrArg Value.string (refLetters_step h k hlt)
          case measure => simp [intOf]; omega
    · obtain rfl : k = 32 := by omega
      go_wp2_with fail
      go_ret
      exact ⟨by rw [List.take_of_length_le (by rw [letters_length]; omega)]; rfl, hw⟩
end Go.Proofs.YtpnolgliklmnmaaGreat
/-! spenceref03.Name. -/
namespace Go.Proofs.YtpnolgliklmnmaaGreat
open Go.RowKit Pl
/-- the test of spenceref03.Name: not a sign -/
theorem sgn_wi (c : UInt8) : sgn c = (wi c.toNat 97 122 || wi c.toNat 65 90 || wi c.toNat 48 57 || ((c.toNat : Int) == 46) || ((c.toNat : Int) == 95) || ((c.toNat : Int) == 43) || ((c.toNat : Int) == 45)) := by
  have : ∀ n : Nat, n < 256 → sgn (UInt8.ofNat n) = (wi n 97 122 || wi n 65 90 || wi n 48 57 || ((n : Int) == 46) || ((n : Int) == 95) || ((n : Int) == 43) || ((n : Int) == 45)) := by decide +kernel
  have h := this c.toNat c.toNat_lt
  rwa [UInt8.ofNat_toNat] at h
theorem n45 {x : Int} (h : (x != 45) = false) : x = 45 := by simpa using h
set_option maxRecDepth 100000 in
set_option maxHeartbeats 2000000 in
theorem refName_any (s : List UInt8) (hs : s.length ≤ 9223372036854775807) (w : World) :
    Calls Tryz.prog 67 #[.string ⟨s.toArray⟩] w fun e w' => e = .returned (.bool (isName s)) ∧ w = w' := by
  have hsz := Agg.bytes_size s
  have HS := Lib.hid hsz
  have hlen : ∀ w, (Builtin.len_ #[9] 3 #[.string ⟨s.toArray⟩]).run Tryz.prog w = .ok (.int .i64 (s.length : Int)) w := fun w => by rw [run_len_string w 9 3 _ Tryz.underlying9, hsz]; rfl
  clear hsz
  go_enter Tryz.func67, Tryz.ntmps67
  go_wp2_with fail
  go_loop [3] (fun i => ∃ k : Nat, k ≤ s.length ∧ i = .int .i64 k ∧ ∀ j (hj : j < s.length), j < k → sgn s[j] = true) (fun i => s.length - (intOf i).toNat)
  case atStart => exact ⟨0, by omega, rfl, by intros; omega⟩
  case round =>
    obtain ⟨k, hk, rfl, hg⟩ := hrel
    have HG := Lib.hid hg
    clear hg
    by_cases hlt : k < s.length
    · have hix := fun w => Agg.run_index_str (P := Tryz.prog) (k := .i64) (c := s[k]) w Tryz.underlying9 (List.getElem?_eq_getElem hlt)
      have hsg := sgn_wi s[k]
      have HS := Lib.hid hsg
      clear hsg
      generalize hc : s[k] = c at hix HS
      have HC := Lib.hid hc
      clear hc
      go_wp2_with (go_at_call 94; refine (within_any _ _ _ _).mono ?_; rintro e w' ⟨rfl, rfl⟩)
      · have h45 : ((c.toNat : Int) != 45) = true := by assumption
        have hsg : sgn s[k] = false := by rw [HC.out, HS.out]; simp [*]; simpa using h45
        go_ret
        exact ⟨ret_bool (isName_bad s k hlt hsg).symm, rfl⟩
      all_goals
        have hsg : sgn s[k] = true := by rw [HC.out, HS.out]; first | (simp [*]; done) | (have h45 := n45 ‹((c.toNat : Int) != 45) = false›; simp [h45]; done)
        go_round
        case rel => exact ⟨k + 1, by omega, by go_num, fun j hj h => by
          rcases Nat.lt_or_ge j k with h' | h'
          · exact HG.out j hj h'
          · obtain rfl : j = k := by omega
            exact hsg⟩
        case measure => simp [intOf]; omega
    · obtain rfl : k = s.length := by omega
      have hgood := isName_good s (fun j hj => HG.out j hj hj)
      have HI := Lib.hid hgood
      clear hgood
      cases s with
      | nil =>
        simp only [List.length_nil] at hlen
        go_wp2_with fail
        go_ret
        exact ⟨ret_bool (by rw [HI.out]; rfl), rfl⟩
      | cons c l =>
        have hix : ∀ w, (Instr.index 9 (.string ⟨(c :: l).toArray⟩) (.int .i64 0)).run Tryz.prog w = .ok (.int .u8 (c.toNat : Int)) w := fun w => Agg.run_index_str (i := 0) w Tryz.underlying9 rfl
        simp only [List.length_cons] at hlen
        go_wp2_with fail
        all_goals go_ret
        all_goals refine ⟨ret_bool ?_, rfl⟩
        all_goals rw [HI.out]
        · have h24 : (l.length : Int) + 1 ≤ 24 := by assumption
          have e : (((c.toNat : Int)) != 46) = (c != 46) := by
            rw [Bool.eq_iff_iff]; simp only [bne_iff_ne, ne_eq]; rw [← UInt8.toNat_inj]; simp; omega
          simp [e, show l.length + 1 ≤ 24 by omega]
        · have h24 : 24 < (l.length : Int) + 1 := by assumption
          simp [show ¬ l.length + 1 ≤ 24 by omega]
end Go.Proofs.YtpnolgliklmnmaaGreat
/-! spenceref03.Hash: the same answer as base.Hash. -/
namespace Go.Proofs.YtpnolgliklmnmaaGreat
open Go.RowKit Pl Go.Mp
set_option maxRecDepth 100000 in
set_option maxHeartbeats 1000000 in
theorem refHash_long (s : List UInt8) (hl : s.length ≠ 32) (w : World) :
    Calls Tryz.prog 128 #[.string ⟨s.toArray⟩] w fun e w' => e = .returned (.tuple #[.agg (hC z20), .int .i64 4]) ∧ Below w.heap.size w w' := by
  have hsz := Agg.bytes_size s
  have hlen : ∀ w, (Builtin.len_ #[9] 3 #[.string ⟨s.toArray⟩]).run Tryz.prog w = .ok (.int .i64 (s.length : Int)) w := fun w => by rw [run_len_string w 9 3 _ Tryz.underlying9, hsz]; rfl
  clear hsz
  have hd : ((s.length : Int) != 32) = true := by rw [bne_iff_ne]; omega
  have hb := heap_alloc2_old w (.cells (hC z20) 25) (.cells (hC z20) 25)
  have hb2 := heap_alloc2_new w (.cells (hC z20) 25) (.cells (hC z20) 25)
  go_enter Tryz.func128, Tryz.ntmps128
  go_wp2_with (first | (with_reducible refine Agg.wpList_alloc_row rfl 25 rfl (hC z20) z20_zero ?_; simp only [World.size_alloc]) | (with_reducible refine wpList_load_row rfl 25 _ rfl (w.heap.size + 1) rfl 25 (hC z20) (0, 0) (.array 20 5) hb2 Tryz.underlying25 rfl (hC_info _ z20_length) ?_) | (with_reducible refine Agg.wpList_set_row rfl rfl 25 _ _ rfl w.heap.size (hC z20) rfl rfl 25 (hC z20) hb (hC_info _ z20_length) rfl (hC_one _) ?_))
  exact Agg.post_row_tmp rfl rfl rfl (setRow_heap _ _ _ _ _ _ hb) Tryz.underlying25 rfl (hC_info _ z20_length) rfl ⟨rfl, Agg.below_setRow (((Below.refl _ _).alloc (Nat.le_refl _) _).alloc (by simp) _) (Nat.le_refl _)⟩
theorem valI_some {c : UInt8} {n : Nat} (h : val c = some n) : valI c = n := by simp [valI, h]
theorem valI_none {c : UInt8} (h : val c = none) : valI c = -1 := by simp [valI, h]
theorem hC_at? (h : List UInt8) (i : Nat) : (hC h)[i]? = (h[i]?).map fun c => Value.int .u8 (c.toNat : Int) := by simp [hC, Lib.byteCells]
theorem byte_add (c : UInt8) (X r : Nat) (hX : X < 256) (hc : c = UInt8.ofNat X) : ((UInt8.ofNat (X + 2 ^ r)).toNat : Int) = ((c.toNat : Int) + 2 ^ r) % 256 := by
  subst hc
  simp [UInt8.toNat_ofNat', Nat.mod_eq_of_lt hX]
theorem tbit (n q : Nat) : ((n : Int) / 2 ^ q).tmod 2 = ((n / 2 ^ q % 2 : Nat) : Int) := by
  have e : (n : Int) / 2 ^ q = ((n / 2 ^ q : Nat) : Int) := by simp
  rw [e, Int.tmod_eq_emod_of_nonneg (Int.natCast_nonneg _)]
  simp
theorem tbit_yes (n q : Nat) (h : n / 2 ^ q % 2 = 1) : (((n : Int) / 2 ^ q).tmod 2 == 1) = true := by rw [tbit, h]; rfl
theorem tbit_no (n q : Nat) (h : n / 2 ^ q % 2 = 0) : (((n : Int) / 2 ^ q).tmod 2 == 1) = false := by rw [tbit, h]; rfl
set_option maxRecDepth 100000 in
set_option maxHeartbeats 1000000 in
theorem refHash_32 (s : List UInt8) (hl : s.length = 32) (w : World) :
    Calls Tryz.prog 128 #[.string ⟨s.toArray⟩] w fun e w' => e = .returned (.tuple #[.agg (hC (hashH s)), .int .i64 (hashE s)]) ∧ Below w.heap.size w w' := by
  have hsz := Agg.bytes_size s
  have hlen : ∀ w, (Builtin.len_ #[9] 3 #[.string ⟨s.toArray⟩]).run Tryz.prog w = .ok (.int .i64 32) w := fun w => by rw [run_len_string w 9 3 _ Tryz.underlying9, hsz, hl]; rfl
  clear hsz
  have HL := Lib.hid hl
  clear hl
  have hb := heap_alloc2_old w (.cells (hC z20) 25) (.cells (hC z20) 25)
  have hb2 := heap_alloc2_new w (.cells (hC z20) 25) (.cells (hC z20) 25)
  go_enter Tryz.func128, Tryz.ntmps128
  go_wp2_with (first | (with_reducible refine Agg.wpList_alloc_row rfl 25 rfl (hC z20) z20_zero ?_; simp only [World.size_alloc]))
  clear hlen
  go_loopw [5] (fun i wr => ∃ (k : Nat) (l : List Nat), i = .int .i64 (k : Int) ∧ k ≤ 32 ∧ (s.take k).mapM val = some l ∧ wr.heap[w.heap.size]? = some (.cells (hC z20) 25 (0, 0)) ∧ wr.heap[w.heap.size + 1]? = some (.cells (hC (hN (lnum l))) 25 (0, 0)) ∧ Below w.heap.size w wr)
    (fun i _ => 32 - (intOf i).toNat)
  case atStart => exact ⟨0, [], rfl, by omega, rfl, hb, hb2, ((Below.refl _ _).alloc (Nat.le_refl _) _).alloc (by simp) _⟩
  case round =>
    obtain ⟨k, l, rfl, hk, hl, hb, hb2, hw⟩ := hrel
    have HLL := Lib.hid hl
    clear hl
    by_cases hlt : k < 32
    · have hd : decide ((k : Int) < 32) = true := by simp; omega
      have hks : k < s.length := by rw [HL.out]; exact hlt
      have hix := fun w => Agg.run_index_str (P := Tryz.prog) (k := .i64) (c := s[k]) w Tryz.underlying9 (List.getElem?_eq_getElem hks)
      cases hv : val s[k] with
      | none =>
        have hh : hashH s = z20 ∧ hashE s = 4 := by
          have : Pl.hash s = none := by unfold Pl.hash; rw [if_pos HL.out, mapM_none k hks hv]; rfl
          simp [hashH, hashE, this]
        have HH := Lib.hid hh
        clear hh
        go_wp2_with (first | (go_at_call 158; refine (value_any _ _).mono ?_; rintro e w' ⟨rfl, rfl⟩; rw [valI_none hv]) | (with_reducible refine Agg.wpList_build_zero rfl 25 rfl (.agg (hC z20)) build_zero ?_) | (with_reducible refine Agg.wpList_set_row rfl rfl 25 _ _ rfl w.heap.size (hC z20) rfl rfl 25 _ hb (hC_info _ z20_length) rfl (hC_one _) ?_))
        exact Agg.post_row_tmp rfl rfl rfl (setRow_heap _ _ _ _ _ _ hb) Tryz.underlying25 rfl (hC_info _ z20_length) rfl ⟨by rw [HH.out.1, HH.out.2]; rfl, Agg.below_setRow hw (Nat.le_refl _)⟩
      | some n =>
        have hn32 := val_lt hv
        have hl2 := mapM_take k hks HLL.out hv
        obtain ⟨hls, hlb, hll⟩ := mapM_val HLL.out
        have hll' : l.length = k := by rw [hll, List.length_take, HL.out]; omega
        have HX := Lib.hid (And.intro hl2 (And.intro hlb hll'))
        have HV := Lib.hid hv
        clear hl2 hls hlb hll hll' hv
        have hdn : decide ((n : Int) < 0) = false := by simp
        go_wp2_with (first | (go_at_call 158; refine (value_any _ _).mono ?_; rintro e w' ⟨rfl, rfl⟩; rw [valI_some HV.out]))
        go_loopw [7] (fun j wr => ∃ (q : Nat), j = .int .i64 (q : Int) ∧ q ≤ 5 ∧ wr.heap[w.heap.size]? = some (.cells (hC z20) 25 (0, 0)) ∧ wr.heap[w.heap.size + 1]? = some (.cells (hC (hN (bitNum l k n q))) 25 (0, 0)) ∧ Below w.heap.size w wr)
          (fun j _ => 5 - (intOf j).toNat)
        case atStart => exact ⟨0, rfl, by omega, hb, by rw [bitNum_0]; exact hb2, hw⟩
        case round =>
          obtain ⟨q, rfl, hq, hb, hb2, hw⟩ := hrel
          by_cases hq5 : q < 5
          · obtain ⟨c, hcc⟩ : ∃ c : UInt8, c = UInt8.ofNat (bitNum l k n q / 256 ^ ((5 * k + q) / 8) % 256) := ⟨_, rfl⟩
            have hcell : wr.cell? ⟨w.heap.size + 1, (5 * k + q) / 8, none⟩ = some (.int .u8 (c.toNat : Int)) := by
              rw [cell_of_row _ _ _ _ _ _ hb2, hC_at?, hN_at _ _ (by omega), hcc]; rfl
            have hfr : wr.frozen? ⟨w.heap.size + 1, (5 * k + q) / 8, none⟩ = false := frozen_of_row _ _ _ _ _ hb2
            have hc0 := u8_lt c
            have HC := Lib.hid hcc
            clear hcc
            by_cases hbit : n / 2 ^ q % 2 = 1
            · have e1 := tbit_yes n q hbit
              have HB := Lib.hid hbit
              clear hbit
              go_wp2_with fail
              go_region
              go_wp2_with fail
              go_roundw
              case rel =>
                have hP := bitNum_lt l k n q (by have := lnum_lt l HX.out.2.1; rwa [HX.out.2.2] at this)
                have h8 := hN_bit _ _ (by omega) hP
                rw [← bitNum_yes _ _ _ _ HB.out] at h8
                have hb3 := heap_setCell_same wr (w.heap.size + 1) ((5 * k + q) / 8) _ _ (.int .u8 ((UInt8.ofNat (bitNum l k n q / 256 ^ ((5 * k + q) / 8) % 256 + 2 ^ ((5 * k + q) % 8))).toNat : Int)) hb2
                rw [hC_set, ← h8, byte_add c _ _ (Nat.mod_lt _ (by omega)) HC.out] at hb3
                exact ⟨q + 1, by go_num, by omega, (heap_setCell_other _ _ _ _ (by simp)).trans hb, hb3, (hw.setCell (p := ⟨w.heap.size + 1, (5 * k + q) / 8, none⟩) (by simp) _).drew⟩
              case measure => simp [intOf]; omega
            · have hbit : n / 2 ^ q % 2 = 0 := by omega
              have e1 := tbit_no n q hbit
              have HB := Lib.hid hbit
              clear hbit
              go_wp2_with fail
              go_roundw
              case rel => exact ⟨q + 1, by go_num, by omega, hb, by rw [bitNum_no _ _ _ _ HB.out]; exact hb2, hw⟩
              case measure => simp [intOf]; omega
          · obtain rfl : q = 5 := by omega
            go_wp2_with fail
            go_roundw
            case rel => exact ⟨k + 1, l ++ [n], by go_num, by omega, HX.out.1, hb, by
              have := bitNum_5 l n hn32
              rw [HX.out.2.2] at this
              rw [← this]; exact hb2, hw⟩
            case measure => simp [intOf]; omega
    · obtain rfl : k = 32 := by omega
      have hh : hashH s = hN (lnum l) ∧ hashE s = 0 := by
        have h1 := HLL.out
        rw [List.take_of_length_le (by rw [HL.out]; omega)] at h1
        have : Pl.hash s = some (hN (lnum l)) := by unfold Pl.hash; rw [if_pos HL.out, h1]; rfl
        simp [hashH, hashE, this]
      have HH := Lib.hid hh
      clear hh
      go_wp2_with (first | (with_reducible refine wpList_load_row rfl 25 _ rfl (w.heap.size + 1) rfl 25 _ (0, 0) (.array 20 5) hb2 Tryz.underlying25 rfl (hC_info _ (hN_length _)) ?_) | (with_reducible refine Agg.wpList_set_row rfl rfl 25 _ _ rfl w.heap.size _ rfl rfl 25 _ hb (hC_info _ (hN_length _)) ?hsz (hC_one _) ?_))
      case hsz => rw [hC_size, hC_size, hN_length]; rfl
      exact Agg.post_row_tmp rfl rfl rfl (setRow_heap _ _ _ _ _ _ hb) Tryz.underlying25 rfl (hC_info _ (hN_length _)) rfl ⟨by rw [HH.out.1, HH.out.2]; rfl, Agg.below_setRow hw (Nat.le_refl _)⟩
end Go.Proofs.YtpnolgliklmnmaaGreat
/-! spenceref03.Path. -/
namespace Go.Proofs.YtpnolgliklmnmaaGreat
open Go.RowKit Pl Go.Mp Go.Agg
set_option maxRecDepth 100000 in
set_option maxHeartbeats 1000000 in
theorem refPath_any (h n : List UInt8) (hl : h.length = 20) (hs : n.length ≤ 9223372036854775807) (w : World) :
    Calls Tryz.prog 85 #[.agg (pC h n)] w fun e w' => e = .returned (.tuple #[.string ⟨(pathS h n).toArray⟩, .int .i64 (pathE n)]) ∧ Below w.heap.size w w' := by
  have hb := heap_alloc_new w (.cells (pC h n) 27)
  have hcell : (w.alloc (.cells (pC h n) 27)).cell? ⟨w.heap.size, 20, none⟩ = some (.string ⟨n.toArray⟩) := by rw [cell_of_row _ _ _ _ _ _ hb, pC_name h n hl]
  have HL := Lib.hid hl
  clear hl
  have HB := Lib.hid hb
  clear hb
  cases hn : isName n with
  | false =>
    go_enter Tryz.func85, Tryz.ntmps85
    go_wp2_with (go_at_call 67; refine (refName_any _ hs _).mono ?_; rintro e w1 ⟨rfl, rfl⟩; rw [hn])
    go_ret2
    exact ⟨by simp [pathS, pathE, hn], (Below.refl _ _).alloc (Nat.le_refl _) _⟩
  | true =>
    go_enter Tryz.func85, Tryz.ntmps85
    go_wp2_with (go_at_call 67; refine (refName_any _ hs _).mono ?_; rintro e w1 ⟨rfl, rfl⟩; rw [hn])
    have hb1 := HB.out
    have hsz1 : w.heap.size < (w.alloc (.cells (pC h n) 27)).heap.size := by simp
    have hw1 : Below w.heap.size w (w.alloc (.cells (pC h n) 27)) := (Below.refl _ _).alloc (Nat.le_refl _) _
    clear HB hcell
    generalize w.alloc (.cells (pC h n) 27) = w1 at *
    have hc1 : ∀ x : Later w1, x.w.cell? ⟨w.heap.size, 20, none⟩ = some (.string ⟨n.toArray⟩) := fun x => by rw [cell_of_row _ _ _ _ _ _ (x.heap hb1), pC_name h n HL.out]
    have hl1 : ∀ x : Later w1, (Instr.loadAt 25 (.pointer (some ⟨w.heap.size, 0, none⟩))).run Tryz.prog x.w = .ok (.agg (hC h)) x.w := fun x => Agg.run_loadAt_sub (x.heap hb1) (pC_hash h n) Tryz.underlying25 rfl (hC_info h HL.out)
    have hln : n.length ≤ 24 := isName_le hn
    have hll : (letters h).length ≤ 32 := by rw [letters_length]; omega
    refine Agg.wp_region_later_lit (by kernel_rfl) (by kernel_rfl) ?_
    repeat (first | (with_reducible refine Agg.wpQuiet_load rfl 25 _ rfl (.pointer (some ⟨w.heap.size, 0, none⟩)) rfl (.agg (hC h)) (Agg.later_all hl1) ?_; simp only [Act.put, List.setIfInBounds_toArray, List.set_cons_succ, List.set_cons_zero]) | go_big_quiet_step ((go_at_call 125; exact Agg.Calls.later (refLetters_any h HL.out _))))
    refine wpQuiet_nil ?_
    intro _ hw'
    obtain ⟨x, rfl⟩ := hw'
    go_wp2_with fail
    go_ret2
    exact ⟨ret_pair (text_eq h n hn) (by simp [pathE, hn]), hw1.trans (x.h.mono (by omega))⟩
end Go.Proofs.YtpnolgliklmnmaaGreat
/-! spenceref03.Hash, any text. -/
namespace Go.Proofs.YtpnolgliklmnmaaGreat
open Go.RowKit Pl Go.Mp Go.Agg
theorem refHash_any (s : List UInt8) (w : World) :
    Calls Tryz.prog 128 #[.string ⟨s.toArray⟩] w fun e w' => e = .returned (.tuple #[.agg (hC (hashH s)), .int .i64 (hashE s)]) ∧ Below w.heap.size w w' := by
  by_cases h : s.length = 32
  · exact refHash_32 s h w
  · have : Pl.hash s = none := by unfold Pl.hash; rw [if_neg h]
    have h1 : hashH s = z20 := by simp [hashH, this]
    have h2 : hashE s = 4 := by simp [hashE, this]
    rw [h1, h2]
    exact refHash_long s h w
end Go.Proofs.YtpnolgliklmnmaaGreat
