/- spenceref17.Can (Several texts in one.) -/
import Derived.Test.YtgekpghjlhcpkaaDAC
import Derived.Test.YtgekpghjlhcpkaaDAI
import Derived.Test.YtgekpghjlhcpkaaDAX
/-! (of general use) spenceref03: bit, Letters, value, within. -/
namespace Go.Proofs.Ytgekpghjlhcpkaa
open Go.RowKit Pl
theorem within_any (c lo hi : Int) (w : World) :
    Calls Try.prog 61 #[.int .u8 c, .int .u8 lo, .int .u8 hi] w fun e w' => e = .returned (.bool (wi c lo hi)) ∧ w = w' := by
  by_cases h : lo ≤ c
  · go_enter Try.func61, Try.ntmps61
    go_wp2_with fail
    go_ret
    exact ⟨by simp [wi, h], rfl⟩
  · have hd : decide (lo ≤ c) = false := by simp; omega
    go_enter Try.func61, Try.ntmps61
    go_wp2_with fail
    go_ret
    exact ⟨by simp [wi, hd], rfl⟩
/-- bit i of a hash, as a number -/
def bitAt (h : List UInt8) (i : Nat) : Nat := num 256 (nats h) / 2 ^ i % 2
theorem bitAt_eq (h : List UInt8) (i : Nat) (hi : i / 8 < h.length) : bitAt h i = (h[i / 8]?.getD 0).toNat / 2 ^ (i % 8) % 2 := by
  have hd := digs_num 256 (nats h) (nats_lt h)
  have hq := digs_getElem? 256 (nats h).length (num 256 (nats h)) (i / 8) (by simpa [nats] using hi)
  rw [hd] at hq
  have hn : (nats h)[i / 8]? = some (h[i / 8]?.getD 0).toNat := by simp [nats, List.getElem?_eq_getElem hi]
  rw [hn] at hq
  have hx := Option.some.inj hq
  unfold bitAt
  have e : num 256 (nats h) / 2 ^ i = num 256 (nats h) / 256 ^ (i / 8) / 2 ^ (i % 8) := by
    rw [pow256, Nat.div_div_eq_div_mul, ← Nat.pow_add, Nat.div_add_mod]
  rw [e, hx]
  generalize num 256 (nats h) / 256 ^ (i / 8) = y
  have hr : i % 8 < 8 := Nat.mod_lt _ (by omega)
  generalize i % 8 = r at hr
  have : r = 0 ∨ r = 1 ∨ r = 2 ∨ r = 3 ∨ r = 4 ∨ r = 5 ∨ r = 6 ∨ r = 7 := by omega
  rcases this with rfl | rfl | rfl | rfl | rfl | rfl | rfl | rfl <;> omega
/-- a letter's value, or -1 -/
def valI (c : UInt8) : Int := match val c with | some n => (n : Int) | none => -1
/-- the higher bits of letter i, from t on -/
def part (h : List UInt8) (i t : Nat) : Nat := num 256 (nats h) / 2 ^ (5 * i + t) % 2 ^ (5 - t)
theorem part_lt (h : List UInt8) (i t : Nat) : part h i t < 32 :=
  Nat.lt_of_lt_of_le (Nat.mod_lt _ (Nat.pow_pos (by omega))) (Nat.pow_le_pow_right (n := 2) (by omega) (by omega : 5 - t ≤ 5))
theorem part_5 (h : List UInt8) (i : Nat) : part h i 5 = 0 := by simp [part, Nat.mod_one]
theorem part_0 (h : List UInt8) (i : Nat) : part h i 0 = num 256 (nats h) / 32 ^ i % 32 := by simp [part, pow32]
theorem part_step (h : List UInt8) (i t : Nat) (ht : t < 5) : part h i t = 2 * part h i (t + 1) + bitAt h (5 * i + t) := by
  unfold part bitAt
  rw [show 5 - t = (5 - (t + 1)) + 1 by omega, Nat.pow_succ', Nat.mod_mul, Nat.div_div_eq_div_mul, ← Nat.pow_succ, show (5 * i + t).succ = 5 * i + (t + 1) by omega]
  omega
theorem bitAt_lt (h : List UInt8) (i : Nat) : bitAt h i < 2 := Nat.mod_lt _ (by omega)
theorem refLetters_step (h : List UInt8) (k : Nat) (hk : k < 32) : ({ data := (List.take k (letters h)).toArray } : ByteArray) ++
    ByteArray.extract ⟨#[48, 49, 50, 51, 52, 53, 54, 55, 56, 57, 97, 98, 99, 100, 102, 103, 104, 105, 106, 107, 108, 109, 110, 112, 113, 114, 115, 118, 119, 120, 121, 122]⟩ (part h k 0) (part h k 0 + 1) = { data := (List.take (k + 1) (letters h)).toArray } := by
  show ({ data := (List.take k (letters h)).toArray } : ByteArray) ++ ByteArray.extract ⟨alpha.toArray⟩ (part h k 0) (part h k 0 + 1) = { data := (List.take (k + 1) (letters h)).toArray }
  have hp := part_lt h k 0
  have hl : k < (letters h).length := by rw [letters_length]; exact hk
  rw [Agg.bytes_extract, Agg.bytes_append, List.take_succ_eq_append_getElem hl]
  congr 3
  have ha : part h k 0 < alpha.length := hp
  rw [List.take_succ_eq_append_getElem ha, List.drop_append_of_le_length (by simp; omega), List.drop_eq_nil_of_le (by simp; omega), List.nil_append]
  congr 1
  have : (letters h)[k]? = some (letter (part h k 0)) := by
    unfold letters
    rw [List.getElem?_map, digs_getElem? _ _ _ _ hk, part_0]; rfl
  rw [List.getElem?_eq_getElem hl] at this
  rw [Option.some.inj this]
  simp [letter, List.getD, List.getElem?_eq_getElem ha]
end Go.Proofs.Ytgekpghjlhcpkaa
/-! spenceref03.Name. -/
namespace Go.Proofs.Ytgekpghjlhcpkaa
open Go.RowKit Pl
/-- the test of spenceref03.Name: not a sign -/
theorem sgn_wi (c : UInt8) : sgn c = (wi c.toNat 97 122 || wi c.toNat 65 90 || wi c.toNat 48 57 || ((c.toNat : Int) == 46) || ((c.toNat : Int) == 95) || ((c.toNat : Int) == 43) || ((c.toNat : Int) == 45)) := by
  have : ∀ n : Nat, n < 256 → sgn (UInt8.ofNat n) = (wi n 97 122 || wi n 65 90 || wi n 48 57 || ((n : Int) == 46) || ((n : Int) == 95) || ((n : Int) == 43) || ((n : Int) == 45)) := by decide +kernel
  have h := this c.toNat c.toNat_lt
  rwa [UInt8.ofNat_toNat] at h
theorem n45 {x : Int} (h : (x != 45) = false) : x = 45 := by simpa using h
set_option maxRecDepth 100000 in
set_option maxHeartbeats 2000000 in
theorem refName_any (s : List UInt8) (hs : s.length ≤ 9223372036854775807) (w : World) :
    Calls Try.prog 36 #[.string ⟨s.toArray⟩] w fun e w' => e = .returned (.bool (isName s)) ∧ w = w' := by
  have hsz := Agg.bytes_size s
  have HS := Lib.hid hsz
  have hlen : ∀ w, (Builtin.len_ #[9] 3 #[.string ⟨s.toArray⟩]).run Try.prog w = .ok (.int .i64 (s.length : Int)) w := fun w => by rw [run_len_string w 9 3 _ Try.underlying9, hsz]; rfl
  clear hsz
  go_enter Try.func36, Try.ntmps36
  go_wp2_with fail
  go_loop [3] (fun i => ∃ k : Nat, k ≤ s.length ∧ i = .int .i64 k ∧ ∀ j (hj : j < s.length), j < k → sgn s[j] = true) (fun i => s.length - (intOf i).toNat)
  case atStart => exact ⟨0, by omega, rfl, by intros; omega⟩
  case round =>
    obtain ⟨k, hk, rfl, hg⟩ := hrel
    have HG := Lib.hid hg
    clear hg
    by_cases hlt : k < s.length
    · have hix := fun w => Agg.run_index_str (P := Try.prog) (k := .i64) (c := s[k]) w Try.underlying9 (List.getElem?_eq_getElem hlt)
      have hsg := sgn_wi s[k]
      have HS := Lib.hid hsg
      clear hsg
      generalize hc : s[k] = c at hix HS
      have HC := Lib.hid hc
      clear hc
      go_wp2_with (go_at_call 61; refine (within_any _ _ _ _).mono ?_; rintro e w' ⟨rfl, rfl⟩)
      · have h45 : ((c.toNat : Int) != 45) = true := by assumption
        have hsg : sgn s[k] = false := by rw [HC.out, HS.out]; simp [*]; simpa using h45
        go_ret
        exact ⟨ret_bool (isName_bad s k hlt hsg).symm, rfl⟩
      all_goals
        have hsg : sgn s[k] = true := by rw [HC.out, HS.out]; first | (simp [*]; done) | (have h45 := n45 ‹((c.toNat : Int) != 45) = false›; simp [h45]; done)
        go_round
        case rel => exact ⟨k + 1, by omega, by go_num, fun j hj h => by
          rcases Nat.lt_or_ge j k with h' | h'
          · exact HG.out j hj h'
          · obtain rfl : j = k := by omega
            exact hsg⟩
        case measure => simp [intOf]; omega
    · obtain rfl : k = s.length := by omega
      have hgood := isName_good s (fun j hj => HG.out j hj hj)
      have HI := Lib.hid hgood
      clear hgood
      cases s with
      | nil =>
        simp only [List.length_nil] at hlen
        go_wp2_with fail
        go_ret
        exact ⟨ret_bool (by rw [HI.out]; rfl), rfl⟩
      | cons c l =>
        have hix : ∀ w, (Instr.index 9 (.string ⟨(c :: l).toArray⟩) (.int .i64 0)).run Try.prog w = .ok (.int .u8 (c.toNat : Int)) w := fun w => Agg.run_index_str (i := 0) w Try.underlying9 rfl
        simp only [List.length_cons] at hlen
        go_wp2_with fail
        all_goals go_ret
        all_goals refine ⟨ret_bool ?_, rfl⟩
        all_goals rw [HI.out]
        · have h24 : (l.length : Int) + 1 ≤ 24 := by assumption
          have e : (((c.toNat : Int)) != 46) = (c != 46) := by
            rw [Bool.eq_iff_iff]; simp only [bne_iff_ne, ne_eq]; rw [← UInt8.toNat_inj]; simp; omega
          simp [e, show l.length + 1 ≤ 24 by omega]
        · have h24 : 24 < (l.length : Int) + 1 := by assumption
          simp [show ¬ l.length + 1 ≤ 24 by omega]
end Go.Proofs.Ytgekpghjlhcpkaa
/-! spencekit.SameDrv, DrvOf -/
namespace Go.Proofs.Ytgekpghjlhcpkaa
open Go.RowKit Pl Go.Agg
theorem drv_eq (c d : Drv) : decide (c = d) = ((c.1 == d.1) && (decide (c.2.1 = d.2.1) && decide (c.2.2 = d.2.2))) := by
  rw [Bool.eq_iff_iff]
  simp [Prod.ext_iff]
set_option maxRecDepth 100000 in
set_option maxHeartbeats 2000000 in
theorem sameDrv_any (v u : Value) (c d : Drv) (hc1 : c.2.1.length ≤ 1048576) (hd1 : d.2.1.length ≤ 1048576) (hc2 : c.2.2.length ≤ 1048576) (hd2 : d.2.2.length ≤ 1048576) (w : World) (hc : DrvAt w v c) (hd : DrvAt w u d) :
    Calls Try.prog 39 #[v, u] w fun e w' => e = .returned (.bool (decide (c = d))) ∧ Below w.heap.size w w' := by
  obtain ⟨vi, vr, rfl, hvi, hvr⟩ := hc
  obtain ⟨ui, ur, rfl, hui, hur⟩ := hd
  have hta := Agg.bytes_toList c.1
  have htb := Agg.bytes_toList d.1
  have H1 := Lib.hid hvi
  have H2 := Lib.hid hvr
  have H3 := Lib.hid hui
  have H4 := Lib.hid hur
  have HE := Lib.hid (drv_eq c d)
  clear hvi hvr hui hur
  cases hn : c.1 == d.1 with
  | false =>
    have HR : Hid (decide (c = d) = false) := Lib.hid (by rw [HE.out, hn]; rfl)
    go_enter Try.func39, Try.ntmps39
    go_wp2_with (first | (with_reducible refine Agg.wpList_box rfl 25 _ rfl (#[.string ⟨c.1.toArray⟩, vi, vr]) rfl ?_; intro g w1 hb hx1 hg) | (with_reducible refine Agg.wpList_box rfl 25 _ rfl (#[.string ⟨d.1.toArray⟩, ui, ur]) rfl ?_; intro g2 w2 hb2 hx2 hg2) | (with_reducible refine Agg.wpList_loadL ((DrvL.of_blk hb).below hx2).name (by kernel_rfl) _ rfl rfl ?_) | (with_reducible refine Agg.wpList_loadL (DrvL.of_blk hb2).name (by kernel_rfl) _ rfl rfl ?_) | (with_reducible refine Agg.wpList_loadL ((DrvL.of_blk hb).below hx2).inp (by kernel_rfl) _ rfl rfl ?_) | (with_reducible refine Agg.wpList_loadL (DrvL.of_blk hb2).inp (by kernel_rfl) _ rfl rfl ?_))

    go_ret
    exact ⟨ret_bool HR.out.symm, Agg.belowThen hx1 (Nat.le_refl _) hx2⟩
  | true =>
    have HN := Lib.hid hn
    go_enter Try.func39, Try.ntmps39
    go_wp2_with (first | (with_reducible refine Agg.wpList_box rfl 25 _ rfl (#[.string ⟨c.1.toArray⟩, vi, vr]) rfl ?_; intro g w1 hb hx1 hg) | (with_reducible refine Agg.wpList_box rfl 25 _ rfl (#[.string ⟨d.1.toArray⟩, ui, ur]) rfl ?_; intro g2 w2 hb2 hx2 hg2) | (with_reducible refine Agg.wpList_loadL ((DrvL.of_blk hb).below hx2).name (by kernel_rfl) _ rfl rfl ?_) | (with_reducible refine Agg.wpList_loadL (DrvL.of_blk hb2).name (by kernel_rfl) _ rfl rfl ?_) | (with_reducible refine Agg.wpList_loadL ((DrvL.of_blk hb).below hx2).inp (by kernel_rfl) _ rfl rfl ?_) | (with_reducible refine Agg.wpList_loadL (DrvL.of_blk hb2).inp (by kernel_rfl) _ rfl rfl ?_))

    have hw2 := Agg.belowThen hx1 (Nat.le_refl _) hx2
    refine (sameNams_any _ _ _ _ hc1 hd1 _ (H1.out.below hw2) (H3.out.below hw2)).mono ?_
    rintro e w3 ⟨rfl, hx⟩
    have HD1 := Lib.hid (((DrvL.of_blk hb).below hx2).below hx)
    have HD2 := Lib.hid ((DrvL.of_blk hb2).below hx)
    have hw3 := Agg.belowThen hw2 (Nat.le_refl _) hx
    clear hx hb hb2 hx1 hx2 hg hg2 hw2
    cases hi : decide (c.2.1 = d.2.1) with
    | false =>
      have HR : Hid (decide (c = d) = false) := Lib.hid (by rw [HE.out, HN.out, hi]; rfl)
      clear hi
      go_wp2_with fail
      go_ret
      exact ⟨ret_bool HR.out.symm, hw3⟩
    | true =>
      have HR : Hid (decide (c = d) = decide (c.2.2 = d.2.2)) := Lib.hid (by rw [HE.out, HN.out, hi]; rfl)
      clear hi
      go_wp2_with (first | (with_reducible refine Agg.wpList_loadL HD1.out.rcp (by kernel_rfl) _ rfl rfl ?_) | (with_reducible refine Agg.wpList_loadL HD2.out.rcp (by kernel_rfl) _ rfl rfl ?_))

      refine (sameBytes_any _ _ _ _ hc2 hd2 _ (H2.out.below hw3) (H4.out.below hw3)).mono ?_
      rintro e w4 ⟨rfl, hx⟩
      have hw4 := Agg.belowThen hw3 (Nat.le_refl _) hx
      clear hx
      generalize decide (c.2.2 = d.2.2) = b at *
      go_wp2_with fail
      go_ret
      exact ⟨ret_bool HR.out.symm, hw4⟩
/-! DrvOf -/
theorem ret_nat {a b : Nat} (h : a = b) : Ending.returned (.int .i64 (a : Int)) = .returned (.int .i64 (b : Int)) := by rw [h]
def nmSz (x : Nam) : Nat := 1 + x.1.length + x.2.1.1.2.length
def drvGo (m : Nat) : Nat → List Nam → Nat
  | n, [] => n
  | n, x :: l => if n ≤ m then drvGo m (n + nmSz x) l else n
def drvN (m : Nat) (d : Drv) : Nat := drvGo m (1 + d.1.length + d.2.2.length) d.2.1
def namsSz (l : List Nam) : Nat := (l.map nmSz).sum
theorem drop_at {α : Type} {l : List α} {k : Nat} {x : α} (h : l[k]? = some x) : l.drop k = x :: l.drop (k + 1) := by
  obtain ⟨hk, rfl⟩ := List.getElem?_eq_some_iff.1 h
  exact List.drop_eq_getElem_cons hk
theorem drvGo_le (m : Nat) (l : List Nam) (n : Nat) : drvGo m n l ≤ n + namsSz l := by
  induction l generalizing n with
  | nil => simp [drvGo]
  | cons x l ih =>
    unfold drvGo
    split
    · have := ih (n + nmSz x)
      simp only [namsSz, List.map_cons, List.sum_cons] at this ⊢; omega
    · simp only [namsSz, List.map_cons, List.sum_cons]; omega
set_option maxRecDepth 100000 in
set_option maxHeartbeats 2000000 in
theorem drvOf_any (v : Value) (d : Drv) (m : Nat) (hm : m ≤ 1048576) (h1 : d.1.length ≤ 1048576) (h2 : d.2.2.length ≤ 1048576) (h3 : d.2.1.length ≤ 1048576) (h4 : namsSz d.2.1 ≤ 4194304) (w : World) (hd : DrvAt w v d) :
    Calls Try.prog 6 #[v, .int .i64 (m : Int)] w fun e w' => e = .returned (.int .i64 (drvN m d : Int)) ∧ Below w.heap.size w w' := by
  obtain ⟨vi, vr, rfl, hvi, hvr⟩ := hd
  have hli := nams_len hvi
  have hlr := bytes_len hvr
  have hls := str_len' d.1
  have HVI := Lib.hid hvi
  clear hvi hvr
  go_enter Try.func6, Try.ntmps6
  go_wp2_with (first | (with_reducible refine Agg.wpList_box rfl 25 _ rfl (#[.string ⟨d.1.toArray⟩, vi, vr]) rfl ?_; intro g w1 hb hx1 hg) | (with_reducible refine Agg.wpList_loadL (DrvL.of_blk hb).name (by kernel_rfl) _ rfl rfl ?_) | (with_reducible refine Agg.wpList_loadL (DrvL.of_blk hb).rcp (by kernel_rfl) _ rfl rfl ?_))

  have HD := Lib.hid (DrvL.of_blk hb)
  have HVI1 := Lib.hid (HVI.out.below hx1)
  have hw1 := hx1
  clear hb hx1 hg hls hlr
  obtain ⟨N0, hN0⟩ : ∃ n : Nat, n = 1 + d.1.length + d.2.2.length := ⟨_, rfl⟩
  have HN0 := Lib.hid hN0
  clear hN0
  go_loopw [5, 6] (fun n i wr => ∃ (k N : Nat), k ≤ d.2.1.length ∧ i = .int .i64 k ∧ n = .int .i64 (N : Int) ∧ drvGo m N (d.2.1.drop k) = drvN m d ∧ N + namsSz (d.2.1.drop k) ≤ 8388608 ∧ Below w1.heap.size w1 wr) (fun _ i _ => d.2.1.length - (intOf i).toNat)
  case atStart => exact ⟨0, N0, by omega, rfl, by rw [HN0.out]; simp, by rw [HN0.out]; rfl, by rw [HN0.out]; simp; omega, Below.refl _ _⟩
  case round =>
    obtain ⟨w2, rfl⟩ : ∃ w2 : World, w2 = wr := ⟨_, rfl⟩
    obtain ⟨k, N, hk, rfl, rfl, hgo, hbd, hx⟩ := hrel
    have HD2 := Lib.hid (HD.out.below hx)
    have hNb : N ≤ 8388608 := by omega
    by_cases hlt : k < d.2.1.length ∧ N ≤ m
    · obtain ⟨hlt, hNm⟩ := hlt
      obtain ⟨x, hxk⟩ : ∃ x, d.2.1[k]? = some x := ⟨_, List.getElem?_eq_getElem hlt⟩
      rw [drop_at hxk] at hgo hbd
      have hgo2 : drvGo m (N + nmSz x) (d.2.1.drop (k + 1)) = drvN m d := by rw [← hgo, drvGo, if_pos hNm]
      have hbd2 : N + nmSz x + namsSz (d.2.1.drop (k + 1)) ≤ 8388608 := by simp only [namsSz, List.map_cons, List.sum_cons] at hbd ⊢; omega
      have hbb : x.1.length + x.2.1.1.2.length ≤ 8388608 := by unfold nmSz at hbd2; omega
      have HG := Lib.hid hgo2
      have HBD := Lib.hid hbd2
      clear hgo hbd hgo2 hbd2
      obtain ⟨p, hadr, hld⟩ := nam_at (HVI1.out.below hx) k x hxk
      have HL := Lib.hid hld
      have hls1 := str_len' x.1
      have hls2 := str_len' x.2.1.1.2
      have hd1 : decide (k < d.2.1.length) = true := by simpa using hlt
      have hd2 : decide (N ≤ m) = true := by simpa using hNm
      clear hld hxk
      go_wp2_with (first | (with_reducible refine Agg.wpList_loadL HD2.out.inp (by kernel_rfl) _ rfl rfl ?_))

      try simp only [Act.put, List.setIfInBounds_toArray, List.set_cons_succ, List.set_cons_zero]
      refine Agg.wp_region_later_lit (by kernel_rfl) (by kernel_rfl) ?_
      repeat (first | go_big_quiet_skip | ((first | (with_reducible refine Agg.wpQuiet_loadL HD2.out.inp (by kernel_rfl) _ rfl rfl ?_) | (with_reducible refine Agg.wpQuiet_loadL HL.out.name (by kernel_rfl) _ rfl rfl ?_) | (with_reducible refine Agg.wpQuiet_loadL HL.out.sname (by kernel_rfl) _ rfl rfl ?_)); simp only [Act.put, List.setIfInBounds_toArray, List.set_cons_succ, List.set_cons_zero]) | go_big_quiet_step (fail))
      refine wpQuiet_nil ?_
      intro _ hw'
      obtain ⟨x1, rfl⟩ := hw'
      go_wp2_with fail
      go_roundw
      case rel => exact ⟨k + 1, N + nmSz x, by omega, by go_num, by unfold nmSz; go_num, HG.out, HBD.out, Agg.belowThen hx (Nat.le_refl _) x1.h⟩
      case measure => simp [intOf]; omega
    · have hres : drvN m d = N := by
        rw [← hgo]
        by_cases hk2 : k < d.2.1.length
        · obtain ⟨x, hxk⟩ : ∃ x, d.2.1[k]? = some x := ⟨_, List.getElem?_eq_getElem hk2⟩
          rw [drop_at hxk, drvGo, if_neg (fun h => hlt ⟨hk2, h⟩)]
        · rw [List.drop_eq_nil_of_le (by omega)]; rfl
      have HR := Lib.hid hres
      have hw2 := Agg.belowThen hw1 (Nat.le_refl _) hx
      clear hres hgo
      by_cases hk2 : k < d.2.1.length
      · have hNm : ¬ N ≤ m := fun h => hlt ⟨hk2, h⟩
        have hd1 : decide (k < d.2.1.length) = true := by simpa using hk2
        have hd2 : decide (N ≤ m) = false := by simpa using hNm
        clear hlt
        go_wp2_with (first | (with_reducible refine Agg.wpList_loadL HD2.out.inp (by kernel_rfl) _ rfl rfl ?_))

        go_ret
        exact ⟨ret_nat HR.out.symm, hw2⟩
      · have hd1 : decide (k < d.2.1.length) = false := by simpa using hk2
        clear hlt
        go_wp2_with (first | (with_reducible refine Agg.wpList_loadL HD2.out.inp (by kernel_rfl) _ rfl rfl ?_))

        go_ret
        exact ⟨ret_nat HR.out.symm, hw2⟩
end Go.Proofs.Ytgekpghjlhcpkaa
/-! spenceref17.Can -/
namespace Go.Proofs.Ytgekpghjlhcpkaa
open Go.RowKit Pl Go.Agg
theorem behind_at {l : List Nam} {k : Nat} {y : Nam} (hk : 0 < k) (h : l[k - 1]? = some y) : behind (l.take k) = y.1 := by
  obtain ⟨j, rfl⟩ : ∃ j, k = j + 1 := ⟨k - 1, by omega⟩
  rw [behind_succ (by simpa using h)]
theorem nam_le_sum {l : List Nam} {x : Nam} (h : x ∈ l) : nmSz x ≤ namsSz l := by
  induction l with
  | nil => cases h
  | cons y l ih =>
    simp only [namsSz, List.map_cons, List.sum_cons] at ih ⊢
    rcases List.mem_cons.1 h with rfl | h
    · omega
    · have := ih h; omega
theorem less_nil {s : List UInt8} (h : isName s = true) : Op.bytesLess [] s = true := by
  cases s with
  | nil => exact absurd h (by decide)
  | cons c s => rfl
theorem i64_pred' (n : Nat) (h0 : 0 < n) (h : n ≤ 1048576) : IntKind.i64.wrap ((n : Int) - 1) = ((n - 1 : Nat) : Int) := by
  rw [IntKind.wrap_i64]; omega
theorem refNameB (s : List UInt8) {b : Bool} (hb : isName s = b) (hs : s.length ≤ 9223372036854775807) (w : World) :
    Calls Try.prog 36 #[.string ⟨s.toArray⟩] w fun e w' => e = .returned (.bool b) ∧ Below w.heap.size w w' := by
  subst hb
  exact (refName_any s hs w).mono fun e w' ⟨h1, h2⟩ => ⟨h1, by subst h2; exact Below.refl _ _⟩
set_option maxRecDepth 100000 in
set_option maxHeartbeats 8000000 in
theorem refCan_any (v : Value) (d : Drv) (h1 : d.1.length ≤ 1048576) (hl : d.2.1.length ≤ 1048576) (hsz : namsSz d.2.1 ≤ 4194304) (w : World) (hd : DrvAt w v d) :
    Calls Try.prog 35 #[v] w fun e w' => e = .returned (.bool (canDrv d)) ∧ Below w.heap.size w w' := by
  obtain ⟨vi, vr, rfl, hvi, hvr⟩ := hd
  have hli := nams_len hvi
  have hlr := bytes_len hvr
  have HVI := Lib.hid hvi
  clear hvi hvr
  go_enter Try.func35, Try.ntmps35
  go_wp2_with (first | (with_reducible refine Agg.wpList_box rfl 25 _ rfl (#[.string ⟨d.1.toArray⟩, vi, vr]) rfl ?_; intro g w1 hb hx1 hg) | (with_reducible refine Agg.wpList_loadL (DrvL.of_blk hb).name rfl _ rfl rfl ?_))

  refine (refNameB _ rfl (by omega) _).mono ?_
  rintro e w2 ⟨rfl, hx⟩
  have HD := Lib.hid ((DrvL.of_blk hb).below hx)
  have hw2 := Agg.belowThen hx1 (Nat.le_refl _) hx
  have HVI2 := Lib.hid (HVI.out.below hw2)
  clear hb hx hx1 hg
  cases hnm : isName d.1 with
  | false =>
    have HR : Hid (canDrv d = false) := Lib.hid (by simp [canDrv, hnm])
    clear hnm
    go_wp2_with fail
    go_ret
    exact ⟨ret_bool HR.out.symm, hw2⟩
  | true =>
    by_cases h8 : d.2.1.length ≤ 8
    · have hd8 : decide (8 < (d.2.1.length : Int)) = false := by simp; omega
      by_cases h9 : d.2.2.length ≤ 1000
      · have hd9 : decide (1000 < (d.2.2.length : Int)) = false := by simp; omega
        have HR0 : Hid (canDrv d = canAll [] d.2.1) := Lib.hid (by simp [canDrv, hnm, h8, h9])
        clear hnm
        go_wp2_with (first | (with_reducible refine Agg.wpList_loadL HD.out.inp rfl _ rfl rfl ?_) | (with_reducible refine Agg.wpList_loadL HD.out.rcp rfl _ rfl rfl ?_))

        clear hd8 hd9
        go_loopw [3] (fun i wr => ∃ k : Nat, k ≤ d.2.1.length ∧ i = .int .i64 k ∧ canAll [] (d.2.1.take k) = true ∧ Below w2.heap.size w2 wr) (fun i _ => d.2.1.length - (intOf i).toNat)
        case atStart => exact ⟨0, by omega, rfl, rfl, Below.refl _ _⟩
        case round =>
          obtain ⟨w3, rfl⟩ : ∃ w3 : World, w3 = wr := ⟨_, rfl⟩
          obtain ⟨k, hk, rfl, hcan, hx⟩ := hrel
          have HCAN := Lib.hid hcan
          have HD3 := Lib.hid (HD.out.below hx)
          clear hcan
          by_cases hlt : k < d.2.1.length
          · obtain ⟨x, hxk⟩ : ∃ x, d.2.1[k]? = some x := ⟨_, List.getElem?_eq_getElem hlt⟩
            obtain ⟨p, hadr, hld⟩ := nam_at (HVI2.out.below hx) k x hxk
            have hxb : nmSz x ≤ 4194304 := Nat.le_trans (nam_le_sum (List.mem_of_getElem? hxk)) hsz
            have hx1 : x.1.length ≤ 4194304 := by unfold nmSz at hxb; omega
            have hx2 : x.2.1.1.2.length ≤ 4194304 := by unfold nmSz at hxb; omega
            have HL := Lib.hid hld.all
            have HCS := Lib.hid (canAll_succ hxk)
            have HXK := Lib.hid hxk
            have hd1 : decide (k < d.2.1.length) = true := by simpa using hlt
            clear hld hxk hxb
            go_wp2_with (first | (with_reducible refine Agg.wpList_loadL HD3.out.inp rfl _ rfl rfl ?_) | (with_reducible refine Agg.wpList_loadL HL.out rfl _ rfl rfl ?_) | (refine Agg.wpList_new rfl rfl rfl 58 4 32 rfl rfl rfl (by decide) (nmC zN) (nmC x) nmC_zero (by rw [nmC_size, nmC_size]) (nmC_info x) (nmC_one x) rfl (by simp [Act.put]) ?_; intro g2 w4 hb2 hx4 hg2))

            have hx5 := Agg.belowThen hx (Nat.le_refl _) hx4
            have HB := Lib.hid (NamB.of_blk hb2)
            have HD4 := Lib.hid (HD3.out.below hx4)
            clear hb2 hx4 hg2 hadr
            have HBAD : Hid (canNm x (behind (d.2.1.take k)) = false → canDrv d = false) := Lib.hid (fun h => by rw [HR0.out]; exact canAll_take (l := d.2.1) (k := k + 1) (by rw [HCS.out, h, Bool.and_false]))
            have hta := Agg.bytes_toList x.1
            cases hnx : isName x.1 with
            | false =>
              have HR : Hid (canDrv d = false) := Lib.hid (HBAD.out (by simp [canNm, hnx]))
              try simp only [Act.put, List.setIfInBounds_toArray, List.set_cons_succ, List.set_cons_zero]
              refine Agg.wp_region_later_lit (by kernel_rfl) (by kernel_rfl) ?_
              repeat (first | go_big_quiet_skip | ((first | (with_reducible refine Agg.wpQuiet_loadL HB.out.name rfl _ rfl rfl ?_)); simp only [Act.put, List.setIfInBounds_toArray, List.set_cons_succ, List.set_cons_zero]) | go_big_quiet_step ((go_at_call 36; exact Agg.Calls.later (refNameB _ hnx (by omega) _))))
              refine wpQuiet_nil ?_
              intro _ hw'
              obtain ⟨x1, rfl⟩ := hw'
              go_wp2_with fail
              go_ret
              exact ⟨ret_bool HR.out.symm, Agg.belowThen hw2 (Nat.le_refl _) (Agg.belowThen hx5 (Nat.le_refl _) x1.h)⟩
            | true =>
              have hdec : ∃ bl, Op.bytesLess (behind (d.2.1.take k)) x.1 = bl := ⟨_, rfl⟩
              obtain ⟨bl, hbl⟩ := hdec
              by_cases hk0 : k = 0
              · have hkd : decide (0 < (k : Int)) = false := by simp; omega
                obtain rfl : bl = true := by rw [← hbl, hk0]; exact less_nil hnx
                try simp only [Act.put, List.setIfInBounds_toArray, List.set_cons_succ, List.set_cons_zero]
                refine Agg.wp_region_later_lit (by kernel_rfl) (by kernel_rfl) ?_
                repeat (first | go_big_quiet_skip | ((first | (with_reducible refine Agg.wpQuiet_loadL HB.out.name rfl _ rfl rfl ?_)); simp only [Act.put, List.setIfInBounds_toArray, List.set_cons_succ, List.set_cons_zero]) | go_big_quiet_step ((go_at_call 36; exact Agg.Calls.later (refNameB _ hnx (by omega) _))))
                refine wpQuiet_nil ?_
                intro _ hw'
                obtain ⟨x1, rfl⟩ := hw'
                have hx6 := Agg.belowThen hx5 (Nat.le_refl _) x1.h
                have HB6 := Lib.hid (HB.out.below x1.h)
                have HC0 : Hid (canNm x (behind (d.2.1.take k)) = (if x.2.2.2 then decide (x.2.1 = zP) else isName x.2.1.1.2 && decide (x.2.2.1 = zH))) := Lib.hid (by simp [canNm, hnx, hbl])
                generalize x1.w = w6 at *
                clear hbl
                cases his : x.2.2.2 with
                | true =>
                  have his2 := HB6.out.is
                  rw [his] at his2
                  have HIS := Lib.hid his2
                  have HC : Hid (canNm x (behind (d.2.1.take k)) = decide (x.2.1 = zP)) := Lib.hid (by rw [HC0.out, if_pos his])
                  have hbz := build_zP
                  cases hz : decide (x.2.1 = zP) with
                  | true =>
                    have hq : ∀ w, (binOp .neq 47 (.agg (pC x.2.1.1.1 x.2.1.1.2)) (.agg (pC zP.1.1 zP.1.2))).run Try.prog w = .ok (.bool false) w := fun w => by rw [neqP x.2.1 zP, hz]; rfl
                    have HG : Hid (canNm x (behind (d.2.1.take k)) = true) := Lib.hid (HC.out.trans hz)
                    clear hz his his2
                    go_wp2_with (first | (with_reducible refine Agg.wpList_loadL HIS.out rfl _ rfl rfl ?_) | (with_reducible refine Agg.wpList_loadL HB6.out.src rfl _ rfl rfl ?_) | (with_reducible refine Agg.wpList_build0 47 rfl rfl (.agg (pC zP.1.1 zP.1.2)) hbz ?_) | (with_reducible refine Agg.wpList_neqw 47 47 _ _ rfl rfl (pC x.2.1.1.1 x.2.1.1.2) (pC zP.1.1 zP.1.2) rfl rfl (false) (by kernel_rfl) hq ?_))
                    go_roundw
                    case rel => exact ⟨k + 1, by omega, by go_num, by rw [HCS.out, HCAN.out, HG.out]; rfl, hx6⟩
                    case measure => simp [intOf]; omega
                  | false =>
                    have hq : ∀ w, (binOp .neq 47 (.agg (pC x.2.1.1.1 x.2.1.1.2)) (.agg (pC zP.1.1 zP.1.2))).run Try.prog w = .ok (.bool true) w := fun w => by rw [neqP x.2.1 zP, hz]; rfl
                    have HR : Hid (canDrv d = false) := Lib.hid (HBAD.out (HC.out.trans hz))
                    clear hz his his2
                    go_wp2_with (first | (with_reducible refine Agg.wpList_loadL HIS.out rfl _ rfl rfl ?_) | (with_reducible refine Agg.wpList_loadL HB6.out.src rfl _ rfl rfl ?_) | (with_reducible refine Agg.wpList_build0 47 rfl rfl (.agg (pC zP.1.1 zP.1.2)) hbz ?_) | (with_reducible refine Agg.wpList_neqw 47 47 _ _ rfl rfl (pC x.2.1.1.1 x.2.1.1.2) (pC zP.1.1 zP.1.2) rfl rfl (true) (by kernel_rfl) hq ?_))
                    go_ret
                    exact ⟨ret_bool HR.out.symm, Agg.belowThen hw2 (Nat.le_refl _) hx6⟩
                | false =>
                  have his2 := HB6.out.is
                  rw [his] at his2
                  have HIS := Lib.hid his2
                  have HC : Hid (canNm x (behind (d.2.1.take k)) = (isName x.2.1.1.2 && decide (x.2.2.1 = zH))) := Lib.hid (by rw [HC0.out, his]; rfl)
                  have hbz := build_zH
                  clear his his2
                  go_wp2_with (first | (with_reducible refine Agg.wpList_loadL HIS.out rfl _ rfl rfl ?_) | (with_reducible refine Agg.wpList_loadL HB6.out.sname rfl _ rfl rfl ?_))
                  refine (refNameB _ rfl (by omega) _).mono ?_
                  rintro e w7 ⟨rfl, hx7⟩
                  have HB7 := Lib.hid (HB6.out.below hx7)
                  have hx8 := Agg.belowThen hx6 (Nat.le_refl _) hx7
                  clear hx7
                  cases hsn : isName x.2.1.1.2 with
                  | false =>
                    have HR : Hid (canDrv d = false) := Lib.hid (HBAD.out (by rw [HC.out, hsn]; rfl))
                    clear hsn
                    go_wp2_with fail
                    go_ret
                    exact ⟨ret_bool HR.out.symm, Agg.belowThen hw2 (Nat.le_refl _) hx8⟩
                  | true =>
                    cases hz : decide (x.2.2.1 = zH) with
                    | true =>
                      have hq : ∀ w, (binOp .neq 45 (.agg (hC x.2.2.1.1)) (.agg (hC zH.1))).run Try.prog w = .ok (.bool false) w := fun w => by rw [neqH x.2.2.1 zH, hz]; rfl
                      have HG : Hid (canNm x (behind (d.2.1.take k)) = true) := Lib.hid (by rw [HC.out, hsn, hz]; rfl)
                      clear hz hsn
                      go_wp2_with (first | (with_reducible refine Agg.wpList_loadL HB7.out.cls rfl _ rfl rfl ?_) | (with_reducible refine Agg.wpList_build0 45 rfl rfl (.agg (hC zH.1)) hbz ?_) | (with_reducible refine Agg.wpList_neqw 45 45 _ _ rfl rfl (hC x.2.2.1.1) (hC zH.1) rfl rfl (false) (by kernel_rfl) hq ?_))
                      go_roundw
                      case rel => exact ⟨k + 1, by omega, by go_num, by rw [HCS.out, HCAN.out, HG.out]; rfl, hx8⟩
                      case measure => simp [intOf]; omega
                    | false =>
                      have hq : ∀ w, (binOp .neq 45 (.agg (hC x.2.2.1.1)) (.agg (hC zH.1))).run Try.prog w = .ok (.bool true) w := fun w => by rw [neqH x.2.2.1 zH, hz]; rfl
                      have HR : Hid (canDrv d = false) := Lib.hid (HBAD.out (by rw [HC.out, hsn, hz]; rfl))
                      clear hz hsn
                      go_wp2_with (first | (with_reducible refine Agg.wpList_loadL HB7.out.cls rfl _ rfl rfl ?_) | (with_reducible refine Agg.wpList_build0 45 rfl rfl (.agg (hC zH.1)) hbz ?_) | (with_reducible refine Agg.wpList_neqw 45 45 _ _ rfl rfl (hC x.2.2.1.1) (hC zH.1) rfl rfl (true) (by kernel_rfl) hq ?_))
                      go_ret
                      exact ⟨ret_bool HR.out.symm, Agg.belowThen hw2 (Nat.le_refl _) hx8⟩
              · have hkd : 0 < k := by omega
                have hkd2 : decide (0 < k) = true := by simpa using hkd
                have hlt0 : k - 1 < d.2.1.length := by omega
                obtain ⟨y, hyk⟩ : ∃ y, d.2.1[k - 1]? = some y := ⟨_, List.getElem?_eq_getElem hlt0⟩
                obtain ⟨q, hadq, hlq⟩ := nam_at (HVI2.out.below hx5) (k - 1) y hyk
                have hby := behind_at (by omega) hyk
                have HQ := Lib.hid hlq
                have hwr := i64_pred' k (by omega) (by omega)
                have htb := Agg.bytes_toList y.1
                rw [hby] at hbl
                clear hlq hyk
                cases bl with
                | false =>
                  have HR : Hid (canDrv d = false) := Lib.hid (HBAD.out (by rw [hby]; simp [canNm, hbl]))
                  clear hby
                  try simp only [Act.put, List.setIfInBounds_toArray, List.set_cons_succ, List.set_cons_zero]
                  refine Agg.wp_region_later_lit (by kernel_rfl) (by kernel_rfl) ?_
                  repeat (first | go_big_quiet_skip | ((first | (with_reducible refine Agg.wpQuiet_loadL HB.out.name rfl _ rfl rfl ?_) | (with_reducible refine Agg.wpQuiet_loadL HD4.out.inp rfl _ rfl rfl ?_) | (with_reducible refine Agg.wpQuiet_loadL HQ.out.name rfl _ rfl rfl ?_)); simp only [Act.put, List.setIfInBounds_toArray, List.set_cons_succ, List.set_cons_zero]) | go_big_quiet_step ((go_at_call 36; exact Agg.Calls.later (refNameB _ hnx (by omega) _))))
                  refine wpQuiet_nil ?_
                  intro _ hw'
                  obtain ⟨x1, rfl⟩ := hw'
                  go_wp2_with fail
                  go_ret
                  exact ⟨ret_bool HR.out.symm, Agg.belowThen hw2 (Nat.le_refl _) (Agg.belowThen hx5 (Nat.le_refl _) x1.h)⟩
                | true =>
                  have hbl0 := hbl
                  try simp only [Act.put, List.setIfInBounds_toArray, List.set_cons_succ, List.set_cons_zero]
                  refine Agg.wp_region_later_lit (by kernel_rfl) (by kernel_rfl) ?_
                  repeat (first | go_big_quiet_skip | ((first | (with_reducible refine Agg.wpQuiet_loadL HB.out.name rfl _ rfl rfl ?_) | (with_reducible refine Agg.wpQuiet_loadL HD4.out.inp rfl _ rfl rfl ?_) | (with_reducible refine Agg.wpQuiet_loadL HQ.out.name rfl _ rfl rfl ?_)); simp only [Act.put, List.setIfInBounds_toArray, List.set_cons_succ, List.set_cons_zero]) | go_big_quiet_step ((go_at_call 36; exact Agg.Calls.later (refNameB _ hnx (by omega) _))))
                  refine wpQuiet_nil ?_
                  intro _ hw'
                  obtain ⟨x1, rfl⟩ := hw'
                  rw [← hby] at hbl
                  clear hbl0 hwr htb hadq hby
                  have hx6 := Agg.belowThen hx5 (Nat.le_refl _) x1.h
                  have HB6 := Lib.hid (HB.out.below x1.h)
                  have HC0 : Hid (canNm x (behind (d.2.1.take k)) = (if x.2.2.2 then decide (x.2.1 = zP) else isName x.2.1.1.2 && decide (x.2.2.1 = zH))) := Lib.hid (by simp [canNm, hnx, hbl])
                  generalize x1.w = w6 at *
                  clear hbl
                  cases his : x.2.2.2 with
                  | true =>
                    have his2 := HB6.out.is
                    rw [his] at his2
                    have HIS := Lib.hid his2
                    have HC : Hid (canNm x (behind (d.2.1.take k)) = decide (x.2.1 = zP)) := Lib.hid (by rw [HC0.out, if_pos his])
                    have hbz := build_zP
                    cases hz : decide (x.2.1 = zP) with
                    | true =>
                      have hq : ∀ w, (binOp .neq 47 (.agg (pC x.2.1.1.1 x.2.1.1.2)) (.agg (pC zP.1.1 zP.1.2))).run Try.prog w = .ok (.bool false) w := fun w => by rw [neqP x.2.1 zP, hz]; rfl
                      have HG : Hid (canNm x (behind (d.2.1.take k)) = true) := Lib.hid (HC.out.trans hz)
                      clear hz his his2
                      go_wp2_with (first | (with_reducible refine Agg.wpList_loadL HIS.out rfl _ rfl rfl ?_) | (with_reducible refine Agg.wpList_loadL HB6.out.src rfl _ rfl rfl ?_) | (with_reducible refine Agg.wpList_build0 47 rfl rfl (.agg (pC zP.1.1 zP.1.2)) hbz ?_) | (with_reducible refine Agg.wpList_neqw 47 47 _ _ rfl rfl (pC x.2.1.1.1 x.2.1.1.2) (pC zP.1.1 zP.1.2) rfl rfl (false) (by kernel_rfl) hq ?_))
                      go_roundw
                      case rel => exact ⟨k + 1, by omega, by go_num, by rw [HCS.out, HCAN.out, HG.out]; rfl, hx6⟩
                      case measure => simp [intOf]; omega
                    | false =>
                      have hq : ∀ w, (binOp .neq 47 (.agg (pC x.2.1.1.1 x.2.1.1.2)) (.agg (pC zP.1.1 zP.1.2))).run Try.prog w = .ok (.bool true) w := fun w => by rw [neqP x.2.1 zP, hz]; rfl
                      have HR : Hid (canDrv d = false) := Lib.hid (HBAD.out (HC.out.trans hz))
                      clear hz his his2
                      go_wp2_with (first | (with_reducible refine Agg.wpList_loadL HIS.out rfl _ rfl rfl ?_) | (with_reducible refine Agg.wpList_loadL HB6.out.src rfl _ rfl rfl ?_) | (with_reducible refine Agg.wpList_build0 47 rfl rfl (.agg (pC zP.1.1 zP.1.2)) hbz ?_) | (with_reducible refine Agg.wpList_neqw 47 47 _ _ rfl rfl (pC x.2.1.1.1 x.2.1.1.2) (pC zP.1.1 zP.1.2) rfl rfl (true) (by kernel_rfl) hq ?_))
                      go_ret
                      exact ⟨ret_bool HR.out.symm, Agg.belowThen hw2 (Nat.le_refl _) hx6⟩
                  | false =>
                    have his2 := HB6.out.is
                    rw [his] at his2
                    have HIS := Lib.hid his2
                    have HC : Hid (canNm x (behind (d.2.1.take k)) = (isName x.2.1.1.2 && decide (x.2.2.1 = zH))) := Lib.hid (by rw [HC0.out, his]; rfl)
                    have hbz := build_zH
                    clear his his2
                    go_wp2_with (first | (with_reducible refine Agg.wpList_loadL HIS.out rfl _ rfl rfl ?_) | (with_reducible refine Agg.wpList_loadL HB6.out.sname rfl _ rfl rfl ?_))
                    refine (refNameB _ rfl (by omega) _).mono ?_
                    rintro e w7 ⟨rfl, hx7⟩
                    have HB7 := Lib.hid (HB6.out.below hx7)
                    have hx8 := Agg.belowThen hx6 (Nat.le_refl _) hx7
                    clear hx7
                    cases hsn : isName x.2.1.1.2 with
                    | false =>
                      have HR : Hid (canDrv d = false) := Lib.hid (HBAD.out (by rw [HC.out, hsn]; rfl))
                      clear hsn
                      go_wp2_with fail
                      go_ret
                      exact ⟨ret_bool HR.out.symm, Agg.belowThen hw2 (Nat.le_refl _) hx8⟩
                    | true =>
                      cases hz : decide (x.2.2.1 = zH) with
                      | true =>
                        have hq : ∀ w, (binOp .neq 45 (.agg (hC x.2.2.1.1)) (.agg (hC zH.1))).run Try.prog w = .ok (.bool false) w := fun w => by rw [neqH x.2.2.1 zH, hz]; rfl
                        have HG : Hid (canNm x (behind (d.2.1.take k)) = true) := Lib.hid (by rw [HC.out, hsn, hz]; rfl)
                        clear hz hsn
                        go_wp2_with (first | (with_reducible refine Agg.wpList_loadL HB7.out.cls rfl _ rfl rfl ?_) | (with_reducible refine Agg.wpList_build0 45 rfl rfl (.agg (hC zH.1)) hbz ?_) | (with_reducible refine Agg.wpList_neqw 45 45 _ _ rfl rfl (hC x.2.2.1.1) (hC zH.1) rfl rfl (false) (by kernel_rfl) hq ?_))
                        go_roundw
                        case rel => exact ⟨k + 1, by omega, by go_num, by rw [HCS.out, HCAN.out, HG.out]; rfl, hx8⟩
                        case measure => simp [intOf]; omega
                      | false =>
                        have hq : ∀ w, (binOp .neq 45 (.agg (hC x.2.2.1.1)) (.agg (hC zH.1))).run Try.prog w = .ok (.bool true) w := fun w => by rw [neqH x.2.2.1 zH, hz]; rfl
                        have HR : Hid (canDrv d = false) := Lib.hid (HBAD.out (by rw [HC.out, hsn, hz]; rfl))
                        clear hz hsn
                        go_wp2_with (first | (with_reducible refine Agg.wpList_loadL HB7.out.cls rfl _ rfl rfl ?_) | (with_reducible refine Agg.wpList_build0 45 rfl rfl (.agg (hC zH.1)) hbz ?_) | (with_reducible refine Agg.wpList_neqw 45 45 _ _ rfl rfl (hC x.2.2.1.1) (hC zH.1) rfl rfl (true) (by kernel_rfl) hq ?_))
                        go_ret
                        exact ⟨ret_bool HR.out.symm, Agg.belowThen hw2 (Nat.le_refl _) hx8⟩
          · obtain rfl : k = d.2.1.length := by omega
            have hca := HCAN.out
            rw [List.take_length] at hca
            have HR : Hid (canDrv d = true) := Lib.hid (HR0.out.trans hca)
            have hd1 : decide (d.2.1.length < d.2.1.length) = false := by simp
            clear hca
            go_wp2_with (first | (with_reducible refine Agg.wpList_loadL HD3.out.inp rfl _ rfl rfl ?_))

            go_ret
            exact ⟨ret_bool HR.out.symm, Agg.belowThen hw2 (Nat.le_refl _) hx⟩
      · have hd9 : decide (1000 < (d.2.2.length : Int)) = true := by simp; omega
        have HR : Hid (canDrv d = false) := Lib.hid (by simp [canDrv, h9])
        clear hnm
        go_wp2_with (first | (with_reducible refine Agg.wpList_loadL HD.out.inp rfl _ rfl rfl ?_) | (with_reducible refine Agg.wpList_loadL HD.out.rcp rfl _ rfl rfl ?_))

        go_ret
        exact ⟨ret_bool HR.out.symm, hw2⟩
    · have hd8 : decide (8 < (d.2.1.length : Int)) = true := by simp; omega
      have HR : Hid (canDrv d = false) := Lib.hid (by simp [canDrv, h8])
      clear hnm
      go_wp2_with (first | (with_reducible refine Agg.wpList_loadL HD.out.inp rfl _ rfl rfl ?_) | (with_reducible refine Agg.wpList_loadL HD.out.rcp rfl _ rfl rfl ?_))

      go_ret
      exact ⟨ret_bool HR.out.symm, hw2⟩
end Go.Proofs.Ytgekpghjlhcpkaa
