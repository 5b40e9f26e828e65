/- wire.begin. -/
import Derived.Test.YtpnolgliklmnmaaWire
namespace Go.Proofs.Ytpnolgliklmnmaa
open Go.RowKit Pl Go.Agg
theorem sliceOf_taken {α : Type} {E : Elem Try.prog α} {w : World} {p : Option Addr} {c : Nat} {l : List α} (h : SliceOf E w (.slice p l.length c) l) (n : Nat) (hn : n ≤ l.length) : SliceOf E w (.slice p n c) (l.take n) := by
  rcases h with ⟨q, d, e, rfl⟩ | ⟨q, d, e, hq, hc⟩
  · obtain rfl : n = 0 := by simpa using hn
    exact SliceOf.nil _ _ _
  · simp only [Value.slice.injEq] at e
    obtain ⟨rfl, _, rfl⟩ := e
    refine .inr ⟨q, c, by rw [List.length_take, Nat.min_eq_left hn], hq, fun j u hj => hc j u ?_⟩
    have : E.flat l = E.flat (l.take n) ++ E.flat (l.drop n) := by rw [← Elem.flat_append, List.take_append_drop]
    rw [this, List.getElem?_append_left (List.getElem?_eq_some_iff.1 hj).1]
    exact hj
theorem and127 (b : UInt8) : bits .and .u8 (b.toNat : Int) 127 = ((b.toNat % 128 : Nat) : Int) := by
  have h : ∀ m : Nat, m < 256 → bits .and .u8 (m : Int) 127 = ((m % 128 : Nat) : Int) := by decide +kernel
  exact h _ b.toNat_lt
theorem and128 (b : UInt8) : bits .and .u8 (b.toNat : Int) 128 = ((b.toNat / 128 * 128 : Nat) : Int) := by
  have h : ∀ m : Nat, m < 256 → bits .and .u8 (m : Int) 128 = ((m / 128 * 128 : Nat) : Int) := by decide +kernel
  exact h _ b.toNat_lt
theorem i64_or_nat (a b : Nat) (ha : a < 9223372036854775808) (hb : b < 9223372036854775808) : bits .or .i64 (a : Int) (b : Int) = ((a ||| b : Nat) : Int) := by
  have hx : a ||| b < 2 ^ 63 := Nat.or_lt_two_pow (by omega) (by omega)
  show IntKind.i64.wrap ((BitVec.ofInt 64 (a : Int) ||| BitVec.ofInt 64 (b : Int)).toNat : Int) = _
  rw [BitVec.toNat_or, ofInt_u64 a (by omega), ofInt_u64 b (by omega), IntKind.wrap_i64]
  omega
theorem or_add (N x k : Nat) (hx : x < 128) (hN : N < 2 ^ (7 * k)) (hk : k < 4) : bits .or .i64 (N : Int) ((x * 2 ^ (7 * k) : Nat) : Int) = ((N + x * 2 ^ (7 * k) : Nat) : Int) := by
  have h5 : 2 ^ (7 * k) ≤ 2 ^ 21 := Nat.pow_le_pow_right (by omega) (by omega)
  have hp : x * 2 ^ (7 * k) ≤ 128 * 2 ^ 21 := Nat.mul_le_mul (by omega) h5
  rw [i64_or_nat _ _ (by omega) (by omega), Nat.or_comm, Nat.mul_comm, ← Nat.two_pow_add_eq_or_of_lt hN, Nat.add_comm]
set_option maxRecDepth 100000 in
set_option maxHeartbeats 1000000 in
theorem begin_any (x : Value) (l : List UInt8) (w : World) (hl : l.length ≤ 1073741824) (hx : BytesAt w x l) (hc : ∀ p n c, x = .slice p n c → n ≤ c) :
    Calls Try.prog 41 #[x] w fun e w' => e = .returned (.tuple #[.int .i64 (beg l).1, .int .i64 ((beg l).2 : Int)]) ∧ w' = w := by
  obtain ⟨p, c, rfl⟩ := hx.form
  have hcap := hc p l.length c rfl
  obtain ⟨m, hm⟩ : ∃ m : Nat, m = min l.length 3 := ⟨_, rfl⟩
  have hm3 : m ≤ 3 := by omega
  have hml : m ≤ l.length := by omega
  have hmI : min (l.length : Int) 3 = (m : Int) := by omega
  have HMN := Lib.hid hm
  clear hm
  have HT := Lib.hid (sliceOf_taken hx m hml)
  have HX := Lib.hid hx
  clear hx hc
  go_enter Try.func41, Try.ntmps41
  go_wp2_with fail
  go_loopw [3, 12] (fun n i wr => ∃ k N : Nat, k ≤ m ∧ i = .int .i64 (k : Int) ∧ n = .int .i64 (N : Int) ∧ begGo 0 0 l = begGo k N (l.drop k) ∧ N < 128 ^ k ∧ wr = w) (fun _ i _ => m - (intOf i).toNat)
  case atStart => exact ⟨0, 0, by omega, rfl, rfl, by simp, by simp, rfl⟩
  case round =>
    obtain ⟨k, N, hk, rfl, rfl, hgo, hN, rfl⟩ := hrel
    have HGO := Lib.hid hgo
    clear hgo
    by_cases hlt : k < m
    · have hk3 : k = 0 ∨ k = 1 ∨ k = 2 := by omega
      obtain ⟨b, hbk⟩ : ∃ b, l[k]? = some b := ⟨_, List.getElem?_eq_getElem (by omega)⟩
      have hdrop : l.drop k = b :: l.drop (k + 1) := by
        obtain ⟨h1, rfl⟩ := List.getElem?_eq_some_iff.1 hbk
        exact List.drop_eq_getElem_cons h1
      have HGOB := Lib.hid (show begGo 0 0 l = begGo k N (b :: l.drop (k + 1)) by rw [HGO.out, hdrop])
      have hbt : (l.take m)[k]? = some b := by rw [List.getElem?_take, if_pos hlt]; exact hbk
      obtain ⟨x, hx⟩ : ∃ x, b.toNat % 128 = x := ⟨_, rfl⟩
      have hx128 : x < 128 := by omega
      have hand := and127 b
      rw [hx] at hand
      obtain ⟨y, hy⟩ : ∃ y, b.toNat / 128 * 128 = y := ⟨_, rfl⟩
      have hand8 := and128 b
      rw [hy] at hand8
      obtain ⟨M, hM⟩ : ∃ M, N + x * 128 ^ k = M := ⟨_, rfl⟩
      have HSTEP := Lib.hid (show begGo k N (b :: l.drop (k + 1)) = if 65536 < M ∨ (b = 0 ∧ 0 < k) then (-1, 0) else if b.toNat < 128 then ((k : Int) + 1, M) else begGo (k + 1) M (l.drop (k + 1)) by
        simp only [begGo, hx, hM]
        rw [if_neg (by omega)])
      have HMM := Lib.hid hM
      have HXX := Lib.hid hx
      have HYY := Lib.hid hy
      have HN := Lib.hid hN
      clear hbk hdrop hx hy hM hN HGO
      rcases hk3 with rfl | rfl | rfl
      · obtain ⟨q, hadr0, hld⟩ := byte_at HT.out 0 b hbt
        have hadr : ∀ W, (Instr.indexAt 23 (.slice p m c) (.int .i64 0)).run Try.prog W = .ok (.pointer (some q)) W := hadr0
        have HL := Lib.hid hld
        have hor : bits .or .i64 (N : Int) (x : Int) = (M : Int) := by
          have h1 := HN.out
          have h2 := HMM.out
          simp only [Nat.reducePow] at h1 h2
          have := or_add N x 0 hx128 (by simpa using h1) (by omega)
          simp only [Nat.reduceMul, Nat.reducePow] at this
          rw [h2] at this
          simpa using this
        have hNb : N < 1 := by simpa using HN.out
        have hMb : M < 2097152 := by have h1 := HMM.out; have h2 := HN.out; simp only [Nat.reducePow] at h1 h2; omega
        clear hadr0 hld hbt
        by_cases hM6 : 65536 < M
        · have h65 : (65536 : Int) < (M : Int) := by omega
          have HRES := Lib.hid (show beg l = (-1, 0) by unfold beg; rw [HGOB.out, HSTEP.out]; rw [if_pos (.inl hM6)])
          clear hM6
          go_wp2_with (first | (with_reducible refine Agg.wpList_loadL HL.out rfl _ rfl rfl ?_))
          go_ret2
          exact ⟨by rw [HRES.out]; rfl, rfl⟩
        · have h65 : ¬ (65536 : Int) < (M : Int) := by omega
          by_cases hb0 : b.toNat = 0
          · have hq0 : ((b.toNat : Int) == 0) = true := by simp [hb0]
            have hy0 : ((y : Int) == 0) = true := by have := HYY.out; simp; omega
            have HRES := Lib.hid (show beg l = (1, M) by unfold beg; rw [HGOB.out, HSTEP.out, if_neg (fun h => by rcases h with h | ⟨h, h2⟩ <;> omega), if_pos (by omega)]; rfl)
            clear hb0 hM6
            go_wp2_with (first | (with_reducible refine Agg.wpList_loadL HL.out rfl _ rfl rfl ?_))
            go_ret2
            exact ⟨by rw [HRES.out]; rfl, rfl⟩
          · have hq0 : ((b.toNat : Int) == 0) = false := by simp [hb0]
            by_cases hb1 : b.toNat < 128
            · have hy0 : ((y : Int) == 0) = true := by have := HYY.out; simp; omega
              have HRES := Lib.hid (show beg l = (1, M) by unfold beg; rw [HGOB.out, HSTEP.out, if_neg (fun h => by rcases h with h | ⟨h, h2⟩ <;> omega), if_pos (by omega)]; rfl)
              clear hb0 hb1 hM6
              go_wp2_with (first | (with_reducible refine Agg.wpList_loadL HL.out rfl _ rfl rfl ?_))
              go_ret2
              exact ⟨by rw [HRES.out]; rfl, rfl⟩
            · have hy0 : ((y : Int) == 0) = false := by have := HYY.out; simp; omega
              have HRES := Lib.hid (show begGo 0 0 l = begGo 1 M (l.drop 1) by rw [HGOB.out, HSTEP.out, if_neg (fun h => by rcases h with h | ⟨h, h2⟩ <;> omega), if_neg (by omega)])
              have HMN2 := Lib.hid (show M < 128 ^ 1 by have h1 := HMM.out; have h2 := HN.out; simp only [Nat.reducePow] at h1 h2 ⊢; omega)
              clear hb0 hb1 hM6
              go_wp2_with (first | (with_reducible refine Agg.wpList_loadL HL.out rfl _ rfl rfl ?_))
              go_roundw
              case rel => exact ⟨1, M, by omega, by go_num, rfl, HRES.out, HMN2.out, trivial⟩
              case measure => simp [intOf]; omega
      · obtain ⟨q, hadr0, hld⟩ := byte_at HT.out 1 b hbt
        have hadr : ∀ W, (Instr.indexAt 23 (.slice p m c) (.int .i64 1)).run Try.prog W = .ok (.pointer (some q)) W := hadr0
        have HL := Lib.hid hld
        have hor : bits .or .i64 (N : Int) ((x : Int) * 128) = (M : Int) := by
          have h1 := HN.out
          have h2 := HMM.out
          simp only [Nat.reducePow] at h1 h2
          have := or_add N x 1 hx128 (by simpa using h1) (by omega)
          simp only [Nat.reduceMul, Nat.reducePow] at this
          rw [h2] at this
          simpa using this
        have hNb : N < 128 := by simpa using HN.out
        have hMb : M < 2097152 := by have h1 := HMM.out; have h2 := HN.out; simp only [Nat.reducePow] at h1 h2; omega
        clear hadr0 hld hbt
        by_cases hM6 : 65536 < M
        · have h65 : (65536 : Int) < (M : Int) := by omega
          have HRES := Lib.hid (show beg l = (-1, 0) by unfold beg; rw [HGOB.out, HSTEP.out]; rw [if_pos (.inl hM6)])
          clear hM6
          go_wp2_with (first | (with_reducible refine Agg.wpList_loadL HL.out rfl _ rfl rfl ?_))
          go_ret2
          exact ⟨by rw [HRES.out]; rfl, rfl⟩
        · have h65 : ¬ (65536 : Int) < (M : Int) := by omega
          by_cases hb0 : b.toNat = 0
          · have hq0 : ((b.toNat : Int) == 0) = true := by simp [hb0]
            have HRES := Lib.hid (show beg l = (-1, 0) by unfold beg; rw [HGOB.out, HSTEP.out]; rw [if_pos (.inr ⟨UInt8.toNat_inj.1 (by simpa using hb0), by omega⟩)])
            clear hb0 hM6
            go_wp2_with (first | (with_reducible refine Agg.wpList_loadL HL.out rfl _ rfl rfl ?_))
            go_ret2
            exact ⟨by rw [HRES.out]; rfl, rfl⟩
          · have hq0 : ((b.toNat : Int) == 0) = false := by simp [hb0]
            by_cases hb1 : b.toNat < 128
            · have hy0 : ((y : Int) == 0) = true := by have := HYY.out; simp; omega
              have HRES := Lib.hid (show beg l = (2, M) by unfold beg; rw [HGOB.out, HSTEP.out, if_neg (fun h => by rcases h with h | ⟨h, _⟩; exact absurd h hM6; exact hb0 (by rw [h]; rfl)), if_pos (by omega)]; rfl)
              clear hb0 hb1 hM6
              go_wp2_with (first | (with_reducible refine Agg.wpList_loadL HL.out rfl _ rfl rfl ?_))
              go_ret2
              exact ⟨by rw [HRES.out]; rfl, rfl⟩
            · have hy0 : ((y : Int) == 0) = false := by have := HYY.out; simp; omega
              have HRES := Lib.hid (show begGo 0 0 l = begGo 2 M (l.drop 2) by rw [HGOB.out, HSTEP.out, if_neg (fun h => by rcases h with h | ⟨h, _⟩; exact absurd h hM6; exact hb0 (by rw [h]; rfl)), if_neg (by omega)])
              have HMN2 := Lib.hid (show M < 128 ^ 2 by have h1 := HMM.out; have h2 := HN.out; simp only [Nat.reducePow] at h1 h2 ⊢; omega)
              clear hb0 hb1 hM6
              go_wp2_with (first | (with_reducible refine Agg.wpList_loadL HL.out rfl _ rfl rfl ?_))
              go_roundw
              case rel => exact ⟨2, M, by omega, by go_num, rfl, HRES.out, HMN2.out, trivial⟩
              case measure => simp [intOf]; omega
      · obtain ⟨q, hadr0, hld⟩ := byte_at HT.out 2 b hbt
        have hadr : ∀ W, (Instr.indexAt 23 (.slice p m c) (.int .i64 2)).run Try.prog W = .ok (.pointer (some q)) W := hadr0
        have HL := Lib.hid hld
        have hor : bits .or .i64 (N : Int) ((x : Int) * 16384) = (M : Int) := by
          have h1 := HN.out
          have h2 := HMM.out
          simp only [Nat.reducePow] at h1 h2
          have := or_add N x 2 hx128 (by simpa using h1) (by omega)
          simp only [Nat.reduceMul, Nat.reducePow] at this
          rw [h2] at this
          simpa using this
        have hNb : N < 16384 := by simpa using HN.out
        have hMb : M < 2097152 := by have h1 := HMM.out; have h2 := HN.out; simp only [Nat.reducePow] at h1 h2; omega
        clear hadr0 hld hbt
        by_cases hM6 : 65536 < M
        · have h65 : (65536 : Int) < (M : Int) := by omega
          have HRES := Lib.hid (show beg l = (-1, 0) by unfold beg; rw [HGOB.out, HSTEP.out]; rw [if_pos (.inl hM6)])
          clear hM6
          go_wp2_with (first | (with_reducible refine Agg.wpList_loadL HL.out rfl _ rfl rfl ?_))
          go_ret2
          exact ⟨by rw [HRES.out]; rfl, rfl⟩
        · have h65 : ¬ (65536 : Int) < (M : Int) := by omega
          by_cases hb0 : b.toNat = 0
          · have hq0 : ((b.toNat : Int) == 0) = true := by simp [hb0]
            have HRES := Lib.hid (show beg l = (-1, 0) by unfold beg; rw [HGOB.out, HSTEP.out]; rw [if_pos (.inr ⟨UInt8.toNat_inj.1 (by simpa using hb0), by omega⟩)])
            clear hb0 hM6
            go_wp2_with (first | (with_reducible refine Agg.wpList_loadL HL.out rfl _ rfl rfl ?_))
            go_ret2
            exact ⟨by rw [HRES.out]; rfl, rfl⟩
          · have hq0 : ((b.toNat : Int) == 0) = false := by simp [hb0]
            by_cases hb1 : b.toNat < 128
            · have hy0 : ((y : Int) == 0) = true := by have := HYY.out; simp; omega
              have HRES := Lib.hid (show beg l = (3, M) by unfold beg; rw [HGOB.out, HSTEP.out, if_neg (fun h => by rcases h with h | ⟨h, _⟩; exact absurd h hM6; exact hb0 (by rw [h]; rfl)), if_pos (by omega)]; rfl)
              clear hb0 hb1 hM6
              go_wp2_with (first | (with_reducible refine Agg.wpList_loadL HL.out rfl _ rfl rfl ?_))
              go_ret2
              exact ⟨by rw [HRES.out]; rfl, rfl⟩
            · have hy0 : ((y : Int) == 0) = false := by have := HYY.out; simp; omega
              have HRES := Lib.hid (show begGo 0 0 l = begGo 3 M (l.drop 3) by rw [HGOB.out, HSTEP.out, if_neg (fun h => by rcases h with h | ⟨h, _⟩; exact absurd h hM6; exact hb0 (by rw [h]; rfl)), if_neg (by omega)])
              have HMN2 := Lib.hid (show M < 128 ^ 3 by have h1 := HMM.out; have h2 := HN.out; simp only [Nat.reducePow] at h1 h2 ⊢; omega)
              clear hb0 hb1 hM6
              go_wp2_with (first | (with_reducible refine Agg.wpList_loadL HL.out rfl _ rfl rfl ?_))
              go_roundw
              case rel => exact ⟨3, M, by omega, by go_num, rfl, HRES.out, HMN2.out, trivial⟩
              case measure => simp [intOf]; omega
    · obtain rfl : k = m := by omega
      clear hlt
      by_cases h3 : 3 ≤ l.length
      · have hm3' : k = 3 := by have := HMN.out; omega
        have hI : (3 : Int) ≤ (l.length : Int) := by omega
        have HRES := Lib.hid (show beg l = (-1, 0) by unfold beg; rw [HGO.out, hm3']; cases l.drop 3 <;> simp [begGo])
        clear h3 hm3'
        go_wp2_with fail
        go_ret2
        exact ⟨by rw [HRES.out]; rfl, rfl⟩
      · have hI : ¬ (3 : Int) ≤ (l.length : Int) := by omega
        have HRES := Lib.hid (show beg l = (0, 0) by
          have hk2 : k = l.length := by have := HMN.out; omega
          unfold beg
          rw [HGO.out, List.drop_eq_nil_of_le (by omega)]
          simp only [begGo]
          rw [if_neg (by omega)])
        clear h3
        go_wp2_with fail
        go_ret2
        exact ⟨by rw [HRES.out]; rfl, rfl⟩
end Go.Proofs.Ytpnolgliklmnmaa
