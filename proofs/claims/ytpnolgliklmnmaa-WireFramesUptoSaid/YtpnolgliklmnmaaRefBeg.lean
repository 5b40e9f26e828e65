/- spenceref28.begin. -/
import Derived.Test.YtpnolgliklmnmaaWire
namespace Go.Proofs.Ytpnolgliklmnmaa
open Go.RowKit Pl Go.Agg
set_option maxRecDepth 100000 in
set_option maxHeartbeats 1000000 in
theorem refBegin_any (v : Value) (l : List UInt8) (w : World) (hl : l.length ≤ 1073741824) (hx : BytesAt w v l) :
    Calls Try.prog 42 #[v] w fun e w' => e = .returned (.tuple #[.int .i64 (beg l).1, .int .i64 ((beg l).2 : Int)]) ∧ w' = w := by
  have hlv := fun W => bytes_len hx W
  have HX := Lib.hid hx
  clear hx
  go_enter Try.func42, Try.ntmps42
  go_wp2_with fail
  go_loopw [4, 5] (fun n i wr => ∃ k N : Nat, k ≤ 3 ∧ k ≤ l.length ∧ i = .int .i64 (k : Int) ∧ n = .int .i64 (N : Int) ∧ begGo 0 0 l = begGo k N (l.drop k) ∧ N < 128 ^ k ∧ wr = w) (fun _ i _ => 3 - (intOf i).toNat)
  case atStart => exact ⟨0, 0, by omega, by omega, rfl, rfl, by simp, by simp, rfl⟩
  case round =>
    obtain ⟨k, N, hk, hkl, rfl, rfl, hgo, hN, rfl⟩ := hrel
    have HGO := Lib.hid hgo
    clear hgo
    by_cases hlt : k < 3 ∧ k < l.length
    · obtain ⟨h3, hlt⟩ := hlt
      have hk3 : k = 0 ∨ k = 1 ∨ k = 2 := by omega
      obtain ⟨b, hbk⟩ : ∃ b, l[k]? = some b := ⟨_, List.getElem?_eq_getElem (by omega)⟩
      have hdrop : l.drop k = b :: l.drop (k + 1) := by
        obtain ⟨h1, rfl⟩ := List.getElem?_eq_some_iff.1 hbk
        exact List.drop_eq_getElem_cons h1
      have HGOB := Lib.hid (show begGo 0 0 l = begGo k N (b :: l.drop (k + 1)) by rw [HGO.out, hdrop])
      obtain ⟨x, hx⟩ : ∃ x, b.toNat % 128 = x := ⟨_, rfl⟩
      have hx128 : x < 128 := by omega
      have hxI : (b.toNat : Int) % 128 = (x : Int) := by omega
      obtain ⟨M, hM⟩ : ∃ M, N + x * 128 ^ k = M := ⟨_, rfl⟩
      have HSTEP := Lib.hid (show begGo k N (b :: l.drop (k + 1)) = if 65536 < M ∨ (b = 0 ∧ 0 < k) then (-1, 0) else if b.toNat < 128 then ((k : Int) + 1, M) else begGo (k + 1) M (l.drop (k + 1)) by
        simp only [begGo, hx, hM]
        rw [if_neg (by omega)])
      have HMM := Lib.hid hM
      have HN := Lib.hid hN
      clear hdrop hx hM hN HGO h3
      rcases hk3 with rfl | rfl | rfl
      · obtain ⟨q, hadr0, hld⟩ := byte_at HX.out 0 b hbk
        have hadr : ∀ W, (Instr.indexAt 23 v (.int .i64 0)).run Try.prog W = .ok (.pointer (some q)) W := hadr0
        have HL := Lib.hid hld
        have hsum : (N : Int) + (x : Int) = (M : Int) := by have h := HMM.out; simp only [Nat.reducePow, Nat.mul_one] at h; omega
        have hMb : M < 128 := by have h1 := HMM.out; have h2 := HN.out; simp only [Nat.reducePow] at h1 h2; omega
        have hb256 : b.toNat < 256 := b.toNat_lt
        have hlI : (0 : Int) < (l.length : Int) := by omega
        clear hadr0 hld hbk
        by_cases hb1 : b.toNat < 128
        · have hI : (b.toNat : Int) < 128 := by omega
          by_cases hM6 : 65536 < M
          · have h65 : (65536 : Int) < (M : Int) := by omega
            have HRES := Lib.hid (show beg l = (-1, 0) by unfold beg; rw [HGOB.out, HSTEP.out]; rw [if_pos (.inl hM6)])
            clear hM6 hb1
            go_wp2_with (first | (with_reducible refine Agg.wpList_loadL HL.out rfl _ rfl rfl ?_))
            go_ret2
            exact ⟨by rw [HRES.out]; rfl, rfl⟩
          · have h65 : ¬ (65536 : Int) < (M : Int) := by omega
            have HRES := Lib.hid (show beg l = (1, M) by unfold beg; rw [HGOB.out, HSTEP.out, if_neg (fun h => by rcases h with h | ⟨h, h2⟩ <;> omega), if_pos hb1]; rfl)
            clear hM6 hb1
            go_wp2_with (first | (with_reducible refine Agg.wpList_loadL HL.out rfl _ rfl rfl ?_))
            go_ret2
            exact ⟨by rw [HRES.out]; rfl, rfl⟩
        · have hI : ¬ (b.toNat : Int) < 128 := by omega
          have HRES := Lib.hid (show begGo 0 0 l = begGo 1 M (l.drop 1) by
              rw [HGOB.out, HSTEP.out]
              rw [if_neg (fun h => by rcases h with h | ⟨h, _⟩; omega; rw [h] at hb1; exact hb1 (by decide)), if_neg hb1])
          have HMN2 := Lib.hid (show M < 128 ^ 1 by have h1 := HMM.out; have h2 := HN.out; simp only [Nat.reducePow] at h1 h2 ⊢; omega)
          clear hb1
          go_wp2_with (first | (with_reducible refine Agg.wpList_loadL HL.out rfl _ rfl rfl ?_))
          go_roundw
          case rel => exact ⟨1, M, by omega, by omega, by go_num, rfl, HRES.out, HMN2.out, trivial⟩
          case measure => simp [intOf]
      · obtain ⟨q, hadr0, hld⟩ := byte_at HX.out 1 b hbk
        have hadr : ∀ W, (Instr.indexAt 23 v (.int .i64 1)).run Try.prog W = .ok (.pointer (some q)) W := hadr0
        have HL := Lib.hid hld
        have hsum : (N : Int) + (x : Int) * 128 = (M : Int) := by have h := HMM.out; simp only [Nat.reducePow] at h; omega
        have hMb : M < 16384 := by have h1 := HMM.out; have h2 := HN.out; simp only [Nat.reducePow] at h1 h2; omega
        have hb256 : b.toNat < 256 := b.toNat_lt
        have hlI : (1 : Int) < (l.length : Int) := by omega
        clear hadr0 hld hbk
        by_cases hb1 : b.toNat < 128
        · have hI : (b.toNat : Int) < 128 := by omega
          by_cases hM6 : 65536 < M
          · have h65 : (65536 : Int) < (M : Int) := by omega
            have HRES := Lib.hid (show beg l = (-1, 0) by unfold beg; rw [HGOB.out, HSTEP.out]; rw [if_pos (.inl hM6)])
            clear hM6 hb1
            go_wp2_with (first | (with_reducible refine Agg.wpList_loadL HL.out rfl _ rfl rfl ?_))
            go_ret2
            exact ⟨by rw [HRES.out]; rfl, rfl⟩
          · have h65 : ¬ (65536 : Int) < (M : Int) := by omega
            by_cases hb0 : b.toNat = 0
            · have hq0 : ((b.toNat : Int) == 0) = true := by simp [hb0]
              have HRES := Lib.hid (show beg l = (-1, 0) by unfold beg; rw [HGOB.out, HSTEP.out]; rw [if_pos (.inr ⟨UInt8.toNat_inj.1 (by simpa using hb0), by omega⟩)])
              clear hb0 hM6 hb1
              go_wp2_with (first | (with_reducible refine Agg.wpList_loadL HL.out rfl _ rfl rfl ?_))
              go_ret2
              exact ⟨by rw [HRES.out]; rfl, rfl⟩
            · have hq0 : ((b.toNat : Int) == 0) = false := by simp [hb0]
              have HRES := Lib.hid (show beg l = (2, M) by unfold beg; rw [HGOB.out, HSTEP.out, if_neg (fun h => by rcases h with h | ⟨h, _⟩; exact absurd h hM6; exact hb0 (by rw [h]; rfl)), if_pos hb1]; rfl)
              clear hb0 hM6 hb1
              go_wp2_with (first | (with_reducible refine Agg.wpList_loadL HL.out rfl _ rfl rfl ?_))
              go_ret2
              exact ⟨by rw [HRES.out]; rfl, rfl⟩
        · have hI : ¬ (b.toNat : Int) < 128 := by omega
          have HRES := Lib.hid (show begGo 0 0 l = begGo 2 M (l.drop 2) by
              rw [HGOB.out, HSTEP.out]
              rw [if_neg (fun h => by rcases h with h | ⟨h, _⟩; omega; rw [h] at hb1; exact hb1 (by decide)), if_neg hb1])
          have HMN2 := Lib.hid (show M < 128 ^ 2 by have h1 := HMM.out; have h2 := HN.out; simp only [Nat.reducePow] at h1 h2 ⊢; omega)
          clear hb1
          go_wp2_with (first | (with_reducible refine Agg.wpList_loadL HL.out rfl _ rfl rfl ?_))
          go_roundw
          case rel => exact ⟨2, M, by omega, by omega, by go_num, rfl, HRES.out, HMN2.out, trivial⟩
          case measure => simp [intOf]
      · obtain ⟨q, hadr0, hld⟩ := byte_at HX.out 2 b hbk
        have hadr : ∀ W, (Instr.indexAt 23 v (.int .i64 2)).run Try.prog W = .ok (.pointer (some q)) W := hadr0
        have HL := Lib.hid hld
        have hsum : (N : Int) + (x : Int) * 16384 = (M : Int) := by have h := HMM.out; simp only [Nat.reducePow] at h; omega
        have hMb : M < 2097152 := by have h1 := HMM.out; have h2 := HN.out; simp only [Nat.reducePow] at h1 h2; omega
        have hb256 : b.toNat < 256 := b.toNat_lt
        have hlI : (2 : Int) < (l.length : Int) := by omega
        clear hadr0 hld hbk
        by_cases hb1 : b.toNat < 128
        · have hI : (b.toNat : Int) < 128 := by omega
          by_cases hM6 : 65536 < M
          · have h65 : (65536 : Int) < (M : Int) := by omega
            have HRES := Lib.hid (show beg l = (-1, 0) by unfold beg; rw [HGOB.out, HSTEP.out]; rw [if_pos (.inl hM6)])
            clear hM6 hb1
            go_wp2_with (first | (with_reducible refine Agg.wpList_loadL HL.out rfl _ rfl rfl ?_))
            go_ret2
            exact ⟨by rw [HRES.out]; rfl, rfl⟩
          · have h65 : ¬ (65536 : Int) < (M : Int) := by omega
            by_cases hb0 : b.toNat = 0
            · have hq0 : ((b.toNat : Int) == 0) = true := by simp [hb0]
              have HRES := Lib.hid (show beg l = (-1, 0) by unfold beg; rw [HGOB.out, HSTEP.out]; rw [if_pos (.inr ⟨UInt8.toNat_inj.1 (by simpa using hb0), by omega⟩)])
              clear hb0 hM6 hb1
              go_wp2_with (first | (with_reducible refine Agg.wpList_loadL HL.out rfl _ rfl rfl ?_))
              go_ret2
              exact ⟨by rw [HRES.out]; rfl, rfl⟩
            · have hq0 : ((b.toNat : Int) == 0) = false := by simp [hb0]
              have HRES := Lib.hid (show beg l = (3, M) by unfold beg; rw [HGOB.out, HSTEP.out, if_neg (fun h => by rcases h with h | ⟨h, _⟩; exact absurd h hM6; exact hb0 (by rw [h]; rfl)), if_pos hb1]; rfl)
              clear hb0 hM6 hb1
              go_wp2_with (first | (with_reducible refine Agg.wpList_loadL HL.out rfl _ rfl rfl ?_))
              go_ret2
              exact ⟨by rw [HRES.out]; rfl, rfl⟩
        · have hI : ¬ (b.toNat : Int) < 128 := by omega
          have HRES := Lib.hid (show begGo 0 0 l = begGo 3 M (l.drop 3) by
              rw [HGOB.out, HSTEP.out]
              by_cases hM6 : 65536 < M
              · rw [if_pos (.inl hM6)]; cases l.drop 3 <;> simp [begGo]
              · rw [if_neg (fun h => by rcases h with h | ⟨h, _⟩; exact hM6 h; rw [h] at hb1; exact hb1 (by decide)), if_neg hb1])
          have HMN2 := Lib.hid (show M < 128 ^ 3 by have h1 := HMM.out; have h2 := HN.out; simp only [Nat.reducePow] at h1 h2 ⊢; omega)
          clear hb1
          go_wp2_with (first | (with_reducible refine Agg.wpList_loadL HL.out rfl _ rfl rfl ?_))
          go_roundw
          case rel => exact ⟨3, M, by omega, by omega, by go_num, rfl, HRES.out, HMN2.out, trivial⟩
          case measure => simp [intOf]
    · have HN := Lib.hid hN
      clear hN
      by_cases h3 : 3 ≤ l.length
      · obtain rfl : k = 3 := by omega
        have hI : (3 : Int) ≤ (l.length : Int) := by omega
        have HRES := Lib.hid (show beg l = (-1, 0) by unfold beg; rw [HGO.out]; cases l.drop 3 <;> simp [begGo])
        clear h3 hlt
        go_wp2_with fail
        go_ret2
        exact ⟨by rw [HRES.out]; rfl, rfl⟩
      · have hI : ¬ (3 : Int) ≤ (l.length : Int) := by omega
        obtain rfl : k = l.length := by omega
        have HRES := Lib.hid (show beg l = (0, 0) by
          unfold beg
          rw [HGO.out, List.drop_eq_nil_of_le (by omega)]
          simp only [begGo]
          rw [if_neg (by omega)])
        have hNb : N ≤ 65536 := by
          have h := HN.out
          have : 128 ^ l.length ≤ 128 ^ 2 := Nat.pow_le_pow_right (by omega) (by omega)
          omega
        have h65 : ¬ (65536 : Int) < (N : Int) := by omega
        have hl3 : (l.length : Int) < 3 := by omega
        clear h3 hlt
        go_wp2_with fail
        go_ret2
        exact ⟨by rw [HRES.out]; rfl, rfl⟩
end Go.Proofs.Ytpnolgliklmnmaa
