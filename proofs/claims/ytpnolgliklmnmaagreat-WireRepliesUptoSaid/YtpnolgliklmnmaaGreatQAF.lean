/- base.sign: whether a rune may stand in a name. (Several texts in one.) -/
import Derived.Test.YtpnolgliklmnmaaGreatShelf
import Derived.Test.YtpnolgliklmnmaaGreatQAE
import Derived.Test.YtpnolgliklmnmaaGreatQAC
import Derived.BigQuiet
import Derived.Deep.QuietTactic
import Derived.BigGuardPart
/-! wire.begin. -/
namespace Go.Proofs.YtpnolgliklmnmaaGreat
open Go.RowKit Pl Go.Agg
theorem sliceOf_taken {α : Type} {E : Elem Tryz.prog α} {w : World} {p : Option Addr} {c : Nat} {l : List α} (h : SliceOf E w (.slice p l.length c) l) (n : Nat) (hn : n ≤ l.length) : SliceOf E w (.slice p n c) (l.take n) := by
  rcases h with ⟨q, d, e, rfl⟩ | ⟨q, d, e, hq, hc⟩
  · obtain rfl : n = 0 := by simpa using hn
    exact SliceOf.nil _ _ _
  · simp only [Value.slice.injEq] at e
    obtain ⟨rfl, _, rfl⟩ := e
    refine .inr ⟨q, c, by rw [List.length_take, Nat.min_eq_left hn], hq, fun j u hj => hc j u ?_⟩
    have : E.flat l = E.flat (l.take n) ++ E.flat (l.drop n) := by rw [← Elem.flat_append, List.take_append_drop]
    rw [this, List.getElem?_append_left (List.getElem?_eq_some_iff.1 hj).1]
    exact hj
theorem and127 (b : UInt8) : bits .and .u8 (b.toNat : Int) 127 = ((b.toNat % 128 : Nat) : Int) := by
  have h : ∀ m : Nat, m < 256 → bits .and .u8 (m : Int) 127 = ((m % 128 : Nat) : Int) := by decide +kernel
  exact h _ b.toNat_lt
theorem and128 (b : UInt8) : bits .and .u8 (b.toNat : Int) 128 = ((b.toNat / 128 * 128 : Nat) : Int) := by
  have h : ∀ m : Nat, m < 256 → bits .and .u8 (m : Int) 128 = ((m / 128 * 128 : Nat) : Int) := by decide +kernel
  exact h _ b.toNat_lt
theorem i64_or_nat (a b : Nat) (ha : a < 9223372036854775808) (hb : b < 9223372036854775808) : bits .or .i64 (a : Int) (b : Int) = ((a ||| b : Nat) : Int) := by
  have hx : a ||| b < 2 ^ 63 := Nat.or_lt_two_pow (by omega) (by omega)
  show IntKind.i64.wrap ((BitVec.ofInt 64 (a : Int) ||| BitVec.ofInt 64 (b : Int)).toNat : Int) = _
  rw [BitVec.toNat_or, ofInt_u64 a (by omega), ofInt_u64 b (by omega), IntKind.wrap_i64]
  omega
theorem or_add (N x k : Nat) (hx : x < 128) (hN : N < 2 ^ (7 * k)) (hk : k < 4) : bits .or .i64 (N : Int) ((x * 2 ^ (7 * k) : Nat) : Int) = ((N + x * 2 ^ (7 * k) : Nat) : Int) := by
  have h5 : 2 ^ (7 * k) ≤ 2 ^ 21 := Nat.pow_le_pow_right (by omega) (by omega)
  have hp : x * 2 ^ (7 * k) ≤ 128 * 2 ^ 21 := Nat.mul_le_mul (by omega) h5
  rw [i64_or_nat _ _ (by omega) (by omega), Nat.or_comm, Nat.mul_comm, ← Nat.two_pow_add_eq_or_of_lt hN, Nat.add_comm]
set_option maxRecDepth 100000 in
set_option maxHeartbeats 1000000 in
theorem begin_any (x : Value) (l : List UInt8) (w : World) (hl : l.length ≤ 1073741824) (hx : BytesAt w x l) (hc : ∀ p n c, x = .slice p n c → n ≤ c) :
    Calls Tryz.prog 79 #[x] w fun e w' => e = .returned (.tuple #[.int .i64 (beg l).1, .int .i64 ((beg l).2 : Int)]) ∧ w' = w := by
  obtain ⟨p, c, rfl⟩ := hx.form
  have hcap := hc p l.length c rfl
  obtain ⟨m, hm⟩ : ∃ m : Nat, m = min l.length 3 := ⟨_, rfl⟩
  have hm3 : m ≤ 3 := by omega
  have hml : m ≤ l.length := by omega
  have hmI : min (l.length : Int) 3 = (m : Int) := by omega
  have HMN := Lib.hid hm
  clear hm
  have HT := Lib.hid (sliceOf_taken hx m hml)
  have HX := Lib.hid hx
  clear hx hc
  go_enter Tryz.func79, Tryz.ntmps79
  go_wp2_with fail
  go_loopw [3, 12] (fun n i wr => ∃ k N : Nat, k ≤ m ∧ i = .int .i64 (k : Int) ∧ n = .int .i64 (N : Int) ∧ begGo 0 0 l = begGo k N (l.drop k) ∧ N < 128 ^ k ∧ wr = w) (fun _ i _ => m - (intOf i).toNat)
  case atStart => exact ⟨0, 0, by omega, rfl, rfl, by simp, by simp, rfl⟩
  case round =>
    obtain ⟨k, N, hk, rfl, rfl, hgo, hN, rfl⟩ := hrel
    have HGO := Lib.hid hgo
    clear hgo
    by_cases hlt : k < m
    · have hk3 : k = 0 ∨ k = 1 ∨ k = 2 := by omega
      obtain ⟨b, hbk⟩ : ∃ b, l[k]? = some b := ⟨_, List.getElem?_eq_getElem (by omega)⟩
      have hdrop : l.drop k = b :: l.drop (k + 1) := by
        obtain ⟨h1, rfl⟩ := List.getElem?_eq_some_iff.1 hbk
        exact List.drop_eq_getElem_cons h1
      have HGOB := Lib.hid (show begGo 0 0 l = begGo k N (b :: l.drop (k + 1)) by rw [HGO.out, hdrop])
      have hbt : (l.take m)[k]? = some b := by rw [List.getElem?_take, if_pos hlt]; exact hbk
      obtain ⟨x, hx⟩ : ∃ x, b.toNat % 128 = x := ⟨_, rfl⟩
      have hx128 : x < 128 := by omega
      have hand := and127 b
      rw [hx] at hand
      obtain ⟨y, hy⟩ : ∃ y, b.toNat / 128 * 128 = y := ⟨_, rfl⟩
      have hand8 := and128 b
      rw [hy] at hand8
      obtain ⟨M, hM⟩ : ∃ M, N + x * 128 ^ k = M := ⟨_, rfl⟩
      have HSTEP := Lib.hid (show begGo k N (b :: l.drop (k + 1)) = if 65536 < M ∨ (b = 0 ∧ 0 < k) then (-1, 0) else if b.toNat < 128 then ((k : Int) + 1, M) else begGo (k + 1) M (l.drop (k + 1)) by
        simp only [begGo, hx, hM]
        rw [if_neg (by omega)])
      have HMM := Lib.hid hM
      have HXX := Lib.hid hx
      have HYY := Lib.hid hy
      have HN := Lib.hid hN
      clear hbk hdrop hx hy hM hN HGO
      rcases hk3 with rfl | rfl | rfl
      · obtain ⟨q, hadr0, hld⟩ := byte_at HT.out 0 b hbt
        have hadr : ∀ W, (Instr.indexAt 23 (.slice p m c) (.int .i64 0)).run Tryz.prog W = .ok (.pointer (some q)) W := hadr0
        have HL := Lib.hid hld
        have hor : bits .or .i64 (N : Int) (x : Int) = (M : Int) := by
          have h1 := HN.out
          have h2 := HMM.out
          simp only [Nat.reducePow] at h1 h2
          have := or_add N x 0 hx128 (by simpa using h1) (by omega)
          simp only [Nat.reduceMul, Nat.reducePow] at this
          rw [h2] at this
          simpa using this
        have hNb : N < 1 := by simpa using HN.out
        have hMb : M < 2097152 := by have h1 := HMM.out; have h2 := HN.out; simp only [Nat.reducePow] at h1 h2; omega
        clear hadr0 hld hbt
        by_cases hM6 : 65536 < M
        · have h65 : (65536 : Int) < (M : Int) := by omega
          have HRES := Lib.hid (show beg l = (-1, 0) by unfold beg; rw [HGOB.out, HSTEP.out]; rw [if_pos (.inl hM6)])
          clear hM6
          go_wp2_with (first | (with_reducible refine Agg.wpList_loadL HL.out rfl _ rfl rfl ?_))
          go_ret2
          exact ⟨by rw [HRES.out]; rfl, rfl⟩
        · have h65 : ¬ (65536 : Int) < (M : Int) := by omega
          by_cases hb0 : b.toNat = 0
          · have hq0 : ((b.toNat : Int) == 0) = true := by simp [hb0]
            have hy0 : ((y : Int) == 0) = true := by have := HYY.out; simp; omega
            have HRES := Lib.hid (show beg l = (1, M) by unfold beg; rw [HGOB.out, HSTEP.out, if_neg (fun h => by rcases h with h | ⟨h, h2⟩ <;> omega), if_pos (by omega)]; rfl)
            clear hb0 hM6
            go_wp2_with (first | (with_reducible refine Agg.wpList_loadL HL.out rfl _ rfl rfl ?_))
            go_ret2
            exact ⟨by rw [HRES.out]; rfl, rfl⟩
          · have hq0 : ((b.toNat : Int) == 0) = false := by simp [hb0]
            by_cases hb1 : b.toNat < 128
            · have hy0 : ((y : Int) == 0) = true := by have := HYY.out; simp; omega
              have HRES := Lib.hid (show beg l = (1, M) by unfold beg; rw [HGOB.out, HSTEP.out, if_neg (fun h => by rcases h with h | ⟨h, h2⟩ <;> omega), if_pos (by omega)]; rfl)
              clear hb0 hb1 hM6
              go_wp2_with (first | (with_reducible refine Agg.wpList_loadL HL.out rfl _ rfl rfl ?_))
              go_ret2
              exact ⟨by rw [HRES.out]; rfl, rfl⟩
            · have hy0 : ((y : Int) == 0) = false := by have := HYY.out; simp; omega
              have HRES := Lib.hid (show begGo 0 0 l = begGo 1 M (l.drop 1) by rw [HGOB.out, HSTEP.out, if_neg (fun h => by rcases h with h | ⟨h, h2⟩ <;> omega), if_neg (by omega)])
              have HMN2 := Lib.hid (show M < 128 ^ 1 by have h1 := HMM.out; have h2 := HN.out; simp only [Nat.reducePow] at h1 h2 ⊢; omega)
              clear hb0 hb1 hM6
              go_wp2_with (first | (with_reducible refine Agg.wpList_loadL HL.out rfl _ rfl rfl ?_))
              go_roundw
              case rel => exact ⟨1, M, by omega, by go_num, rfl, HRES.out, HMN2.out, trivial⟩
              case measure => simp [intOf]; omega
      · obtain ⟨q, hadr0, hld⟩ := byte_at HT.out 1 b hbt
        have hadr : ∀ W, (Instr.indexAt 23 (.slice p m c) (.int .i64 1)).run Tryz.prog W = .ok (.pointer (some q)) W := hadr0
        have HL := Lib.hid hld
        have hor : bits .or .i64 (N : Int) ((x : Int) * 128) = (M : Int) := by
          have h1 := HN.out
          have h2 := HMM.out
          simp only [Nat.reducePow] at h1 h2
          have := or_add N x 1 hx128 (by simpa using h1) (by omega)
          simp only [Nat.reduceMul, Nat.reducePow] at this
          rw [h2] at this
          simpa using this
        have hNb : N < 128 := by simpa using HN.out
        have hMb : M < 2097152 := by have h1 := HMM.out; have h2 := HN.out; simp only [Nat.reducePow] at h1 h2; omega
        clear hadr0 hld hbt
        by_cases hM6 : 65536 < M
        · have h65 : (65536 : Int) < (M : Int) := by omega
          have HRES := Lib.hid (show beg l = (-1, 0) by unfold beg; rw [HGOB.out, HSTEP.out]; rw [if_pos (.inl hM6)])
          clear hM6
          go_wp2_with (first | (with_reducible refine Agg.wpList_loadL HL.out rfl _ rfl rfl ?_))
          go_ret2
          exact ⟨by rw [HRES.out]; rfl, rfl⟩
        · have h65 : ¬ (65536 : Int) < (M : Int) := by omega
          by_cases hb0 : b.toNat = 0
          · have hq0 : ((b.toNat : Int) == 0) = true := by simp [hb0]
            have HRES := Lib.hid (show beg l = (-1, 0) by unfold beg; rw [HGOB.out, HSTEP.out]; rw [if_pos (.inr ⟨UInt8.toNat_inj.1 (by simpa using hb0), by omega⟩)])
            clear hb0 hM6
            go_wp2_with (first | (with_reducible refine Agg.wpList_loadL HL.out rfl _ rfl rfl ?_))
            go_ret2
            exact ⟨by rw [HRES.out]; rfl, rfl⟩
          · have hq0 : ((b.toNat : Int) == 0) = false := by simp [hb0]
            by_cases hb1 : b.toNat < 128
            · have hy0 : ((y : Int) == 0) = true := by have := HYY.out; simp; omega
              have HRES := Lib.hid (show beg l = (2, M) by unfold beg; rw [HGOB.out, HSTEP.out, if_neg (fun h => by rcases h with h | ⟨h, _⟩; exact absurd h hM6; exact hb0 (by rw [h]; rfl)), if_pos (by omega)]; rfl)
              clear hb0 hb1 hM6
              go_wp2_with (first | (with_reducible refine Agg.wpList_loadL HL.out rfl _ rfl rfl ?_))
              go_ret2
              exact ⟨by rw [HRES.out]; rfl, rfl⟩
            · have hy0 : ((y : Int) == 0) = false := by have := HYY.out; simp; omega
              have HRES := Lib.hid (show begGo 0 0 l = begGo 2 M (l.drop 2) by rw [HGOB.out, HSTEP.out, if_neg (fun h => by rcases h with h | ⟨h, _⟩; exact absurd h hM6; exact hb0 (by rw [h]; rfl)), if_neg (by omega)])
              have HMN2 := Lib.hid (show M < 128 ^ 2 by have h1 := HMM.out; have h2 := HN.out; simp only [Nat.reducePow] at h1 h2 ⊢; omega)
              clear hb0 hb1 hM6
              go_wp2_with (first | (with_reducible refine Agg.wpList_loadL HL.out rfl _ rfl rfl ?_))
              go_roundw
              case rel => exact ⟨2, M, by omega, by go_num, rfl, HRES.out, HMN2.out, trivial⟩
              case measure => simp [intOf]; omega
      · obtain ⟨q, hadr0, hld⟩ := byte_at HT.out 2 b hbt
        have hadr : ∀ W, (Instr.indexAt 23 (.slice p m c) (.int .i64 2)).run Tryz.prog W = .ok (.pointer (some q)) W := hadr0
        have HL := Lib.hid hld
        have hor : bits .or .i64 (N : Int) ((x : Int) * 16384) = (M : Int) := by
          have h1 := HN.out
          have h2 := HMM.out
          simp only [Nat.reducePow] at h1 h2
          have := or_add N x 2 hx128 (by simpa using h1) (by omega)
          simp only [Nat.reduceMul, Nat.reducePow] at this
          rw [h2] at this
          simpa using this
        have hNb : N < 16384 := by simpa using HN.out
        have hMb : M < 2097152 := by have h1 := HMM.out; have h2 := HN.out; simp only [Nat.reducePow] at h1 h2; omega
        clear hadr0 hld hbt
        by_cases hM6 : 65536 < M
        · have h65 : (65536 : Int) < (M : Int) := by omega
          have HRES := Lib.hid (show beg l = (-1, 0) by unfold beg; rw [HGOB.out, HSTEP.out]; rw [if_pos (.inl hM6)])
          clear hM6
          go_wp2_with (first | (with_reducible refine Agg.wpList_loadL HL.out rfl _ rfl rfl ?_))
          go_ret2
          exact ⟨by rw [HRES.out]; rfl, rfl⟩
        · have h65 : ¬ (65536 : Int) < (M : Int) := by omega
          by_cases hb0 : b.toNat = 0
          · have hq0 : ((b.toNat : Int) == 0) = true := by simp [hb0]
            have HRES := Lib.hid (show beg l = (-1, 0) by unfold beg; rw [HGOB.out, HSTEP.out]; rw [if_pos (.inr ⟨UInt8.toNat_inj.1 (by simpa using hb0), by omega⟩)])
            clear hb0 hM6
            go_wp2_with (first | (with_reducible refine Agg.wpList_loadL HL.out rfl _ rfl rfl ?_))
            go_ret2
            exact ⟨by rw [HRES.out]; rfl, rfl⟩
          · have hq0 : ((b.toNat : Int) == 0) = false := by simp [hb0]
            by_cases hb1 : b.toNat < 128
            · have hy0 : ((y : Int) == 0) = true := by have := HYY.out; simp; omega
              have HRES := Lib.hid (show beg l = (3, M) by unfold beg; rw [HGOB.out, HSTEP.out, if_neg (fun h => by rcases h with h | ⟨h, _⟩; exact absurd h hM6; exact hb0 (by rw [h]; rfl)), if_pos (by omega)]; rfl)
              clear hb0 hb1 hM6
              go_wp2_with (first | (with_reducible refine Agg.wpList_loadL HL.out rfl _ rfl rfl ?_))
              go_ret2
              exact ⟨by rw [HRES.out]; rfl, rfl⟩
            · have hy0 : ((y : Int) == 0) = false := by have := HYY.out; simp; omega
              have HRES := Lib.hid (show begGo 0 0 l = begGo 3 M (l.drop 3) by rw [HGOB.out, HSTEP.out, if_neg (fun h => by rcases h with h | ⟨h, _⟩; exact absurd h hM6; exact hb0 (by rw [h]; rfl)), if_neg (by omega)])
              have HMN2 := Lib.hid (show M < 128 ^ 3 by have h1 := HMM.out; have h2 := HN.out; simp only [Nat.reducePow] at h1 h2 ⊢; omega)
              clear hb0 hb1 hM6
              go_wp2_with (first | (with_reducible refine Agg.wpList_loadL HL.out rfl _ rfl rfl ?_))
              go_roundw
              case rel => exact ⟨3, M, by omega, by go_num, rfl, HRES.out, HMN2.out, trivial⟩
              case measure => simp [intOf]; omega
    · obtain rfl : k = m := by omega
      clear hlt
      by_cases h3 : 3 ≤ l.length
      · have hm3' : k = 3 := by have := HMN.out; omega
        have hI : (3 : Int) ≤ (l.length : Int) := by omega
        have HRES := Lib.hid (show beg l = (-1, 0) by unfold beg; rw [HGO.out, hm3']; cases l.drop 3 <;> simp [begGo])
        clear h3 hm3'
        go_wp2_with fail
        go_ret2
        exact ⟨by rw [HRES.out]; rfl, rfl⟩
      · have hI : ¬ (3 : Int) ≤ (l.length : Int) := by omega
        have HRES := Lib.hid (show beg l = (0, 0) by
          have hk2 : k = l.length := by have := HMN.out; omega
          unfold beg
          rw [HGO.out, List.drop_eq_nil_of_le (by omega)]
          simp only [begGo]
          rw [if_neg (by omega)])
        clear h3
        go_wp2_with fail
        go_ret2
        exact ⟨by rw [HRES.out]; rfl, rfl⟩
end Go.Proofs.YtpnolgliklmnmaaGreat
/-! wire.Frames. -/
namespace Go.Agg
open Go.RowKit
variable {P : Program} {α : Type} {E : Elem P α} {base : Nat} {w w' : World} {v : Value} {l : List α}
theorem Own.keepT (h : Own E base w v l) (hk : ∀ (g : Nat) (cur : Array Value) (fr : Nat × Nat), w.heap[g]? = some (Obj.cells cur E.ty fr) → w'.heap[g]? = some (Obj.cells cur E.ty fr)) : Own E base w' v l := by
  obtain ⟨hfl, h | ⟨g, cap, cur, hv, hb, hc, hr⟩⟩ := h
  · exact ⟨hfl, .inl h⟩
  · exact ⟨hfl, .inr ⟨g, cap, cur, hv, hb, hk g cur _ hc, hr⟩⟩
theorem Own.cap (h : Own E base w v l) : ∀ p n c, v = .slice p n c → n ≤ c := by
  obtain ⟨_, ⟨rfl, _⟩ | ⟨g, cap, cur, rfl, _, _, hle, _⟩⟩ := h
  · intro p n c e; injection e with _ h1 h2; omega
  · intro p n c e; injection e with _ h1 h2; omega
end Go.Agg
namespace Go.Proofs.YtpnolgliklmnmaaGreat
open Go.RowKit Pl Go.Agg
/-- rows of bytes, each in a block of its own -/
structure RowsOwn (base : Nat) (w : World) (vs : List SV) (ls : List (List UInt8)) : Prop where
  len : vs.length = ls.length
  row : ∀ (k : Nat) (s : SV) (l : List UInt8), vs[k]? = some s → ls[k]? = some l → Own EB base w s.1 l
section
variable {base : Nat} {w w' : World} {vs : List SV} {ls : List (List UInt8)} {v : Value} {r : List UInt8}
theorem RowsOwn.below (h : RowsOwn base w vs ls) (hb : Below w.heap.size w w') : RowsOwn base w' vs ls := ⟨h.len, fun k s l h1 h2 => (h.row k s l h1 h2).below hb⟩
theorem RowsOwn.pushed {u : Value} (h : RowsOwn base w vs ls) (hp : Pushed EBB base w w' u) : RowsOwn base w' vs ls := ⟨h.len, fun k s l h1 h2 => (h.row k s l h1 h2).keepT fun g cur fr hg => hp.blk g _ _ _ (by decide) hg⟩
theorem RowsOwn.rows (h : RowsOwn base w vs ls) : RowsIn w vs ls := ⟨h.len, fun k s l h1 h2 => (h.row k s l h1 h2).slice⟩
theorem RowsOwn.push {s : SV} {l : List UInt8} (h : RowsOwn base w vs ls) (hs : Own EB base w s.1 l) : RowsOwn base w (vs ++ [s]) (ls ++ [l]) := by
  refine ⟨by simp [h.len], fun k t m h1 h2 => ?_⟩
  have hl := h.len
  by_cases hk : k < vs.length
  · rw [List.getElem?_append_left hk] at h1
    rw [List.getElem?_append_left (by omega)] at h2
    exact h.row k t m h1 h2
  · rw [List.getElem?_append_right (by omega)] at h1 h2
    by_cases hk0 : k - vs.length = 0
    · rw [hk0] at h1
      rw [show k - ls.length = 0 by omega] at h2
      obtain rfl : s = t := by simpa using h1
      obtain rfl : l = m := by simpa using h2
      exact hs
    · rw [List.getElem?_eq_none (by simp; omega)] at h1; cases h1
/-- what is left of a clone -/
def Rest (base : Nat) (w : World) (v : Value) (r : List UInt8) : Prop :=
  (v = .slice none 0 0 ∧ r = []) ∨ ∃ g off cap cs, v = .slice (some ⟨g, off, none⟩) r.length cap ∧ r.length ≤ cap ∧ base ≤ g ∧ Blk w g 5 cs ∧ off + cap ≤ cs.size ∧ ∀ j u, (EB.flat r)[j]? = some u → cs[off + j]? = some u
theorem Rest.of_own (h : Own EB base w v r) : Rest base w v r := by
  obtain ⟨hfl, ⟨rfl, h0⟩ | ⟨g, cap, cur, rfl, hgb, hcur, hle, _, hsz, htk⟩⟩ := h
  · exact .inl ⟨rfl, List.length_eq_zero_iff.1 h0⟩
  · refine .inr ⟨g, 0, cap, cur, rfl, hle, hgb, hcur, by rw [hsz, show EB.n = 1 from rfl]; omega, fun j u hj => ?_⟩
    rw [← htk, List.getElem?_take] at hj
    split at hj
    · simpa using hj
    · cases hj
theorem Rest.slice (h : Rest base w v r) : BytesAt w v r := by
  rcases h with ⟨rfl, rfl⟩ | ⟨g, off, cap, cs, rfl, _, _, hb, _, hc⟩
  · exact SliceOf.nil _ _ _
  · exact .inr ⟨_, cap, rfl, hb.lt, fun j u hj => by rw [add_plain, hb.cell]; exact hc j u hj⟩
theorem Rest.room (h : Rest base w v r) : RoomN EB w v r := by
  rcases h with ⟨rfl, rfl⟩ | ⟨g, off, cap, cs, rfl, hle, _, hb, hsz, hc⟩
  · exact .inl ⟨rfl, rfl⟩
  · refine .inr ⟨g, off, cap, rfl, hle, hb.lt, fun j hj => ?_, fun j _ => frozen_of_row _ _ _ _ _ hb, fun j u hj => by rw [hb.cell]; exact hc j u hj⟩
    rw [show EB.n = 1 from rfl, Nat.mul_one] at hj
    rw [hb.cell, Array.getElem?_eq_getElem (by omega)]; rfl
theorem Rest.block (h : Rest base w v r) : ∀ k, v.ownBlock = some k → base ≤ k ∧ k < w.heap.size := by
  rcases h with ⟨rfl, rfl⟩ | ⟨g, off, cap, cs, rfl, _, hg, hb, _⟩
  · intro k hk; simp [Value.ownBlock] at hk
  · intro k hk
    obtain rfl : g = k := by simpa [Value.ownBlock] using hk
    exact ⟨hg, hb.lt⟩
theorem Rest.cap (h : Rest base w v r) : ∀ p n c, v = .slice p n c → n ≤ c := by
  rcases h with ⟨rfl, rfl⟩ | ⟨g, off, cap, cs, rfl, hle, _⟩
  · intro p n c e; injection e with _ h1 h2; omega
  · intro p n c e; injection e with _ h1 h2; omega
theorem Rest.below (h : Rest base w v r) (hb : Below w.heap.size w w') : Rest base w' v r := by
  rcases h with h | ⟨g, off, cap, cs, rfl, hle, hg, hk, hc⟩
  · exact .inl h
  · exact .inr ⟨g, off, cap, cs, rfl, hle, hg, hk.below hb, hc⟩
theorem Rest.pushed {u : Value} {B : Nat} (h : Rest base w v r) (hp : Pushed EBB B w w' u) : Rest base w' v r := by
  rcases h with h | ⟨g, off, cap, cs, rfl, hle, hg, hk, hc⟩
  · exact .inl h
  · exact .inr ⟨g, off, cap, cs, rfl, hle, hg, hp.blk g _ _ _ (by decide) hk, hc⟩
theorem Rest.drop {g off cap : Nat} (h : Rest base w (.slice (some ⟨g, off, none⟩) r.length cap) r) (k : Nat) (hk : k ≤ r.length) : Rest base w (.slice (some ⟨g, off + k, none⟩) (r.length - k) (cap - k)) (r.drop k) := by
  rcases h with ⟨h, _⟩ | ⟨g', off', cap', cs, h, hle, hg, hb, hsz, hc⟩
  · cases h
  · simp only [Value.slice.injEq, Option.some.injEq, Addr.mk.injEq] at h
    obtain ⟨⟨rfl, rfl, _⟩, _, rfl⟩ := h
    refine .inr ⟨g, off + k, cap - k, cs, by rw [List.length_drop], by simp; omega, hg, hb, by omega, fun j u hj => ?_⟩
    have e : EB.flat r = EB.flat (r.take k) ++ EB.flat (r.drop k) := by rw [← Elem.flat_append, List.take_append_drop]
    have hlen : (EB.flat (r.take k)).length = k := by rw [Elem.flat_length, show EB.n = 1 from rfl, List.length_take]; omega
    have := hc (k + j) u (by rw [e, List.getElem?_append_right (by omega), hlen, show k + j - k = j by omega]; exact hj)
    rwa [← Nat.add_assoc] at this
theorem Rest.zero {g off cap : Nat} (h : Rest base w (.slice (some ⟨g, off, none⟩) r.length cap) r) : Rest base w (.slice (some ⟨g, off, none⟩) 0 0) [] := by
  rcases h with ⟨h, _⟩ | ⟨g', off', cap', cs, h, hle, hg, hb, hsz, hc⟩
  · cases h
  · simp only [Value.slice.injEq, Option.some.injEq, Addr.mk.injEq] at h
    obtain ⟨⟨rfl, rfl, _⟩, _, rfl⟩ := h
    exact .inr ⟨g, off, 0, cs, rfl, Nat.le_refl _, hg, hb, by omega, fun j u hj => by simp [Elem.flat] at hj⟩
theorem Rest.empty {g off cap : Nat} (h : Rest base w (.slice (some ⟨g, off, none⟩) r.length cap) r) {m : List UInt8} (hm : m = []) : Rest base w (.slice (some ⟨g, off, none⟩) 0 0) m := by
  rw [hm]; exact h.zero
end
/-- what Frames answers -/
def FramesOut (base : Nat) (w : World) (e : Ending) (b : List UInt8) : Prop :=
  (frames b = none ∧ e = .returned (.tuple #[.slice none 0 0, .slice none 0 0, .int .i64 4])) ∨
  ∃ lv rv vs ls r, frames b = some (ls, r) ∧ e = .returned (.tuple #[lv, rv, .int .i64 0]) ∧ Own EBB base w lv vs ∧ RowsOwn base w vs ls ∧ Rest base w rv r
/-- .. and each row, and the rest, lie in blocks of their own -/
def FramesOutS (base : Nat) (w : World) (e : Ending) (b : List UInt8) : Prop :=
  (frames b = none ∧ e = .returned (.tuple #[.slice none 0 0, .slice none 0 0, .int .i64 4])) ∨
  ∃ lv rv vs ls r, frames b = some (ls, r) ∧ e = .returned (.tuple #[lv, rv, .int .i64 0]) ∧ Own EBB base w lv vs ∧ RowsOwn base w vs ls ∧ Rest base w rv r ∧ Dist vs ∧ ∃ m, (∀ k, rv.ownBlock = some k → k < m) ∧ ∀ b, SS vs b → m ≤ b
theorem FramesOutS.out {base : Nat} {w : World} {e : Ending} {b : List UInt8} (h : FramesOutS base w e b) : FramesOut base w e b := by
  rcases h with h | ⟨lv, rv, vs, ls, r, h1, h2, h3, h4, h5, _⟩
  · exact .inl h
  · exact .inr ⟨lv, rv, vs, ls, r, h1, h2, h3, h4, h5⟩
theorem dist_push {vs : List SV} {s : SV} {B : Nat} (h : Dist vs) (hv : ∀ b, SS vs b → b < B) (hs : ∀ b, s.1.ownBlock = some b → B ≤ b) : Dist (vs ++ [s]) := by
  intro i j u v hi hj hij b hu hv'
  have one : ∀ (i : Nat) (u : SV), (vs ++ [s])[i]? = some u → (i < vs.length ∧ vs[i]? = some u) ∨ (i = vs.length ∧ u = s) := fun i u h => by
    by_cases hi : i < vs.length
    · rw [List.getElem?_append_left hi] at h; exact .inl ⟨hi, h⟩
    · rw [List.getElem?_append_right (by omega)] at h
      by_cases h0 : i - vs.length = 0
      · rw [h0] at h
        obtain rfl : s = u := by simpa using h
        exact .inr ⟨by omega, rfl⟩
      · rw [List.getElem?_eq_none (by simp; omega)] at h; cases h
  rcases one i u hi with ⟨h1, h2⟩ | ⟨h1, rfl⟩ <;> rcases one j v hj with ⟨h3, h4⟩ | ⟨h3, rfl⟩
  · exact h i j u v h2 h4 hij b hu hv'
  · have := hv b ⟨i, u, h2, hu⟩; have := hs b hv'; omega
  · have := hv b ⟨j, v, h4, hv'⟩; have := hs b hu; omega
  · omega
theorem ss_push {vs : List SV} {s : SV} {b : Nat} (h : SS (vs ++ [s]) b) : SS vs b ∨ s.1.ownBlock = some b := by
  obtain ⟨i, u, hi, hb⟩ := h
  by_cases hl : i < vs.length
  · rw [List.getElem?_append_left hl] at hi; exact .inl ⟨i, u, hi, hb⟩
  · rw [List.getElem?_append_right (by omega)] at hi
    by_cases h0 : i - vs.length = 0
    · rw [h0] at hi
      obtain rfl : s = u := by simpa using hi
      exact .inr hb
    · rw [List.getElem?_eq_none (by simp; omega)] at hi; cases hi
theorem RowsOwn.lt {base : Nat} {w : World} {vs : List SV} {ls : List (List UInt8)} (h : RowsOwn base w vs ls) : ∀ b, SS vs b → base ≤ b ∧ b < w.heap.size := by
  rintro b ⟨k, s, hk, hb⟩
  obtain ⟨l, hl⟩ : ∃ l, ls[k]? = some l := ⟨_, List.getElem?_eq_getElem (by rw [← h.len]; exact (List.getElem?_eq_some_iff.1 hk).1)⟩
  obtain ⟨h1, cur, hc⟩ := (h.row k s l hk hl).block b hb
  exact ⟨h1, Agg.heap_lt hc⟩
set_option maxRecDepth 100000 in
set_option maxHeartbeats 2000000 in
theorem framesS_any (x : Value) (b : List UInt8) (w : World) (hb : b.length ≤ 16777216) (hx : BytesAt w x b) :
    Calls Tryz.prog 35 #[x] w fun e w' => FramesOutS w.heap.size w' e b ∧ Below w.heap.size w w' := by
  have HX := Lib.hid hx
  clear hx
  go_enter Tryz.func35, Tryz.ntmps35
  go_wp2_with fail
  refine (sclone_any x b w (by omega) HX.out).mono ?_
  rintro e w1 ⟨v1, rfl, ho1, hx1⟩
  have HR1 := Lib.hid (Rest.of_own ho1)
  have HK1 := Lib.hid (Rest.of_own ho1).block
  have HX1 := Lib.hid hx1
  clear ho1 hx1
  go_wp2_with fail
  go_loopw [2, 3] (fun lv rv wr => ∃ vs ls r, Own EBB w.heap.size wr lv vs ∧ RowsOwn w.heap.size wr vs ls ∧ Rest w.heap.size wr rv r ∧ frames b = (frames r).map (fun p => (ls ++ p.1, p.2)) ∧ r.length ≤ b.length ∧ ls.length + r.length ≤ b.length ∧ Below w.heap.size w wr ∧ Dist vs ∧ (∀ k, rv.ownBlock = some k → k < w1.heap.size) ∧ (∀ k, SS vs k → w1.heap.size ≤ k) ∧ w1.heap.size ≤ wr.heap.size) (fun _ rv _ => lenOf rv)
  case atStart => exact ⟨[], [], b, Own.nil _ _ _, ⟨rfl, fun k s l h => by simp at h⟩, HR1.out, by cases frames b <;> simp, by omega, by simp, HX1.out, fun i j u v hi => by simp at hi, fun k hk => (HK1.out k hk).2, fun k h => by obtain ⟨i, u, hi, _⟩ := h; simp at hi, Nat.le_refl _⟩
  case round =>
    obtain ⟨w2, rfl⟩ : ∃ w2 : World, w2 = wr := ⟨_, rfl⟩
    obtain ⟨vs, ls, r, ho, hro, hre, hf, hrl, hll, hw, hdi, hrk0, hsk0, hw12⟩ := hrel
    have HDI := Lib.hid hdi
    have HRK := Lib.hid hrk0
    have HSK := Lib.hid hsk0
    clear hdi hrk0 hsk0
    have HO := Lib.hid ho
    have HRO := Lib.hid hro
    have HRE := Lib.hid hre
    have HF := Lib.hid hf
    have HW := Lib.hid hw
    have hlr := fun W => bytes_len hre.slice W
    have hbt := beg_three r
    have hbm := beg_most r
    have hbl := beg_le r
    clear ho hro hre hf hw
    go_wp2_with fail
    refine (begin_any _ r w2 (by omega) HRE.out.slice HRE.out.cap).mono ?_
    rintro e w3 ⟨rfl, rfl⟩
    obtain ⟨many, hmany⟩ : ∃ m, (beg r).1 = m := ⟨_, rfl⟩
    obtain ⟨n, hn⟩ : ∃ m, (beg r).2 = m := ⟨_, rfl⟩
    rw [hmany] at hbt hbl
    rw [hn] at hbm
    have HMY := Lib.hid hmany
    have HNN := Lib.hid hn
    rw [hmany, hn]
    clear hmany hn
    by_cases hneg : many < 0
    · have hf : frames b = none := by rw [HF.out, frames_wrong (by rw [HMY.out]; exact hneg)]; rfl
      have HF2 := Lib.hid hf
      clear hf
      go_wp2_with fail
      go_ret3
      exact ⟨.inl ⟨HF2.out, rfl⟩, HW.out⟩
    · by_cases hend : many = 0 ∨ r.length < many.toNat + n
      · have hf : frames b = some (ls, r) := by rw [HF.out, frames_end (by rw [HMY.out]; exact hneg) (by rw [HMY.out, HNN.out]; exact hend)]; simp
        have HF2 := Lib.hid hf
        clear hf
        by_cases h0 : many = 0
        · have hq : (many == 0) = true := by simp [h0]
          clear hend
          have H0 := Lib.hid h0
          clear h0
          go_wp2_with fail
          go_ret3
          exact ⟨.inr ⟨_, _, vs, ls, r, HF2.out, rfl, HO.out, HRO.out, HRE.out, HDI.out, _, HRK.out, HSK.out⟩, HW.out⟩
        · have hq : (many == 0) = false := by simp [h0]
          have hI : (r.length : Int) - many < (n : Int) := by omega
          clear hend h0
          go_wp2_with fail
          go_ret3
          exact ⟨.inr ⟨_, _, vs, ls, r, HF2.out, rfl, HO.out, HRO.out, HRE.out, HDI.out, _, HRK.out, HSK.out⟩, HW.out⟩
      · have h0 : ¬ many = 0 := fun h => hend (.inl h)
        have hle : many.toNat + n ≤ r.length := by omega
        have hq : (many == 0) = false := by simp [h0]
        have hI : ¬ (r.length : Int) - many < (n : Int) := by omega
        obtain ⟨k, rfl⟩ : ∃ k : Nat, many = (k : Int) := ⟨many.toNat, by omega⟩
        have hre := HRE.out
        rcases hre with ⟨_, hr0⟩ | ⟨g, off, cap, cs, rfl, hcap, hgb, hblk, _, hcs⟩
        · subst hr0; simp at hle; omega
        · clear hend
          have hkr : k ≤ r.length := by omega
          have hk1 : 1 ≤ k := by omega
          have hfr : frames r = (frames (r.drop (k + n))).map fun x => ((r.drop k).take n :: x.1, x.2) := by
            have h1 := frames_step (b := r) (by rw [HMY.out]; omega) (by rw [HMY.out, HNN.out]; omega)
            rw [HMY.out, HNN.out, Int.toNat_natCast] at h1
            exact h1
          have hfb : frames b = (frames (r.drop (k + n))).map (fun p => ((ls ++ [(r.drop k).take n]) ++ p.1, p.2)) := by
            rw [HF.out, hfr]
            cases frames (r.drop (k + n)) <;> simp
          have HFB := Lib.hid hfb
          have hlen1 : ((r.drop k).take n).length ≤ 16777216 := by simp; omega
          have hnc : n ≤ cap - k := by omega
          have hsz := HW.out.size
          have hvl := HRO.out.len
          have h63 : vs.length + 1 ≤ 1099511627776 / 8 := by omega
          have HRD := Lib.hid (HRE.out.drop (k + n) hle)
          have hsl : BytesAt w3 (.slice (some ⟨g, off + k, none⟩) n (cap - k)) ((r.drop k).take n) := by
            have := (HRE.out.drop k hkr).slice
            rw [show r.length - k = (r.drop k).length by simp] at this
            exact sliceOf_taken this n (by simp; omega)
          have HSL := Lib.hid hsl
          clear hfr hfb hcs hblk hsl
          by_cases hck : cap = k
          · subst hck
            obtain rfl : n = 0 := by omega
            have hrk : r.length = cap := by omega
            have HSL := Lib.hid (show BytesAt w3 (.slice (some ⟨g, off, none⟩) 0 0) ((r.drop cap).take 0) from SliceOf.nil _ _ _)
            have HRD := Lib.hid (show Rest w.heap.size w3 (.slice (some ⟨g, off, none⟩) 0 0) (r.drop (cap + 0)) from HRE.out.empty (List.drop_eq_nil_of_le (by omega)))
            have HKR := Lib.hid hrk
            go_wp2_with fail
            refine (sclone_any _ ((r.drop cap).take 0) w3 (by omega) HSL.out).mono ?_
            rintro e w4 ⟨v4, rfl, ho4, hx4⟩
            obtain ⟨s4, rfl⟩ : ∃ s : SV, v4 = s.1 := by
              obtain ⟨p, c, h⟩ := ho4.slice.form
              exact ⟨⟨v4, p, _, c, h⟩, rfl⟩
            have HO4 := Lib.hid (HO.out.below hx4)
            have HS4 := Lib.hid (ho4.lower hsz)
            have HDI4 := Lib.hid (dist_push HDI.out (fun k hk => (HRO.out.lt k hk).2) (fun k hk => (ho4.block k hk).1))
            have HSK4 := Lib.hid (fun k (hk : SS (vs ++ [s4]) k) => (ss_push hk).elim (HSK.out k) (fun h => Nat.le_trans hw12 (ho4.block k h).1))
            have HRO4 := Lib.hid (HRO.out.below hx4)
            have HRD4 := Lib.hid (HRD.out.below hx4)
            have hw4 := Agg.belowThen HW.out (Nat.le_refl _) hx4
            have HW4 := Lib.hid hw4
            have hsz4 := hw4.size
            have hx34 := hx4.size
            clear ho4 hx4 hw4
            go_wp2_with (first | (refine Agg.wpList_push (E := EBB) (base := w.heap.size) rfl rfl 36 rfl _ rfl _ rfl s4 rfl (fun _ => rfl) (by simp) HO4.out h63 (by decide) hsz4 ?_; intro u5 v5 w5 ho5 hp5; have HO5 := Lib.hid ho5; have HRO5 := Lib.hid ((HRO4.out.push HS4.out).pushed hp5); have HRD5 := Lib.hid (HRD4.out.pushed hp5); have HW5 := Lib.hid (HW4.out.trans (hp5.below w.heap.size (Nat.le_refl _) hsz4)); have HP5S := Lib.hid hp5.size; clear ho5 hp5))
            go_roundw
            case rel => exact ⟨vs ++ [s4], ls ++ [(r.drop cap).take 0], r.drop (cap + 0), HO5.out, HRO5.out, HRD5.out, HFB.out, by simp; omega, by simp; omega, HW5.out, HDI4.out, fun k hk => HRK.out k hk, HSK4.out, Nat.le_trans (Nat.le_trans hw12 hx34) HP5S.out⟩
            case measure => simp [lenOf]; omega
          · by_cases hcn : cap = k + n
            · have hrk : r.length = k + n := by omega
              have HSL := Lib.hid (show BytesAt w3 (.slice (some ⟨g, off + k, none⟩) n n) ((r.drop k).take n) by have := HSL.out; rwa [show cap - k = n by omega] at this)
              have HRD := Lib.hid (show Rest w.heap.size w3 (.slice (some ⟨g, off, none⟩) 0 0) (r.drop (k + n)) from HRE.out.empty (List.drop_eq_nil_of_le (by omega)))
              go_wp2_with fail
              refine (sclone_any _ ((r.drop k).take n) w3 (by omega) HSL.out).mono ?_
              rintro e w4 ⟨v4, rfl, ho4, hx4⟩
              obtain ⟨s4, rfl⟩ : ∃ s : SV, v4 = s.1 := by
                obtain ⟨p, c, h⟩ := ho4.slice.form
                exact ⟨⟨v4, p, _, c, h⟩, rfl⟩
              have HO4 := Lib.hid (HO.out.below hx4)
              have HS4 := Lib.hid (ho4.lower hsz)
              have HDI4 := Lib.hid (dist_push HDI.out (fun k hk => (HRO.out.lt k hk).2) (fun k hk => (ho4.block k hk).1))
              have HSK4 := Lib.hid (fun k (hk : SS (vs ++ [s4]) k) => (ss_push hk).elim (HSK.out k) (fun h => Nat.le_trans hw12 (ho4.block k h).1))
              have HRO4 := Lib.hid (HRO.out.below hx4)
              have HRD4 := Lib.hid (HRD.out.below hx4)
              have hw4 := Agg.belowThen HW.out (Nat.le_refl _) hx4
              have HW4 := Lib.hid hw4
              have hsz4 := hw4.size
              have hx34 := hx4.size
              clear ho4 hx4 hw4
              go_wp2_with (first | (refine Agg.wpList_push (E := EBB) (base := w.heap.size) rfl rfl 36 rfl _ rfl _ rfl s4 rfl (fun _ => rfl) (by simp) HO4.out h63 (by decide) hsz4 ?_; intro u5 v5 w5 ho5 hp5; have HO5 := Lib.hid ho5; have HRO5 := Lib.hid ((HRO4.out.push HS4.out).pushed hp5); have HRD5 := Lib.hid (HRD4.out.pushed hp5); have HW5 := Lib.hid (HW4.out.trans (hp5.below w.heap.size (Nat.le_refl _) hsz4)); have HP5S := Lib.hid hp5.size; clear ho5 hp5))
              go_roundw
              case rel => exact ⟨vs ++ [s4], ls ++ [(r.drop k).take n], r.drop (k + n), HO5.out, HRO5.out, by rw [Nat.sub_self]; exact HRD5.out, HFB.out, by simp; omega, by simp; omega, HW5.out, HDI4.out, fun k hk => HRK.out k hk, HSK4.out, Nat.le_trans (Nat.le_trans hw12 hx34) HP5S.out⟩
              case measure => simp [lenOf]; omega
            · skip
              go_wp2_with fail
              refine (sclone_any _ ((r.drop k).take n) w3 (by omega) HSL.out).mono ?_
              rintro e w4 ⟨v4, rfl, ho4, hx4⟩
              obtain ⟨s4, rfl⟩ : ∃ s : SV, v4 = s.1 := by
                obtain ⟨p, c, h⟩ := ho4.slice.form
                exact ⟨⟨v4, p, _, c, h⟩, rfl⟩
              have HO4 := Lib.hid (HO.out.below hx4)
              have HS4 := Lib.hid (ho4.lower hsz)
              have HDI4 := Lib.hid (dist_push HDI.out (fun k hk => (HRO.out.lt k hk).2) (fun k hk => (ho4.block k hk).1))
              have HSK4 := Lib.hid (fun k (hk : SS (vs ++ [s4]) k) => (ss_push hk).elim (HSK.out k) (fun h => Nat.le_trans hw12 (ho4.block k h).1))
              have HRO4 := Lib.hid (HRO.out.below hx4)
              have HRD4 := Lib.hid (HRD.out.below hx4)
              have hw4 := Agg.belowThen HW.out (Nat.le_refl _) hx4
              have HW4 := Lib.hid hw4
              have hsz4 := hw4.size
              have hx34 := hx4.size
              clear ho4 hx4 hw4
              go_wp2_with (first | (refine Agg.wpList_push (E := EBB) (base := w.heap.size) rfl rfl 36 rfl _ rfl _ rfl s4 rfl (fun _ => rfl) (by simp) HO4.out h63 (by decide) hsz4 ?_; intro u5 v5 w5 ho5 hp5; have HO5 := Lib.hid ho5; have HRO5 := Lib.hid ((HRO4.out.push HS4.out).pushed hp5); have HRD5 := Lib.hid (HRD4.out.pushed hp5); have HW5 := Lib.hid (HW4.out.trans (hp5.below w.heap.size (Nat.le_refl _) hsz4)); have HP5S := Lib.hid hp5.size; clear ho5 hp5))
              go_roundw
              case rel => exact ⟨vs ++ [s4], ls ++ [(r.drop k).take n], r.drop (k + n), HO5.out, HRO5.out, HRD5.out, HFB.out, by simp; omega, by simp; omega, HW5.out, HDI4.out, fun k hk => HRK.out k hk, HSK4.out, Nat.le_trans (Nat.le_trans hw12 hx34) HP5S.out⟩
              case measure => simp [lenOf]; omega
theorem frames_any (x : Value) (b : List UInt8) (w : World) (hb : b.length ≤ 16777216) (hx : BytesAt w x b) :
    Calls Tryz.prog 35 #[x] w fun e w' => FramesOut w.heap.size w' e b ∧ Below w.heap.size w w' :=
  (framesS_any x b w hb hx).mono fun _ _ ⟨h, hb⟩ => ⟨h.out, hb⟩
end Go.Proofs.YtpnolgliklmnmaaGreat
/-! Small facts about numbers. -/
namespace Go.Proofs.YtpnolgliklmnmaaGreat
open Go.RowKit Pl
theorem ret_num {k : IntKind} {a b : Int} (h : a = b) : Ending.returned (.int k a) = .returned (.int k b) := by rw [h]
/-- 'within', under a name -/
def wi (c lo hi : Int) : Bool := decide (lo ≤ c) && decide (c ≤ hi)
theorem u8_lt (c : UInt8) : (c.toNat : Int) < 256 := by have := c.toNat_lt; omega
end Go.Proofs.YtpnolgliklmnmaaGreat
/-! base.sign: whether a rune may stand in a name. -/
namespace Go.Proofs.YtpnolgliklmnmaaGreat
open Go.RowKit Pl
theorem ret_bool {a b : Bool} (h : a = b) : Ending.returned (.bool a) = .returned (.bool b) := by rw [h]
/-- 'small', under a name -/
def smallN (r : Nat) : Nat := r ||| 32
theorem small_eq (r : Nat) (h : r < 128) : bits .or .i32 (r : Int) 32 = ((smallN r : Nat) : Int) := by
  unfold smallN
  have : ∀ r : Nat, r < 128 → bits .or .i32 (r : Int) 32 = ((r ||| 32 : Nat) : Int) := by decide +kernel
  exact this r h
theorem index_eq (r : Nat) (h : r < 128) : Lib.indexByte [46, 95, 43, 45] (r : Int).toNat.toUInt8 = (if r = 46 then 0 else if r = 95 then 1 else if r = 43 then 2 else if r = 45 then 3 else -1 : Int) := by
  have : ∀ r : Nat, r < 128 → Lib.indexByte [46, 95, 43, 45] (r : Int).toNat.toUInt8 = (if r = 46 then 0 else if r = 95 then 1 else if r = 43 then 2 else if r = 45 then 3 else -1 : Int) := by decide +kernel
  exact this r h
/-- the place in the four, under a name -/
def placeN (r : Nat) : Int := if r = 46 then 0 else if r = 95 then 1 else if r = 43 then 2 else if r = 45 then 3 else -1
theorem index_any (r : Int) (h0 : 0 ≤ r) (h : r < 128) (w : World) : Calls Tryz.prog 129 #[.string ⟨#[46, 95, 43, 45]⟩, .int .u8 r] w fun e w' => e = .returned (.int .i64 (placeN r.toNat)) ∧ w = w' := by
  obtain ⟨n, rfl⟩ := Int.eq_ofNat_of_zero_le h0
  refine (Tryz.strings_IndexByte _ _ _).mono ?_
  rintro e w' ⟨rfl, rfl⟩
  refine ⟨ret_num ?_, rfl⟩
  exact index_eq n (by omega)
theorem signN_eq (r : Nat) : signN r = ((decide (65 ≤ r) && decide (97 ≤ smallN r) && decide (smallN r ≤ 122)) || (decide (48 ≤ r) && decide (r ≤ 57)) || decide (0 ≤ placeN r)) := rfl
set_option maxRecDepth 100000 in
set_option maxHeartbeats 1000000 in
theorem sign_low (r : Nat) (h : r < 128) (w : World) :
    Calls Tryz.prog 93 #[.int .i32 (r : Int)] w fun e w' => e = .returned (.bool (signN r)) ∧ w = w' := by
  have hs := small_eq r h
  have h' : (r : Int) < 128 := by omega
  go_enter Tryz.func93, Tryz.ntmps93
  go_wp2_with (go_at_call 129; refine (index_any _ (by omega) (by omega) _).mono ?_; rintro e w' ⟨rfl, rfl⟩)
  all_goals go_ret
  all_goals refine ⟨?_, rfl⟩
  all_goals exact ret_bool (by rw [signN_eq, Bool.eq_iff_iff]; simp only [Bool.or_eq_true, Bool.and_eq_true, decide_eq_true_eq, true_iff]; omega)
set_option maxRecDepth 100000 in
theorem sign_high (r : Int) (h : 128 ≤ r) (w : World) :
    Calls Tryz.prog 93 #[.int .i32 r] w fun e w' => e = .returned (.bool false) ∧ w = w' := by
  have hd : decide (r < 128) = false := by simp; omega
  go_enter Tryz.func93, Tryz.ntmps93
  go_wp2_with fail
  go_ret
  exact ⟨rfl, rfl⟩
/-- base.sign at any rune -/
def signR (r : Int) : Bool := if r < 128 then signN r.toNat else false
theorem sign_any (r : Int) (h : 0 ≤ r) (w : World) :
    Calls Tryz.prog 93 #[.int .i32 r] w fun e w' => e = .returned (.bool (signR r)) ∧ w = w' := by
  unfold signR
  by_cases h3 : r < 128
  · rw [if_pos h3]
    obtain ⟨n, rfl⟩ := Int.eq_ofNat_of_zero_le h
    exact sign_low n (by omega) w
  · rw [if_neg h3]
    exact sign_high r (by omega) w
end Go.Proofs.YtpnolgliklmnmaaGreat
