/- base.values and base.Hash: the hash of letters. -/
import Derived.Test.YtpnolgliklmnmaaName
import Derived.Test.YtpnolgliklmnmaaMaps
namespace Go.Proofs.Ytpnolgliklmnmaa
open Go.RowKit Pl Go.Mp
/-- a range over a text in block b, in whatever world -/
theorem nextAt_low (w : World) (b : Nat) (s : List UInt8) (k : Nat) (ty : TypeId) (hb : w.heap[b]? = some (.stringIter ⟨s.toArray⟩ k)) (hk : k < s.length) (ha : s[k].toNat < 128) :
    (Instr.next (.pointer (some ⟨b, 0, none⟩)) true ty).run Try.prog w = .ok (.tuple #[.bool true, .int .i64 (k : Int), .int .i32 (s[k].toNat : Int)]) (w.iterAt b ⟨s.toArray⟩ (k + 1)) := by
  have hs : k < (⟨s.toArray⟩ : ByteArray).size := by rw [Agg.bytes_size]; exact hk
  have he : (⟨s.toArray⟩ : ByteArray)[k]'hs = s[k] := by simp [ByteArray.getElem_eq_getElem_data]
  have := Lib.run_next_ascii_at (P := Try.prog) w b ⟨s.toArray⟩ k ty hb hs (by rw [he]; exact ha)
  rw [he] at this
  exact this
theorem nextAt_high (w : World) (b : Nat) (s : List UInt8) (k : Nat) (ty : TypeId) (hb : w.heap[b]? = some (.stringIter ⟨s.toArray⟩ k)) (hk : k < s.length) (ha : 128 ≤ s[k].toNat) :
    ∃ (r : Int) (k' : Nat), 128 ≤ r ∧ r ≤ 2147483647 ∧ k < k' ∧ (Instr.next (.pointer (some ⟨b, 0, none⟩)) true ty).run Try.prog w = .ok (.tuple #[.bool true, .int .i64 (k : Int), .int .i32 r]) (w.iterAt b ⟨s.toArray⟩ k') := by
  have hs : k < (⟨s.toArray⟩ : ByteArray).size := by rw [Agg.bytes_size]; exact hk
  have he : (⟨s.toArray⟩ : ByteArray)[k]'hs = s[k] := by simp [ByteArray.getElem_eq_getElem_data]
  obtain ⟨h1, h2⟩ := decode_high ⟨s.toArray⟩ k hs (by rw [he]; exact ha)
  have h3 := decode_le ⟨s.toArray⟩ k
  exact ⟨_, _, by omega, by omega, by omega, Lib.run_next_any_at (P := Try.prog) w b ⟨s.toArray⟩ k ty hb hs⟩
theorem nextAt_end (w : World) (b : Nat) (s : List UInt8) (ty : TypeId) (hb : w.heap[b]? = some (.stringIter ⟨s.toArray⟩ s.length)) :
    (Instr.next (.pointer (some ⟨b, 0, none⟩)) true ty).run Try.prog w = .ok (.tuple #[.bool false]) w :=
  Lib.run_next_end_at (P := Try.prog) w b ⟨s.toArray⟩ s.length ty hb (by rw [Agg.bytes_size]; omega)
/-- runes, numbers as values -/
def rK (n : Int) : Value := .int .i32 n
def nV (n : Nat) : Value := .int .u32 (n : Int)
def vals (k : Nat) : List (Int × Nat) := (List.range k).map fun i => (((letter i).toNat : Int), i)
theorem vals_step : ∀ k, k < 32 → mput (vals k) ((letter k).toNat : Int) k = vals (k + 1) := by decide +kernel
theorem vals_get : ∀ n : Nat, n < 256 → mget (vals 32) (n : Int) = val (UInt8.ofNat n) := by decide +kernel
theorem vals_high (r : Int) (h : 128 ≤ r) : mget (vals 32) r = none := by
  have hk : ∀ p ∈ vals 32, p.1 < 128 := by decide +kernel
  simp only [mget, Option.map_eq_none_iff, List.find?_eq_none, decide_eq_true_eq]
  intro p hp e
  have := hk p hp
  omega
theorem keyR : KeyEq Try.prog 21 rK := int_key Try.underlying21
set_option maxRecDepth 100000 in
set_option maxHeartbeats 400000 in
theorem values_any (w : World) :
    Calls Try.prog 148 #[] w fun e w' => e = .returned (.map (some w.heap.size)) ∧ MapIs w' w.heap.size rK nV (vals 32) ∧ Below w.heap.size w w' := by
  have hmm := @run_makeMap Try.prog
  have hlt : ∀ k, k < 32 → (letter k).toNat < 128 := by decide
  go_enter Try.func148, Try.ntmps148
  go_wp2_with fail
  clear hmm
  go_loopw [2] (fun _ wr => ∃ k : Nat, k ≤ 32 ∧ wr.heap[w.heap.size + 1]? = some (.stringIter ⟨alpha.toArray⟩ k) ∧ MapIs wr w.heap.size rK nV (vals k) ∧ Below w.heap.size w wr)
    (fun _ wr => 32 - wr.iterPos (w.heap.size + 1))
  case atStart => exact ⟨0, by omega, heap_alloc2_new w _ _, ⟨#[], 0, heap_alloc2_old w _ _, rfl⟩, ((Below.refl _ w).alloc (Nat.le_refl _) _).alloc (by simp) _⟩
  case round =>
    obtain ⟨k, hk, hit, hm, hw⟩ := hrel
    by_cases h32 : k < 32
    · have hal : alpha[k]'(by simpa [alpha] using h32) = letter k := by simp [letter, List.getD, List.getElem?_eq_getElem (show k < alpha.length by simpa [alpha] using h32)]
      have hn := nextAt_low wr _ alpha k 0 hit (by simpa [alpha] using h32) (by rw [hal]; exact hlt k h32)
      rw [hal] at hn
      clear hal
      have hm2 : MapIs (wr.iterAt (w.heap.size + 1) ⟨alpha.toArray⟩ (k + 1)) w.heap.size rK nV (vals k) := hm.keep (Lib.iterAt_other _ _ _ _ _ (by omega))
      have hit2 := Lib.iterAt_heap wr (w.heap.size + 1) ⟨alpha.toArray⟩ k (k + 1) hit
      have hw2 := Lib.below_iterAt hw (show w.heap.size ≤ w.heap.size + 1 by omega) ⟨alpha.toArray⟩ (k + 1)
      go_wp2_with (at_mapUpdate; refine Mp.wpList_mapUpdate rfl rfl _ _ _ 262 21 179 rfl Try.underlying262 keyR rfl hm2 ((letter k).toNat : Int) rfl k rfl ?_; intro w1 hm3 hb3)
      rw [vals_step k h32] at hm3
      have hit3 : w1.heap[w.heap.size + 1]? = some (.stringIter ⟨alpha.toArray⟩ (k + 1)) := (hb3.other (by omega)).trans hit2
      go_roundw
      case rel => exact ⟨k + 1, by omega, hit3, hm3, hb3.below hw2 (Nat.le_refl _)⟩
      case measure => simp [World.iterPos, hit, hit3]; omega
    · obtain rfl : k = 32 := by omega
      have hn := nextAt_end wr _ alpha 0 hit
      go_wp2_with fail
      go_ret
      exact ⟨rfl, hm, hw⟩
/-- twenty noughts -/
def z20 : List UInt8 := List.replicate 20 0
theorem z20_zero : (Try.prog.info? 42).map (·.zero) = some (some (.agg (hC z20))) := by kernel_rfl
theorem z20_length : z20.length = 20 := rfl
theorem hC_info (h : List UInt8) (hl : h.length = 20) : (Try.prog.info? 42).map (·.size) = some (hC h).size := by rw [hC_size, hl]; kernel_rfl
theorem hC_one (h : List UInt8) : (hC h).all (·.oneCell') = true := by simp [hC, Lib.byteCells, Value.oneCell']
/-- what base.Hash answers -/
def hashH (s : List UInt8) : List UInt8 := (Pl.hash s).getD z20
def hashE (s : List UInt8) : Int := if (Pl.hash s).isSome then 0 else 4
theorem val_low {c : UInt8} {n : Nat} (h : val c = some n) : c.toNat < 128 := by
  have h1 : ∀ n, n < 32 → (letter n).toNat < 128 := by decide
  have := h1 n (val_lt h)
  rwa [letter_val h] at this
theorem mapM_take {s : List UInt8} (k : Nat) (hk : k < s.length) {l : List Nat} {n : Nat} (hl : (s.take k).mapM val = some l) (hn : val s[k] = some n) : (s.take (k + 1)).mapM val = some (l ++ [n]) := by
  rw [List.take_succ_eq_append_getElem hk, List.mapM_append, hl]
  simp [hn]
theorem mapM_none {s : List UInt8} (k : Nat) (hk : k < s.length) (hn : val s[k] = none) : s.mapM val = none := by
  have : s = s.take k ++ s[k] :: s.drop (k + 1) := by simp
  rw [this, List.mapM_append, List.mapM_cons]
  simp [hn]
set_option maxRecDepth 100000 in
set_option maxHeartbeats 1000000 in
theorem hash_long (s : List UInt8) (hl : s.length ≠ 32) (w : World) :
    Calls Try.prog 131 #[.string ⟨s.toArray⟩] w fun e w' => e = .returned (.tuple #[.agg (hC z20), .int .i64 4]) ∧ Below w.heap.size w w' := by
  have hsz := Agg.bytes_size s
  have hlen : ∀ w, (Builtin.len_ #[9] 3 #[.string ⟨s.toArray⟩]).run Try.prog w = .ok (.int .i64 (s.length : Int)) w := fun w => by rw [run_len_string w 9 3 _ Try.underlying9, hsz]; rfl
  clear hsz
  have hd : ((s.length : Int) != 32) = true := by rw [bne_iff_ne]; omega
  have hb := heap_alloc_new w (.cells (hC z20) 42)
  go_enter Try.func131, Try.ntmps131
  go_wp2_with (first | (with_reducible refine Agg.wpList_alloc_row rfl 42 rfl (hC z20) z20_zero ?_) | (with_reducible refine wpList_load_row rfl 42 _ rfl w.heap.size rfl 42 (hC z20) (0, 0) (.array 20 5) hb Try.underlying42 rfl (hC_info _ z20_length) ?_) | (with_reducible refine Agg.wpList_set_row rfl rfl 42 _ _ rfl w.heap.size (hC z20) rfl rfl 42 (hC z20) hb (hC_info _ z20_length) rfl (hC_one _) ?_))
  exact Agg.post_row_tmp rfl rfl rfl (setRow_heap _ _ _ _ _ _ hb) Try.underlying42 rfl (hC_info _ z20_length) rfl ⟨rfl, Agg.below_setRow ((Below.refl _ _).alloc (Nat.le_refl _) _) (Nat.le_refl _)⟩
theorem zero99 (w : World) : (zeroValue 179).run Try.prog w = .ok (.int .u32 0) w := by kernel_rfl
theorem hC_get (h : List UInt8) (i : Nat) (hi : i < h.length) : (hC h)[i]? = some (.int .u8 (h[i].toNat : Int)) := by simp [hC, Lib.byteCells, hi]
theorem hC_set (h : List UInt8) (i : Nat) (c : UInt8) : (hC h).setIfInBounds i (.int .u8 (c.toNat : Int)) = hC (h.set i c) := by
  apply Array.ext'
  simp [hC, Lib.byteCells, List.map_set]
theorem build_zero (w : World) : (Instr.build 42 #[]).run Try.prog w = .ok (.agg (hC z20)) w := by kernel_rfl
theorem or_disjoint8 (a x m : Nat) (ha : a < 2 ^ m) (hx : x < 32) (hm : m < 8) : bits .or .u32 (a : Int) ((x : Int) * 2 ^ m % 4294967296) = ((a + 2 ^ m * x : Nat) : Int) := by
  have h5 : 2 ^ m ≤ 2 ^ 7 := Nat.pow_le_pow_right (by omega) (by omega)
  have hp : 2 ^ m * x ≤ 2 ^ 7 * 31 := Nat.mul_le_mul h5 (by omega)
  have e : ((x : Int) * 2 ^ m % 4294967296) = ((2 ^ m * x : Nat) : Int) := by
    have : (x : Int) * 2 ^ m = ((2 ^ m * x : Nat) : Int) := by push_cast; exact Int.mul_comm _ _
    rw [this, Int.emod_eq_of_lt (by omega) (by omega)]
  rw [e, u32_or_nat _ _ (by omega) (by omega), Nat.or_comm, ← Nat.two_pow_add_eq_or_of_lt ha, Nat.add_comm]
/-- what lies behind k letters -/
def HashIs (B M I : Nat) (s : List UInt8) (k : Nat) (l : List Nat) (w0 wr : World) : Prop :=
  k ≤ 32 ∧ (s.take k).mapM val = some l ∧ wr.heap[I]? = some (.stringIter ⟨s.toArray⟩ k) ∧ MapIs wr M rK nV (vals 32) ∧ wr.heap[B]? = some (.cells (hC (hashTo (lnum l) k)) 42 (0, 0)) ∧ Below B w0 wr
set_option maxRecDepth 100000 in
set_option maxHeartbeats 1000000 in
theorem hash_32 (s : List UInt8) (hl : s.length = 32) (w : World) :
    Calls Try.prog 131 #[.string ⟨s.toArray⟩] w fun e w' => e = .returned (.tuple #[.agg (hC (hashH s)), .int .i64 (hashE s)]) ∧ Below w.heap.size w w' := by
  have hsz := Agg.bytes_size s
  have hlen : ∀ w, (Builtin.len_ #[9] 3 #[.string ⟨s.toArray⟩]).run Try.prog w = .ok (.int .i64 32) w := fun w => by rw [run_len_string w 9 3 _ Try.underlying9, hsz, hl]; rfl
  clear hsz
  have HL := Lib.hid hl
  clear hl
  have hb := heap_alloc_new w (.cells (hC z20) 42)
  go_enter Try.func131, Try.ntmps131
  go_wp2_with (first | (with_reducible refine Agg.wpList_alloc_row rfl 42 rfl (hC z20) z20_zero ?_) | (go_at_call 148; refine (values_any _).mono ?_; rintro e w1 ⟨rfl, hm1, hw1⟩))
  rw [World.size_alloc] at hm1 hw1
  have hb1 := Agg.keep hw1 hb (by omega)
  have hsz1 : w.heap.size + 1 < w1.heap.size := hm1.lt
  clear hlen
  go_loopw [5, 6, 7] (fun c m a wr => ∃ k l, c = .int .u32 (heldB (lnum l) k : Nat) ∧ m = .int .u32 ((5 * k - 8 * (5 * k / 8) : Nat) : Int) ∧ a = .int .i64 ((5 * k / 8 : Nat) : Int) ∧ HashIs w.heap.size (w.heap.size + 1) w1.heap.size s k l w wr)
    (fun _ _ _ wr => 32 - wr.iterPos w1.heap.size)
  case atStart => exact ⟨0, [], rfl, rfl, rfl, by omega, rfl, heap_alloc_new _ _, hm1.keep (heap_alloc_old _ _ hsz1), (heap_alloc_old _ _ (by omega)).trans hb1, ((((Below.refl _ w).alloc (Nat.le_refl _) _).trans (hw1.mono (by omega)))).alloc (by omega) _⟩
  case round =>
    obtain ⟨k, l, rfl, rfl, rfl, hk, hl, hit, hm, hb, hw⟩ := hrel
    have hmm := hl
    have HLL := Lib.hid hl
    clear hl hmm
    by_cases hlt : k < 32
    · have hks : k < s.length := by rw [HL.out]; exact hlt
      by_cases hc : s[k].toNat < 128
      · have hn := nextAt_low wr _ s k 0 hit hks hc
        have hm2 : MapIs (wr.iterAt w1.heap.size ⟨s.toArray⟩ (k + 1)) (w.heap.size + 1) rK nV (vals 32) := hm.keep (Lib.iterAt_other _ _ _ _ _ (by omega))
        have hb2 : (wr.iterAt w1.heap.size ⟨s.toArray⟩ (k + 1)).heap[w.heap.size]? = some (.cells (hC (hashTo (lnum l) k)) 42 (0, 0)) := (Lib.iterAt_other _ _ _ _ _ (by omega)).trans hb
        have hit2 := Lib.iterAt_heap wr w1.heap.size ⟨s.toArray⟩ k (k + 1) hit
        have hw2 := Lib.below_iterAt hw (show w.heap.size ≤ w1.heap.size by omega) ⟨s.toArray⟩ (k + 1)
        have hget := vals_get s[k].toNat s[k].toNat_lt
        rw [UInt8.ofNat_toNat] at hget
        cases hv : val s[k] with
        | none =>
          rw [hv] at hget
          have hh : hashH s = z20 ∧ hashE s = 4 := by
            have : Pl.hash s = none := by unfold Pl.hash; rw [if_pos HL.out, mapM_none k hks hv]; rfl
            simp [hashH, hashE, this]
          have HH := Lib.hid hh
          clear hh
          go_wp2_with (first | (at_lookup; refine Mp.wpList_lookup_miss rfl _ _ 262 21 179 rfl Try.underlying262 keyR zero99 rfl hm2 (s[k].toNat : Int) rfl hget ?_) | (with_reducible refine Agg.wpList_build_zero rfl 42 rfl (.agg (hC z20)) build_zero ?_) | (with_reducible refine Agg.wpList_set_row rfl rfl 42 _ _ rfl w.heap.size (hC z20) rfl rfl 42 _ hb2 (hC_info _ z20_length) ?hsz (hC_one _) ?_))
          case hsz => rw [hC_size, hC_size, hashTo_length _ _ hk]; rfl
          exact Agg.post_row_tmp rfl rfl rfl (setRow_heap _ _ _ _ _ _ hb2) Try.underlying42 rfl (hC_info _ z20_length) rfl ⟨by rw [HH.out.1, HH.out.2]; rfl, Agg.below_setRow hw2 (Nat.le_refl _)⟩
        | some n =>
          rw [hv] at hget
          have hn32 := val_lt hv
          have hl2 := mapM_take k hks HLL.out hv
          obtain ⟨hls, hlb, hll⟩ := mapM_val HLL.out
          have hll' : l.length = k := by rw [hll, List.length_take, HL.out]; omega
          have hheld := heldB_lt (lnum l) k (by have := lnum_lt l hlb; rwa [hll'] at this)
          have eor := or_disjoint8 _ n _ hheld hn32 (by omega)
          have hXb : heldB (lnum l) k + 2 ^ (5 * k - 8 * (5 * k / 8)) * n < 4096 := by
            have h5 : 2 ^ (5 * k - 8 * (5 * k / 8)) ≤ 2 ^ 7 := Nat.pow_le_pow_right (by omega) (by omega)
            have hp : 2 ^ (5 * k - 8 * (5 * k / 8)) * n ≤ 2 ^ 7 * 31 := Nat.mul_le_mul h5 (by omega)
            omega
          have hstep := lnum_snoc l n
          rw [hll'] at hstep
          have HS := Lib.hid (And.intro hl2 hstep)
          obtain ⟨X, hX⟩ : ∃ X, X = heldB (lnum l) k + 2 ^ (5 * k - 8 * (5 * k / 8)) * n := ⟨_, rfl⟩
          rw [← hX] at eor hXb
          have HX := Lib.hid hX
          clear hX hl2 hstep hls hlb hll hll' hheld hv
          have hcell : (wr.iterAt w1.heap.size ⟨s.toArray⟩ (k + 1)).cell? ⟨w.heap.size, 5 * k / 8, none⟩ = some (.int .u8 (((hashTo (lnum l) k)[5 * k / 8]'(by rw [hashTo_length _ _ hk]; omega)).toNat : Int)) := by
            rw [cell_of_row _ _ _ _ _ _ hb2, hC_get _ _ (by rw [hashTo_length _ _ hk]; omega)]
          have hfr : (wr.iterAt w1.heap.size ⟨s.toArray⟩ (k + 1)).frozen? ⟨w.heap.size, 5 * k / 8, none⟩ = false := frozen_of_row _ _ _ _ _ hb2
          generalize hW : wr.iterAt w1.heap.size ⟨s.toArray⟩ (k + 1) = W2 at *
          clear hW
          have hsize : (hashTo (lnum l) k).length = 20 := hashTo_length _ _ hk
          have HZ := Lib.hid hsize
          clear hsize
          by_cases hby : 5 * (k + 1) / 8 = 5 * k / 8 + 1
          · have HB := hashTo_byte (lnum l) k n hlt hby
            rw [← HX.out, ← HS.out.2] at HB
            have HBB := Lib.hid HB
            clear HB
            have hb3 := heap_setCell_same W2 w.heap.size (5 * k / 8) _ _ (.int .u8 ((UInt8.ofNat X).toNat : Int)) hb2
            rw [hC_set, ← HBB.out.1] at hb3
            have e8 : ((UInt8.ofNat X).toNat : Int) = (X : Int) % 256 := by simp [UInt8.toNat_ofNat']
            rw [e8] at hb3
            have hit3 : (W2.setCell ⟨w.heap.size, 5 * k / 8, none⟩ (.int .u8 ((X : Int) % 256))).heap[w1.heap.size]? = some (.stringIter ⟨s.toArray⟩ (k + 1)) := (heap_setCell_other _ _ _ _ (by simp; omega)).trans hit2
            have hm3 : MapIs (W2.setCell ⟨w.heap.size, 5 * k / 8, none⟩ (.int .u8 ((X : Int) % 256))) (w.heap.size + 1) rK nV (vals 32) := hm2.keep (heap_setCell_other _ _ _ _ (by simp))
            have hw3 := hw2.setCell (p := ⟨w.heap.size, 5 * k / 8, none⟩) (Nat.le_refl _) (.int .u8 ((X : Int) % 256))
            clear e8
            go_wp2_with (at_lookup; refine Mp.wpList_lookup_hit rfl _ _ 262 21 179 rfl Try.underlying262 keyR zero99 rfl hm2 (s[k].toNat : Int) rfl n hget ?_; dsimp only [nV])
            go_roundw
            case rel => exact ⟨k + 1, l ++ [n], by rw [HBB.out.2]; go_num, by rw [hby, show 5 * (k + 1) - 8 * (5 * k / 8 + 1) = 5 * k - 8 * (5 * k / 8) + 5 - 8 by omega]; go_num, by rw [hby]; go_num, by omega, HS.out.1, hit3, hm3, hb3, hw3⟩
            case measure => simp [World.iterPos, hit, hit3]; omega
          · have hst : 5 * (k + 1) / 8 = 5 * k / 8 := by omega
            have HB := hashTo_stay (lnum l) k n hst
            rw [← HX.out, ← HS.out.2] at HB
            have HBB := Lib.hid HB
            clear HB
            have HST := Lib.hid hst
            clear hst
            go_wp2_with (at_lookup; refine Mp.wpList_lookup_hit rfl _ _ 262 21 179 rfl Try.underlying262 keyR zero99 rfl hm2 (s[k].toNat : Int) rfl n hget ?_; dsimp only [nV])
            go_roundw
            case rel => exact ⟨k + 1, l ++ [n], by rw [HBB.out.2], by rw [HST.out, show 5 * (k + 1) - 8 * (5 * k / 8) = 5 * k - 8 * (5 * k / 8) + 5 by omega]; go_num, by rw [HST.out]; go_num, by omega, HS.out.1, hit2, hm2, by rw [HBB.out.1]; exact hb2, hw2⟩
            case measure => simp [World.iterPos, hit, hit2]; omega
      · obtain ⟨r, k', hr, hr2, hk', hn⟩ := nextAt_high wr _ s k 0 hit hks (by omega)
        have hm2 : MapIs (wr.iterAt w1.heap.size ⟨s.toArray⟩ k') (w.heap.size + 1) rK nV (vals 32) := hm.keep (Lib.iterAt_other _ _ _ _ _ (by omega))
        have hb2 : (wr.iterAt w1.heap.size ⟨s.toArray⟩ k').heap[w.heap.size]? = some (.cells (hC (hashTo (lnum l) k)) 42 (0, 0)) := (Lib.iterAt_other _ _ _ _ _ (by omega)).trans hb
        have hw2 := Lib.below_iterAt hw (show w.heap.size ≤ w1.heap.size by omega) ⟨s.toArray⟩ k'
        have hget := vals_high r hr
        have hh : hashH s = z20 ∧ hashE s = 4 := by
          have hv : val s[k] = none := by
            cases hv : val s[k] with
            | none => rfl
            | some n => exact absurd (val_low hv) hc
          have : Pl.hash s = none := by unfold Pl.hash; rw [if_pos HL.out, mapM_none k hks hv]; rfl
          simp [hashH, hashE, this]
        have HH := Lib.hid hh
        clear hh
        go_wp2_with (first | (at_lookup; refine Mp.wpList_lookup_miss rfl _ _ 262 21 179 rfl Try.underlying262 keyR zero99 rfl hm2 r rfl hget ?_) | (with_reducible refine Agg.wpList_build_zero rfl 42 rfl (.agg (hC z20)) build_zero ?_) | (with_reducible refine Agg.wpList_set_row rfl rfl 42 _ _ rfl w.heap.size (hC z20) rfl rfl 42 _ hb2 (hC_info _ z20_length) ?hsz (hC_one _) ?_))
        case hsz => rw [hC_size, hC_size, hashTo_length _ _ hk]; rfl
        exact Agg.post_row_tmp rfl rfl rfl (setRow_heap _ _ _ _ _ _ hb2) Try.underlying42 rfl (hC_info _ z20_length) rfl ⟨by rw [HH.out.1, HH.out.2]; rfl, Agg.below_setRow hw2 (Nat.le_refl _)⟩
    · obtain rfl : k = 32 := by omega
      have hn := nextAt_end wr _ s 0 (by rw [HL.out]; exact hit)
      have hh : hashH s = hashTo (lnum l) 32 ∧ hashE s = 0 := by
        have h1 := HLL.out
        rw [List.take_of_length_le (by rw [HL.out]; omega)] at h1
        have : Pl.hash s = some (hashTo (lnum l) 32) := by unfold Pl.hash; rw [if_pos HL.out, h1, hashTo_32]; rfl
        simp [hashH, hashE, this]
      have HH := Lib.hid hh
      clear hh
      have hl20 := hashTo_length (lnum l) 32 (by omega)
      have HZ := Lib.hid hl20
      clear hl20
      go_wp2_with (first | (with_reducible refine wpList_load_row rfl 42 _ rfl w.heap.size rfl 42 _ (0, 0) (.array 20 5) hb Try.underlying42 rfl (hC_info _ HZ.out) ?_) | (with_reducible refine Agg.wpList_set_row rfl rfl 42 _ _ rfl w.heap.size _ rfl rfl 42 _ hb (hC_info _ HZ.out) rfl (hC_one _) ?_))
      exact Agg.post_row_tmp rfl rfl rfl (setRow_heap _ _ _ _ _ _ hb) Try.underlying42 rfl (hC_info _ HZ.out) rfl ⟨by rw [HH.out.1, HH.out.2]; rfl, Agg.below_setRow hw (Nat.le_refl _)⟩
end Go.Proofs.Ytpnolgliklmnmaa
