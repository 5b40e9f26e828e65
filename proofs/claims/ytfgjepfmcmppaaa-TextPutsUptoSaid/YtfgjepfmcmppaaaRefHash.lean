/- spenceref03.Hash: the same answer as base.Hash. -/
import Derived.Test.YtfgjepfmcmppaaaHash
namespace Go.Proofs.Ytfgjepfmcmppaaa
open Go.RowKit Pl Go.Mp
set_option maxRecDepth 100000 in
set_option maxHeartbeats 1000000 in
theorem refHash_long (s : List UInt8) (hl : s.length ≠ 32) (w : World) :
    Calls Try.prog 24 #[.string ⟨s.toArray⟩] w fun e w' => e = .returned (.tuple #[.agg (hC z20), .int .i64 4]) ∧ Below w.heap.size w w' := by
  have hsz := Agg.bytes_size s
  have hlen : ∀ w, (Builtin.len_ #[9] 3 #[.string ⟨s.toArray⟩]).run Try.prog w = .ok (.int .i64 (s.length : Int)) w := fun w => by rw [run_len_string w 9 3 _ Try.underlying9, hsz]; rfl
  clear hsz
  have hd : ((s.length : Int) != 32) = true := by rw [bne_iff_ne]; omega
  have hb := heap_alloc2_old w (.cells (hC z20) 38) (.cells (hC z20) 38)
  have hb2 := heap_alloc2_new w (.cells (hC z20) 38) (.cells (hC z20) 38)
  go_enter Try.func24, Try.ntmps24
  go_wp2_with (first | (with_reducible refine Agg.wpList_alloc_row rfl 38 rfl (hC z20) z20_zero ?_; simp only [World.size_alloc]) | (with_reducible refine wpList_load_row rfl 38 _ rfl (w.heap.size + 1) rfl 38 (hC z20) (0, 0) (.array 20 5) hb2 Try.underlying38 rfl (hC_info _ z20_length) ?_) | (with_reducible refine Agg.wpList_set_row rfl rfl 38 _ _ rfl w.heap.size (hC z20) rfl rfl 38 (hC z20) hb (hC_info _ z20_length) rfl (hC_one _) ?_))
  exact Agg.post_row_tmp rfl rfl rfl (setRow_heap _ _ _ _ _ _ hb) Try.underlying38 rfl (hC_info _ z20_length) rfl ⟨rfl, Agg.below_setRow (((Below.refl _ _).alloc (Nat.le_refl _) _).alloc (by simp) _) (Nat.le_refl _)⟩
theorem valI_some {c : UInt8} {n : Nat} (h : val c = some n) : valI c = n := by simp [valI, h]
theorem valI_none {c : UInt8} (h : val c = none) : valI c = -1 := by simp [valI, h]
theorem hC_at? (h : List UInt8) (i : Nat) : (hC h)[i]? = (h[i]?).map fun c => Value.int .u8 (c.toNat : Int) := by simp [hC, Lib.byteCells]
theorem byte_add (c : UInt8) (X r : Nat) (hX : X < 256) (hc : c = UInt8.ofNat X) : ((UInt8.ofNat (X + 2 ^ r)).toNat : Int) = ((c.toNat : Int) + 2 ^ r) % 256 := by
  subst hc
  simp [UInt8.toNat_ofNat', Nat.mod_eq_of_lt hX]
theorem tbit (n q : Nat) : ((n : Int) / 2 ^ q).tmod 2 = ((n / 2 ^ q % 2 : Nat) : Int) := by
  have e : (n : Int) / 2 ^ q = ((n / 2 ^ q : Nat) : Int) := by simp
  rw [e, Int.tmod_eq_emod_of_nonneg (Int.natCast_nonneg _)]
  simp
theorem tbit_yes (n q : Nat) (h : n / 2 ^ q % 2 = 1) : (((n : Int) / 2 ^ q).tmod 2 == 1) = true := by rw [tbit, h]; rfl
theorem tbit_no (n q : Nat) (h : n / 2 ^ q % 2 = 0) : (((n : Int) / 2 ^ q).tmod 2 == 1) = false := by rw [tbit, h]; rfl
set_option maxRecDepth 100000 in
set_option maxHeartbeats 1000000 in
theorem refHash_32 (s : List UInt8) (hl : s.length = 32) (w : World) :
    Calls Try.prog 24 #[.string ⟨s.toArray⟩] w fun e w' => e = .returned (.tuple #[.agg (hC (hashH s)), .int .i64 (hashE s)]) ∧ Below w.heap.size w w' := by
  have hsz := Agg.bytes_size s
  have hlen : ∀ w, (Builtin.len_ #[9] 3 #[.string ⟨s.toArray⟩]).run Try.prog w = .ok (.int .i64 32) w := fun w => by rw [run_len_string w 9 3 _ Try.underlying9, hsz, hl]; rfl
  clear hsz
  have HL := Lib.hid hl
  clear hl
  have hb := heap_alloc2_old w (.cells (hC z20) 38) (.cells (hC z20) 38)
  have hb2 := heap_alloc2_new w (.cells (hC z20) 38) (.cells (hC z20) 38)
  go_enter Try.func24, Try.ntmps24
  go_wp2_with (first | (with_reducible refine Agg.wpList_alloc_row rfl 38 rfl (hC z20) z20_zero ?_; simp only [World.size_alloc]))
  clear hlen
  go_loopw [5] (fun i wr => ∃ (k : Nat) (l : List Nat), i = .int .i64 (k : Int) ∧ k ≤ 32 ∧ (s.take k).mapM val = some l ∧ wr.heap[w.heap.size]? = some (.cells (hC z20) 38 (0, 0)) ∧ wr.heap[w.heap.size + 1]? = some (.cells (hC (hN (lnum l))) 38 (0, 0)) ∧ Below w.heap.size w wr)
    (fun i _ => 32 - (intOf i).toNat)
  case atStart => exact ⟨0, [], rfl, by omega, rfl, hb, hb2, ((Below.refl _ _).alloc (Nat.le_refl _) _).alloc (by simp) _⟩
  case round =>
    obtain ⟨k, l, rfl, hk, hl, hb, hb2, hw⟩ := hrel
    have HLL := Lib.hid hl
    clear hl
    by_cases hlt : k < 32
    · have hd : decide ((k : Int) < 32) = true := by simp; omega
      have hks : k < s.length := by rw [HL.out]; exact hlt
      have hix := fun w => Agg.run_index_str (P := Try.prog) (k := .i64) (c := s[k]) w Try.underlying9 (List.getElem?_eq_getElem hks)
      cases hv : val s[k] with
      | none =>
        have hh : hashH s = z20 ∧ hashE s = 4 := by
          have : Pl.hash s = none := by unfold Pl.hash; rw [if_pos HL.out, mapM_none k hks hv]; rfl
          simp [hashH, hashE, this]
        have HH := Lib.hid hh
        clear hh
        go_wp2_with (first | (go_at_call 52; refine (value_any _ _).mono ?_; rintro e w' ⟨rfl, rfl⟩; rw [valI_none hv]) | (with_reducible refine Agg.wpList_build_zero rfl 38 rfl (.agg (hC z20)) build_zero ?_) | (with_reducible refine Agg.wpList_set_row rfl rfl 38 _ _ rfl w.heap.size (hC z20) rfl rfl 38 _ hb (hC_info _ z20_length) rfl (hC_one _) ?_))
        exact Agg.post_row_tmp rfl rfl rfl (setRow_heap _ _ _ _ _ _ hb) Try.underlying38 rfl (hC_info _ z20_length) rfl ⟨by rw [HH.out.1, HH.out.2]; rfl, Agg.below_setRow hw (Nat.le_refl _)⟩
      | some n =>
        have hn32 := val_lt hv
        have hl2 := mapM_take k hks HLL.out hv
        obtain ⟨hls, hlb, hll⟩ := mapM_val HLL.out
        have hll' : l.length = k := by rw [hll, List.length_take, HL.out]; omega
        have HX := Lib.hid (And.intro hl2 (And.intro hlb hll'))
        have HV := Lib.hid hv
        clear hl2 hls hlb hll hll' hv
        have hdn : decide ((n : Int) < 0) = false := by simp
        go_wp2_with (first | (go_at_call 52; refine (value_any _ _).mono ?_; rintro e w' ⟨rfl, rfl⟩; rw [valI_some HV.out]))
        go_loopw [7] (fun j wr => ∃ (q : Nat), j = .int .i64 (q : Int) ∧ q ≤ 5 ∧ wr.heap[w.heap.size]? = some (.cells (hC z20) 38 (0, 0)) ∧ wr.heap[w.heap.size + 1]? = some (.cells (hC (hN (bitNum l k n q))) 38 (0, 0)) ∧ Below w.heap.size w wr)
          (fun j _ => 5 - (intOf j).toNat)
        case atStart => exact ⟨0, rfl, by omega, hb, by rw [bitNum_0]; exact hb2, hw⟩
        case round =>
          obtain ⟨q, rfl, hq, hb, hb2, hw⟩ := hrel
          by_cases hq5 : q < 5
          · obtain ⟨c, hcc⟩ : ∃ c : UInt8, c = UInt8.ofNat (bitNum l k n q / 256 ^ ((5 * k + q) / 8) % 256) := ⟨_, rfl⟩
            have hcell : wr.cell? ⟨w.heap.size + 1, (5 * k + q) / 8, none⟩ = some (.int .u8 (c.toNat : Int)) := by
              rw [cell_of_row _ _ _ _ _ _ hb2, hC_at?, hN_at _ _ (by omega), hcc]; rfl
            have hfr : wr.frozen? ⟨w.heap.size + 1, (5 * k + q) / 8, none⟩ = false := frozen_of_row _ _ _ _ _ hb2
            have hc0 := u8_lt c
            have HC := Lib.hid hcc
            clear hcc
            by_cases hbit : n / 2 ^ q % 2 = 1
            · have e1 := tbit_yes n q hbit
              have HB := Lib.hid hbit
              clear hbit
              go_wp2_with fail
              go_region
              go_wp2_with fail
              go_roundw
              case rel =>
                have hP := bitNum_lt l k n q (by have := lnum_lt l HX.out.2.1; rwa [HX.out.2.2] at this)
                have h8 := hN_bit _ _ (by omega) hP
                rw [← bitNum_yes _ _ _ _ HB.out] at h8
                have hb3 := heap_setCell_same wr (w.heap.size + 1) ((5 * k + q) / 8) _ _ (.int .u8 ((UInt8.ofNat (bitNum l k n q / 256 ^ ((5 * k + q) / 8) % 256 + 2 ^ ((5 * k + q) % 8))).toNat : Int)) hb2
                rw [hC_set, ← h8, byte_add c _ _ (Nat.mod_lt _ (by omega)) HC.out] at hb3
                exact ⟨q + 1, by go_num, by omega, (heap_setCell_other _ _ _ _ (by simp)).trans hb, hb3, (hw.setCell (p := ⟨w.heap.size + 1, (5 * k + q) / 8, none⟩) (by simp) _).drew⟩
              case measure => simp [intOf]; omega
            · have hbit : n / 2 ^ q % 2 = 0 := by omega
              have e1 := tbit_no n q hbit
              have HB := Lib.hid hbit
              clear hbit
              go_wp2_with fail
              go_roundw
              case rel => exact ⟨q + 1, by go_num, by omega, hb, by rw [bitNum_no _ _ _ _ HB.out]; exact hb2, hw⟩
              case measure => simp [intOf]; omega
          · obtain rfl : q = 5 := by omega
            go_wp2_with fail
            go_roundw
            case rel => exact ⟨k + 1, l ++ [n], by go_num, by omega, HX.out.1, hb, by
              have := bitNum_5 l n hn32
              rw [HX.out.2.2] at this
              rw [← this]; exact hb2, hw⟩
            case measure => simp [intOf]; omega
    · obtain rfl : k = 32 := by omega
      have hh : hashH s = hN (lnum l) ∧ hashE s = 0 := by
        have h1 := HLL.out
        rw [List.take_of_length_le (by rw [HL.out]; omega)] at h1
        have : Pl.hash s = some (hN (lnum l)) := by unfold Pl.hash; rw [if_pos HL.out, h1]; rfl
        simp [hashH, hashE, this]
      have HH := Lib.hid hh
      clear hh
      go_wp2_with (first | (with_reducible refine wpList_load_row rfl 38 _ rfl (w.heap.size + 1) rfl 38 _ (0, 0) (.array 20 5) hb2 Try.underlying38 rfl (hC_info _ (hN_length _)) ?_) | (with_reducible refine Agg.wpList_set_row rfl rfl 38 _ _ rfl w.heap.size _ rfl rfl 38 _ hb (hC_info _ (hN_length _)) ?hsz (hC_one _) ?_))
      case hsz => rw [hC_size, hC_size, hN_length]; rfl
      exact Agg.post_row_tmp rfl rfl rfl (setRow_heap _ _ _ _ _ _ hb) Try.underlying38 rfl (hC_info _ (hN_length _)) rfl ⟨by rw [HH.out.1, HH.out.2]; rfl, Agg.below_setRow hw (Nat.le_refl _)⟩
end Go.Proofs.Ytfgjepfmcmppaaa
