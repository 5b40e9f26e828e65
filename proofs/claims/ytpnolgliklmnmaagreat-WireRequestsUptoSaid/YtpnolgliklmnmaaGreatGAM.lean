/- A region that draws its order, step by step: each operation that may come up, by its own law. (Several texts in one.) -/
import Derived.Test.YtpnolgliklmnmaaGreatGAL
import Derived.Test.YtpnolgliklmnmaaGreatGAJ
import Derived.Test.YtpnolgliklmnmaaGreatGAD
import Derived.Test.YtpnolgliklmnmaaGreatGAF
import Derived.Deep.MidRow
import Derived.Laws.CopyOwn
import Derived.Deep.RegionHeld3
/-! spenceref03.Hash: the same answer as base.Hash. -/
namespace Go.Proofs.YtpnolgliklmnmaaGreat
open Go.RowKit Pl Go.Mp
set_option maxRecDepth 100000 in
set_option maxHeartbeats 1000000 in
theorem refHash_long (s : List UInt8) (hl : s.length ≠ 32) (w : World) :
    Calls Tryz.prog 128 #[.string ⟨s.toArray⟩] w fun e w' => e = .returned (.tuple #[.agg (hC z20), .int .i64 4]) ∧ Below w.heap.size w w' := by
  have hsz := Agg.bytes_size s
  have hlen : ∀ w, (Builtin.len_ #[9] 3 #[.string ⟨s.toArray⟩]).run Tryz.prog w = .ok (.int .i64 (s.length : Int)) w := fun w => by rw [run_len_string w 9 3 _ Tryz.underlying9, hsz]; rfl
  clear hsz
  have hd : ((s.length : Int) != 32) = true := by rw [bne_iff_ne]; omega
  have hb := heap_alloc2_old w (.cells (hC z20) 25) (.cells (hC z20) 25)
  have hb2 := heap_alloc2_new w (.cells (hC z20) 25) (.cells (hC z20) 25)
  go_enter Tryz.func128, Tryz.ntmps128
  go_wp2_with (first | (with_reducible refine Agg.wpList_alloc_row rfl 25 rfl (hC z20) z20_zero ?_; simp only [World.size_alloc]) | (with_reducible refine wpList_load_row rfl 25 _ rfl (w.heap.size + 1) rfl 25 (hC z20) (0, 0) (.array 20 5) hb2 Tryz.underlying25 rfl (hC_info _ z20_length) ?_) | (with_reducible refine Agg.wpList_set_row rfl rfl 25 _ _ rfl w.heap.size (hC z20) rfl rfl 25 (hC z20) hb (hC_info _ z20_length) rfl (hC_one _) ?_))
  exact Agg.post_row_tmp rfl rfl rfl (setRow_heap _ _ _ _ _ _ hb) Tryz.underlying25 rfl (hC_info _ z20_length) rfl ⟨rfl, Agg.below_setRow (((Below.refl _ _).alloc (Nat.le_refl _) _).alloc (by simp) _) (Nat.le_refl _)⟩
theorem valI_some {c : UInt8} {n : Nat} (h : val c = some n) : valI c = n := by simp [valI, h]
theorem valI_none {c : UInt8} (h : val c = none) : valI c = -1 := by simp [valI, h]
theorem hC_at? (h : List UInt8) (i : Nat) : (hC h)[i]? = (h[i]?).map fun c => Value.int .u8 (c.toNat : Int) := by simp [hC, Lib.byteCells]
theorem byte_add (c : UInt8) (X r : Nat) (hX : X < 256) (hc : c = UInt8.ofNat X) : ((UInt8.ofNat (X + 2 ^ r)).toNat : Int) = ((c.toNat : Int) + 2 ^ r) % 256 := by
  subst hc
  simp [UInt8.toNat_ofNat', Nat.mod_eq_of_lt hX]
theorem tbit (n q : Nat) : ((n : Int) / 2 ^ q).tmod 2 = ((n / 2 ^ q % 2 : Nat) : Int) := by
  have e : (n : Int) / 2 ^ q = ((n / 2 ^ q : Nat) : Int) := by simp
  rw [e, Int.tmod_eq_emod_of_nonneg (Int.natCast_nonneg _)]
  simp
theorem tbit_yes (n q : Nat) (h : n / 2 ^ q % 2 = 1) : (((n : Int) / 2 ^ q).tmod 2 == 1) = true := by rw [tbit, h]; rfl
theorem tbit_no (n q : Nat) (h : n / 2 ^ q % 2 = 0) : (((n : Int) / 2 ^ q).tmod 2 == 1) = false := by rw [tbit, h]; rfl
set_option maxRecDepth 100000 in
set_option maxHeartbeats 1000000 in
theorem refHash_32 (s : List UInt8) (hl : s.length = 32) (w : World) :
    Calls Tryz.prog 128 #[.string ⟨s.toArray⟩] w fun e w' => e = .returned (.tuple #[.agg (hC (hashH s)), .int .i64 (hashE s)]) ∧ Below w.heap.size w w' := by
  have hsz := Agg.bytes_size s
  have hlen : ∀ w, (Builtin.len_ #[9] 3 #[.string ⟨s.toArray⟩]).run Tryz.prog w = .ok (.int .i64 32) w := fun w => by rw [run_len_string w 9 3 _ Tryz.underlying9, hsz, hl]; rfl
  clear hsz
  have HL := Lib.hid hl
  clear hl
  have hb := heap_alloc2_old w (.cells (hC z20) 25) (.cells (hC z20) 25)
  have hb2 := heap_alloc2_new w (.cells (hC z20) 25) (.cells (hC z20) 25)
  go_enter Tryz.func128, Tryz.ntmps128
  go_wp2_with (first | (with_reducible refine Agg.wpList_alloc_row rfl 25 rfl (hC z20) z20_zero ?_; simp only [World.size_alloc]))
  clear hlen
  go_loopw [5] (fun i wr => ∃ (k : Nat) (l : List Nat), i = .int .i64 (k : Int) ∧ k ≤ 32 ∧ (s.take k).mapM val = some l ∧ wr.heap[w.heap.size]? = some (.cells (hC z20) 25 (0, 0)) ∧ wr.heap[w.heap.size + 1]? = some (.cells (hC (hN (lnum l))) 25 (0, 0)) ∧ Below w.heap.size w wr)
    (fun i _ => 32 - (intOf i).toNat)
  case atStart => exact ⟨0, [], rfl, by omega, rfl, hb, hb2, ((Below.refl _ _).alloc (Nat.le_refl _) _).alloc (by simp) _⟩
  case round =>
    obtain ⟨k, l, rfl, hk, hl, hb, hb2, hw⟩ := hrel
    have HLL := Lib.hid hl
    clear hl
    by_cases hlt : k < 32
    · have hd : decide ((k : Int) < 32) = true := by simp; omega
      have hks : k < s.length := by rw [HL.out]; exact hlt
      have hix := fun w => Agg.run_index_str (P := Tryz.prog) (k := .i64) (c := s[k]) w Tryz.underlying9 (List.getElem?_eq_getElem hks)
      cases hv : val s[k] with
      | none =>
        have hh : hashH s = z20 ∧ hashE s = 4 := by
          have : Pl.hash s = none := by unfold Pl.hash; rw [if_pos HL.out, mapM_none k hks hv]; rfl
          simp [hashH, hashE, this]
        have HH := Lib.hid hh
        clear hh
        go_wp2_with (first | (go_at_call 158; refine (value_any _ _).mono ?_; rintro e w' ⟨rfl, rfl⟩; rw [valI_none hv]) | (with_reducible refine Agg.wpList_build_zero rfl 25 rfl (.agg (hC z20)) build_zero ?_) | (with_reducible refine Agg.wpList_set_row rfl rfl 25 _ _ rfl w.heap.size (hC z20) rfl rfl 25 _ hb (hC_info _ z20_length) rfl (hC_one _) ?_))
        exact Agg.post_row_tmp rfl rfl rfl (setRow_heap _ _ _ _ _ _ hb) Tryz.underlying25 rfl (hC_info _ z20_length) rfl ⟨by rw [HH.out.1, HH.out.2]; rfl, Agg.below_setRow hw (Nat.le_refl _)⟩
      | some n =>
        have hn32 := val_lt hv
        have hl2 := mapM_take k hks HLL.out hv
        obtain ⟨hls, hlb, hll⟩ := mapM_val HLL.out
        have hll' : l.length = k := by rw [hll, List.length_take, HL.out]; omega
        have HX := Lib.hid (And.intro hl2 (And.intro hlb hll'))
        have HV := Lib.hid hv
        clear hl2 hls hlb hll hll' hv
        have hdn : decide ((n : Int) < 0) = false := by simp
        go_wp2_with (first | (go_at_call 158; refine (value_any _ _).mono ?_; rintro e w' ⟨rfl, rfl⟩; rw [valI_some HV.out]))
        go_loopw [7] (fun j wr => ∃ (q : Nat), j = .int .i64 (q : Int) ∧ q ≤ 5 ∧ wr.heap[w.heap.size]? = some (.cells (hC z20) 25 (0, 0)) ∧ wr.heap[w.heap.size + 1]? = some (.cells (hC (hN (bitNum l k n q))) 25 (0, 0)) ∧ Below w.heap.size w wr)
          (fun j _ => 5 - (intOf j).toNat)
        case atStart => exact ⟨0, rfl, by omega, hb, by rw [bitNum_0]; exact hb2, hw⟩
        case round =>
          obtain ⟨q, rfl, hq, hb, hb2, hw⟩ := hrel
          by_cases hq5 : q < 5
          · obtain ⟨c, hcc⟩ : ∃ c : UInt8, c = UInt8.ofNat (bitNum l k n q / 256 ^ ((5 * k + q) / 8) % 256) := ⟨_, rfl⟩
            have hcell : wr.cell? ⟨w.heap.size + 1, (5 * k + q) / 8, none⟩ = some (.int .u8 (c.toNat : Int)) := by
              rw [cell_of_row _ _ _ _ _ _ hb2, hC_at?, hN_at _ _ (by omega), hcc]; rfl
            have hfr : wr.frozen? ⟨w.heap.size + 1, (5 * k + q) / 8, none⟩ = false := frozen_of_row _ _ _ _ _ hb2
            have hc0 := u8_lt c
            have HC := Lib.hid hcc
            clear hcc
            by_cases hbit : n / 2 ^ q % 2 = 1
            · have e1 := tbit_yes n q hbit
              have HB := Lib.hid hbit
              clear hbit
              go_wp2_with fail
              go_region
              go_wp2_with fail
              go_roundw
              case rel =>
                have hP := bitNum_lt l k n q (by have := lnum_lt l HX.out.2.1; rwa [HX.out.2.2] at this)
                have h8 := hN_bit _ _ (by omega) hP
                rw [← bitNum_yes _ _ _ _ HB.out] at h8
                have hb3 := heap_setCell_same wr (w.heap.size + 1) ((5 * k + q) / 8) _ _ (.int .u8 ((UInt8.ofNat (bitNum l k n q / 256 ^ ((5 * k + q) / 8) % 256 + 2 ^ ((5 * k + q) % 8))).toNat : Int)) hb2
                rw [hC_set, ← h8, byte_add c _ _ (Nat.mod_lt _ (by omega)) HC.out] at hb3
                exact ⟨q + 1, by go_num, by omega, (heap_setCell_other _ _ _ _ (by simp)).trans hb, hb3, (hw.setCell (p := ⟨w.heap.size + 1, (5 * k + q) / 8, none⟩) (by simp) _).drew⟩
              case measure => simp [intOf]; omega
            · have hbit : n / 2 ^ q % 2 = 0 := by omega
              have e1 := tbit_no n q hbit
              have HB := Lib.hid hbit
              clear hbit
              go_wp2_with fail
              go_roundw
              case rel => exact ⟨q + 1, by go_num, by omega, hb, by rw [bitNum_no _ _ _ _ HB.out]; exact hb2, hw⟩
              case measure => simp [intOf]; omega
          · obtain rfl : q = 5 := by omega
            go_wp2_with fail
            go_roundw
            case rel => exact ⟨k + 1, l ++ [n], by go_num, by omega, HX.out.1, hb, by
              have := bitNum_5 l n hn32
              rw [HX.out.2.2] at this
              rw [← this]; exact hb2, hw⟩
            case measure => simp [intOf]; omega
    · obtain rfl : k = 32 := by omega
      have hh : hashH s = hN (lnum l) ∧ hashE s = 0 := by
        have h1 := HLL.out
        rw [List.take_of_length_le (by rw [HL.out]; omega)] at h1
        have : Pl.hash s = some (hN (lnum l)) := by unfold Pl.hash; rw [if_pos HL.out, h1]; rfl
        simp [hashH, hashE, this]
      have HH := Lib.hid hh
      clear hh
      go_wp2_with (first | (with_reducible refine wpList_load_row rfl 25 _ rfl (w.heap.size + 1) rfl 25 _ (0, 0) (.array 20 5) hb2 Tryz.underlying25 rfl (hC_info _ (hN_length _)) ?_) | (with_reducible refine Agg.wpList_set_row rfl rfl 25 _ _ rfl w.heap.size _ rfl rfl 25 _ hb (hC_info _ (hN_length _)) ?hsz (hC_one _) ?_))
      case hsz => rw [hC_size, hC_size, hN_length]; rfl
      exact Agg.post_row_tmp rfl rfl rfl (setRow_heap _ _ _ _ _ _ hb) Tryz.underlying25 rfl (hC_info _ (hN_length _)) rfl ⟨by rw [HH.out.1, HH.out.2]; rfl, Agg.below_setRow hw (Nat.le_refl _)⟩
end Go.Proofs.YtpnolgliklmnmaaGreat
/-! spenceref03.Path. -/
namespace Go.Proofs.YtpnolgliklmnmaaGreat
open Go.RowKit Pl Go.Mp Go.Agg
set_option maxRecDepth 100000 in
set_option maxHeartbeats 1000000 in
theorem refPath_any (h n : List UInt8) (hl : h.length = 20) (hs : n.length ≤ 9223372036854775807) (w : World) :
    Calls Tryz.prog 85 #[.agg (pC h n)] w fun e w' => e = .returned (.tuple #[.string ⟨(pathS h n).toArray⟩, .int .i64 (pathE n)]) ∧ Below w.heap.size w w' := by
  have hb := heap_alloc_new w (.cells (pC h n) 27)
  have hcell : (w.alloc (.cells (pC h n) 27)).cell? ⟨w.heap.size, 20, none⟩ = some (.string ⟨n.toArray⟩) := by rw [cell_of_row _ _ _ _ _ _ hb, pC_name h n hl]
  have HL := Lib.hid hl
  clear hl
  have HB := Lib.hid hb
  clear hb
  cases hn : isName n with
  | false =>
    go_enter Tryz.func85, Tryz.ntmps85
    go_wp2_with (go_at_call 67; refine (refName_any _ hs _).mono ?_; rintro e w1 ⟨rfl, rfl⟩; rw [hn])
    go_ret2
    exact ⟨by simp [pathS, pathE, hn], (Below.refl _ _).alloc (Nat.le_refl _) _⟩
  | true =>
    go_enter Tryz.func85, Tryz.ntmps85
    go_wp2_with (go_at_call 67; refine (refName_any _ hs _).mono ?_; rintro e w1 ⟨rfl, rfl⟩; rw [hn])
    have hb1 := HB.out
    have hsz1 : w.heap.size < (w.alloc (.cells (pC h n) 27)).heap.size := by simp
    have hw1 : Below w.heap.size w (w.alloc (.cells (pC h n) 27)) := (Below.refl _ _).alloc (Nat.le_refl _) _
    clear HB hcell
    generalize w.alloc (.cells (pC h n) 27) = w1 at *
    have hc1 : ∀ x : Later w1, x.w.cell? ⟨w.heap.size, 20, none⟩ = some (.string ⟨n.toArray⟩) := fun x => by rw [cell_of_row _ _ _ _ _ _ (x.heap hb1), pC_name h n HL.out]
    have hl1 : ∀ x : Later w1, (Instr.loadAt 25 (.pointer (some ⟨w.heap.size, 0, none⟩))).run Tryz.prog x.w = .ok (.agg (hC h)) x.w := fun x => Agg.run_loadAt_sub (x.heap hb1) (pC_hash h n) Tryz.underlying25 rfl (hC_info h HL.out)
    have hln : n.length ≤ 24 := isName_le hn
    have hll : (letters h).length ≤ 32 := by rw [letters_length]; omega
    refine Agg.wp_region_later_lit (by kernel_rfl) (by kernel_rfl) ?_
    repeat (first | (with_reducible refine Agg.wpQuiet_load rfl 25 _ rfl (.pointer (some ⟨w.heap.size, 0, none⟩)) rfl (.agg (hC h)) (Agg.later_all hl1) ?_; simp only [Act.put, List.setIfInBounds_toArray, List.set_cons_succ, List.set_cons_zero]) | go_big_quiet_step ((go_at_call 125; exact Agg.Calls.later (refLetters_any h HL.out _))))
    refine wpQuiet_nil ?_
    intro _ hw'
    obtain ⟨x, rfl⟩ := hw'
    go_wp2_with fail
    go_ret2
    exact ⟨ret_pair (text_eq h n hn) (by simp [pathE, hn]), hw1.trans (x.h.mono (by omega))⟩
end Go.Proofs.YtpnolgliklmnmaaGreat
/-! spenceref28: has, in, text. -/
namespace Go.Proofs.YtpnolgliklmnmaaGreat
open Go.RowKit Pl Go.Agg
/-- what the document says of kinds, by their parts -/
def wordP (P : Nat) : List UInt8 :=
  if P = 34 then [110, 98] else if P = 32 then [98] else if P = 16 then [99] else if P = 1 then [119] else if P = 6 then [110, 112] else if P = 2 then [110] else if P = 36 then [112, 98] else if P = 8 then [122] else []
theorem word_cases (k : Int) : wordP (partsN k) = if k = 1 then [110, 98] else if k = 2 then [98] else if k = 3 then [99] else if k = 4 then [119] else if k = 5 then [110, 112] else if k = 6 then [110] else if k = 9 then [112, 98] else if k = 10 then [122] else [] := by
  unfold partsN
  repeat' split
  all_goals rfl
set_option maxRecDepth 100000 in
theorem refHas_any (k : Int) (w : World) : Calls Tryz.prog 44 #[.int .i64 k] w fun e w' => e = .returned (.string ⟨(wordP (partsN k)).toArray⟩) ∧ w' = w := by
  rw [word_cases]
  by_cases h1 : k = 1
  · subst h1
    go_enter Tryz.func44, Tryz.ntmps44
    go_wp2_with fail
    go_ret
    exact ⟨rfl, rfl⟩
  have q1 : (k == 1) = false := by simpa using h1
  rw [if_neg h1]
  by_cases h2 : k = 2
  · subst h2
    go_enter Tryz.func44, Tryz.ntmps44
    go_wp2_with fail
    go_ret
    exact ⟨rfl, rfl⟩
  have q2 : (k == 2) = false := by simpa using h2
  rw [if_neg h2]
  by_cases h3 : k = 3
  · subst h3
    go_enter Tryz.func44, Tryz.ntmps44
    go_wp2_with fail
    go_ret
    exact ⟨rfl, rfl⟩
  have q3 : (k == 3) = false := by simpa using h3
  rw [if_neg h3]
  by_cases h4 : k = 4
  · subst h4
    go_enter Tryz.func44, Tryz.ntmps44
    go_wp2_with fail
    go_ret
    exact ⟨rfl, rfl⟩
  have q4 : (k == 4) = false := by simpa using h4
  rw [if_neg h4]
  by_cases h5 : k = 5
  · subst h5
    go_enter Tryz.func44, Tryz.ntmps44
    go_wp2_with fail
    go_ret
    exact ⟨rfl, rfl⟩
  have q5 : (k == 5) = false := by simpa using h5
  rw [if_neg h5]
  by_cases h6 : k = 6
  · subst h6
    go_enter Tryz.func44, Tryz.ntmps44
    go_wp2_with fail
    go_ret
    exact ⟨rfl, rfl⟩
  have q6 : (k == 6) = false := by simpa using h6
  rw [if_neg h6]
  by_cases h7 : k = 9
  · subst h7
    go_enter Tryz.func44, Tryz.ntmps44
    go_wp2_with fail
    go_ret
    exact ⟨rfl, rfl⟩
  have q7 : (k == 9) = false := by simpa using h7
  rw [if_neg h7]
  by_cases h8 : k = 10
  · subst h8
    go_enter Tryz.func44, Tryz.ntmps44
    go_wp2_with fail
    go_ret
    exact ⟨rfl, rfl⟩
  have q8 : (k == 10) = false := by simpa using h8
  rw [if_neg h8]
  clear h1 h2 h3 h4 h5 h6 h7 h8
  go_enter Tryz.func44, Tryz.ntmps44
  go_wp2_with fail
  go_ret
  exact ⟨rfl, rfl⟩
/-- is a letter one of a word? -/
def inN (s : List UInt8) (c : Nat) : Bool := s.any fun x => x.toNat == c
theorem inN_succ {s : List UInt8} {c k : Nat} {x : UInt8} (hx : s[k]? = some x) (h : inN (s.take k) c = false) (hn : (x.toNat == c) = false) : inN (s.take (k + 1)) c = false := by
  unfold inN at *
  rw [List.take_add_one, hx, List.any_append, h]
  simp [hn]
theorem inN_hit {s : List UInt8} {c k : Nat} {x : UInt8} (hx : s[k]? = some x) (hn : (x.toNat == c) = true) : inN s c = true := by
  unfold inN
  rw [List.any_eq_true]
  exact ⟨x, List.mem_of_getElem? hx, hn⟩
set_option maxRecDepth 100000 in
set_option maxHeartbeats 1000000 in
theorem refIn_any (s : List UInt8) (c : Nat) (hs : s.length ≤ 1048576) (_hc : c < 256) (w : World) : Calls Tryz.prog 46 #[.string ⟨s.toArray⟩, .int .u8 (c : Int)] w fun e w' => e = .returned (.bool (inN s c)) ∧ w' = w := by
  have hls := str_len' s
  go_enter Tryz.func46, Tryz.ntmps46
  go_wp2_with fail
  go_loopw [5] (fun i wr => ∃ k : Nat, k ≤ s.length ∧ i = .int .i64 k ∧ inN (s.take k) c = false ∧ wr = w) (fun i _ => s.length - (intOf i).toNat)
  case atStart => exact ⟨0, by omega, rfl, rfl, rfl⟩
  case round =>
    obtain ⟨k, hk, rfl, htk, rfl⟩ := hrel
    have HTK := Lib.hid htk
    clear htk
    by_cases hlt : k < s.length
    · obtain ⟨x, hxk⟩ : ∃ x, s[k]? = some x := ⟨_, List.getElem?_eq_getElem hlt⟩
      have hix : ∀ W, (Instr.index 9 (.string ⟨s.toArray⟩) (.int .i64 (k : Int))).run Tryz.prog W = .ok (.int .u8 (x.toNat : Int)) W := fun W => run_index_str W Tryz.underlying9 hxk
      have HX := Lib.hid hxk
      clear hxk
      cases hq : (x.toNat == c) with
      | true =>
        have hqi : ((x.toNat : Int) == (c : Int)) = true := by simp only [beq_iff_eq] at hq ⊢; omega
        have HR := Lib.hid (inN_hit HX.out hq)
        clear hq
        go_wp2_with fail
        go_ret
        exact ⟨by rw [HR.out]; rfl, rfl⟩
      | false =>
        have hqi : ((x.toNat : Int) == (c : Int)) = false := by rw [beq_eq_false_iff_ne] at hq ⊢; omega
        have HR := Lib.hid (inN_succ HX.out HTK.out hq)
        clear hq
        go_wp2_with fail
        go_roundw
        case rel => exact ⟨k + 1, by omega, by go_num, HR.out, by first | rfl | trivial⟩
        case measure => simp [intOf]; omega
    · obtain rfl : k = s.length := by omega
      rw [List.take_length] at HTK
      go_wp2_with fail
      go_ret
      exact ⟨by rw [HTK.out]; rfl, rfl⟩
end Go.Proofs.YtpnolgliklmnmaaGreat
/-! code.Cursor as a state: contracts without cases. -/
namespace Go.Proofs.YtpnolgliklmnmaaGreat
open Go.RowKit Pl Go.Agg
/-- a cursor at g, of a state -/
def CuS (base g : Nat) (w : World) (s : Option (List UInt8)) : Prop := ∃ v r e, CuV base g w v r e ∧ (e ≠ 0 → v = .slice none 0 0 ∧ r = []) ∧ s = (if e = 0 then some r else none)
theorem CuS.good {base g : Nat} {w : World} {v : Value} {r : List UInt8} (h : CuV base g w v r 0) : CuS base g w (some r) := ⟨v, r, 0, h, fun h => absurd rfl h, rfl⟩
theorem CuS.bad {base g : Nat} {w : World} (h : CBad base g w) : CuS base g w none := by
  obtain ⟨e, he, h⟩ := h
  exact ⟨_, _, e, h, fun _ => ⟨rfl, rfl⟩, by rw [if_neg he]⟩
theorem CuS.below {base g : Nat} {w w' : World} {s : Option (List UInt8)} (h : CuS base g w s) (hb : Below w.heap.size w w') : CuS base g w' s := by
  obtain ⟨v, r, e, h, h1, h2⟩ := h
  exact ⟨v, r, e, h.below hb, h1, h2⟩
theorem CuS.lt {base g : Nat} {w : World} {s : Option (List UInt8)} (h : CuS base g w s) : g < w.heap.size := by
  obtain ⟨v, r, e, h, _⟩ := h
  exact h.blk.lt
theorem getN_nil (most : Nat) : getN most [] = none := by
  unfold getN
  rw [if_pos (.inl rfl)]
theorem getT_nil (most : Nat) : getT most [] = none := by
  unfold getT
  rw [getN_nil]
theorem snum_any (base g most : Nat) (s : Option (List UInt8)) (w : World) (hl : stLen s ≤ 16777216) (hmo : most ≤ 1099511627776) (h : CuS base g w s) :
    Calls Tryz.prog 52 #[.pointer (some ⟨g, 0, none⟩), .int .i64 (most : Int)] w fun x w' => x = .returned (.int .i64 ((sNum most s).1 : Int)) ∧ CuS base g w' (sNum most s).2 ∧ Only (· = g) w w' := by
  obtain ⟨v, r, e, hv, hbad, rfl⟩ := h
  by_cases h0 : e = 0
  · subst h0
    refine (cnum_any base g most v r 0 w (by simpa [stLen] using hl) hmo hv).mono ?_
    rintro x w' ⟨hc, ho⟩
    rcases hc with ⟨n, y, v', hg, rfl, hcu⟩ | ⟨hg, rfl, hcu⟩
    · simp only [if_true, sNum, hg]
      exact ⟨trivial, CuS.good hcu, ho⟩
    · simp only [if_true, sNum, hg] at hcu ⊢
      exact ⟨rfl, CuS.bad ⟨4, by omega, hcu⟩, ho⟩
  · obtain ⟨rfl, rfl⟩ := hbad h0
    refine (cnum_any base g most _ [] e w (by simp) hmo hv).mono ?_
    rintro x w' ⟨hc, ho⟩
    rcases hc with ⟨n, y, v', hg, rfl, hcu⟩ | ⟨hg, rfl, hcu⟩
    · rw [getN_nil] at hg; cases hg
    · simp only [if_neg h0, sNum] at hcu ⊢
      exact ⟨rfl, CuS.bad ⟨e, h0, hcu⟩, ho⟩
theorem sraw_any (base g many : Nat) (s : Option (List UInt8)) (w : World) (hl : stLen s ≤ 16777216) (hmo : many ≤ 1099511627776) (h : CuS base g w s) :
    Calls Tryz.prog 88 #[.pointer (some ⟨g, 0, none⟩), .int .i64 (many : Int)] w fun x w' => ∃ u, x = .returned u ∧ Own EB w.heap.size w' u (sRaw many s).1 ∧ CuS base g w' (sRaw many s).2 ∧ Only (· = g) w w' := by
  obtain ⟨v, r, e, hv, hbad, rfl⟩ := h
  by_cases h0 : e = 0
  · subst h0
    refine (craw_any base g many v r 0 w (by simpa [stLen] using hl) hmo hv).mono ?_
    rintro x w' ⟨hc, ho⟩
    rcases hc with ⟨_, hle, u, v', rfl, hu, hcu⟩ | ⟨hor, rfl, hcu⟩
    · simp only [if_true, sRaw, if_pos hle]
      exact ⟨u, rfl, hu, CuS.good hcu, ho⟩
    · have hle : ¬ many ≤ r.length := by rcases hor with h | h <;> omega
      simp only [if_true, sRaw, if_neg hle]
      exact ⟨_, rfl, Own.nil _ _ _, CuS.bad hcu, ho⟩
  · obtain ⟨rfl, rfl⟩ := hbad h0
    refine (craw_any base g many _ [] e w (by simp) hmo hv).mono ?_
    rintro x w' ⟨hc, ho⟩
    rcases hc with ⟨h, _⟩ | ⟨hor, rfl, hcu⟩
    · exact absurd h h0
    · simp only [if_neg h0, sRaw]
      exact ⟨_, rfl, Own.nil _ _ _, CuS.bad hcu, ho⟩
theorem stext_any (base g most : Nat) (s : Option (List UInt8)) (w : World) (hl : stLen s ≤ 16777216) (h : CuS base g w s) :
    Calls Tryz.prog 53 #[.pointer (some ⟨g, 0, none⟩), .int .i64 (most : Int)] w fun x w' => ∃ u, x = .returned u ∧ Own EB w.heap.size w' u (sText most s).1 ∧ CuS base g w' (sText most s).2 ∧ Only (· = g) w w' := by
  obtain ⟨v, r, e, hv, hbad, rfl⟩ := h
  by_cases h0 : e = 0
  · subst h0
    refine (ctext_any base g most v r 0 w (by simpa [stLen] using hl) (fun h => absurd rfl h) hv).mono ?_
    rintro x w' ⟨hc, ho⟩
    rcases hc with ⟨_, l, y, u, v', hg, rfl, hu, hcu⟩ | ⟨hor, rfl, hcu⟩
    · simp only [if_true, sText, hg]
      exact ⟨u, rfl, hu, CuS.good hcu, ho⟩
    · have hg : getT most r = none := hor.elim (fun h => absurd rfl h) id
      simp only [if_true, sText, hg]
      exact ⟨_, rfl, Own.nil _ _ _, CuS.bad hcu, ho⟩
  · obtain ⟨rfl, rfl⟩ := hbad h0
    refine (ctext_any base g most _ [] e w (by simp) (fun _ => rfl) hv).mono ?_
    rintro x w' ⟨hc, ho⟩
    rcases hc with ⟨h, _⟩ | ⟨hor, rfl, hcu⟩
    · exact absurd h h0
    · simp only [if_neg h0, sText]
      exact ⟨_, rfl, Own.nil _ _ _, CuS.bad hcu, ho⟩
theorem send_any (base g : Nat) (s : Option (List UInt8)) (w : World) (h : CuS base g w s) :
    Calls Tryz.prog 90 #[.pointer (some ⟨g, 0, none⟩)] w fun x w' => (∃ c : Nat, x = .returned (.int .i64 (c : Int)) ∧ (c = 0 ↔ s = some [])) ∧ w' = w := by
  obtain ⟨v, r, e, hv, hbad, rfl⟩ := h
  refine (cend_any base g v r e w hv).mono ?_
  rintro x w' ⟨⟨c, rfl, hc⟩, rfl⟩
  refine ⟨⟨c, rfl, ?_⟩, rfl⟩
  rw [hc]
  by_cases h0 : e = 0
  · simp [h0]
  · simp [h0]
end Go.Proofs.YtpnolgliklmnmaaGreat
/-! spenceref01.Number. -/
namespace Go.Proofs.YtpnolgliklmnmaaGreat
open Go.RowKit Pl Go.Agg
set_option maxRecDepth 100000 in
set_option maxHeartbeats 1000000 in
theorem refNumber_any (n : Nat) (w : World) (hn : n < 4398046511104) :
    Calls Tryz.prog 84 #[.int .i64 (n : Int)] w fun e w' => ∃ v, e = .returned v ∧ Own EB w.heap.size w' v (encN n) ∧ Below w.heap.size w w' := by
  go_enter Tryz.func84, Tryz.ntmps84
  go_wp2_with fail
  go_loopw [0, 3] (fun x out wr => ∃ k : Nat, x = .int .i64 (k : Int) ∧ k < 4398046511104 ∧ ∃ bs, Own EB w.heap.size wr out bs ∧ bs ++ encN k = encN n ∧ Below w.heap.size w wr) (fun x _ _ => (intOf x).toNat)
  case atStart => exact ⟨n, rfl, hn, [], Own.nil _ _ _, rfl, Below.refl _ _⟩
  case round =>
    obtain ⟨w1, rfl⟩ : ∃ w1 : World, w1 = wr := ⟨_, rfl⟩
    obtain ⟨k, rfl, hk, bs, ho, heq, hw⟩ := hrel
    have hbs : bs.length ≤ 6 := by
      have h1 := congrArg List.length heq
      have h2 := encN_len' 6 n (by omega) (by omega)
      simp only [List.length_append] at h1
      omega
    have h63 : bs.length + 1 ≤ 1099511627776 / 8 := by omega
    have hsz := hw.size
    have HO := Lib.hid ho
    have HEQ := Lib.hid heq
    have HW := Lib.hid hw
    clear ho heq hw
    by_cases hlt : 128 ≤ k
    · have hI : (128 : Int) ≤ (k : Int) := by omega
      obtain ⟨c, hc⟩ : ∃ c : UInt8, c.toNat = k % 128 + 128 := ⟨UInt8.ofNat (k % 128 + 128), by simp; omega⟩
      have hcc : (k : Int) % 128 + 128 = (c.toNat : Int) := by omega
      have HE : Hid (bs ++ [c] ++ encN (k / 128) = encN n) := Lib.hid (by
        have e : UInt8.ofNat (k % 128 + 128) = c := by rw [← hc]; simp
        rw [← HEQ.out, encN_ge hlt, e, List.append_assoc]; rfl)
      clear hlt hc
      go_wp2_with (first | (refine Agg.wpList_push (E := EB) (base := w.heap.size) rfl rfl 11 rfl _ rfl _ rfl (c) rfl (fun _ => rfl) (by simp) HO.out h63 (by decide) hsz ?_; intro u5 v5 w5 ho5 hp5; have HO5 := Lib.hid ho5; have HP5 := Lib.hid (HW.out.trans (hp5.below w.heap.size (Nat.le_refl _) hsz)); clear ho5 hp5))
      go_roundw
      case rel => exact ⟨k / 128, by go_num, by omega, _, HO5.out, HE.out, HP5.out⟩
      case measure => simp [intOf]; omega
    · obtain ⟨c, rfl⟩ : ∃ c : UInt8, k = c.toNat := ⟨UInt8.ofNat k, by simp; omega⟩
      have hI : ¬ (128 : Int) ≤ (c.toNat : Int) := by omega
      have HE : Hid (bs ++ [c] = encN n) := Lib.hid (by rw [← HEQ.out, encN_lt (by omega), UInt8.ofNat_toNat])
      clear hlt
      go_wp2_with (first | (refine Agg.wpList_push (E := EB) (base := w.heap.size) rfl rfl 18 rfl _ rfl _ rfl (c) rfl (fun _ => rfl) (by simp) HO.out h63 (by decide) hsz ?_; intro u5 v5 w5 ho5 hp5; have HO5 := Lib.hid ho5; have HP5 := Lib.hid (HW.out.trans (hp5.below w.heap.size (Nat.le_refl _) hsz)); clear ho5 hp5))
      go_ret
      exact ⟨_, rfl, by rw [← HE.out]; exact HO5.out, HP5.out⟩
end Go.Proofs.YtpnolgliklmnmaaGreat
/-! A row of cells stored into the middle of a block. -/
namespace Go.Agg
open Go.RowKit
variable {P : Program}
def setAll (cs : Array Value) : Nat → List Value → Array Value
  | _, [] => cs
  | i, v :: vs => setAll (cs.setIfInBounds i v) (i + 1) vs
theorem Blk.setAll {g : Nat} {t : TypeId} : ∀ (vs : List Value) (i : Nat) (w : World) (cs : Array Value), Blk w g t cs → Blk (w.setCells g i vs) g t (Agg.setAll cs i vs)
  | [], _, _, _, h => h
  | v :: vs, i, _, _, h => Blk.setAll vs (i + 1) _ _ (h.set i v)
theorem setAll_mid : ∀ (vs a b c : List Value), b.length = vs.length → setAll (a ++ (b ++ c)).toArray a.length vs = (a ++ (vs ++ c)).toArray
  | [], a, b, c, h => by
    obtain rfl := List.length_eq_zero_iff.1 h
    rfl
  | v :: vs, a, [], c, h => by simp at h
  | v :: vs, a, y :: b, c, h => by
    have e : (a ++ (y :: b ++ c)).toArray.setIfInBounds a.length v = ((a ++ [v]) ++ (b ++ c)).toArray := by simp
    have h1 := setAll_mid vs (a ++ [v]) b c (by simpa using h)
    rw [setAll, e, show a.length + 1 = (a ++ [v]).length by simp, h1]
    simp
/-- a row stored: what lies there then -/
theorem Blk.run_row {w : World} {g : Nat} {t ty : TypeId} (a b c ds : Array Value) (h : Blk w g t (a ++ (b ++ c))) (hb : b.size = ds.size) (hs : (P.info? ty).map (·.size) = some ds.size) (h1 : ds.all (·.oneCell') = true) {i : Nat} (hi : i = a.size) :
    ∃ w', (Instr.storeAt ty (.pointer (some ⟨g, i, none⟩)) (.agg ds)).run P w = .ok () w' ∧ Blk w' g t (a ++ (ds ++ c)) ∧ Only (· = g) w w' := by
  subst hi
  refine ⟨_, run_storeAt_mid w g a.size ty ds (fun j hj => ⟨?_, frozen_of_row _ _ _ _ _ h⟩) hs h1, ?_, only_setCells _ _ _ _⟩
  · rw [h.cell]
    simp
    omega
  · have h2 := h.setAll ds.toList a.size
    have e := setAll_mid ds.toList a.toList b.toList c.toList (by simpa using hb)
    have e1 : (a.toList ++ (b.toList ++ c.toList)).toArray = a ++ (b ++ c) := by apply Array.ext'; simp
    have e2 : (a.toList ++ (ds.toList ++ c.toList)).toArray = a ++ (ds ++ c) := by apply Array.ext'; simp
    rw [e1, e2, Array.length_toList] at e
    rw [← e]
    exact h2
/-- one cell stored -/
theorem Blk.run_one {w : World} {g : Nat} {t ty : TypeId} {cs : Array Value} (h : Blk w g t cs) (i : Nat) (hi : i < cs.size) (v : Value) (hv : v.cells = #[v]) (h1 : v.oneCell' = true) (hs : (P.info? ty).map (·.size) = some 1) (ds : Array Value) (he : cs.setIfInBounds i v = ds) :
    ∃ w', (Instr.storeAt ty (.pointer (some ⟨g, i, none⟩)) v).run P w = .ok () w' ∧ Blk w' g t ds ∧ Only (· = g) w w' := by
  subst he
  exact ⟨_, h.run_put i hi v hv h1 hs, h.set i v, rfl, rfl, rfl, by simp [World.setCell], fun k _ hk => Below.heap_setCell _ _ _ _ hk⟩
end Go.Agg
/-! Operations of a region that draws: a store, a copy of bytes, literals. -/
namespace Go.Agg
open Go.RowKit
variable {P : Program}
section
variable {ops : Array Oper} {o : Oper} {a : Act} {w : World} {Q : Exit → Act → World → Prop} {K : Act → World → Prop} {F : Prop}
theorem step_store {w' : World} (hg : o.guard = none) (hd : o.dst = none) (ty : TypeId) (x y : Operand) (ho : o.op = .store ty x y) (p v : Value) (hx : a.eval x = p) (hy : a.eval y = v)
    (hrun : (Instr.storeAt ty p v).run P w = .ok () w') (h : K a w') : if Region.wanted o (yielded ops a.tmps) = true then o.wp P a w K Q else F := by
  rw [if_pos (by simp [Region.wanted, hg])]
  unfold Oper.wp
  have : (execOp a.eval o).run P w = .ok .skip w' := by simp [execOp, ho, hx, hy, hrun]
  rw [this, Oper.upon_skip, hd]
  exact h
theorem step_val {v : Value} {w' : World} (hg : o.guard = none) (hrun : (execOp a.eval o).run P w = .ok (.value v) w') (h : K (a.put o.dst v) w') : if Region.wanted o (yielded ops a.tmps) = true then o.wp P a w K Q else F := by
  rw [if_pos (by simp [Region.wanted, hg])]
  unfold Oper.wp
  rw [hrun]
  exact h
theorem step_slice1 {α : Type} {E : Elem P α} (hg : o.guard = none) (y : Operand) (ho : o.op = .buildSlice E.st 1 #[(0, y)]) (x : α) (hy : a.eval y = E.val x)
    (h : ∀ v' w', Own E w.heap.size w' v' [x] → Below w.heap.size w w' → K (a.put o.dst v') w') : if Region.wanted o (yielded ops a.tmps) = true then o.wp P a w K Q else F := by
  refine step_val hg (v := .slice (some ⟨w.heap.size, 0, none⟩) 1 1) (w' := w.alloc (.cells (E.val x).cells E.ty)) (by simp [execOp, ho, hy, run_slice_one]) (h _ _ ?_ ((Below.refl _ _).alloc (Nat.le_refl _) _))
  have hs := E.size x
  refine ⟨by rw [E.flat_one, E.cs_length]; simp, .inr ⟨_, 1, _, rfl, Nat.le_refl _, heap_alloc_new w _, Nat.le_refl _, by simp [maxLen], by rw [hs]; simp, ?_⟩⟩
  rw [E.flat_one, Elem.cs, List.take_of_length_le (by rw [Array.length_toList, hs]; simp)]
/-- '&T{..}' -/
theorem step_box (hg : o.guard = none) (ty : TypeId) (x : Operand) (ho : o.op = .box ty x) (cs : Array Value) (hx : a.eval x = .agg cs)
    (h : ∀ g w', Blk w' g ty cs → Below w.heap.size w w' → w.heap.size ≤ g → K (a.put o.dst (.pointer (some ⟨g, 0, none⟩))) w') : if Region.wanted o (yielded ops a.tmps) = true then o.wp P a w K Q else F :=
  step_val hg (v := .pointer (some ⟨w.heap.size, 0, none⟩)) (w' := w.alloc (.cells cs ty)) (by simp [execOp, ho, hx, Instr.box, newVar, newRow, Value.cells]) (h _ _ (Blk.new w ty cs) ((Below.refl _ _).alloc (Nat.le_refl _) _) (Nat.le_refl _))
end
end Go.Agg
namespace Go.Proofs.YtpnolgliklmnmaaGreat
open Go.RowKit Pl Go.Agg
theorem flat_bytes (l : List UInt8) : EB.flat l = Lib.byteCells l := by
  simp only [Elem.flat, Lib.byteCells]
  induction l with
  | nil => rfl
  | cons c t ih =>
    rw [List.flatMap_cons, ih]
    rfl
theorem run_copyB {w : World} {g n : Nat} {t : TypeId} {cur : List Value} {u : Value} {l : List UInt8} (ty : TypeId) (hu : SliceOf EB w u l) (hb : Blk w g t cur.toArray) (hn : cur.length = n) (hl : l.length ≤ n) :
    ∃ w', (Builtin.copy_ #[23, 23] ty #[.slice (some ⟨g, 0, none⟩) n n, u]).run Tryz.prog w = .ok (goInt l.length) w' ∧ Blk w' g t (Lib.byteCells l ++ cur.drop l.length).toArray ∧ Only (· = g) w w' := by
  have hund : Tryz.prog.underlying 23 = some (.slice 5) := by kernel_rfl
  have hsz : (Tryz.prog.info? 5).map (·.size) = some 1 := by kernel_rfl
  have hc : (Lib.byteCells l).length = l.length := by simp [Lib.byteCells]
  by_cases h0 : l.length = 0
  · obtain rfl : l = [] := List.length_eq_zero_iff.1 h0
    obtain ⟨p, c, hf⟩ := hu.form
    subst hf
    exact ⟨w, run_copy_none w _ _ _ 5 _ _ _ _ _ _ hund hsz (by simp), by simpa [Lib.byteCells] using hb, Only.refl _ _⟩
  · rcases hu with ⟨_, _, _, h1⟩ | ⟨q, c, rfl, hq, hcell⟩
    · exact absurd (by simp [h1]) h0
    · rw [flat_bytes] at hcell
      have hrun := run_copy_row (P := Tryz.prog) w 23 23 ty 5 g 0 n n q l.length c cur.toArray t (Lib.byteCells l) hund hsz hb (by rw [hc]; exact (Nat.min_eq_left hl).symm) hcell (by simp [hc]; omega)
        (fun v hv => by
          simp only [Lib.byteCells, List.mem_map] at hv
          obtain ⟨b, _, rfl⟩ := hv
          rfl)
      rw [hc] at hrun
      refine ⟨_, hrun, ?_, rfl, rfl, rfl, by simp [World.setRow], fun k _ hk => setRow_other w g k _ hk⟩
      have h1 := setRow_heap w g cur.toArray (List.take 0 cur.toArray.toList ++ Lib.byteCells l ++ List.drop (0 + l.length) cur.toArray.toList).toArray t _ hb
      refine Eq.trans h1 ?_
      simp
theorem step_copyB {ops : Array Oper} {o : Oper} {a : Act} {w : World} {Q : Exit → Act → World → Prop} {K : Act → World → Prop} {F : Prop} {g n : Nat} {t : TypeId} {cur : List Value} {u : Value} {l : List UInt8} (hg : o.guard = none) (d s : Operand)
    (ho : o.op = .call { callee := .builtin .copy, args := #[d, s], argTypes := #[23, 23] }) (hd : a.eval d = .slice (some ⟨g, 0, none⟩) n n) (hs : a.eval s = u) (hu : SliceOf EB w u l) (hb : Blk w g t cur.toArray) (hn : cur.length = n) (hl : l.length ≤ n)
    (h : ∀ w', Blk w' g t (Lib.byteCells l ++ cur.drop l.length).toArray → Only (· = g) w w' → K (a.put o.dst (goInt l.length)) w') : if Region.wanted o (yielded ops a.tmps) = true then o.wp Tryz.prog a w K Q else F := by
  obtain ⟨w', hrun, h1, h2⟩ := run_copyB o.type hu hb hn hl
  exact step_val hg (by simp [execOp, ho, resolve, invoke, builtin, hd, hs, hrun]) (h w' h1 h2)
end Go.Proofs.YtpnolgliklmnmaaGreat
/-! A region that draws its order, step by step: each operation that may come up, by its own law. -/
namespace Go.Agg
open Go.RowKit
variable {P : Program}
section
variable {l : List Oper} {md : Region.Mode} {Q : Exit → Act → World → Prop} {S : World → Prop} {fuel : Nat} {listed : Array Bool} {a : Act} {w : World}
def takeB (md : Region.Mode) (l : List Oper) (listed : Array Bool) (i : Nat) : Bool :=
  Region.noSelect l.toArray && Region.free md l.toArray listed i && (Region.ready md l.toArray listed).contains i
theorem any_take {o : Oper} (i : Nat) (v : Value) (ho : l[i]? = some o) (hB : takeB md l listed i = true) (hQ : ∀ c a w, Q (.panic c) (a.put o.dst v) w → Q (.panic c) a w) (hw : Region.wanted o (yielded l.toArray a.tmps) = true)
    (hy : ∀ w, (execOp a.eval o).run P w = .ok (.value v) w) (h : wpAny P md l.toArray Q fuel (listed.setIfInBounds i true) (a.put o.dst v) w) : wpAny P md l.toArray Q (fuel + 1) listed a w := by
  simp only [takeB, Bool.and_eq_true] at hB
  exact wpAny_take (by simpa using ho) hB.1.1 hB.1.2 hB.2 hQ (.inl ⟨hw, hy⟩) h
theorem any_ready (rs : List Nat) (hr : Region.ready md l.toArray listed = rs) (hne : rs ≠ []) (h : AllReady P md l.toArray Q fuel listed a w rs) : wpAny P md l.toArray Q (fuel + 1) listed a w := wpAny_ready hr hne h
theorem any_cons {o : Oper} {i : Nat} {rs : List Nat} (ho : l[i]? = some o)
    (h : if Region.wanted o (yielded l.toArray a.tmps) = true then Oper.wp P o a w (wpAny P md l.toArray Q fuel (listed.setIfInBounds i true)) Q else wpAny P md l.toArray Q fuel (listed.setIfInBounds i true) (a.put o.dst undef) w)
    (hs : AllReady P md l.toArray Q fuel listed a w rs) : AllReady P md l.toArray Q fuel listed a w (i :: rs) :=
  AllReady.cons (by simpa using ho) (fun K' hK => by
    split at h
    · rename_i hw; rw [if_pos hw]; exact Oper.wp_mono hK h
    · rename_i hw; rw [if_neg hw]; exact hK _ _ h) hs
theorem any_end (hr : Region.ready md l.toArray listed = []) (h : Q .normal a w) : wpAny P md l.toArray Q fuel listed a w := by
  cases fuel with
  | zero => exact ⟨hr, h⟩
  | succ n => exact ⟨fun _ => h, by rw [hr]; intro i hi; cases hi⟩
/-! .. while S holds -/
theorem held_take {o : Oper} (i : Nat) (v : Value) (ho : l[i]? = some o) (hB : takeB md l listed i = true) (hQ : ∀ c a w, Q (.panic c) (a.put o.dst v) w → Q (.panic c) a w) (hw : Region.wanted o (yielded l.toArray a.tmps) = true)
    (hy : ∀ w, S w → (execOp a.eval o).run P w = .ok (.value v) w) (hS : S w) (h : wpAnyH P md l.toArray Q S fuel (listed.setIfInBounds i true) (a.put o.dst v) w) : wpAnyH P md l.toArray Q S (fuel + 1) listed a w := by
  simp only [takeB, Bool.and_eq_true] at hB
  exact wpAnyH_take (by simpa using ho) hB.1.1 hB.1.2 hB.2 hQ (.inl ⟨hw, hy⟩) hS h
theorem held_ready (rs : List Nat) (hr : Region.ready md l.toArray listed = rs) (hne : rs ≠ []) (h : AllReadyH P md l.toArray Q S fuel listed a w rs) : wpAnyH P md l.toArray Q S (fuel + 1) listed a w := wpAnyH_ready hr hne h
theorem held_cons {o : Oper} {i : Nat} {rs : List Nat} (ho : l[i]? = some o)
    (h : if Region.wanted o (yielded l.toArray a.tmps) = true then Oper.wp P o a w (fun a' w' => S w' ∧ wpAnyH P md l.toArray Q S fuel (listed.setIfInBounds i true) a' w') Q else S w ∧ wpAnyH P md l.toArray Q S fuel (listed.setIfInBounds i true) (a.put o.dst undef) w)
    (hs : AllReadyH P md l.toArray Q S fuel listed a w rs) : AllReadyH P md l.toArray Q S fuel listed a w (i :: rs) :=
  AllReadyH.cons (by simpa using ho) (fun K' hK => by
    split at h
    · rename_i hw; rw [if_pos hw]; exact Oper.wp_mono (fun a w h => hK.out a w h.1 fun _ => h.2) h
    · rename_i hw; rw [if_neg hw]; exact hK.out _ _ h.1 fun _ => h.2) hs
theorem held_end (hr : Region.ready md l.toArray listed = []) (h : Q .normal a w) : wpAnyH P md l.toArray Q S fuel listed a w := by
  cases fuel with
  | zero => exact ⟨hr, h⟩
  | succ n => exact ⟨fun _ => h, by rw [hr]; intro i hi; cases hi⟩
end
section
variable {ops : Array Oper} {o : Oper} {a : Act} {w : World} {Q : Exit → Act → World → Prop} {K : Act → World → Prop} {F : Prop}
/-- a call of a Go function, by its contract -/
theorem step_call (hg : o.guard = none) (f : FuncId) (xs : Array Operand) (ts : Array TypeId) (ho : o.op = .call { callee := .value (.func f), args := xs, argTypes := ts }) (vs : Array Value) (hv : xs.map a.eval = vs)
    (he : ∀ w, (callFunc f vs).run P w = .ok (.enter f vs) w) (h : Calls P f vs w fun e w' => ∃ v, e = .returned v ∧ K (a.put o.dst v) w') : if Region.wanted o (yielded ops a.tmps) = true then o.wp P a w K Q else F := by
  rw [if_pos (by simp [Region.wanted, hg])]
  unfold Oper.wp
  have : (execOp a.eval o).run P w = .ok (.enter f vs) w := by
    subst hv
    have hf : a.eval (Operand.func f) = .func (.func f) #[] #[] := rfl
    simp [execOp, ho, resolve, invoke, hf, Deferred.ofValue, he]
  rw [this, Oper.upon_enter]
  refine h.mono ?_
  rintro e w' ⟨v, rfl, hk⟩
  exact hk
/-- a load whose answer is known -/
theorem step_load (hg : o.guard = none) (ty : TypeId) (x : Operand) (ho : o.op = .load ty x) (p v : Value) (hx : a.eval x = p) (hrun : (Instr.loadAt ty p).run P w = .ok v w) (h : K (a.put o.dst v) w) : if Region.wanted o (yielded ops a.tmps) = true then o.wp P a w K Q else F :=
  step_val hg (by simp [execOp, ho, hx, hrun]) h
end
end Go.Agg
