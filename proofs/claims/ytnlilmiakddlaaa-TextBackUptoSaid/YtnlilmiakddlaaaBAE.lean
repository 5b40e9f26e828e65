/- (of general use) spenceref03.Less (Several texts in one.) -/
import Derived.Test.YtnlilmiakddlaaaBAD
import Derived.Test.YtnlilmiakddlaaaShelf
import Derived.Test.YtnlilmiakddlaaaBAA
import Derived.Stop.BytesEq
import Derived.Lib.Bytealg
import Derived.Lib.BytesEntry
/-! (of general use) Parse: a text's path (base and spenceref03). -/
namespace Go.Agg
open Go.RowKit
section
variable {P : Program} {ops : Array Oper} {rest : List Oper} {o : Oper} {a : Act} {w : World} {Q : Exit → Act → World → Prop}
/-- a value of several cells stored into the midst of a block -/
theorem wpList_set_sub (hg : o.guard = none) (hd : o.dst = none) (ty : TypeId) (x y : Operand) (ho : o.op = .store ty x y) (g off : Nat) (cells new : Array Value) (hx : a.eval x = .pointer (some ⟨g, off, none⟩)) (hy : a.eval y = .agg cells)
    (t : TypeId) (old : Array Value) (hb : w.heap[g]? = some (.cells old t (0, 0))) (hi : (P.info? ty).map (·.size) = some cells.size) (hle : off + cells.size ≤ old.size) (h1 : cells.all (·.oneCell') = true)
    (hnew : (old.toList.take off ++ cells.toList ++ old.toList.drop (off + cells.size)).toArray = new)
    (h : wpList P ops Q rest a (w.setRow g new)) : wpList P ops Q (o :: rest) a w := by
  refine wpList_skp hg hd ?_ h
  have hr := run_storeCells_at (P := P) g off t cells.toList 0 old w hb (by simp; omega) (fun v hv => (Array.all_eq_true_iff_forall_mem.1 h1) v (by simpa using hv))
  simp only [Nat.add_zero, Array.length_toList] at hr
  rw [hnew] at hr
  cases hq : P.info? ty with
  | none => simp [hq] at hi
  | some i =>
    have hs : cells.size = i.size := by simp [hq] at hi; omega
    simp [execOp, ho, hx, hy, Instr.storeAt, Instr.sureAddr, storeVar, sizeOf, typeInfo, hq, Value.cells, hs, hr]
end
end Go.Agg
namespace Go.Proofs.Ytnlilmiakddlaaa
open Go.RowKit Pl Go.Mp Go.Agg
def parseH (s : List UInt8) : List UInt8 := ((parse s).map (·.1)).getD z20
def parseN (s : List UInt8) : List UInt8 := ((parse s).map (·.2)).getD []
def parseE (s : List UInt8) : Int := if (parse s).isSome then 0 else 4
theorem pC_zero : (Try.prog.info? 40).map (·.zero) = some (some (.agg (pC z20 []))) := by kernel_rfl
theorem pC_info (h n : List UInt8) (hl : h.length = 20) : (Try.prog.info? 40).map (·.size) = some (pC h n).size := by rw [pC_size, hl]; kernel_rfl
theorem pC_one (h n : List UInt8) : (pC h n).all (·.oneCell') = true := by simp [pC, hC, Lib.byteCells, Value.oneCell']
theorem pC_under : Try.prog.underlying 40 = some (.struct (Try.prog.fieldsOf 40)) := by kernel_rfl
theorem sixteen (s : List UInt8) (hs : s.length < 4294967281) : (⟨s.toArray⟩ : ByteArray).size < 4294967281 := by rw [Agg.bytes_size]; exact hs
theorem pC_setHash (h h' n : List UInt8) (hl : h.length = 20) (hl' : h'.length = 20) : ((pC h n).toList.take 0 ++ (hC h').toList ++ (pC h n).toList.drop (0 + (hC h').size)).toArray = pC h' n := by
  apply Array.ext'
  simp [pC, hC, Lib.byteCells, hl, hl']
theorem pC_setName (h n n' : List UInt8) (hl : h.length = 20) : (pC h n).setIfInBounds 20 (.string ⟨n'.toArray⟩) = pC h n' := by
  apply Array.ext'
  simp [pC, hC, Lib.byteCells, hl]
theorem hashH_length (s : List UInt8) : (hashH s).length = 20 := by
  unfold hashH
  cases h : Pl.hash s with
  | none => rfl
  | some x => exact hash_length h
theorem cut_le (c : UInt8) (s : List UInt8) : (cut1 c s).2.1.length ≤ s.length := by
  induction s with
  | nil => simp [cut1]
  | cons b l ih => unfold cut1; split <;> simp <;> omega
end Go.Proofs.Ytnlilmiakddlaaa
/-! base.Letters: the letters of any hash. -/
namespace Go.Proofs.Ytnlilmiakddlaaa
open Go.RowKit Pl
set_option maxHeartbeats 400000 in
theorem letters_any (h : List UInt8) (hl : h.length = 20) (w : World) :
    Calls Try.prog 19 #[.agg (hC h)] w fun e w' => e = .returned (.string ⟨(letters h).toArray⟩) ∧ Below w.heap.size w w' := by
  have HL := Lib.hid hl
  have hix := fun k hk w => hC_at h k hl hk w
  clear hl
  go_enter Try.func19, Try.ntmps19
  go_wp2_with (first | (with_reducible refine wpList_load_row rfl 38 _ rfl w.heap.size rfl 38 (hC h) (0, 0) (.array 20 5) ?hg Try.underlying38 rfl ?hs ?_))
  case hg => exact heap_alloc2_old _ _ _
  case hs => rw [hC_size, HL.out]; kernel_rfl
  go_wp2_with fail
  go_loopw [4, 5, 9] (fun c m i wr => ∃ k : Nat, k ≤ 20 ∧ i = .int .i64 k ∧ c = .int .u32 (heldTo h k (8 * k / 5) : Nat) ∧ m = .int .u32 ((8 * k - 5 * (8 * k / 5) : Nat) : Int) ∧
      Lib.IsBuilderF 61 5 (w.heap.size) (w.heap.size + 1) (Lib.byteCells (outTo h k (8 * k / 5))) wr ∧ Below w.heap.size w wr)
    (fun _ _ i _ => 20 - (intOf i).toNat)
  case atStart =>
    refine ⟨0, by omega, rfl, by simp [heldTo, numTo_zero], rfl, ?_, ((Below.refl _ _).alloc (Nat.le_refl _) _).alloc (by simp) _⟩
    exact fresh_builder (w.alloc (.cells (hC h) 38)) (w.heap.size + 1) (by simp) (by simp)
  case round =>
    obtain ⟨k, hk, rfl, rfl, rfl, hB, hw⟩ := hrel
    by_cases hlt : k < 20
    · have hd : decide ((k : Int) < 20) = true := by simp; omega
      go_wp2_with fail
      rw [or_held h k HL.out hlt]
      have hmm : 8 * k - 5 * (8 * k / 5) < 5 := by omega
      go_loopw [4, 5] (fun c m wr => ∃ j : Nat, 5 * j ≤ 8 * (k + 1) ∧ 8 * (k + 1) < 5 * j + 14 ∧ c = .int .u32 (heldTo h (k + 1) j : Nat) ∧ m = .int .u32 ((8 * (k + 1) - 5 * j : Nat) : Int) ∧
        Lib.IsBuilderF 61 5 (w.heap.size) (w.heap.size + 1) (Lib.byteCells (outTo h (k + 1) j)) wr ∧ Below w.heap.size w wr)
        (fun _ m _ => (intOf m).toNat)
      case atStart => exact ⟨8 * k / 5, by omega, by omega, rfl, by rw [show 8 * (k + 1) - 5 * (8 * k / 5) = 8 * k - 5 * (8 * k / 5) + 8 by omega]; go_num, by rw [outTo_byte h k _ (by rw [HL.out]; exact hlt) (by omega)]; exact hB, hw⟩
      case round =>
        obtain ⟨j, hj, hj2, rfl, rfl, hB, hw⟩ := hrel
        by_cases hge : 5 ≤ 8 * (k + 1) - 5 * j
        · have hlt2 : heldTo h (k + 1) j < 4294967296 := by
            have h1 := heldTo_lt h (k + 1) j (by rw [HL.out]; omega) hj
            have h2 : 2 ^ (8 * (k + 1) - 5 * j) ≤ 2 ^ 13 := Nat.pow_le_pow_right (by omega) (by omega)
            omega
          have e31 := and31 _ hlt2
          have hla := letter_at .u32 (lo5 (heldTo h (k + 1) j)) (lo5_lt _)
          go_wp2_with fail
          refine (Try.Builder_WriteByte_k _ _ _ _ _ hB (by simp only [Lib.byteCells, List.length_map, outTo_length]; omega) hw.size).mono ?_
          rintro e w' ⟨rfl, hB', hw', _⟩
          have hB2 : Lib.IsBuilderF 61 5 w.heap.size (w.heap.size + 1) (Lib.byteCells (outTo h (k + 1) (j + 1))) w' := by
            rw [outTo_letter]
            have := hB'
            simp only [Lib.byteCells, List.map_append, List.map_cons, List.map_nil] at this ⊢
            exact .inr this
          clear hB'
          go_wp2_with fail
          go_roundw
          case rel => exact ⟨j + 1, by omega, by omega, by rw [heldTo_letter]; go_num, by rw [show 8 * (k + 1) - 5 * (j + 1) = 8 * (k + 1) - 5 * j - 5 by omega]; go_num, hB2, hw.trans hw'⟩
          case measure => simp [intOf]; omega
        · go_wp2_with fail
          go_roundw
          case rel =>
            have hj : j = 8 * (k + 1) / 5 := by omega
            subst hj
            exact ⟨k + 1, by omega, by go_num, rfl, rfl, hB, hw⟩
          case measure => simp [intOf]; omega
    · obtain rfl : k = 20 := by omega
      go_wp2_with fail
      refine (Try.Builder_String_any_k _ _ _ _ hB hw.size).mono ?_
      rintro e w' ⟨rfl, hB', hw', _⟩
      go_wp2_with fail
      go_ret
      exact ⟨by rw [outTo_end h HL.out]; rfl, hw.trans hw'⟩
end Go.Proofs.Ytnlilmiakddlaaa
/-! base.values and base.Hash: the hash of letters. -/
namespace Go.Proofs.Ytnlilmiakddlaaa
open Go.RowKit Pl Go.Mp
set_option maxRecDepth 100000 in
set_option maxHeartbeats 400000 in
theorem values_any (w : World) :
    Calls Try.prog 46 #[] w fun e w' => e = .returned (.map (some w.heap.size)) ∧ MapIs w' w.heap.size rK nV (vals 32) ∧ Below w.heap.size w w' := by
  have hmm := @run_makeMap Try.prog
  have hlt : ∀ k, k < 32 → (letter k).toNat < 128 := by decide
  go_enter Try.func46, Try.ntmps46
  go_wp2_with fail
  clear hmm
  go_loopw [2] (fun _ wr => ∃ k : Nat, k ≤ 32 ∧ wr.heap[w.heap.size + 1]? = some (.stringIter ⟨alpha.toArray⟩ k) ∧ MapIs wr w.heap.size rK nV (vals k) ∧ Below w.heap.size w wr)
    (fun _ wr => 32 - wr.iterPos (w.heap.size + 1))
  case atStart => exact ⟨0, by omega, heap_alloc2_new w _ _, ⟨#[], 0, heap_alloc2_old w _ _, rfl⟩, ((Below.refl _ w).alloc (Nat.le_refl _) _).alloc (by simp) _⟩
  case round =>
    obtain ⟨k, hk, hit, hm, hw⟩ := hrel
    by_cases h32 : k < 32
    · have hal : alpha[k]'(by simpa [alpha] using h32) = letter k := by simp [letter, List.getD, List.getElem?_eq_getElem (show k < alpha.length by simpa [alpha] using h32)]
      have hn := nextAt_low wr _ alpha k 0 hit (by simpa [alpha] using h32) (by rw [hal]; exact hlt k h32)
      rw [hal] at hn
      clear hal
      have hm2 : MapIs (wr.iterAt (w.heap.size + 1) ⟨alpha.toArray⟩ (k + 1)) w.heap.size rK nV (vals k) := hm.keep (Lib.iterAt_other _ _ _ _ _ (by omega))
      have hit2 := Lib.iterAt_heap wr (w.heap.size + 1) ⟨alpha.toArray⟩ k (k + 1) hit
      have hw2 := Lib.below_iterAt hw (show w.heap.size ≤ w.heap.size + 1 by omega) ⟨alpha.toArray⟩ (k + 1)
      go_wp2_with (at_mapUpdate; refine Mp.wpList_mapUpdate rfl rfl _ _ _ 98 21 81 rfl Try.underlying98 keyR rfl hm2 ((letter k).toNat : Int) rfl k rfl ?_; intro w1 hm3 hb3)
      rw [vals_step k h32] at hm3
      have hit3 : w1.heap[w.heap.size + 1]? = some (.stringIter ⟨alpha.toArray⟩ (k + 1)) := (hb3.other (by omega)).trans hit2
      go_roundw
      case rel => exact ⟨k + 1, by omega, hit3, hm3, hb3.below hw2 (Nat.le_refl _)⟩
      case measure => simp [World.iterPos, hit, hit3]; omega
    · obtain rfl : k = 32 := by omega
      have hn := nextAt_end wr _ alpha 0 hit
      go_wp2_with fail
      go_ret
      exact ⟨rfl, hm, hw⟩
set_option maxRecDepth 100000 in
set_option maxHeartbeats 1000000 in
theorem hash_long (s : List UInt8) (hl : s.length ≠ 32) (w : World) :
    Calls Try.prog 43 #[.string ⟨s.toArray⟩] w fun e w' => e = .returned (.tuple #[.agg (hC z20), .int .i64 4]) ∧ Below w.heap.size w w' := by
  have hsz := Agg.bytes_size s
  have hlen : ∀ w, (Builtin.len_ #[9] 3 #[.string ⟨s.toArray⟩]).run Try.prog w = .ok (.int .i64 (s.length : Int)) w := fun w => by rw [run_len_string w 9 3 _ Try.underlying9, hsz]; rfl
  clear hsz
  have hd : ((s.length : Int) != 32) = true := by rw [bne_iff_ne]; omega
  have hb := heap_alloc_new w (.cells (hC z20) 38)
  go_enter Try.func43, Try.ntmps43
  go_wp2_with (first | (with_reducible refine Agg.wpList_alloc_row rfl 38 rfl (hC z20) z20_zero ?_) | (with_reducible refine wpList_load_row rfl 38 _ rfl w.heap.size rfl 38 (hC z20) (0, 0) (.array 20 5) hb Try.underlying38 rfl (hC_info _ z20_length) ?_) | (with_reducible refine Agg.wpList_set_row rfl rfl 38 _ _ rfl w.heap.size (hC z20) rfl rfl 38 (hC z20) hb (hC_info _ z20_length) rfl (hC_one _) ?_))
  exact Agg.post_row_tmp rfl rfl rfl (setRow_heap _ _ _ _ _ _ hb) Try.underlying38 rfl (hC_info _ z20_length) rfl ⟨rfl, Agg.below_setRow ((Below.refl _ _).alloc (Nat.le_refl _) _) (Nat.le_refl _)⟩
set_option maxRecDepth 100000 in
set_option maxHeartbeats 1000000 in
theorem hash_32 (s : List UInt8) (hl : s.length = 32) (w : World) :
    Calls Try.prog 43 #[.string ⟨s.toArray⟩] w fun e w' => e = .returned (.tuple #[.agg (hC (hashH s)), .int .i64 (hashE s)]) ∧ Below w.heap.size w w' := by
  have hsz := Agg.bytes_size s
  have hlen : ∀ w, (Builtin.len_ #[9] 3 #[.string ⟨s.toArray⟩]).run Try.prog w = .ok (.int .i64 32) w := fun w => by rw [run_len_string w 9 3 _ Try.underlying9, hsz, hl]; rfl
  clear hsz
  have HL := Lib.hid hl
  clear hl
  have hb := heap_alloc_new w (.cells (hC z20) 38)
  go_enter Try.func43, Try.ntmps43
  go_wp2_with (first | (with_reducible refine Agg.wpList_alloc_row rfl 38 rfl (hC z20) z20_zero ?_) | (go_at_call 46; refine (values_any _).mono ?_; rintro e w1 ⟨rfl, hm1, hw1⟩))
  rw [World.size_alloc] at hm1 hw1
  have hb1 := Agg.keep hw1 hb (by omega)
  have hsz1 : w.heap.size + 1 < w1.heap.size := hm1.lt
  clear hlen
  go_loopw [5, 6, 7] (fun c m a wr => ∃ k l, c = .int .u32 (heldB (lnum l) k : Nat) ∧ m = .int .u32 ((5 * k - 8 * (5 * k / 8) : Nat) : Int) ∧ a = .int .i64 ((5 * k / 8 : Nat) : Int) ∧ HashIs w.heap.size (w.heap.size + 1) w1.heap.size s k l w wr)
    (fun _ _ _ wr => 32 - wr.iterPos w1.heap.size)
  case atStart => exact ⟨0, [], rfl, rfl, rfl, by omega, rfl, heap_alloc_new _ _, hm1.keep (heap_alloc_old _ _ hsz1), (heap_alloc_old _ _ (by omega)).trans hb1, ((((Below.refl _ w).alloc (Nat.le_refl _) _).trans (hw1.mono (by omega)))).alloc (by omega) _⟩
  case round =>
    obtain ⟨k, l, rfl, rfl, rfl, hk, hl, hit, hm, hb, hw⟩ := hrel
    have hmm := hl
    have HLL := Lib.hid hl
    clear hl hmm
    by_cases hlt : k < 32
    · have hks : k < s.length := by rw [HL.out]; exact hlt
      by_cases hc : s[k].toNat < 128
      · have hn := nextAt_low wr _ s k 0 hit hks hc
        have hm2 : MapIs (wr.iterAt w1.heap.size ⟨s.toArray⟩ (k + 1)) (w.heap.size + 1) rK nV (vals 32) := hm.keep (Lib.iterAt_other _ _ _ _ _ (by omega))
        have hb2 : (wr.iterAt w1.heap.size ⟨s.toArray⟩ (k + 1)).heap[w.heap.size]? = some (.cells (hC (hashTo (lnum l) k)) 38 (0, 0)) := (Lib.iterAt_other _ _ _ _ _ (by omega)).trans hb
        have hit2 := Lib.iterAt_heap wr w1.heap.size ⟨s.toArray⟩ k (k + 1) hit
        have hw2 := Lib.below_iterAt hw (show w.heap.size ≤ w1.heap.size by omega) ⟨s.toArray⟩ (k + 1)
        have hget := vals_get s[k].toNat s[k].toNat_lt
        rw [UInt8.ofNat_toNat] at hget
        cases hv : val s[k] with
        | none =>
          rw [hv] at hget
          have hh : hashH s = z20 ∧ hashE s = 4 := by
            have : Pl.hash s = none := by unfold Pl.hash; rw [if_pos HL.out, mapM_none k hks hv]; rfl
            simp [hashH, hashE, this]
          have HH := Lib.hid hh
          clear hh
          go_wp2_with (first | (at_lookup; refine Mp.wpList_lookup_miss rfl _ _ 98 21 81 rfl Try.underlying98 keyR zero99 rfl hm2 (s[k].toNat : Int) rfl hget ?_) | (with_reducible refine Agg.wpList_build_zero rfl 38 rfl (.agg (hC z20)) build_zero ?_) | (with_reducible refine Agg.wpList_set_row rfl rfl 38 _ _ rfl w.heap.size (hC z20) rfl rfl 38 _ hb2 (hC_info _ z20_length) ?hsz (hC_one _) ?_))
          case hsz => rw [hC_size, hC_size, hashTo_length _ _ hk]; rfl
          exact Agg.post_row_tmp rfl rfl rfl (setRow_heap _ _ _ _ _ _ hb2) Try.underlying38 rfl (hC_info _ z20_length) rfl ⟨by rw [HH.out.1, HH.out.2]; rfl, Agg.below_setRow hw2 (Nat.le_refl _)⟩
        | some n =>
          rw [hv] at hget
          have hn32 := val_lt hv
          have hl2 := mapM_take k hks HLL.out hv
          obtain ⟨hls, hlb, hll⟩ := mapM_val HLL.out
          have hll' : l.length = k := by rw [hll, List.length_take, HL.out]; omega
          have hheld := heldB_lt (lnum l) k (by have := lnum_lt l hlb; rwa [hll'] at this)
          have eor := or_disjoint8 _ n _ hheld hn32 (by omega)
          have hXb : heldB (lnum l) k + 2 ^ (5 * k - 8 * (5 * k / 8)) * n < 4096 := by
            have h5 : 2 ^ (5 * k - 8 * (5 * k / 8)) ≤ 2 ^ 7 := Nat.pow_le_pow_right (by omega) (by omega)
            have hp : 2 ^ (5 * k - 8 * (5 * k / 8)) * n ≤ 2 ^ 7 * 31 := Nat.mul_le_mul h5 (by omega)
            omega
          have hstep := lnum_snoc l n
          rw [hll'] at hstep
          have HS := Lib.hid (And.intro hl2 hstep)
          obtain ⟨X, hX⟩ : ∃ X, X = heldB (lnum l) k + 2 ^ (5 * k - 8 * (5 * k / 8)) * n := ⟨_, rfl⟩
          rw [← hX] at eor hXb
          have HX := Lib.hid hX
          clear hX hl2 hstep hls hlb hll hll' hheld hv
          have hcell : (wr.iterAt w1.heap.size ⟨s.toArray⟩ (k + 1)).cell? ⟨w.heap.size, 5 * k / 8, none⟩ = some (.int .u8 (((hashTo (lnum l) k)[5 * k / 8]'(by rw [hashTo_length _ _ hk]; omega)).toNat : Int)) := by
            rw [cell_of_row _ _ _ _ _ _ hb2, hC_get _ _ (by rw [hashTo_length _ _ hk]; omega)]
          have hfr : (wr.iterAt w1.heap.size ⟨s.toArray⟩ (k + 1)).frozen? ⟨w.heap.size, 5 * k / 8, none⟩ = false := frozen_of_row _ _ _ _ _ hb2
          generalize hW : wr.iterAt w1.heap.size ⟨s.toArray⟩ (k + 1) = W2 at *
          clear hW
          have hsize : (hashTo (lnum l) k).length = 20 := hashTo_length _ _ hk
          have HZ := Lib.hid hsize
          clear hsize
          by_cases hby : 5 * (k + 1) / 8 = 5 * k / 8 + 1
          · have HB := hashTo_byte (lnum l) k n hlt hby
            rw [← HX.out, ← HS.out.2] at HB
            have HBB := Lib.hid HB
            clear HB
            have hb3 := heap_setCell_same W2 w.heap.size (5 * k / 8) _ _ (.int .u8 ((UInt8.ofNat X).toNat : Int)) hb2
            rw [hC_set, ← HBB.out.1] at hb3
            have e8 : ((UInt8.ofNat X).toNat : Int) = (X : Int) % 256 := by simp [UInt8.toNat_ofNat']
            rw [e8] at hb3
            have hit3 : (W2.setCell ⟨w.heap.size, 5 * k / 8, none⟩ (.int .u8 ((X : Int) % 256))).heap[w1.heap.size]? = some (.stringIter ⟨s.toArray⟩ (k + 1)) := (heap_setCell_other _ _ _ _ (by simp; omega)).trans hit2
            have hm3 : MapIs (W2.setCell ⟨w.heap.size, 5 * k / 8, none⟩ (.int .u8 ((X : Int) % 256))) (w.heap.size + 1) rK nV (vals 32) := hm2.keep (heap_setCell_other _ _ _ _ (by simp))
            have hw3 := hw2.setCell (p := ⟨w.heap.size, 5 * k / 8, none⟩) (Nat.le_refl _) (.int .u8 ((X : Int) % 256))
            clear e8
            go_wp2_with (at_lookup; refine Mp.wpList_lookup_hit rfl _ _ 98 21 81 rfl Try.underlying98 keyR zero99 rfl hm2 (s[k].toNat : Int) rfl n hget ?_; dsimp only [nV])
            go_roundw
            case rel => exact ⟨k + 1, l ++ [n], by rw [HBB.out.2]; go_num, by rw [hby, show 5 * (k + 1) - 8 * (5 * k / 8 + 1) = 5 * k - 8 * (5 * k / 8) + 5 - 8 by omega]; go_num, by rw [hby]; go_num, by omega, HS.out.1, hit3, hm3, hb3, hw3⟩
            case measure => simp [World.iterPos, hit, hit3]; omega
          · have hst : 5 * (k + 1) / 8 = 5 * k / 8 := by omega
            have HB := hashTo_stay (lnum l) k n hst
            rw [← HX.out, ← HS.out.2] at HB
            have HBB := Lib.hid HB
            clear HB
            have HST := Lib.hid hst
            clear hst
            go_wp2_with (at_lookup; refine Mp.wpList_lookup_hit rfl _ _ 98 21 81 rfl Try.underlying98 keyR zero99 rfl hm2 (s[k].toNat : Int) rfl n hget ?_; dsimp only [nV])
            go_roundw
            case rel => exact ⟨k + 1, l ++ [n], by rw [HBB.out.2], by rw [HST.out, show 5 * (k + 1) - 8 * (5 * k / 8) = 5 * k - 8 * (5 * k / 8) + 5 by omega]; go_num, by rw [HST.out]; go_num, by omega, HS.out.1, hit2, hm2, by rw [HBB.out.1]; exact hb2, hw2⟩
            case measure => simp [World.iterPos, hit, hit2]; omega
      · obtain ⟨r, k', hr, hr2, hk', hn⟩ := nextAt_high wr _ s k 0 hit hks (by omega)
        have hm2 : MapIs (wr.iterAt w1.heap.size ⟨s.toArray⟩ k') (w.heap.size + 1) rK nV (vals 32) := hm.keep (Lib.iterAt_other _ _ _ _ _ (by omega))
        have hb2 : (wr.iterAt w1.heap.size ⟨s.toArray⟩ k').heap[w.heap.size]? = some (.cells (hC (hashTo (lnum l) k)) 38 (0, 0)) := (Lib.iterAt_other _ _ _ _ _ (by omega)).trans hb
        have hw2 := Lib.below_iterAt hw (show w.heap.size ≤ w1.heap.size by omega) ⟨s.toArray⟩ k'
        have hget := vals_high r hr
        have hh : hashH s = z20 ∧ hashE s = 4 := by
          have hv : val s[k] = none := by
            cases hv : val s[k] with
            | none => rfl
            | some n => exact absurd (val_low hv) hc
          have : Pl.hash s = none := by unfold Pl.hash; rw [if_pos HL.out, mapM_none k hks hv]; rfl
          simp [hashH, hashE, this]
        have HH := Lib.hid hh
        clear hh
        go_wp2_with (first | (at_lookup; refine Mp.wpList_lookup_miss rfl _ _ 98 21 81 rfl Try.underlying98 keyR zero99 rfl hm2 r rfl hget ?_) | (with_reducible refine Agg.wpList_build_zero rfl 38 rfl (.agg (hC z20)) build_zero ?_) | (with_reducible refine Agg.wpList_set_row rfl rfl 38 _ _ rfl w.heap.size (hC z20) rfl rfl 38 _ hb2 (hC_info _ z20_length) ?hsz (hC_one _) ?_))
        case hsz => rw [hC_size, hC_size, hashTo_length _ _ hk]; rfl
        exact Agg.post_row_tmp rfl rfl rfl (setRow_heap _ _ _ _ _ _ hb2) Try.underlying38 rfl (hC_info _ z20_length) rfl ⟨by rw [HH.out.1, HH.out.2]; rfl, Agg.below_setRow hw2 (Nat.le_refl _)⟩
    · obtain rfl : k = 32 := by omega
      have hn := nextAt_end wr _ s 0 (by rw [HL.out]; exact hit)
      have hh : hashH s = hashTo (lnum l) 32 ∧ hashE s = 0 := by
        have h1 := HLL.out
        rw [List.take_of_length_le (by rw [HL.out]; omega)] at h1
        have : Pl.hash s = some (hashTo (lnum l) 32) := by unfold Pl.hash; rw [if_pos HL.out, h1, hashTo_32]; rfl
        simp [hashH, hashE, this]
      have HH := Lib.hid hh
      clear hh
      have hl20 := hashTo_length (lnum l) 32 (by omega)
      have HZ := Lib.hid hl20
      clear hl20
      go_wp2_with (first | (with_reducible refine wpList_load_row rfl 38 _ rfl w.heap.size rfl 38 _ (0, 0) (.array 20 5) hb Try.underlying38 rfl (hC_info _ HZ.out) ?_) | (with_reducible refine Agg.wpList_set_row rfl rfl 38 _ _ rfl w.heap.size _ rfl rfl 38 _ hb (hC_info _ HZ.out) rfl (hC_one _) ?_))
      exact Agg.post_row_tmp rfl rfl rfl (setRow_heap _ _ _ _ _ _ hb) Try.underlying38 rfl (hC_info _ HZ.out) rfl ⟨by rw [HH.out.1, HH.out.2]; rfl, Agg.below_setRow hw (Nat.le_refl _)⟩
end Go.Proofs.Ytnlilmiakddlaaa
/-! Path: a path's text (base and spenceref03). -/
namespace Go.Proofs.Ytnlilmiakddlaaa
open Go.RowKit Pl Go.Mp Go.Agg
set_option maxRecDepth 100000 in
set_option maxHeartbeats 1000000 in
theorem path_any (h n : List UInt8) (hl : h.length = 20) (w : World) :
    Calls Try.prog 20 #[.agg (pC h n)] w fun e w' => e = .returned (.tuple #[.string ⟨(pathS h n).toArray⟩, .int .i64 (pathE n)]) ∧ Below w.heap.size w w' := by
  have hb := heap_alloc_new w (.cells (pC h n) 40)
  have hcell : (w.alloc (.cells (pC h n) 40)).cell? ⟨w.heap.size, 20, none⟩ = some (.string ⟨n.toArray⟩) := by rw [cell_of_row _ _ _ _ _ _ hb, pC_name h n hl]
  have HL := Lib.hid hl
  clear hl
  have HB := Lib.hid hb
  clear hb
  cases hn : isName n with
  | false =>
    go_enter Try.func20, Try.ntmps20
    go_wp2_with (go_at_call 15; refine (name_any _ _).mono ?_; rintro e w1 ⟨rfl, hw1⟩; rw [hn])
    go_ret2
    exact ⟨by simp [pathS, pathE, hn], ((Below.refl _ _).alloc (Nat.le_refl _) _).trans (hw1.mono (by simp))⟩
  | true =>
    go_enter Try.func20, Try.ntmps20
    go_wp2_with (go_at_call 15; refine (name_any _ _).mono ?_; rintro e w1 ⟨rfl, hw1⟩; rw [hn])
    have hb1 := Agg.keep' hw1 HB.out
    have hc1 : ∀ x : Later w1, x.w.cell? ⟨w.heap.size, 20, none⟩ = some (.string ⟨n.toArray⟩) := fun x => by rw [cell_of_row _ _ _ _ _ _ (x.heap hb1), pC_name h n HL.out]
    have hl1 : ∀ x : Later w1, (Instr.loadAt 38 (.pointer (some ⟨w.heap.size, 0, none⟩))).run Try.prog x.w = .ok (.agg (hC h)) x.w := fun x => Agg.run_loadAt_sub (x.heap hb1) (pC_hash h n) Try.underlying38 rfl (hC_info h HL.out)
    have hln : n.length ≤ 24 := isName_le hn
    have hll : (letters h).length ≤ 32 := by rw [letters_length]; omega
    refine Agg.wp_region_later_lit (by kernel_rfl) (by kernel_rfl) ?_
    repeat (first | (with_reducible refine Agg.wpQuiet_load rfl 38 _ rfl (.pointer (some ⟨w.heap.size, 0, none⟩)) rfl (.agg (hC h)) (Agg.later_all hl1) ?_; simp only [Act.put, List.setIfInBounds_toArray, List.set_cons_succ, List.set_cons_zero]) | go_big_quiet_step ((go_at_call 19; exact Agg.Calls.later (letters_any h HL.out _))))
    refine wpQuiet_nil ?_
    intro _ hw'
    obtain ⟨x, rfl⟩ := hw'
    go_wp2_with fail
    go_ret2
    exact ⟨ret_pair (text_eq h n hn) (by simp [pathE, hn]), ((Below.refl _ _).alloc (Nat.le_refl _) _).trans ((hw1.mono (by simp)).trans (x.h.mono (by have := hw1.size; simp at this; omega)))⟩
end Go.Proofs.Ytnlilmiakddlaaa
/-! Parse: a text's path (base and spenceref03). -/
namespace Go.Agg
open Go.RowKit
section
variable {P : Program} {ops : Array Oper} {rest : List Oper} {o : Oper} {a : Act} {w : World} {Q : Exit → Act → World → Prop}
end
end Go.Agg
namespace Go.Proofs.Ytnlilmiakddlaaa
open Go.RowKit Pl Go.Mp Go.Agg
/-- strings.Cut at one byte -/
theorem cut_eq (c : UInt8) (s : List UInt8) : Lib.cut s [c] = cut1 c s := by
  unfold Lib.cut
  rw [Lib.index_one]
  induction s with
  | nil => simp [Lib.indexByte, cut1]
  | cons b l ih =>
    unfold cut1 Lib.indexByte
    by_cases e : b = c
    · simp [e]
    · simp only [beq_iff_eq, e, if_false]
      rw [← ih]
      have hge : -1 ≤ Lib.indexByte l c := by rw [← Lib.index_one]; exact Lib.index_ge _ _
      by_cases h : Lib.indexByte l c = -1
      · simp [h]
      · have h0 : 0 ≤ Lib.indexByte l c := by omega
        rw [if_neg h, if_pos (by omega), if_pos h0]
        obtain ⟨n, hn⟩ := Int.eq_ofNat_of_zero_le h0
        rw [hn]
        rw [show ((n : Int) + 1).toNat = n + 1 by omega, show ((n : Int)).toNat = n by omega]
        simp

theorem cut_any (s : List UInt8) (c : UInt8) (hs : s.length < 4294967281) (m : Int) (w : World) (hm : w.cell? ⟨0, 0, none⟩ = some (.int .i64 m)) :
    Calls Try.prog 33 #[.string ⟨s.toArray⟩, .string ⟨#[c]⟩] w fun e w' => e = .returned (.tuple #[.string ⟨(cut1 c s).1.toArray⟩, .string ⟨(cut1 c s).2.1.toArray⟩, .bool (cut1 c s).2.2]) ∧ Below w.heap.size w w' := by
  refine (Try.strings_Cut ⟨s.toArray⟩ ⟨#[c]⟩ m _ (sixteen s hs) hm).mono ?_
  rintro e w' ⟨rfl, n, rfl⟩
  have hc : Lib.cut (⟨s.toArray⟩ : ByteArray).data.toList (⟨#[c]⟩ : ByteArray).data.toList = cut1 c s := cut_eq c s
  rw [hc]
  exact ⟨rfl, below_drewN (Below.refl _ _) n⟩
/-- base.Hash at any text -/
theorem hash_any (s : List UInt8) (w : World) :
    Calls Try.prog 43 #[.string ⟨s.toArray⟩] w fun e w' => e = .returned (.tuple #[.agg (hC (hashH s)), .int .i64 (hashE s)]) ∧ Below w.heap.size w w' := by
  by_cases h : s.length = 32
  · exact hash_32 s h w
  · have : Pl.hash s = none := by unfold Pl.hash; rw [if_neg h]
    have h1 : hashH s = z20 := by simp [hashH, this]
    have h2 : hashE s = 4 := by simp [hashE, this]
    rw [h1, h2]
    exact hash_long s h w
set_option maxRecDepth 100000 in
set_option maxHeartbeats 1000000 in
theorem parse_any (s : List UInt8) (hs : s.length < 4294967281) (m : Int) (w : World) (hm : w.cell? ⟨0, 0, none⟩ = some (.int .i64 m)) :
    Calls Try.prog 41 #[.string ⟨s.toArray⟩] w fun e w' => e = .returned (.tuple #[.agg (pC (parseH s) (parseN s)), .int .i64 (parseE s)]) ∧ Below w.heap.size w w' := by
  have hb := heap_alloc_new w (.cells (pC z20 []) 40)
  have hm1 : (w.alloc (.cells (pC z20 []) 40)).cell? ⟨0, 0, none⟩ = some (.int .i64 m) := (((Below.refl _ w).alloc (Nat.le_refl _) _).cell (block_lt_of_cell hm)).trans hm
  have HM := Lib.hid hm1
  have HB := Lib.hid hb
  clear hm1 hm hb
  cases hy : (cut1 45 s).2.2 with
  | false =>
    have hp : parseH s = z20 ∧ parseN s = [] ∧ parseE s = 4 := by
      have : parse s = none := by unfold parse; rw [hy]; rfl
      simp [parseH, parseN, parseE, this]
    have HP := Lib.hid hp
    clear hp
    go_enter Try.func41, Try.ntmps41
    go_wp2_with (with_reducible refine Agg.wpList_alloc_row rfl 40 rfl (pC z20 []) pC_zero ?_)
    refine (cut_any s 45 hs m _ HM.out).mono ?_
    rintro e w1 ⟨rfl, hw1⟩
    rw [hy]
    have hb1 := Agg.keep' hw1 HB.out
    go_wp2_with (first | (with_reducible refine wpList_load_row rfl 40 _ rfl w.heap.size rfl 40 _ (0, 0) _ hb1 pC_under rfl (pC_info _ _ z20_length) ?_) | (with_reducible refine Agg.wpList_set_row rfl rfl 40 _ _ rfl w.heap.size _ rfl rfl 40 _ hb1 (pC_info _ _ z20_length) rfl (pC_one _ _) ?_))
    exact Agg.post_row_tmp rfl rfl rfl (setRow_heap _ _ _ _ _ _ hb1) pC_under rfl (pC_info _ _ z20_length) rfl ⟨by rw [HP.out.1, HP.out.2.1, HP.out.2.2]; rfl, Agg.below_setRow (((Below.refl _ _).alloc (Nat.le_refl _) _).trans (hw1.mono (by simp))) (Nat.le_refl _)⟩
  | true =>
    cases hn : isName (cut1 45 s).2.1 with
    | false =>
      have hp : parseH s = z20 ∧ parseN s = [] ∧ parseE s = 4 := by
        have : parse s = none := by unfold parse; rw [hy, hn]; rfl
        simp [parseH, parseN, parseE, this]
      have HP := Lib.hid hp
      clear hp
      go_enter Try.func41, Try.ntmps41
      go_wp2_with (with_reducible refine Agg.wpList_alloc_row rfl 40 rfl (pC z20 []) pC_zero ?_)
      refine (cut_any s 45 hs m _ HM.out).mono ?_
      rintro e w1 ⟨rfl, hw1⟩
      rw [hy]
      go_wp2_with fail
      refine (name_any _ _).mono ?_
      rintro e w2 ⟨rfl, hw2⟩
      rw [hn]
      have hb1 := Agg.keep' hw2 (Agg.keep' hw1 HB.out)
      go_wp2_with (first | (with_reducible refine wpList_load_row rfl 40 _ rfl w.heap.size rfl 40 _ (0, 0) _ hb1 pC_under rfl (pC_info _ _ z20_length) ?_) | (with_reducible refine Agg.wpList_set_row rfl rfl 40 _ _ rfl w.heap.size _ rfl rfl 40 _ hb1 (pC_info _ _ z20_length) rfl (pC_one _ _) ?_))
      exact Agg.post_row_tmp rfl rfl rfl (setRow_heap _ _ _ _ _ _ hb1) pC_under rfl (pC_info _ _ z20_length) rfl ⟨by rw [HP.out.1, HP.out.2.1, HP.out.2.2]; rfl, Agg.below_setRow (((Below.refl _ _).alloc (Nat.le_refl _) _).trans ((hw1.mono (by simp)).trans (hw2.mono (by have := hw1.size; simp at this; omega)))) (Nat.le_refl _)⟩
    | true =>
      go_enter Try.func41, Try.ntmps41
      go_wp2_with (with_reducible refine Agg.wpList_alloc_row rfl 40 rfl (pC z20 []) pC_zero ?_)
      refine (cut_any s 45 hs m _ HM.out).mono ?_
      rintro e w1 ⟨rfl, hw1⟩
      rw [hy]
      go_wp2_with fail
      refine (name_any _ _).mono ?_
      rintro e w2 ⟨rfl, hw2⟩
      rw [hn]
      go_wp2_with fail
      refine (hash_any _ _).mono ?_
      rintro e w3 ⟨rfl, hw3⟩
      have hb3 := Agg.keep' hw3 (Agg.keep' hw2 (Agg.keep' hw1 HB.out))
      have hw : Below w.heap.size w w3 := ((Below.refl _ _).alloc (Nat.le_refl _) _).trans ((hw1.mono (by simp)).trans ((hw2.mono (by have := hw1.size; simp at this; omega)).trans (hw3.mono (by have := hw1.size; have := hw2.size; simp at *; omega))))
      clear hw1 hw2 hw3
      have hb4 := setRow_heap w3 w.heap.size _ (pC (hashH (cut1 45 s).1) []) _ _ hb3
      cases hh : Pl.hash (cut1 45 s).1 with
      | none =>
        have he : hashE (cut1 45 s).1 = 4 := by simp [hashE, hh]
        have hz : hashH (cut1 45 s).1 = z20 := by simp [hashH, hh]
        have hp : parseH s = z20 ∧ parseN s = [] ∧ parseE s = 4 := by
          have : parse s = none := by unfold parse; rw [hy, hn, hh]; rfl
          simp [parseH, parseN, parseE, this]
        have HP := Lib.hid hp
        rw [he]
        rw [hz] at hb4 ⊢
        clear hp he hz
        go_wp2_with (first | (with_reducible refine Agg.wpList_set_sub rfl rfl 38 _ _ rfl w.heap.size 0 _ (pC z20 []) rfl rfl 40 _ hb3 (hC_info _ z20_length) (by rw [hC_size, pC_size, z20_length]; omega) (hC_one _) (pC_setHash _ _ _ z20_length z20_length) ?_) | (with_reducible refine wpList_load_row rfl 40 _ rfl w.heap.size rfl 40 _ (0, 0) _ hb4 pC_under rfl (pC_info _ _ z20_length) ?_) | (with_reducible refine Agg.wpList_set_row rfl rfl 40 _ _ rfl w.heap.size _ rfl rfl 40 _ hb4 (pC_info _ _ z20_length) rfl (pC_one _ _) ?_))
        exact Agg.post_row_tmp rfl rfl rfl (setRow_heap _ _ _ _ _ _ hb4) pC_under rfl (pC_info _ _ z20_length) rfl ⟨by rw [HP.out.1, HP.out.2.1, HP.out.2.2]; rfl, Agg.below_setRow (Agg.below_setRow hw (Nat.le_refl _)) (Nat.le_refl _)⟩
      | some h =>
        have hl := hash_length hh
        have he : hashE (cut1 45 s).1 = 0 := by simp [hashE, hh]
        have hz : hashH (cut1 45 s).1 = h := by simp [hashH, hh]
        have hp : parseH s = h ∧ parseN s = (cut1 45 s).2.1 ∧ parseE s = 0 := by
          have : parse s = some (h, (cut1 45 s).2.1) := by unfold parse; rw [hy, hn, hh]; rfl
          simp [parseH, parseN, parseE, this]
        have HP := Lib.hid hp
        rw [he]
        rw [hz] at hb4 ⊢
        have HLn := Lib.hid hl
        clear hp he hz hl
        have hcell : (w3.setRow w.heap.size (pC h [])).cell? ⟨w.heap.size, 20, none⟩ = some (.string ⟨#[]⟩) := by rw [cell_of_row _ _ _ _ _ _ hb4, pC_name _ _ HLn.out]
        have hfr : (w3.setRow w.heap.size (pC h [])).frozen? ⟨w.heap.size, 20, none⟩ = false := frozen_of_row _ _ _ _ _ hb4
        have hb5 := heap_setCell_same (w3.setRow w.heap.size (pC h [])) w.heap.size 20 _ _ (.string ⟨(cut1 45 s).2.1.toArray⟩) hb4
        rw [pC_setName _ _ _ HLn.out] at hb5
        go_wp2_with (first | (with_reducible refine Agg.wpList_set_sub rfl rfl 38 _ _ rfl w.heap.size 0 _ (pC h []) rfl rfl 40 _ hb3 (hC_info _ HLn.out) (by rw [hC_size, pC_size, z20_length, HLn.out]; omega) (hC_one _) (pC_setHash _ _ _ z20_length HLn.out) ?_) | (with_reducible refine wpList_load_row rfl 40 _ rfl w.heap.size rfl 40 _ (0, 0) _ hb5 pC_under rfl (pC_info _ _ HLn.out) ?_) | (with_reducible refine Agg.wpList_set_row rfl rfl 40 _ _ rfl w.heap.size _ rfl rfl 40 _ hb5 (pC_info _ _ HLn.out) rfl (pC_one _ _) ?_))
        exact Agg.post_row_tmp rfl rfl rfl (setRow_heap _ _ _ _ _ _ hb5) pC_under rfl (pC_info _ _ HLn.out) rfl ⟨by rw [HP.out.1, HP.out.2.1, HP.out.2.2]; rfl, Agg.below_setRow ((Agg.below_setRow hw (Nat.le_refl _)).setCell (p := ⟨w.heap.size, 20, none⟩) (Nat.le_refl _) _) (Nat.le_refl _)⟩
end Go.Proofs.Ytnlilmiakddlaaa
/-! Comparison of strings, as operations. -/
namespace Go.Agg
open Go.RowKit
section
variable {P : Program} {ops : Array Oper} {rest : List Oper} {o : Oper} {a : Act} {w : World} {Q : Exit → Act → World → Prop} {t u : TypeId} {x y : Operand} {s r : List UInt8}
theorem exec_geqS (ho : o.op = .binOp .geq t x y u) (hx : a.eval x = .string ⟨s.toArray⟩) (hy : a.eval y = .string ⟨r.toArray⟩) : (execOp a.eval o).run P w = .ok (.value (.bool (!Op.bytesLess s r))) w := by
  simp only [execOp, ho, hx, hy]
  simp only [binOp, Op.stringOp, bytes_toList, eqGuard]
  first | rfl | simp
theorem exec_eqlS (ho : o.op = .binOp .eql t x y u) (hx : a.eval x = .string ⟨s.toArray⟩) (hy : a.eval y = .string ⟨r.toArray⟩) : (execOp a.eval o).run P w = .ok (.value (.bool (decide (s = r)))) w := by
  rw [← show (s == r) = decide (s = r) from by by_cases h : s = r <;> simp [h]]
  simp only [execOp, ho, hx, hy]
  simp only [binOp, Op.stringOp, bytes_toList, eqGuard]
  first | rfl | simp
theorem exec_neqS (ho : o.op = .binOp .neq t x y u) (hx : a.eval x = .string ⟨s.toArray⟩) (hy : a.eval y = .string ⟨r.toArray⟩) : (execOp a.eval o).run P w = .ok (.value (.bool (!decide (s = r)))) w := by
  rw [← show (s == r) = decide (s = r) from by by_cases h : s = r <;> simp [h]]
  simp only [execOp, ho, hx, hy]
  simp only [binOp, Op.stringOp, bytes_toList, eqGuard]
  first | rfl | simp
theorem wpQuiet_geqS {C : World → Prop} {Q : Act → Prop} (hw : Region.wanted o (yielded ops a.tmps) = true) (ho : o.op = .binOp .geq t x y u) (hx : a.eval x = .string ⟨s.toArray⟩) (hy : a.eval y = .string ⟨r.toArray⟩) (b : Bool) (hb : (!Op.bytesLess s r) = b)
    (h : wpQuiet P ops C Q rest (a.put o.dst (.bool b))) : wpQuiet P ops C Q (o :: rest) a := by
  subst hb
  exact wpQuiet_val hw _ (fun _ _ => exec_geqS ho hx hy) h
theorem wpQuiet_eqlS {C : World → Prop} {Q : Act → Prop} (hw : Region.wanted o (yielded ops a.tmps) = true) (ho : o.op = .binOp .eql t x y u) (hx : a.eval x = .string ⟨s.toArray⟩) (hy : a.eval y = .string ⟨r.toArray⟩) (b : Bool) (hb : decide (s = r) = b)
    (h : wpQuiet P ops C Q rest (a.put o.dst (.bool b))) : wpQuiet P ops C Q (o :: rest) a := by
  subst hb
  exact wpQuiet_val hw _ (fun _ _ => exec_eqlS ho hx hy) h
theorem wpQuiet_neqS {C : World → Prop} {Q : Act → Prop} (hw : Region.wanted o (yielded ops a.tmps) = true) (ho : o.op = .binOp .neq t x y u) (hx : a.eval x = .string ⟨s.toArray⟩) (hy : a.eval y = .string ⟨r.toArray⟩) (b : Bool) (hb : (!decide (s = r)) = b)
    (h : wpQuiet P ops C Q rest (a.put o.dst (.bool b))) : wpQuiet P ops C Q (o :: rest) a := by
  subst hb
  exact wpQuiet_val hw _ (fun _ _ => exec_neqS ho hx hy) h
theorem wpList_eqlS (hw : Region.wanted o (yielded ops a.tmps) = true) (ho : o.op = .binOp .eql t x y u) (hx : a.eval x = .string ⟨s.toArray⟩) (hy : a.eval y = .string ⟨r.toArray⟩) (b : Bool) (hb : decide (s = r) = b) (h : wpList P ops Q rest (a.put o.dst (.bool b)) w) : wpList P ops Q (o :: rest) a w := by
  subst hb
  exact wpList_valw hw (exec_eqlS ho hx hy) h
theorem wpList_neqS (hw : Region.wanted o (yielded ops a.tmps) = true) (ho : o.op = .binOp .neq t x y u) (hx : a.eval x = .string ⟨s.toArray⟩) (hy : a.eval y = .string ⟨r.toArray⟩) (b : Bool) (hb : (!decide (s = r)) = b) (h : wpList P ops Q rest (a.put o.dst (.bool b)) w) : wpList P ops Q (o :: rest) a w := by
  subst hb
  exact wpList_valw hw (exec_neqS ho hx hy) h
theorem wpList_geqS (hw : Region.wanted o (yielded ops a.tmps) = true) (ho : o.op = .binOp .geq t x y u) (hx : a.eval x = .string ⟨s.toArray⟩) (hy : a.eval y = .string ⟨r.toArray⟩) (b : Bool) (hb : (!Op.bytesLess s r) = b) (h : wpList P ops Q rest (a.put o.dst (.bool b)) w) : wpList P ops Q (o :: rest) a w := by
  subst hb
  exact wpList_valw hw (exec_geqS ho hx hy) h
end
end Go.Agg
/-! '==' of hashes and of paths. -/
namespace Go.Proofs.Ytnlilmiakddlaaa
open Go.RowKit Pl Go.Agg
set_option maxRecDepth 100000 in
theorem eqlIn_hash (d : Nat) (h h' : List UInt8) (hl : h.length = 20) (hl' : h'.length = 20) (w : World) : (Op.equalIn (d + 2) 38 (.agg (hC h)) (.agg (hC h'))).run Try.prog w = .ok (h == h') w :=
  run_equalIn_bytes w d 38 5 20 Try.underlying38 rfl (fun w => by kernel_rfl) h h' hl hl'
theorem eql_hash (h h' : List UInt8) (hl : h.length = 20) (hl' : h'.length = 20) (w : World) : (binOp .eql 38 (.agg (hC h)) (.agg (hC h'))).run Try.prog w = .ok (.bool (h == h')) w := by
  rw [run_eql_struct, eqlIn_hash 9998 h h' hl hl' w]; rfl
theorem path_fields : (Try.prog.fieldsOf 40).toList.map (fun f => (f.name, f.type, f.offset)) = [("Hash", 38, 0), ("Name", 9, 20)] := by kernel_rfl
theorem isAgg_hash (w : World) : (isAgg 38).run Try.prog w = .ok true w := by kernel_rfl
theorem isAgg_name (w : World) : (isAgg 9).run Try.prog w = .ok false w := by kernel_rfl
theorem size_hash (w : World) : (sizeOf 38).run Try.prog w = .ok 20 w := by kernel_rfl
theorem part_hash (h n : List UInt8) (hl : h.length = 20) (w : World) : (Go.part 38 (pC h n) 0).run Try.prog w = .ok (.agg (hC h)) w := by
  unfold Go.part
  simp only [Sem.run_bind, isAgg_hash, Result.andThen_ok, if_true, size_hash, Sem.run_pure]
  congr 2
  simp [pC, hC_size, hl]
theorem part_name (h n : List UInt8) (hl : h.length = 20) (w : World) : (Go.part 9 (pC h n) 20).run Try.prog w = .ok (.string ⟨n.toArray⟩) w := by
  unfold Go.part
  simp only [Sem.run_bind, isAgg_name, Result.andThen_ok, Bool.false_eq_true, if_false, pC_name h n hl, Sem.run_pure]
theorem eql_path (h n h' n' : List UInt8) (hl : h.length = 20) (hl' : h'.length = 20) (w : World) : (binOp .eql 40 (.agg (pC h n)) (.agg (pC h' n'))).run Try.prog w = .ok (.bool (h == h' && n == n')) w := by
  rw [run_eql_struct, run_equalIn_struct w 9999 40 _ _ pC_under (by kernel_rfl)]
  have hf := path_fields
  generalize (Try.prog.fieldsOf 40).toList = fs at hf ⊢
  cases fs with
  | nil => exact absurd hf (by simp)
  | cons f1 fs =>
  cases fs with
  | nil => exact absurd hf (by simp)
  | cons f2 fs =>
  cases fs with
  | cons f3 fs => exact absurd hf (by simp)
  | nil =>
    simp only [List.map_cons, List.map_nil, List.cons.injEq, Prod.mk.injEq, and_true] at hf
    obtain ⟨⟨a1, a2, a3⟩, b1, b2, b3⟩ := hf
    simp only [Op.eqFields, a1, a2, a3, b1, b2, b3, Sem.run_bind, Sem.run_ite, part_hash _ _ hl, part_hash _ _ hl', part_name _ _ hl, part_name _ _ hl', Result.andThen_ok, eqlIn_hash 9997 _ _ hl hl', run_equalIn_string w 9998 9 _ _ Try.underlying9, Agg.bytes_toList]
    cases h == h' <;> cases n == n' <;> simp
end Go.Proofs.Ytnlilmiakddlaaa
/-! (of general use) base.order, base.Less, spenceref03.Less: how two paths stand. -/
namespace Go.Proofs.Ytnlilmiakddlaaa
open Go.RowKit Pl Go.Agg
open Go.Lib (compareBytes)
/-- how two paths stand -/
def cmpP (h n h' n' : List UInt8) : Int := if h == h' then compareBytes n n' else compareBytes h h'
theorem run_compareBytes (w : World) (a b : List UInt8) (g off g' off' c c' : Nat) (ha : ∀ j x, a[j]? = some x → w.cell? ⟨g, off + j, none⟩ = some (.int .u8 (x.toNat : Int))) (hb : ∀ j x, b[j]? = some x → w.cell? ⟨g', off' + j, none⟩ = some (.int .u8 (x.toNat : Int))) :
    (Extern.BytealgCompare.compare #[.slice (some ⟨g, off, none⟩) a.length c, .slice (some ⟨g', off', none⟩) b.length c']).run Try.prog w = .ok (.int .i64 (compareBytes a b)) w := by
  change Sem.run Try.prog (do pure (goInt (Extern.BytealgCompare.cmp (← Extern.Bytes.bytesOf (.slice (some ⟨g, off, none⟩) a.length c)) (← Extern.Bytes.bytesOf (.slice (some ⟨g', off', none⟩) b.length c'))))) w = _
  have key : ∀ (l : List UInt8) (g off : Nat), (∀ j x, l[j]? = some x → w.cell? ⟨g, off + j, none⟩ = some (.int .u8 (x.toNat : Int))) → (Extern.Bytes.loadBytes ⟨g, off, none⟩ l.length .empty).run Try.prog w = .ok ⟨l.toArray⟩ w := fun l g off h => by
    have := Lib.run_loadBytesX (P := Try.prog) (w := w) (l.map fun c => (c.toNat : Int)) ⟨g, off, none⟩ .empty (fun j x hj => by
      rw [List.getElem?_map] at hj
      cases hl : l[j]? with
      | none => rw [hl] at hj; simp at hj
      | some c =>
        rw [hl] at hj
        obtain rfl := Option.some.inj hj
        have := h j c hl
        rw [Addr.add]
        split
        · rename_i h0; simpa [h0] using this
        · exact this)
    simp only [List.length_map] at this
    rw [this]
    have : Lib.bytesOf (l.map fun c => (c.toNat : Int)) = l := by
      simp [Lib.bytesOf, Function.comp_def]
    rw [this]; simp
  have h1 := key a g off ha
  have h2 := key b g' off' hb
  simp only [Extern.Bytes.bytesOf, Sem.run_bind, Sem.run_pure, Result.andThen, h1, h2]
  rw [Lib.cmp_eq]
  simp [goInt]
theorem compare_cases : ∀ (a b : List UInt8), compareBytes a b = if Op.bytesLess a b then -1 else if Op.bytesLess b a then 1 else 0
  | [], [] => rfl
  | [], _ :: _ => by simp [compareBytes, Op.bytesLess]
  | _ :: _, [] => by simp [compareBytes, Op.bytesLess]
  | x :: a, y :: b => by
    have ih := compare_cases a b
    unfold compareBytes Op.bytesLess
    by_cases h1 : x < y
    · simp [h1]
    · by_cases h2 : y < x
      · have : ¬ x = y := fun e => by subst e; exact h1 h2
        simp [h1, h2, this]
      · have : x = y := UInt8.le_antisymm (UInt8.not_lt.1 h2) (UInt8.not_lt.1 h1)
        subst this
        simp [h1, ih]
theorem bytesLess_asymm : ∀ (a b : List UInt8), Op.bytesLess a b = true → Op.bytesLess b a = false
  | [], [], h => by simp [Op.bytesLess] at h
  | [], _ :: _, _ => by simp [Op.bytesLess]
  | _ :: _, [], h => by simp [Op.bytesLess] at h
  | x :: a, y :: b, h => by
    simp only [Op.bytesLess, Bool.or_eq_true, Bool.and_eq_true, decide_eq_true_eq, beq_iff_eq] at h
    simp only [Op.bytesLess, Bool.or_eq_false_iff, decide_eq_false_iff_not, Bool.and_eq_false_iff, beq_eq_false_iff_ne]
    rcases h with h | ⟨rfl, h⟩
    · exact ⟨fun h' => absurd (UInt8.lt_trans h h') (UInt8.lt_irrefl _), .inl (fun e => by subst e; exact UInt8.lt_irrefl _ h)⟩
    · exact ⟨UInt8.lt_irrefl _, .inr (bytesLess_asymm a b h)⟩
theorem bytesLess_irrefl (a : List UInt8) : Op.bytesLess a a = false := by
  cases h : Op.bytesLess a a with
  | false => rfl
  | true => exact absurd (bytesLess_asymm a a h) (by rw [h]; simp)
theorem bytesLess_total : ∀ (a b : List UInt8), a ≠ b → Op.bytesLess a b = false → Op.bytesLess b a = true
  | [], [], h, _ => absurd rfl h
  | [], _ :: _, _, h => by simp [Op.bytesLess] at h
  | _ :: _, [], _, _ => by simp [Op.bytesLess]
  | x :: a, y :: b, hne, h => by
    simp only [Op.bytesLess, Bool.or_eq_false_iff, decide_eq_false_iff_not, Bool.and_eq_false_iff, beq_eq_false_iff_ne] at h
    simp only [Op.bytesLess, Bool.or_eq_true, Bool.and_eq_true, decide_eq_true_eq, beq_iff_eq]
    by_cases e : x = y
    · subst e
      refine .inr ⟨rfl, bytesLess_total a b (fun e => hne (by rw [e])) ?_⟩
      exact h.2.resolve_left (fun h' => h' rfl)
    · exact .inl (UInt8.lt_of_le_of_ne (UInt8.not_lt.1 h.1) (Ne.symm e))
theorem pC_byte (h n : List UInt8) (j : Nat) (x : UInt8) (hj : h[j]? = some x) : (pC h n)[j]? = some (.int .u8 (x.toNat : Int)) := by
  have hlt := (List.getElem?_eq_some_iff.1 hj).1
  have := pC_hash h n j (.int .u8 (x.toNat : Int)) (by rw [hC_get h j hlt]; rw [List.getElem?_eq_getElem hlt] at hj; rw [Option.some.inj hj])
  simpa using this
theorem slice_hash (g : Nat) (w : World) : (Instr.sliceAt 38 (.pointer (some ⟨g, 0, none⟩)) none none none).run Try.prog w = .ok (.slice (some ⟨g, 0, none⟩) 20 20) w := by kernel_rfl
end Go.Proofs.Ytnlilmiakddlaaa
/-! (of general use) spenceref03.Less -/
namespace Go.Proofs.Ytnlilmiakddlaaa
open Go.RowKit Pl Go.Agg
open Go.Lib (compareBytes)
theorem compare_diff : ∀ (k : Nat) (a b : List UInt8) (x y : UInt8), a[k]? = some x → b[k]? = some y → a.take k = b.take k → x ≠ y → decide (compareBytes a b < 0) = decide (x < y)
  | 0, x :: a, y :: b, _, _, hx, hy, _, hne => by
    simp only [List.getElem?_cons_zero, Option.some.injEq] at hx hy
    subst hx hy
    unfold compareBytes
    by_cases h1 : x < y
    · simp [h1]
    · have h2 : y < x := UInt8.lt_of_le_of_ne (UInt8.not_lt.1 h1) (Ne.symm hne)
      simp [h1, h2]
  | k + 1, x :: a, y :: b, _, _, hx, hy, ht, hne => by
    simp only [List.getElem?_cons_succ] at hx hy
    simp only [List.take_succ_cons, List.cons.injEq] at ht
    obtain ⟨rfl, ht⟩ := ht
    have := compare_diff k a b _ _ hx hy ht hne
    unfold compareBytes
    simpa [UInt8.lt_irrefl] using this
  | 0, [], _, _, _, hx, _, _, _ => by simp at hx
  | 0, _ :: _, [], _, _, _, hy, _, _ => by simp at hy
  | _ + 1, [], _, _, _, hx, _, _, _ => by simp at hx
  | _ + 1, _ :: _, [], _, _, _, hy, _, _ => by simp at hy
theorem compare_less (a b : List UInt8) : decide (compareBytes a b < 0) = Op.bytesLess a b := by
  rw [compare_cases]
  cases Op.bytesLess a b <;> cases Op.bytesLess b a <;> simp
end Go.Proofs.Ytnlilmiakddlaaa
