/- Parse: a text's path (base and spenceref03). -/
import Derived.Test.YtpnolgliklmnmaaPath
namespace Go.Agg
open Go.RowKit
section
variable {P : Program} {ops : Array Oper} {rest : List Oper} {o : Oper} {a : Act} {w : World} {Q : Exit → Act → World → Prop}
/-- a value of several cells stored into the midst of a block -/
theorem wpList_set_sub (hg : o.guard = none) (hd : o.dst = none) (ty : TypeId) (x y : Operand) (ho : o.op = .store ty x y) (g off : Nat) (cells new : Array Value) (hx : a.eval x = .pointer (some ⟨g, off, none⟩)) (hy : a.eval y = .agg cells)
    (t : TypeId) (old : Array Value) (hb : w.heap[g]? = some (.cells old t (0, 0))) (hi : (P.info? ty).map (·.size) = some cells.size) (hle : off + cells.size ≤ old.size) (h1 : cells.all (·.oneCell') = true)
    (hnew : (old.toList.take off ++ cells.toList ++ old.toList.drop (off + cells.size)).toArray = new)
    (h : wpList P ops Q rest a (w.setRow g new)) : wpList P ops Q (o :: rest) a w := by
  refine wpList_skp hg hd ?_ h
  have hr := run_storeCells_at (P := P) g off t cells.toList 0 old w hb (by simp; omega) (fun v hv => (Array.all_eq_true_iff_forall_mem.1 h1) v (by simpa using hv))
  simp only [Nat.add_zero, Array.length_toList] at hr
  rw [hnew] at hr
  cases hq : P.info? ty with
  | none => simp [hq] at hi
  | some i =>
    have hs : cells.size = i.size := by simp [hq] at hi; omega
    simp [execOp, ho, hx, hy, Instr.storeAt, Instr.sureAddr, storeVar, sizeOf, typeInfo, hq, Value.cells, hs, hr]
end
end Go.Agg
namespace Go.Proofs.Ytpnolgliklmnmaa
open Go.RowKit Pl Go.Mp Go.Agg
theorem cut_eq (c : UInt8) (s : List UInt8) : Lib.cut s [c] = cut1 c s := by
  unfold Lib.cut
  rw [Lib.index_one]
  induction s with
  | nil => simp [Lib.indexByte, cut1]
  | cons b l ih =>
    unfold cut1 Lib.indexByte
    by_cases e : b = c
    · simp [e]
    · simp only [beq_iff_eq, e, if_false]
      rw [← ih]
      have hge : -1 ≤ Lib.indexByte l c := by rw [← Lib.index_one]; exact Lib.index_ge _ _
      by_cases h : Lib.indexByte l c = -1
      · simp [h]
      · have h0 : 0 ≤ Lib.indexByte l c := by omega
        rw [if_neg h, if_pos (by omega), if_pos h0]
        obtain ⟨n, hn⟩ := Int.eq_ofNat_of_zero_le h0
        rw [hn]
        rw [show ((n : Int) + 1).toNat = n + 1 by omega, show ((n : Int)).toNat = n by omega]
        simp
def parseH (s : List UInt8) : List UInt8 := ((parse s).map (·.1)).getD z20
def parseN (s : List UInt8) : List UInt8 := ((parse s).map (·.2)).getD []
def parseE (s : List UInt8) : Int := if (parse s).isSome then 0 else 4
theorem pC_zero : (Try.prog.info? 44).map (·.zero) = some (some (.agg (pC z20 []))) := by kernel_rfl
theorem pC_info (h n : List UInt8) (hl : h.length = 20) : (Try.prog.info? 44).map (·.size) = some (pC h n).size := by rw [pC_size, hl]; kernel_rfl
theorem pC_one (h n : List UInt8) : (pC h n).all (·.oneCell') = true := by simp [pC, hC, Lib.byteCells, Value.oneCell']
theorem pC_under : Try.prog.underlying 44 = some (.struct (Try.prog.fieldsOf 44)) := by kernel_rfl
theorem sixteen (s : List UInt8) (hs : s.length < 4294967281) : (⟨s.toArray⟩ : ByteArray).size < 4294967281 := by rw [Agg.bytes_size]; exact hs
theorem pC_setHash (h h' n : List UInt8) (hl : h.length = 20) (hl' : h'.length = 20) : ((pC h n).toList.take 0 ++ (hC h').toList ++ (pC h n).toList.drop (0 + (hC h').size)).toArray = pC h' n := by
  apply Array.ext'
  simp [pC, hC, Lib.byteCells, hl, hl']
theorem pC_setName (h n n' : List UInt8) (hl : h.length = 20) : (pC h n).setIfInBounds 20 (.string ⟨n'.toArray⟩) = pC h n' := by
  apply Array.ext'
  simp [pC, hC, Lib.byteCells, hl]
theorem hashH_length (s : List UInt8) : (hashH s).length = 20 := by
  unfold hashH
  cases h : Pl.hash s with
  | none => rfl
  | some x => exact hash_length h
/-- strings.Cut at one byte -/
theorem cut_any (s : List UInt8) (c : UInt8) (hs : s.length < 4294967281) (m : Int) (w : World) (hm : w.cell? ⟨0, 0, none⟩ = some (.int .i64 m)) :
    Calls Try.prog 130 #[.string ⟨s.toArray⟩, .string ⟨#[c]⟩] w fun e w' => e = .returned (.tuple #[.string ⟨(cut1 c s).1.toArray⟩, .string ⟨(cut1 c s).2.1.toArray⟩, .bool (cut1 c s).2.2]) ∧ Below w.heap.size w w' := by
  refine (Try.strings_Cut ⟨s.toArray⟩ ⟨#[c]⟩ m _ (sixteen s hs) hm).mono ?_
  rintro e w' ⟨rfl, n, rfl⟩
  have hc : Lib.cut (⟨s.toArray⟩ : ByteArray).data.toList (⟨#[c]⟩ : ByteArray).data.toList = cut1 c s := cut_eq c s
  rw [hc]
  exact ⟨rfl, below_drewN (Below.refl _ _) n⟩
/-- base.Hash at any text -/
theorem hash_any (s : List UInt8) (w : World) :
    Calls Try.prog 131 #[.string ⟨s.toArray⟩] w fun e w' => e = .returned (.tuple #[.agg (hC (hashH s)), .int .i64 (hashE s)]) ∧ Below w.heap.size w w' := by
  by_cases h : s.length = 32
  · exact hash_32 s h w
  · have : Pl.hash s = none := by unfold Pl.hash; rw [if_neg h]
    have h1 : hashH s = z20 := by simp [hashH, this]
    have h2 : hashE s = 4 := by simp [hashE, this]
    rw [h1, h2]
    exact hash_long s h w
theorem cut_le (c : UInt8) (s : List UInt8) : (cut1 c s).2.1.length ≤ s.length := by
  induction s with
  | nil => simp [cut1]
  | cons b l ih => unfold cut1; split <;> simp <;> omega
set_option maxRecDepth 100000 in
set_option maxHeartbeats 1000000 in
theorem parse_any (s : List UInt8) (hs : s.length < 4294967281) (m : Int) (w : World) (hm : w.cell? ⟨0, 0, none⟩ = some (.int .i64 m)) :
    Calls Try.prog 97 #[.string ⟨s.toArray⟩] w fun e w' => e = .returned (.tuple #[.agg (pC (parseH s) (parseN s)), .int .i64 (parseE s)]) ∧ Below w.heap.size w w' := by
  have hb := heap_alloc_new w (.cells (pC z20 []) 44)
  have hm1 : (w.alloc (.cells (pC z20 []) 44)).cell? ⟨0, 0, none⟩ = some (.int .i64 m) := (((Below.refl _ w).alloc (Nat.le_refl _) _).cell (block_lt_of_cell hm)).trans hm
  have HM := Lib.hid hm1
  have HB := Lib.hid hb
  clear hm1 hm hb
  cases hy : (cut1 45 s).2.2 with
  | false =>
    have hp : parseH s = z20 ∧ parseN s = [] ∧ parseE s = 4 := by
      have : parse s = none := by unfold parse; rw [hy]; rfl
      simp [parseH, parseN, parseE, this]
    have HP := Lib.hid hp
    clear hp
    go_enter Try.func97, Try.ntmps97
    go_wp2_with (with_reducible refine Agg.wpList_alloc_row rfl 44 rfl (pC z20 []) pC_zero ?_)
    refine (cut_any s 45 hs m _ HM.out).mono ?_
    rintro e w1 ⟨rfl, hw1⟩
    rw [hy]
    have hb1 := Agg.keep' hw1 HB.out
    go_wp2_with (first | (with_reducible refine wpList_load_row rfl 44 _ rfl w.heap.size rfl 44 _ (0, 0) _ hb1 pC_under rfl (pC_info _ _ z20_length) ?_) | (with_reducible refine Agg.wpList_set_row rfl rfl 44 _ _ rfl w.heap.size _ rfl rfl 44 _ hb1 (pC_info _ _ z20_length) rfl (pC_one _ _) ?_))
    exact Agg.post_row_tmp rfl rfl rfl (setRow_heap _ _ _ _ _ _ hb1) pC_under rfl (pC_info _ _ z20_length) rfl ⟨by rw [HP.out.1, HP.out.2.1, HP.out.2.2]; rfl, Agg.below_setRow (((Below.refl _ _).alloc (Nat.le_refl _) _).trans (hw1.mono (by simp))) (Nat.le_refl _)⟩
  | true =>
    cases hn : isName (cut1 45 s).2.1 with
    | false =>
      have hp : parseH s = z20 ∧ parseN s = [] ∧ parseE s = 4 := by
        have : parse s = none := by unfold parse; rw [hy, hn]; rfl
        simp [parseH, parseN, parseE, this]
      have HP := Lib.hid hp
      clear hp
      go_enter Try.func97, Try.ntmps97
      go_wp2_with (with_reducible refine Agg.wpList_alloc_row rfl 44 rfl (pC z20 []) pC_zero ?_)
      refine (cut_any s 45 hs m _ HM.out).mono ?_
      rintro e w1 ⟨rfl, hw1⟩
      rw [hy]
      go_wp2_with fail
      refine (name_any _ _).mono ?_
      rintro e w2 ⟨rfl, hw2⟩
      rw [hn]
      have hb1 := Agg.keep' hw2 (Agg.keep' hw1 HB.out)
      go_wp2_with (first | (with_reducible refine wpList_load_row rfl 44 _ rfl w.heap.size rfl 44 _ (0, 0) _ hb1 pC_under rfl (pC_info _ _ z20_length) ?_) | (with_reducible refine Agg.wpList_set_row rfl rfl 44 _ _ rfl w.heap.size _ rfl rfl 44 _ hb1 (pC_info _ _ z20_length) rfl (pC_one _ _) ?_))
      exact Agg.post_row_tmp rfl rfl rfl (setRow_heap _ _ _ _ _ _ hb1) pC_under rfl (pC_info _ _ z20_length) rfl ⟨by rw [HP.out.1, HP.out.2.1, HP.out.2.2]; rfl, Agg.below_setRow (((Below.refl _ _).alloc (Nat.le_refl _) _).trans ((hw1.mono (by simp)).trans (hw2.mono (by have := hw1.size; simp at this; omega)))) (Nat.le_refl _)⟩
    | true =>
      go_enter Try.func97, Try.ntmps97
      go_wp2_with (with_reducible refine Agg.wpList_alloc_row rfl 44 rfl (pC z20 []) pC_zero ?_)
      refine (cut_any s 45 hs m _ HM.out).mono ?_
      rintro e w1 ⟨rfl, hw1⟩
      rw [hy]
      go_wp2_with fail
      refine (name_any _ _).mono ?_
      rintro e w2 ⟨rfl, hw2⟩
      rw [hn]
      go_wp2_with fail
      refine (hash_any _ _).mono ?_
      rintro e w3 ⟨rfl, hw3⟩
      have hb3 := Agg.keep' hw3 (Agg.keep' hw2 (Agg.keep' hw1 HB.out))
      have hw : Below w.heap.size w w3 := ((Below.refl _ _).alloc (Nat.le_refl _) _).trans ((hw1.mono (by simp)).trans ((hw2.mono (by have := hw1.size; simp at this; omega)).trans (hw3.mono (by have := hw1.size; have := hw2.size; simp at *; omega))))
      clear hw1 hw2 hw3
      have hb4 := setRow_heap w3 w.heap.size _ (pC (hashH (cut1 45 s).1) []) _ _ hb3
      cases hh : Pl.hash (cut1 45 s).1 with
      | none =>
        have he : hashE (cut1 45 s).1 = 4 := by simp [hashE, hh]
        have hz : hashH (cut1 45 s).1 = z20 := by simp [hashH, hh]
        have hp : parseH s = z20 ∧ parseN s = [] ∧ parseE s = 4 := by
          have : parse s = none := by unfold parse; rw [hy, hn, hh]; rfl
          simp [parseH, parseN, parseE, this]
        have HP := Lib.hid hp
        rw [he]
        rw [hz] at hb4 ⊢
        clear hp he hz
        go_wp2_with (first | (with_reducible refine Agg.wpList_set_sub rfl rfl 42 _ _ rfl w.heap.size 0 _ (pC z20 []) rfl rfl 44 _ hb3 (hC_info _ z20_length) (by rw [hC_size, pC_size, z20_length]; omega) (hC_one _) (pC_setHash _ _ _ z20_length z20_length) ?_) | (with_reducible refine wpList_load_row rfl 44 _ rfl w.heap.size rfl 44 _ (0, 0) _ hb4 pC_under rfl (pC_info _ _ z20_length) ?_) | (with_reducible refine Agg.wpList_set_row rfl rfl 44 _ _ rfl w.heap.size _ rfl rfl 44 _ hb4 (pC_info _ _ z20_length) rfl (pC_one _ _) ?_))
        exact Agg.post_row_tmp rfl rfl rfl (setRow_heap _ _ _ _ _ _ hb4) pC_under rfl (pC_info _ _ z20_length) rfl ⟨by rw [HP.out.1, HP.out.2.1, HP.out.2.2]; rfl, Agg.below_setRow (Agg.below_setRow hw (Nat.le_refl _)) (Nat.le_refl _)⟩
      | some h =>
        have hl := hash_length hh
        have he : hashE (cut1 45 s).1 = 0 := by simp [hashE, hh]
        have hz : hashH (cut1 45 s).1 = h := by simp [hashH, hh]
        have hp : parseH s = h ∧ parseN s = (cut1 45 s).2.1 ∧ parseE s = 0 := by
          have : parse s = some (h, (cut1 45 s).2.1) := by unfold parse; rw [hy, hn, hh]; rfl
          simp [parseH, parseN, parseE, this]
        have HP := Lib.hid hp
        rw [he]
        rw [hz] at hb4 ⊢
        have HLn := Lib.hid hl
        clear hp he hz hl
        have hcell : (w3.setRow w.heap.size (pC h [])).cell? ⟨w.heap.size, 20, none⟩ = some (.string ⟨#[]⟩) := by rw [cell_of_row _ _ _ _ _ _ hb4, pC_name _ _ HLn.out]
        have hfr : (w3.setRow w.heap.size (pC h [])).frozen? ⟨w.heap.size, 20, none⟩ = false := frozen_of_row _ _ _ _ _ hb4
        have hb5 := heap_setCell_same (w3.setRow w.heap.size (pC h [])) w.heap.size 20 _ _ (.string ⟨(cut1 45 s).2.1.toArray⟩) hb4
        rw [pC_setName _ _ _ HLn.out] at hb5
        go_wp2_with (first | (with_reducible refine Agg.wpList_set_sub rfl rfl 42 _ _ rfl w.heap.size 0 _ (pC h []) rfl rfl 44 _ hb3 (hC_info _ HLn.out) (by rw [hC_size, pC_size, z20_length, HLn.out]; omega) (hC_one _) (pC_setHash _ _ _ z20_length HLn.out) ?_) | (with_reducible refine wpList_load_row rfl 44 _ rfl w.heap.size rfl 44 _ (0, 0) _ hb5 pC_under rfl (pC_info _ _ HLn.out) ?_) | (with_reducible refine Agg.wpList_set_row rfl rfl 44 _ _ rfl w.heap.size _ rfl rfl 44 _ hb5 (pC_info _ _ HLn.out) rfl (pC_one _ _) ?_))
        exact Agg.post_row_tmp rfl rfl rfl (setRow_heap _ _ _ _ _ _ hb5) pC_under rfl (pC_info _ _ HLn.out) rfl ⟨by rw [HP.out.1, HP.out.2.1, HP.out.2.2]; rfl, Agg.below_setRow ((Agg.below_setRow hw (Nat.le_refl _)).setCell (p := ⟨w.heap.size, 20, none⟩) (Nat.le_refl _) _) (Nat.le_refl _)⟩
end Go.Proofs.Ytpnolgliklmnmaa
