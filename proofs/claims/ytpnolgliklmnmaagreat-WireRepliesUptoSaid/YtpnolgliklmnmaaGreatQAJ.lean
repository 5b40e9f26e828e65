/- wire.Right of any request. (Several texts in one.) -/
import Derived.Test.YtpnolgliklmnmaaGreatQAI
import Derived.Test.YtpnolgliklmnmaaGreatQAG
import Derived.Stop.BytesEq
import Derived.Test.YtpnolgliklmnmaaGreatQAA
/-! Path: a path's text (base and spenceref03). -/
namespace Go.Proofs.YtpnolgliklmnmaaGreat
open Go.RowKit Pl Go.Mp Go.Agg
set_option maxRecDepth 100000 in
set_option maxHeartbeats 1000000 in
theorem path_any (h n : List UInt8) (hl : h.length = 20) (w : World) :
    Calls Tryz.prog 83 #[.agg (pC h n)] w fun e w' => e = .returned (.tuple #[.string ⟨(pathS h n).toArray⟩, .int .i64 (pathE n)]) ∧ Below w.heap.size w w' := by
  have hb := heap_alloc_new w (.cells (pC h n) 27)
  have hcell : (w.alloc (.cells (pC h n) 27)).cell? ⟨w.heap.size, 20, none⟩ = some (.string ⟨n.toArray⟩) := by rw [cell_of_row _ _ _ _ _ _ hb, pC_name h n hl]
  have HL := Lib.hid hl
  clear hl
  have HB := Lib.hid hb
  clear hb
  cases hn : isName n with
  | false =>
    go_enter Tryz.func83, Tryz.ntmps83
    go_wp2_with (go_at_call 65; refine (name_any _ _).mono ?_; rintro e w1 ⟨rfl, hw1⟩; rw [hn])
    go_ret2
    exact ⟨by simp [pathS, pathE, hn], ((Below.refl _ _).alloc (Nat.le_refl _) _).trans (hw1.mono (by simp))⟩
  | true =>
    go_enter Tryz.func83, Tryz.ntmps83
    go_wp2_with (go_at_call 65; refine (name_any _ _).mono ?_; rintro e w1 ⟨rfl, hw1⟩; rw [hn])
    have hb1 := Agg.keep' hw1 HB.out
    have hc1 : ∀ x : Later w1, x.w.cell? ⟨w.heap.size, 20, none⟩ = some (.string ⟨n.toArray⟩) := fun x => by rw [cell_of_row _ _ _ _ _ _ (x.heap hb1), pC_name h n HL.out]
    have hl1 : ∀ x : Later w1, (Instr.loadAt 25 (.pointer (some ⟨w.heap.size, 0, none⟩))).run Tryz.prog x.w = .ok (.agg (hC h)) x.w := fun x => Agg.run_loadAt_sub (x.heap hb1) (pC_hash h n) Tryz.underlying25 rfl (hC_info h HL.out)
    have hln : n.length ≤ 24 := isName_le hn
    have hll : (letters h).length ≤ 32 := by rw [letters_length]; omega
    refine Agg.wp_region_later_lit (by kernel_rfl) (by kernel_rfl) ?_
    repeat (first | (with_reducible refine Agg.wpQuiet_load rfl 25 _ rfl (.pointer (some ⟨w.heap.size, 0, none⟩)) rfl (.agg (hC h)) (Agg.later_all hl1) ?_; simp only [Act.put, List.setIfInBounds_toArray, List.set_cons_succ, List.set_cons_zero]) | go_big_quiet_step ((go_at_call 124; exact Agg.Calls.later (letters_any h HL.out _))))
    refine wpQuiet_nil ?_
    intro _ hw'
    obtain ⟨x, rfl⟩ := hw'
    go_wp2_with fail
    go_ret2
    exact ⟨ret_pair (text_eq h n hn) (by simp [pathE, hn]), ((Below.refl _ _).alloc (Nat.le_refl _) _).trans ((hw1.mono (by simp)).trans (x.h.mono (by have := hw1.size; simp at this; omega)))⟩
end Go.Proofs.YtpnolgliklmnmaaGreat
/-! Parse: a text's path (base and spenceref03). -/
namespace Go.Agg
open Go.RowKit
section
variable {P : Program} {ops : Array Oper} {rest : List Oper} {o : Oper} {a : Act} {w : World} {Q : Exit → Act → World → Prop}
end
end Go.Agg
namespace Go.Proofs.YtpnolgliklmnmaaGreat
open Go.RowKit Pl Go.Mp Go.Agg
/-- strings.Cut at one byte -/
theorem cut_eq (c : UInt8) (s : List UInt8) : Lib.cut s [c] = cut1 c s := by
  unfold Lib.cut
  rw [Lib.index_one]
  induction s with
  | nil => simp [Lib.indexByte, cut1]
  | cons b l ih =>
    unfold cut1 Lib.indexByte
    by_cases e : b = c
    · simp [e]
    · simp only [beq_iff_eq, e, if_false]
      rw [← ih]
      have hge : -1 ≤ Lib.indexByte l c := by rw [← Lib.index_one]; exact Lib.index_ge _ _
      by_cases h : Lib.indexByte l c = -1
      · simp [h]
      · have h0 : 0 ≤ Lib.indexByte l c := by omega
        rw [if_neg h, if_pos (by omega), if_pos h0]
        obtain ⟨n, hn⟩ := Int.eq_ofNat_of_zero_le h0
        rw [hn]
        rw [show ((n : Int) + 1).toNat = n + 1 by omega, show ((n : Int)).toNat = n by omega]
        simp

theorem cut_any (s : List UInt8) (c : UInt8) (hs : s.length < 4294967281) (m : Int) (w : World) (hm : w.cell? ⟨0, 0, none⟩ = some (.int .i64 m)) :
    Calls Tryz.prog 126 #[.string ⟨s.toArray⟩, .string ⟨#[c]⟩] w fun e w' => e = .returned (.tuple #[.string ⟨(cut1 c s).1.toArray⟩, .string ⟨(cut1 c s).2.1.toArray⟩, .bool (cut1 c s).2.2]) ∧ Below w.heap.size w w' := by
  refine (Tryz.strings_Cut ⟨s.toArray⟩ ⟨#[c]⟩ m _ (sixteen s hs) hm).mono ?_
  rintro e w' ⟨rfl, n, rfl⟩
  have hc : Lib.cut (⟨s.toArray⟩ : ByteArray).data.toList (⟨#[c]⟩ : ByteArray).data.toList = cut1 c s := cut_eq c s
  rw [hc]
  exact ⟨rfl, below_drewN (Below.refl _ _) n⟩
/-- base.Hash at any text -/
theorem hash_any (s : List UInt8) (w : World) :
    Calls Tryz.prog 127 #[.string ⟨s.toArray⟩] w fun e w' => e = .returned (.tuple #[.agg (hC (hashH s)), .int .i64 (hashE s)]) ∧ Below w.heap.size w w' := by
  by_cases h : s.length = 32
  · exact hash_32 s h w
  · have : Pl.hash s = none := by unfold Pl.hash; rw [if_neg h]
    have h1 : hashH s = z20 := by simp [hashH, this]
    have h2 : hashE s = 4 := by simp [hashE, this]
    rw [h1, h2]
    exact hash_long s h w
set_option maxRecDepth 100000 in
set_option maxHeartbeats 1000000 in
theorem parse_any (s : List UInt8) (hs : s.length < 4294967281) (m : Int) (w : World) (hm : w.cell? ⟨0, 0, none⟩ = some (.int .i64 m)) :
    Calls Tryz.prog 89 #[.string ⟨s.toArray⟩] w fun e w' => e = .returned (.tuple #[.agg (pC (parseH s) (parseN s)), .int .i64 (parseE s)]) ∧ Below w.heap.size w w' := by
  have hb := heap_alloc_new w (.cells (pC z20 []) 27)
  have hm1 : (w.alloc (.cells (pC z20 []) 27)).cell? ⟨0, 0, none⟩ = some (.int .i64 m) := (((Below.refl _ w).alloc (Nat.le_refl _) _).cell (block_lt_of_cell hm)).trans hm
  have HM := Lib.hid hm1
  have HB := Lib.hid hb
  clear hm1 hm hb
  cases hy : (cut1 45 s).2.2 with
  | false =>
    have hp : parseH s = z20 ∧ parseN s = [] ∧ parseE s = 4 := by
      have : parse s = none := by unfold parse; rw [hy]; rfl
      simp [parseH, parseN, parseE, this]
    have HP := Lib.hid hp
    clear hp
    go_enter Tryz.func89, Tryz.ntmps89
    go_wp2_with (with_reducible refine Agg.wpList_alloc_row rfl 27 rfl (pC z20 []) pC_zero ?_)
    refine (cut_any s 45 hs m _ HM.out).mono ?_
    rintro e w1 ⟨rfl, hw1⟩
    rw [hy]
    have hb1 := Agg.keep' hw1 HB.out
    go_wp2_with (first | (with_reducible refine wpList_load_row rfl 27 _ rfl w.heap.size rfl 27 _ (0, 0) _ hb1 pC_under rfl (pC_info _ _ z20_length) ?_) | (with_reducible refine Agg.wpList_set_row rfl rfl 27 _ _ rfl w.heap.size _ rfl rfl 27 _ hb1 (pC_info _ _ z20_length) rfl (pC_one _ _) ?_))
    exact Agg.post_row_tmp rfl rfl rfl (setRow_heap _ _ _ _ _ _ hb1) pC_under rfl (pC_info _ _ z20_length) rfl ⟨by rw [HP.out.1, HP.out.2.1, HP.out.2.2]; rfl, Agg.below_setRow (((Below.refl _ _).alloc (Nat.le_refl _) _).trans (hw1.mono (by simp))) (Nat.le_refl _)⟩
  | true =>
    cases hn : isName (cut1 45 s).2.1 with
    | false =>
      have hp : parseH s = z20 ∧ parseN s = [] ∧ parseE s = 4 := by
        have : parse s = none := by unfold parse; rw [hy, hn]; rfl
        simp [parseH, parseN, parseE, this]
      have HP := Lib.hid hp
      clear hp
      go_enter Tryz.func89, Tryz.ntmps89
      go_wp2_with (with_reducible refine Agg.wpList_alloc_row rfl 27 rfl (pC z20 []) pC_zero ?_)
      refine (cut_any s 45 hs m _ HM.out).mono ?_
      rintro e w1 ⟨rfl, hw1⟩
      rw [hy]
      go_wp2_with fail
      refine (name_any _ _).mono ?_
      rintro e w2 ⟨rfl, hw2⟩
      rw [hn]
      have hb1 := Agg.keep' hw2 (Agg.keep' hw1 HB.out)
      go_wp2_with (first | (with_reducible refine wpList_load_row rfl 27 _ rfl w.heap.size rfl 27 _ (0, 0) _ hb1 pC_under rfl (pC_info _ _ z20_length) ?_) | (with_reducible refine Agg.wpList_set_row rfl rfl 27 _ _ rfl w.heap.size _ rfl rfl 27 _ hb1 (pC_info _ _ z20_length) rfl (pC_one _ _) ?_))
      exact Agg.post_row_tmp rfl rfl rfl (setRow_heap _ _ _ _ _ _ hb1) pC_under rfl (pC_info _ _ z20_length) rfl ⟨by rw [HP.out.1, HP.out.2.1, HP.out.2.2]; rfl, Agg.below_setRow (((Below.refl _ _).alloc (Nat.le_refl _) _).trans ((hw1.mono (by simp)).trans (hw2.mono (by have := hw1.size; simp at this; omega)))) (Nat.le_refl _)⟩
    | true =>
      go_enter Tryz.func89, Tryz.ntmps89
      go_wp2_with (with_reducible refine Agg.wpList_alloc_row rfl 27 rfl (pC z20 []) pC_zero ?_)
      refine (cut_any s 45 hs m _ HM.out).mono ?_
      rintro e w1 ⟨rfl, hw1⟩
      rw [hy]
      go_wp2_with fail
      refine (name_any _ _).mono ?_
      rintro e w2 ⟨rfl, hw2⟩
      rw [hn]
      go_wp2_with fail
      refine (hash_any _ _).mono ?_
      rintro e w3 ⟨rfl, hw3⟩
      have hb3 := Agg.keep' hw3 (Agg.keep' hw2 (Agg.keep' hw1 HB.out))
      have hw : Below w.heap.size w w3 := ((Below.refl _ _).alloc (Nat.le_refl _) _).trans ((hw1.mono (by simp)).trans ((hw2.mono (by have := hw1.size; simp at this; omega)).trans (hw3.mono (by have := hw1.size; have := hw2.size; simp at *; omega))))
      clear hw1 hw2 hw3
      have hb4 := setRow_heap w3 w.heap.size _ (pC (hashH (cut1 45 s).1) []) _ _ hb3
      cases hh : Pl.hash (cut1 45 s).1 with
      | none =>
        have he : hashE (cut1 45 s).1 = 4 := by simp [hashE, hh]
        have hz : hashH (cut1 45 s).1 = z20 := by simp [hashH, hh]
        have hp : parseH s = z20 ∧ parseN s = [] ∧ parseE s = 4 := by
          have : parse s = none := by unfold parse; rw [hy, hn, hh]; rfl
          simp [parseH, parseN, parseE, this]
        have HP := Lib.hid hp
        rw [he]
        rw [hz] at hb4 ⊢
        clear hp he hz
        go_wp2_with (first | (with_reducible refine Agg.wpList_set_sub rfl rfl 25 _ _ rfl w.heap.size 0 _ (pC z20 []) rfl rfl 27 _ hb3 (hC_info _ z20_length) (by rw [hC_size, pC_size, z20_length]; omega) (hC_one _) (pC_setHash _ _ _ z20_length z20_length) ?_) | (with_reducible refine wpList_load_row rfl 27 _ rfl w.heap.size rfl 27 _ (0, 0) _ hb4 pC_under rfl (pC_info _ _ z20_length) ?_) | (with_reducible refine Agg.wpList_set_row rfl rfl 27 _ _ rfl w.heap.size _ rfl rfl 27 _ hb4 (pC_info _ _ z20_length) rfl (pC_one _ _) ?_))
        exact Agg.post_row_tmp rfl rfl rfl (setRow_heap _ _ _ _ _ _ hb4) pC_under rfl (pC_info _ _ z20_length) rfl ⟨by rw [HP.out.1, HP.out.2.1, HP.out.2.2]; rfl, Agg.below_setRow (Agg.below_setRow hw (Nat.le_refl _)) (Nat.le_refl _)⟩
      | some h =>
        have hl := hash_length hh
        have he : hashE (cut1 45 s).1 = 0 := by simp [hashE, hh]
        have hz : hashH (cut1 45 s).1 = h := by simp [hashH, hh]
        have hp : parseH s = h ∧ parseN s = (cut1 45 s).2.1 ∧ parseE s = 0 := by
          have : parse s = some (h, (cut1 45 s).2.1) := by unfold parse; rw [hy, hn, hh]; rfl
          simp [parseH, parseN, parseE, this]
        have HP := Lib.hid hp
        rw [he]
        rw [hz] at hb4 ⊢
        have HLn := Lib.hid hl
        clear hp he hz hl
        have hcell : (w3.setRow w.heap.size (pC h [])).cell? ⟨w.heap.size, 20, none⟩ = some (.string ⟨#[]⟩) := by rw [cell_of_row _ _ _ _ _ _ hb4, pC_name _ _ HLn.out]
        have hfr : (w3.setRow w.heap.size (pC h [])).frozen? ⟨w.heap.size, 20, none⟩ = false := frozen_of_row _ _ _ _ _ hb4
        have hb5 := heap_setCell_same (w3.setRow w.heap.size (pC h [])) w.heap.size 20 _ _ (.string ⟨(cut1 45 s).2.1.toArray⟩) hb4
        rw [pC_setName _ _ _ HLn.out] at hb5
        go_wp2_with (first | (with_reducible refine Agg.wpList_set_sub rfl rfl 25 _ _ rfl w.heap.size 0 _ (pC h []) rfl rfl 27 _ hb3 (hC_info _ HLn.out) (by rw [hC_size, pC_size, z20_length, HLn.out]; omega) (hC_one _) (pC_setHash _ _ _ z20_length HLn.out) ?_) | (with_reducible refine wpList_load_row rfl 27 _ rfl w.heap.size rfl 27 _ (0, 0) _ hb5 pC_under rfl (pC_info _ _ HLn.out) ?_) | (with_reducible refine Agg.wpList_set_row rfl rfl 27 _ _ rfl w.heap.size _ rfl rfl 27 _ hb5 (pC_info _ _ HLn.out) rfl (pC_one _ _) ?_))
        exact Agg.post_row_tmp rfl rfl rfl (setRow_heap _ _ _ _ _ _ hb5) pC_under rfl (pC_info _ _ HLn.out) rfl ⟨by rw [HP.out.1, HP.out.2.1, HP.out.2.2]; rfl, Agg.below_setRow ((Agg.below_setRow hw (Nat.le_refl _)).setCell (p := ⟨w.heap.size, 20, none⟩) (Nat.le_refl _) _) (Nat.le_refl _)⟩
end Go.Proofs.YtpnolgliklmnmaaGreat
/-! wire.parts, has, most, named. -/
namespace Go.Proofs.YtpnolgliklmnmaaGreat
open Go.RowKit Pl Go.Agg
def partsN (k : Int) : Nat := if k = 1 then 34 else if k = 2 then 32 else if k = 3 then 16 else if k = 4 then 1 else if k = 5 then 6 else if k = 6 then 2 else if k = 9 then 36 else if k = 10 then 8 else 0
theorem partsN_lt (k : Int) : partsN k < 64 := by
  unfold partsN
  repeat' split
  all_goals omega
set_option maxRecDepth 100000 in
set_option maxHeartbeats 1000000 in
theorem parts_any (k : Int) (w : World) : Calls Tryz.prog 37 #[.int .i64 k] w fun e w' => e = .returned (.int .u8 (partsN k : Int)) ∧ w' = w := by
  unfold partsN
  by_cases h1 : k = 1
  · subst h1
    go_enter Tryz.func37, Tryz.ntmps37
    go_wp2_with fail
    go_ret
    exact ⟨rfl, rfl⟩
  · have q1 : (k == 1) = false := by simp [h1]
    by_cases h2 : k = 2
    · subst h2
      go_enter Tryz.func37, Tryz.ntmps37
      go_wp2_with fail
      go_ret
      exact ⟨rfl, rfl⟩
    · have q2 : (k == 2) = false := by simp [h2]
      by_cases h3 : k = 3
      · subst h3
        go_enter Tryz.func37, Tryz.ntmps37
        go_wp2_with fail
        go_ret
        exact ⟨rfl, rfl⟩
      · have q3 : (k == 3) = false := by simp [h3]
        by_cases h4 : k = 4
        · subst h4
          go_enter Tryz.func37, Tryz.ntmps37
          go_wp2_with fail
          go_ret
          exact ⟨rfl, rfl⟩
        · have q4 : (k == 4) = false := by simp [h4]
          by_cases h5 : k = 5
          · subst h5
            go_enter Tryz.func37, Tryz.ntmps37
            go_wp2_with fail
            go_ret
            exact ⟨rfl, rfl⟩
          · have q5 : (k == 5) = false := by simp [h5]
            by_cases h6 : k = 6
            · subst h6
              go_enter Tryz.func37, Tryz.ntmps37
              go_wp2_with fail
              go_ret
              exact ⟨rfl, rfl⟩
            · have q6 : (k == 6) = false := by simp [h6]
              by_cases h9 : k = 9
              · subst h9
                go_enter Tryz.func37, Tryz.ntmps37
                go_wp2_with fail
                go_ret
                exact ⟨rfl, rfl⟩
              · have q9 : (k == 9) = false := by simp [h9]
                by_cases h10 : k = 10
                · subst h10
                  go_enter Tryz.func37, Tryz.ntmps37
                  go_wp2_with fail
                  go_ret
                  exact ⟨rfl, rfl⟩
                · have q10 : (k == 10) = false := by simp [h10]
                  rw [if_neg h1, if_neg h2, if_neg h3, if_neg h4, if_neg h5, if_neg h6, if_neg h9, if_neg h10]
                  clear h1 h2 h3 h4 h5 h6 h9 h10
                  go_enter Tryz.func37, Tryz.ntmps37
                  go_wp2_with fail
                  go_ret
                  exact ⟨rfl, rfl⟩
def hasN (p c : Nat) : Bool := p &&& c != 0
set_option maxRecDepth 100000 in
theorem has_any (p c : Nat) (hp : p < 256) (hc : c < 256) (w : World) : Calls Tryz.prog 39 #[.int .u8 (p : Int), .int .u8 (c : Int)] w fun e w' => e = .returned (.bool (hasN p c)) ∧ w' = w := by
  have hb := u8_and_nat p c hp hc
  obtain ⟨x, hx⟩ : ∃ x, p &&& c = x := ⟨_, rfl⟩
  rw [hx] at hb
  have hr : hasN p c = ((x : Int) != 0) := by
    unfold hasN
    rw [hx, Bool.eq_iff_iff]
    simp
  have HR := Lib.hid hr
  clear hx hr
  go_enter Tryz.func39, Tryz.ntmps39
  go_wp2_with fail
  go_ret
  exact ⟨by rw [HR.out]; rfl, rfl⟩
def mostN (k : Int) : Nat := if k = 2 then 2000 else if hasN (partsN k) 32 then 4096 else 0
set_option maxRecDepth 100000 in
theorem most_any (k : Int) (w : World) : Calls Tryz.prog 57 #[.int .i64 k] w fun e w' => e = .returned (.int .i64 (mostN k : Int)) ∧ w' = w := by
  unfold mostN
  by_cases h2 : k = 2
  · subst h2
    go_enter Tryz.func57, Tryz.ntmps57
    go_wp2_with fail
    go_ret
    exact ⟨rfl, rfl⟩
  · have q2 : (k == 2) = false := by simp [h2]
    rw [if_neg h2]
    clear h2
    cases hh : hasN (partsN k) 32 with
    | true =>
      have HH := Lib.hid (fun W => (show Calls Tryz.prog 39 #[.int .u8 (partsN k : Int), .int .u8 32] W fun e w' => e = .returned (.bool true) ∧ w' = W by
        have := has_any (partsN k) 32 (by have := partsN_lt k; omega) (by omega) W
        rw [hh] at this
        exact this))
      clear hh
      simp only [if_true]
      go_enter Tryz.func57, Tryz.ntmps57
      go_wp2_with fail
      refine (parts_any k w).mono ?_
      rintro e w1 ⟨rfl, rfl⟩
      go_wp2_with fail
      refine (HH.out w1).mono ?_
      rintro e w2 ⟨rfl, rfl⟩
      go_wp2_with fail
      go_ret
      exact ⟨rfl, rfl⟩
    | false =>
      have HH := Lib.hid (fun W => (show Calls Tryz.prog 39 #[.int .u8 (partsN k : Int), .int .u8 32] W fun e w' => e = .returned (.bool false) ∧ w' = W by
        have := has_any (partsN k) 32 (by have := partsN_lt k; omega) (by omega) W
        rw [hh] at this
        exact this))
      clear hh
      simp only [Bool.false_eq_true, if_false]
      go_enter Tryz.func57, Tryz.ntmps57
      go_wp2_with fail
      refine (parts_any k w).mono ?_
      rintro e w1 ⟨rfl, rfl⟩
      go_wp2_with fail
      refine (HH.out w1).mono ?_
      rintro e w2 ⟨rfl, rfl⟩
      go_wp2_with fail
      go_ret
      exact ⟨rfl, rfl⟩
end Go.Proofs.YtpnolgliklmnmaaGreat
/-! '==' of hashes and of paths. -/
namespace Go.Proofs.YtpnolgliklmnmaaGreat
open Go.RowKit Pl Go.Agg
set_option maxRecDepth 100000 in
theorem eqlIn_hash (d : Nat) (h h' : List UInt8) (hl : h.length = 20) (hl' : h'.length = 20) (w : World) : (Op.equalIn (d + 2) 25 (.agg (hC h)) (.agg (hC h'))).run Tryz.prog w = .ok (h == h') w :=
  run_equalIn_bytes w d 25 5 20 Tryz.underlying25 rfl (fun w => by kernel_rfl) h h' hl hl'
theorem eql_hash (h h' : List UInt8) (hl : h.length = 20) (hl' : h'.length = 20) (w : World) : (binOp .eql 25 (.agg (hC h)) (.agg (hC h'))).run Tryz.prog w = .ok (.bool (h == h')) w := by
  rw [run_eql_struct, eqlIn_hash 9998 h h' hl hl' w]; rfl
theorem path_fields : (Tryz.prog.fieldsOf 27).toList.map (fun f => (f.name, f.type, f.offset)) = [("Hash", 25, 0), ("Name", 9, 20)] := by kernel_rfl
theorem isAgg_hash (w : World) : (isAgg 25).run Tryz.prog w = .ok true w := by kernel_rfl
theorem isAgg_name (w : World) : (isAgg 9).run Tryz.prog w = .ok false w := by kernel_rfl
theorem size_hash (w : World) : (sizeOf 25).run Tryz.prog w = .ok 20 w := by kernel_rfl
theorem part_hash (h n : List UInt8) (hl : h.length = 20) (w : World) : (Go.part 25 (pC h n) 0).run Tryz.prog w = .ok (.agg (hC h)) w := by
  unfold Go.part
  simp only [Sem.run_bind, isAgg_hash, Result.andThen_ok, if_true, size_hash, Sem.run_pure]
  congr 2
  simp [pC, hC_size, hl]
theorem part_name (h n : List UInt8) (hl : h.length = 20) (w : World) : (Go.part 9 (pC h n) 20).run Tryz.prog w = .ok (.string ⟨n.toArray⟩) w := by
  unfold Go.part
  simp only [Sem.run_bind, isAgg_name, Result.andThen_ok, Bool.false_eq_true, if_false, pC_name h n hl, Sem.run_pure]
theorem eql_path (h n h' n' : List UInt8) (hl : h.length = 20) (hl' : h'.length = 20) (w : World) : (binOp .eql 27 (.agg (pC h n)) (.agg (pC h' n'))).run Tryz.prog w = .ok (.bool (h == h' && n == n')) w := by
  rw [run_eql_struct, run_equalIn_struct w 9999 27 _ _ pC_under (by kernel_rfl)]
  have hf := path_fields
  generalize (Tryz.prog.fieldsOf 27).toList = fs at hf ⊢
  cases fs with
  | nil => exact absurd hf (by simp)
  | cons f1 fs =>
  cases fs with
  | nil => exact absurd hf (by simp)
  | cons f2 fs =>
  cases fs with
  | cons f3 fs => exact absurd hf (by simp)
  | nil =>
    simp only [List.map_cons, List.map_nil, List.cons.injEq, Prod.mk.injEq, and_true] at hf
    obtain ⟨⟨a1, a2, a3⟩, b1, b2, b3⟩ := hf
    simp only [Op.eqFields, a1, a2, a3, b1, b2, b3, Sem.run_bind, Sem.run_ite, part_hash _ _ hl, part_hash _ _ hl', part_name _ _ hl, part_name _ _ hl', Result.andThen_ok, eqlIn_hash 9997 _ _ hl hl', run_equalIn_string w 9998 9 _ _ Tryz.underlying9, Agg.bytes_toList]
    cases h == h' <;> cases n == n' <;> simp
end Go.Proofs.YtpnolgliklmnmaaGreat
/-! wire.named, shown. -/
namespace Go.Proofs.YtpnolgliklmnmaaGreat
open Go.RowKit Pl Go.Agg
def namedN (h n : List UInt8) (nn : Bool) : Bool := isName n || (nn && (h == z20 && n == []))
theorem build_p0 (w : World) : (Instr.build 27 #[]).run Tryz.prog w = .ok (.agg (pC z20 [])) w := by kernel_rfl
structure PL (w : World) (g : Nat) (h n : List UInt8) : Prop where
  all : LoadsL Tryz.prog w 27 (some ⟨g, 0, none⟩) (.agg (pC h n))
  name : LoadsL Tryz.prog w 9 (some ⟨g, 20, none⟩) (.string ⟨n.toArray⟩)
theorem PL.of_blk {w : World} {g : Nat} {h n : List UInt8} (hb : Blk w g 27 (pC h n)) (hl : h.length = 20) : PL w g h n where
  all := hb.loads pC_under rfl (pC_info h n hl)
  name := hb.one 20 (pC_name h n hl) Tryz.underlying9 rfl
theorem PL.below {w w' : World} {g : Nat} {h n : List UInt8} (k : PL w g h n) (hb : Below w.heap.size w w') : PL w' g h n := ⟨k.all.below hb, k.name.below hb⟩
set_option maxRecDepth 100000 in
set_option maxHeartbeats 1000000 in
theorem named_any (h n : List UInt8) (nn : Bool) (hl : h.length = 20) (w : World) : Calls Tryz.prog 66 #[.agg (pC h n), .bool nn] w fun e w' => e = .returned (.bool (namedN h n nn)) ∧ Below w.heap.size w w' := by
  have HL := Lib.hid hl
  have hq : ∀ W, (binOp .eql 27 (.agg (pC h n)) (.agg (pC z20 []))).run Tryz.prog W = .ok (.bool (h == z20 && n == [])) W := fun W => eql_path h n z20 [] HL.out rfl W
  unfold namedN
  generalize (h == z20 && n == []) = z at *
  have hnm := name_any n
  generalize isName n = nb at *
  have HNM := Lib.hid hnm
  have HQ := Lib.hid hq
  clear hl hq hnm
  go_enter Tryz.func66, Tryz.ntmps66
  go_wp2_with (first | (with_reducible refine Agg.wpList_box rfl 27 _ rfl (pC h n) rfl ?_; intro g w1 hb hx1 hg; have HP := Lib.hid (PL.of_blk hb HL.out); have HX1 := Lib.hid hx1; clear hb hx1 hg) | (with_reducible refine Agg.wpList_loadL HP.out.name rfl _ rfl rfl ?_))
  refine (HNM.out _).mono ?_
  rintro e w2 ⟨rfl, hx2⟩
  have HW2 := Lib.hid (Agg.belowThen HX1.out (Nat.le_refl _) hx2)
  have HP2 := Lib.hid (HP.out.below hx2)
  clear hx2
  cases nb with
  | true =>
    go_wp2_with fail
    go_ret
    exact ⟨rfl, HW2.out⟩
  | false =>
    cases nn with
    | false =>
      go_wp2_with fail
      go_ret
      exact ⟨rfl, HW2.out⟩
    | true =>
      go_wp2_with (first | (with_reducible refine Agg.wpList_loadL HP2.out.all rfl _ rfl rfl ?_) | (with_reducible refine Agg.wpList_build0 27 rfl rfl (.agg (pC z20 [])) build_p0 ?_) | (with_reducible refine Agg.wpList_eqlw 27 27 _ _ rfl rfl (pC h n) (pC z20 []) rfl rfl z (by kernel_rfl) HQ.out ?_))
      go_ret
      exact ⟨by simp, HW2.out⟩
set_option maxRecDepth 100000 in
set_option maxHeartbeats 1000000 in
theorem shown_any (h n : List UInt8) (hl : h.length = 20) (w : World) : Calls Tryz.prog 41 #[.agg (pC h n)] w fun e w' => ∃ v w1, e = .returned v ∧ Below w.heap.size w w1 ∧ NewBytes w1 w' v (pathS h n) ∧ Below w.heap.size w w' := by
  go_enter Tryz.func41, Tryz.ntmps41
  go_wp2_with (first | (with_reducible refine Agg.wpList_box rfl 27 _ rfl (pC h n) rfl ?_; intro g w0 hb hx1 hg; have HP := Lib.hid (PL.of_blk hb hl); have HX1 := Lib.hid hx1; clear hb hx1 hg) | (with_reducible refine Agg.wpList_loadL HP.out.all rfl _ rfl rfl ?_))
  refine (path_any h n hl _).mono ?_
  rintro e w1 ⟨rfl, hx1⟩
  have hx1 := Agg.belowThen HX1.out (Nat.le_refl _) hx1
  go_wp2_with (first | (with_reducible refine wpList_toBytes (pathS h n) _ rfl (by kernel_rfl) rfl ?_; intro v2 w2 hn2 hx2; have HN2 := Lib.hid hn2; have HX2 := Lib.hid hx2; clear hn2 hx2))
  go_ret
  exact ⟨v2, w1, rfl, hx1, HN2.out, Agg.belowThen hx1 (Nat.le_refl _) HX2.out⟩
end Go.Proofs.YtpnolgliklmnmaaGreat
/-! wire.Right of any request. -/
namespace Go.Proofs.YtpnolgliklmnmaaGreat
open Go.RowKit Pl Go.Agg
/-- a request's cells -/
def rqH (k u wh : Int) (nm : List UInt8) (vb : Value) : Array Value := #[.int .i64 k, .int .i64 u, .int .i64 wh, .string ⟨nm.toArray⟩, vb]
def rqG (k u wh : Int) (nm : List UInt8) (vb : Value) (ph pn ch : List UInt8) : Array Value := rqH k u wh nm vb ++ (pC ph pn ++ hC ch)
section
variable {k u wh : Int} {nm : List UInt8} {vb : Value} {ph pn ch : List UInt8}
theorem rqG_bytes (k u wh : Int) (nm : List UInt8) (vb : Value) (ph pn ch : List UInt8) : (rqG k u wh nm vb ph pn ch)[4]? = some vb := by
  unfold rqG
  rw [Array.getElem?_append_left (by simp [rqH])]
  rfl
theorem rqG_path (_hl : ph.length = 20) (j : Nat) (v : Value) (h : (pC ph pn)[j]? = some v) : (rqG k u wh nm vb ph pn ch)[5 + j]? = some v := by
  have hj := (Array.getElem?_eq_some_iff.1 h).1
  unfold rqG
  rw [Array.getElem?_append_right (by simp [rqH]), show 5 + j - (rqH k u wh nm vb).size = j by simp [rqH], Array.getElem?_append_left hj]
  exact h
theorem rqG_class (hl : ph.length = 20) (j : Nat) (v : Value) (h : (hC ch)[j]? = some v) : (rqG k u wh nm vb ph pn ch)[26 + j]? = some v := by
  have hs : (pC ph pn).size = 21 := by rw [pC_size, hl]
  unfold rqG
  rw [Array.getElem?_append_right (by simp [rqH]; omega), show 26 + j - (rqH k u wh nm vb).size = 21 + j by simp [rqH]; omega, Array.getElem?_append_right (by rw [hs]; omega), show 21 + j - (pC ph pn).size = j by rw [hs]; omega]
  exact h
theorem rqG_size (hl : ph.length = 20) (hc : ch.length = 20) : (rqG k u wh nm vb ph pn ch).size = 46 := by simp [rqG, rqH, pC_size, hC_size, hl, hc]
structure RqG (w : World) (g : Nat) (k u wh : Int) (nm : List UInt8) (vb : Value) (ph pn ch : List UInt8) : Prop where
  all : LoadsL Tryz.prog w 29 (some ⟨g, 0, none⟩) (.agg (rqG k u wh nm vb ph pn ch))
  kind : LoadsL Tryz.prog w 22 (some ⟨g, 0, none⟩) (.int .i64 k)
  user : LoadsL Tryz.prog w 3 (some ⟨g, 1, none⟩) (.int .i64 u)
  who : LoadsL Tryz.prog w 3 (some ⟨g, 2, none⟩) (.int .i64 wh)
  name : LoadsL Tryz.prog w 9 (some ⟨g, 3, none⟩) (.string ⟨nm.toArray⟩)
  bytes : LoadsL Tryz.prog w 23 (some ⟨g, 4, none⟩) vb
  path : LoadsL Tryz.prog w 27 (some ⟨g, 5, none⟩) (.agg (pC ph pn))
  cls : LoadsL Tryz.prog w 25 (some ⟨g, 26, none⟩) (.agg (hC ch))
theorem RqG.of_blk {w : World} {g : Nat} (h : Blk w g 29 (rqG k u wh nm vb ph pn ch)) (hl : ph.length = 20) (hc : ch.length = 20) : RqG w g k u wh nm vb ph pn ch where
  all := h.loads (by kernel_rfl : Tryz.prog.underlying 29 = some (.struct (Tryz.prog.fieldsOf 29))) rfl (by rw [rqG_size hl hc]; kernel_rfl)
  kind := h.one 0 (by unfold rqG; rw [Array.getElem?_append_left (by simp [rqH])]; rfl) Tryz.underlying22 rfl
  user := h.one 1 (by unfold rqG; rw [Array.getElem?_append_left (by simp [rqH])]; rfl) Tryz.underlying3 rfl
  who := h.one 2 (by unfold rqG; rw [Array.getElem?_append_left (by simp [rqH])]; rfl) Tryz.underlying3 rfl
  name := h.one 3 (by unfold rqG; rw [Array.getElem?_append_left (by simp [rqH])]; rfl) Tryz.underlying9 rfl
  bytes := h.one 4 (rqG_bytes k u wh nm vb ph pn ch) (by kernel_rfl : Tryz.prog.underlying 23 = some (.slice 5)) rfl
  path := h.sub 5 (pC ph pn) (rqG_path hl) pC_under rfl (pC_info ph pn hl)
  cls := h.sub 26 (hC ch) (rqG_class hl) Tryz.underlying25 rfl (hC_info ch hc)
theorem RqG.below {w w' : World} {g : Nat} (h : RqG w g k u wh nm vb ph pn ch) (hb : Below w.heap.size w w') : RqG w' g k u wh nm vb ph pn ch := ⟨h.all.below hb, h.kind.below hb, h.user.below hb, h.who.below hb, h.name.below hb, h.bytes.below hb, h.path.below hb, h.cls.below hb⟩
end
/-- a request's test, in parts -/
def rT (k u wh : Int) (nm ph pn ch : List UInt8) : List Bool :=
  [!(decide (1 ≤ k) && decide (k ≤ 10)), !(decide (1 ≤ u) && decide (u ≤ 8)), hasN (partsN k) 1 != (decide (1 ≤ wh) && decide (wh ≤ 16)), !hasN (partsN k) 1 && (wh != 0), hasN (partsN k) 2 != isName nm, !hasN (partsN k) 2 && (nm != []),
    !hasN (partsN k) 12 && !(ph == z20 && pn == []), hasN (partsN k) 12 && !namedN ph pn (hasN (partsN k) 8), !hasN (partsN k) 16 && !(ch == z20)]
def rightN (k u wh : Int) (nm : List UInt8) (lb : Nat) (ph pn ch : List UInt8) : Bool := (rT k u wh nm ph pn ch).all (fun b => !b) && decide (lb ≤ mostN k)
theorem rightN_bad {k u wh : Int} {nm : List UInt8} {lb : Nat} {ph pn ch : List UInt8} {b : Bool} (h : b ∈ rT k u wh nm ph pn ch) (hb : b = true) : rightN k u wh nm lb ph pn ch = false := by
  subst hb
  unfold rightN
  rw [Bool.and_eq_false_iff]
  left
  rw [List.all_eq_false]
  exact ⟨true, h, by simp⟩
theorem neq_path (h n h' n' : List UInt8) (hl : h.length = 20) (hl' : h'.length = 20) (w : World) : (binOp .neq 27 (.agg (pC h n)) (.agg (pC h' n'))).run Tryz.prog w = .ok (.bool (!(h == h' && n == n'))) w := by
  rw [run_neq_struct, run_equalIn_struct w 9999 27 _ _ pC_under (by kernel_rfl)]
  have hf := path_fields
  generalize (Tryz.prog.fieldsOf 27).toList = fs at hf ⊢
  cases fs with
  | nil => exact absurd hf (by simp)
  | cons f1 fs =>
  cases fs with
  | nil => exact absurd hf (by simp)
  | cons f2 fs =>
  cases fs with
  | cons f3 fs => exact absurd hf (by simp)
  | nil =>
    simp only [List.map_cons, List.map_nil, List.cons.injEq, Prod.mk.injEq, and_true] at hf
    obtain ⟨⟨a1, a2, a3⟩, b1, b2, b3⟩ := hf
    simp only [Op.eqFields, a1, a2, a3, b1, b2, b3, Sem.run_bind, Sem.run_ite, part_hash _ _ hl, part_hash _ _ hl', part_name _ _ hl, part_name _ _ hl', Result.andThen_ok, eqlIn_hash 9997 _ _ hl hl', run_equalIn_string w 9998 9 _ _ Tryz.underlying9, Agg.bytes_toList]
    cases h == h' <;> cases n == n' <;> simp
theorem neq_hash (h h' : List UInt8) (hl : h.length = 20) (hl' : h'.length = 20) (w : World) : (binOp .neq 25 (.agg (hC h)) (.agg (hC h'))).run Tryz.prog w = .ok (.bool (!(h == h'))) w := by
  rw [run_neq_struct, eqlIn_hash 9998 _ _ hl hl']; rfl
theorem hasB {P c : Nat} {b : Bool} (hP : P < 256) (hc : c < 256) (h : hasN P c = b) (w : World) : Calls Tryz.prog 39 #[.int .u8 (P : Int), .int .u8 (c : Int)] w fun e w' => e = .returned (.bool b) ∧ w' = w := by
  have := has_any P c hP hc w
  rwa [h] at this
theorem withinB {n lo hi : Int} {b : Bool} (h : (decide (lo ≤ n) && decide (n ≤ hi)) = b) (w : World) : Calls Tryz.prog 64 #[.int .i64 n, .int .i64 lo, .int .i64 hi] w fun e w' => e = .returned (.bool b) ∧ w' = w := by
  have := within_go n lo hi w
  rwa [h] at this
end Go.Proofs.YtpnolgliklmnmaaGreat
