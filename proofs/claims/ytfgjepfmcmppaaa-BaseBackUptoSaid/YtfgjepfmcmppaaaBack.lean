/- spencelaw03.BaseBack: true. -/
import Derived.Test.YtfgjepfmcmppaaaEnds
namespace Go.Proofs.Ytfgjepfmcmppaaa
open Go.RowKit Pl Go.Agg
theorem neq_path (h n h' n' : List UInt8) (hl : h.length = 20) (hl' : h'.length = 20) (w : World) : (binOp .neq 40 (.agg (pC h n)) (.agg (pC h' n'))).run Try.prog w = .ok (.bool (!(h == h' && n == n'))) w := by
  have := eql_path h n h' n' hl hl' w
  rw [run_eql_struct] at this
  rw [run_neq_struct]
  generalize (Op.equalIn 10000 40 (.agg (pC h n)) (.agg (pC h' n'))).run Try.prog w = r at this ⊢
  cases r with
  | ok b w' => simp [Result.andThen] at this ⊢; exact ⟨by rw [this.1], this.2⟩
  | halt x w' => simp [Result.andThen] at this
theorem pathS_le (h n : List UInt8) : (pathS h n).length ≤ 57 := by
  unfold pathS
  split
  · rename_i hn
    have := isName_le hn
    simp [letters_length]; omega
  · simp
theorem pathS_of {h n : List UInt8} (hn : isName n = true) : pathS h n = letters h ++ 45 :: n := if_pos hn
theorem pathE_of {n : List UInt8} (hn : isName n = true) : pathE n = 0 := if_pos hn
theorem pathE_not {n : List UInt8} (hn : isName n = false) : pathE n = 2 := by simp [pathE, hn]
theorem parseE_none {s : List UInt8} (hp : parse s = none) : parseE s = 4 := by simp [parseE, hp]
theorem parseE_some {s h n : List UInt8} (hp : parse s = some (h, n)) : parseE s = 0 := by simp [parseE, hp]
theorem parseH_some {s h n : List UInt8} (hp : parse s = some (h, n)) : parseH s = h := by simp [parseH, hp]
theorem parseN_some {s h n : List UInt8} (hp : parse s = some (h, n)) : parseN s = n := by simp [parseN, hp]
theorem hashH_letters {h : List UInt8} (hl : h.length = 20) : hashH (letters h) = h := by simp [hashH, hash_letters hl]
theorem hashE_letters {h : List UInt8} (hl : h.length = 20) : hashE (letters h) = 0 := by simp [hashE, hash_letters hl]

set_option maxRecDepth 100000 in
set_option maxHeartbeats 1000000 in
theorem back_long (g0 n0 g1 n1 s : List UInt8) (hl0 : g0.length = 20) (hl1 : g1.length = 20) (hn0 : n0.length ≤ 1048576) (hn1 : n1.length ≤ 1048576) (hs : s.length ≤ 1048576) (m : Int) (w : World) (hm : w.cell? ⟨0, 0, none⟩ = some (.int .i64 m)) (h2 : ¬ s.length + n0.length + n1.length ≤ 2000) :
    Calls Try.prog 7 #[.agg (pC g0 n0), .agg (pC g1 n1), .string ⟨s.toArray⟩] w fun e w' => e = .returned (.bool true) ∧ Below w.heap.size w w' := by
  have hb1 := heap_alloc_new (w.alloc (.cells (pC g0 n0) 40)) (.cells (pC g1 n1) 40)
  have hb0 : ((w.alloc (.cells (pC g0 n0) 40)).alloc (.cells (pC g1 n1) 40)).heap[w.heap.size]? = _ := (heap_alloc_old _ _ (by simp)).trans (heap_alloc_new w (.cells (pC g0 n0) 40))
  have hw : Below w.heap.size w ((w.alloc (.cells (pC g0 n0) 40)).alloc (.cells (pC g1 n1) 40)) := ((Below.refl _ _).alloc (Nat.le_refl _) _).alloc (by simp) _
  rw [show (w.alloc (.cells (pC g0 n0) 40)).heap.size = w.heap.size + 1 by simp] at hb1
  have hlen : ∀ w (s : List UInt8), (Builtin.len_ #[9] 3 #[.string ⟨s.toArray⟩]).run Try.prog w = .ok (.int .i64 (s.length : Int)) w := fun w s => by rw [run_len_string w 9 3 _ Try.underlying9, Agg.bytes_size]; rfl
  have hls := fun w => hlen w s
  have hln0 := fun w => hlen w n0
  have hln1 := fun w => hlen w n1
  clear hlen
  have HL0 := Lib.hid hl0
  have HL1 := Lib.hid hl1
  clear hl0 hl1
  have HM0 : Hid (∀ w', Below w.heap.size w w' → w'.cell? ⟨0, 0, none⟩ = some (.int .i64 m)) := Lib.hid (fun w' hw' => (hw'.cell (block_lt_of_cell hm)).trans hm)
  clear hm
  have hd : decide (2000 < (s.length : Int) + (n0.length : Int) + (n1.length : Int)) = true := by simp; omega
  go_enter Try.func7, Try.ntmps7
  go_wp2_with fail
  generalize (w.alloc (.cells (pC g0 n0) 40)).alloc (.cells (pC g1 n1) 40) = w0 at *
  refine (awake_any _).mono ?_
  rintro e w1 ⟨rfl, hx⟩
  replace hb0 := Agg.keep' hx hb0
  replace hb1 := Agg.keep' hx hb1
  replace hw := Agg.belowThen hw (Nat.le_refl _) hx
  clear hx
  have c0 : w1.cell? ⟨w.heap.size, 20, none⟩ = some (.string ⟨n0.toArray⟩) := by rw [cell_of_row _ _ _ _ _ _ hb0, pC_name g0 n0 HL0.out]
  have c1 : w1.cell? ⟨w.heap.size + 1, 20, none⟩ = some (.string ⟨n1.toArray⟩) := by rw [cell_of_row _ _ _ _ _ _ hb1, pC_name g1 n1 HL1.out]
  go_wp2_with fail
  go_ret
  exact ⟨rfl, hw⟩
set_option maxRecDepth 100000 in
set_option maxHeartbeats 2000000 in
theorem back_tt (g0 n0 g1 n1 s q r : List UInt8) (hl0 : g0.length = 20) (hl1 : g1.length = 20) (hn0 : n0.length ≤ 1048576) (hn1 : n1.length ≤ 1048576) (hs : s.length ≤ 1048576) (m : Int) (w : World) (hm : w.cell? ⟨0, 0, none⟩ = some (.int .i64 m)) (h2 : s.length + n0.length + n1.length ≤ 2000) (hnm : isName n0 = true) (hp : parse s = some (q, r)) :
    Calls Try.prog 7 #[.agg (pC g0 n0), .agg (pC g1 n1), .string ⟨s.toArray⟩] w fun e w' => e = .returned (.bool true) ∧ Below w.heap.size w w' := by
  have hb1 := heap_alloc_new (w.alloc (.cells (pC g0 n0) 40)) (.cells (pC g1 n1) 40)
  have hb0 : ((w.alloc (.cells (pC g0 n0) 40)).alloc (.cells (pC g1 n1) 40)).heap[w.heap.size]? = _ := (heap_alloc_old _ _ (by simp)).trans (heap_alloc_new w (.cells (pC g0 n0) 40))
  have hw : Below w.heap.size w ((w.alloc (.cells (pC g0 n0) 40)).alloc (.cells (pC g1 n1) 40)) := ((Below.refl _ _).alloc (Nat.le_refl _) _).alloc (by simp) _
  rw [show (w.alloc (.cells (pC g0 n0) 40)).heap.size = w.heap.size + 1 by simp] at hb1
  have hlen : ∀ w (s : List UInt8), (Builtin.len_ #[9] 3 #[.string ⟨s.toArray⟩]).run Try.prog w = .ok (.int .i64 (s.length : Int)) w := fun w s => by rw [run_len_string w 9 3 _ Try.underlying9, Agg.bytes_size]; rfl
  have hls := fun w => hlen w s
  have hln0 := fun w => hlen w n0
  have hln1 := fun w => hlen w n1
  clear hlen
  have HL0 := Lib.hid hl0
  have HL1 := Lib.hid hl1
  clear hl0 hl1
  have HM0 : Hid (∀ w', Below w.heap.size w w' → w'.cell? ⟨0, 0, none⟩ = some (.int .i64 m)) := Lib.hid (fun w' hw' => (hw'.cell (block_lt_of_cell hm)).trans hm)
  clear hm
  have hd : decide (2000 < (s.length : Int) + (n0.length : Int) + (n1.length : Int)) = false := by simp; omega
  have HNM := Lib.hid hnm
  have HP := Lib.hid hp
  have HS : Hid (s.length < 4294967281) := Lib.hid (by omega)
  clear hnm hp
  go_enter Try.func7, Try.ntmps7
  go_wp2_with fail
  generalize (w.alloc (.cells (pC g0 n0) 40)).alloc (.cells (pC g1 n1) 40) = w0 at *
  refine (awake_any _).mono ?_
  rintro e w1 ⟨rfl, hx⟩
  replace hb0 := Agg.keep' hx hb0
  replace hb1 := Agg.keep' hx hb1
  replace hw := Agg.belowThen hw (Nat.le_refl _) hx
  clear hx
  have c0 : w1.cell? ⟨w.heap.size, 20, none⟩ = some (.string ⟨n0.toArray⟩) := by rw [cell_of_row _ _ _ _ _ _ hb0, pC_name g0 n0 HL0.out]
  have c1 : w1.cell? ⟨w.heap.size + 1, 20, none⟩ = some (.string ⟨n1.toArray⟩) := by rw [cell_of_row _ _ _ _ _ _ hb1, pC_name g1 n1 HL1.out]
  go_wp2_with (first | (with_reducible refine wpList_load_row rfl 40 _ rfl w.heap.size rfl 40 _ (0, 0) _ hb0 pC_under rfl (pC_info _ _ HL0.out) ?_))
  refine (path_any _ _ HL0.out _).mono ?_
  rintro e w2 ⟨rfl, hx⟩
  replace hb0 := Agg.keep' hx hb0
  replace hb1 := Agg.keep' hx hb1
  replace hw := Agg.belowThen hw (Nat.le_refl _) hx
  clear hx
  clear c0 c1
  have c0 : w2.cell? ⟨w.heap.size, 20, none⟩ = some (.string ⟨n0.toArray⟩) := by rw [cell_of_row _ _ _ _ _ _ hb0, pC_name g0 n0 HL0.out]
  rw [pathE_of HNM.out, pathS_of HNM.out]
  go_wp2_with fail
  refine (name_any _ _).mono ?_
  rintro e w3 ⟨rfl, hx⟩
  replace hb0 := Agg.keep' hx hb0
  replace hb1 := Agg.keep' hx hb1
  replace hw := Agg.belowThen hw (Nat.le_refl _) hx
  clear hx
  clear c0
  rw [HNM.out]
  go_wp2_with fail

  have htl : (letters g0 ++ 45 :: n0).length < 4294967281 := by
    have := isName_le HNM.out
    simp [letters_length]; omega
  have hpt := parse_text HL0.out HNM.out
  refine (parse_any _ htl m _ (HM0.out _ hw)).mono ?_
  rintro e w4 ⟨rfl, hx⟩
  replace hb0 := Agg.keep' hx hb0
  replace hb1 := Agg.keep' hx hb1
  replace hw := Agg.belowThen hw (Nat.le_refl _) hx
  clear hx
  rw [parseH_some hpt, parseN_some hpt, parseE_some hpt]
  clear htl hpt
  have hz := heap_alloc_new w4 (.cells (pC z20 []) 40)
  have hsz : Hid ((pC z20 []).size = (pC g0 n0).size) := Lib.hid (by rw [pC_size, pC_size, HL0.out]; rfl)
  obtain ⟨hb4, hx⟩ := laid (w := w4) (t := 40) (pC z20 []) (pC g0 n0)
  replace hb0 := Agg.keep' hx hb0
  replace hb1 := Agg.keep' hx hb1
  replace hw := Agg.belowThen hw (Nat.le_refl _) hx
  clear hx
  have hq0 : (Instr.loadAt 40 (.pointer (some ⟨w.heap.size, 0, none⟩))).run Try.prog ((w4.alloc (.cells (pC z20 []) 40)).setRow w4.heap.size (pC g0 n0)) = _ := Agg.run_loadAt_sub (off := 0) (cs := pC g0 n0) hb0 (fun j v hj => by simpa using hj) pC_under rfl (pC_info _ _ HL0.out)
  have hq4 : (Instr.loadAt 40 (.pointer (some ⟨w4.heap.size, 0, none⟩))).run Try.prog ((w4.alloc (.cells (pC z20 []) 40)).setRow w4.heap.size (pC g0 n0)) = _ := Agg.run_loadAt_sub (off := 0) (cs := pC g0 n0) hb4 (fun j v hj => by simpa using hj) pC_under rfl (pC_info _ _ HL0.out)
  have hqq : ∀ w, (binOp .neq 40 (.agg (pC g0 n0)) (.agg (pC g0 n0))).run Try.prog w = .ok (.bool false) w := fun w => by rw [neq_path _ _ _ _ HL0.out HL0.out]; simp
  go_wp2_with (first | (with_reducible refine Agg.wpList_alloc_row rfl 40 rfl (pC z20 []) pC_zero ?_) | (with_reducible refine Agg.wpList_set_row rfl rfl 40 _ _ rfl w4.heap.size (pC g0 n0) rfl rfl 40 _ hz (pC_info _ _ HL0.out) hsz.out (pC_one _ _) ?_) | (with_reducible refine Agg.wpList_loadw 40 _ rfl rfl (.pointer (some ⟨w.heap.size, 0, none⟩)) rfl (.agg (pC g0 n0)) hq0 ?_) | (with_reducible refine Agg.wpList_loadw 40 _ rfl rfl (.pointer (some ⟨w4.heap.size, 0, none⟩)) rfl (.agg (pC g0 n0)) hq4 ?_) | (with_reducible refine Agg.wpList_neqw 40 40 _ _ rfl rfl _ _ rfl rfl false (by kernel_rfl) hqq ?_))
  clear hz hsz
  generalize (w4.alloc (.cells (pC z20 []) 40)).setRow w4.heap.size (pC g0 n0) = v4 at *
  generalize w4.heap.size = ab4 at *
  clear hq0 hq4 hb4 hqq
  refine (parse_any s HS.out m _ (HM0.out _ hw)).mono ?_
  rintro e w5 ⟨rfl, hx⟩
  replace hb0 := Agg.keep' hx hb0
  replace hb1 := Agg.keep' hx hb1
  replace hw := Agg.belowThen hw (Nat.le_refl _) hx
  clear hx

  obtain ⟨hqn, hql, hqt⟩ := parse_some HP.out
  have HQL := Lib.hid hql
  have HQN := Lib.hid hqn
  have HQT := Lib.hid hqt
  clear hqn hql hqt
  rw [parseH_some HP.out, parseN_some HP.out, parseE_some HP.out]
  have hz := heap_alloc_new w5 (.cells (pC z20 []) 40)
  have hsz : Hid ((pC z20 []).size = (pC q r).size) := Lib.hid (by rw [pC_size, pC_size, HQL.out]; rfl)
  obtain ⟨hb5, hx⟩ := laid (w := w5) (t := 40) (pC z20 []) (pC q r)
  replace hb0 := Agg.keep' hx hb0
  replace hb1 := Agg.keep' hx hb1
  replace hw := Agg.belowThen hw (Nat.le_refl _) hx
  clear hx
  go_wp2_with (first | (with_reducible refine Agg.wpList_alloc_row rfl 40 rfl (pC z20 []) pC_zero ?_) | (with_reducible refine Agg.wpList_set_row rfl rfl 40 _ _ rfl w5.heap.size (pC q r) rfl rfl 40 _ hz (pC_info _ _ HQL.out) hsz.out (pC_one _ _) ?_) | (with_reducible refine wpList_load_row rfl 40 _ rfl w5.heap.size rfl 40 _ (0, 0) _ hb5 pC_under rfl (pC_info _ _ HQL.out) ?_))
  clear hz hsz
  generalize (w5.alloc (.cells (pC z20 []) 40)).setRow w5.heap.size (pC q r) = v5 at *
  generalize w5.heap.size = ab5 at *
  clear hb5
  refine (path_any _ _ HQL.out _).mono ?_
  rintro e w6 ⟨rfl, hx⟩
  replace hb0 := Agg.keep' hx hb0
  replace hb1 := Agg.keep' hx hb1
  replace hw := Agg.belowThen hw (Nat.le_refl _) hx
  clear hx
  rw [pathE_of HQN.out, pathS_of HQN.out, HQT.out]
  have hlh : (Instr.loadAt 38 (.pointer (some ⟨w.heap.size + 1, 0, none⟩))).run Try.prog w6 = .ok (.agg (hC g1)) w6 := Agg.run_loadAt_sub hb1 (pC_hash g1 n1) Try.underlying38 rfl (hC_info _ HL1.out)
  go_wp2_with (first | (with_reducible refine Agg.wpList_loadw 38 _ rfl rfl (.pointer (some ⟨w.heap.size + 1, 0, none⟩)) rfl (.agg (hC g1)) hlh ?_))
  clear hlh
  refine (letters_any _ HL1.out _).mono ?_
  rintro e w7 ⟨rfl, hx⟩
  replace hb0 := Agg.keep' hx hb0
  replace hb1 := Agg.keep' hx hb1
  replace hw := Agg.belowThen hw (Nat.le_refl _) hx
  clear hx
  go_wp2_with fail
  refine (hash_any _ _).mono ?_
  rintro e w8 ⟨rfl, hx⟩
  replace hb0 := Agg.keep' hx hb0
  replace hb1 := Agg.keep' hx hb1
  replace hw := Agg.belowThen hw (Nat.le_refl _) hx
  clear hx
  rw [hashH_letters HL1.out, hashE_letters HL1.out]
  have hz := heap_alloc_new w8 (.cells (hC z20) 38)
  have hsz : Hid ((hC z20).size = (hC g1).size) := Lib.hid (by rw [hC_size, hC_size, HL1.out]; rfl)
  obtain ⟨hb8, hx⟩ := laid (w := w8) (t := 38) (hC z20) (hC g1)
  replace hb0 := Agg.keep' hx hb0
  replace hb1 := Agg.keep' hx hb1
  replace hw := Agg.belowThen hw (Nat.le_refl _) hx
  clear hx
  go_wp2_with (first | (with_reducible refine Agg.wpList_alloc_row rfl 38 rfl (hC z20) z20_zero ?_) | (with_reducible refine Agg.wpList_set_row rfl rfl 38 _ _ rfl w8.heap.size (hC g1) rfl rfl 38 _ hz (hC_info _ HL1.out) hsz.out (hC_one _) ?_))
  clear hz hsz
  generalize (w8.alloc (.cells (hC z20) 38)).setRow w8.heap.size (hC g1) = v8 at *
  generalize w8.heap.size = ab8 at *
  have hl0 : ∀ x : Later v8, (Instr.loadAt 38 (.pointer (some ⟨w.heap.size, 0, none⟩))).run Try.prog x.w = .ok (.agg (hC g0)) x.w := fun x => Agg.run_loadAt_sub (x.heap hb0) (pC_hash g0 n0) Try.underlying38 rfl (hC_info _ HL0.out)
  have hl1 : ∀ x : Later v8, (Instr.loadAt 38 (.pointer (some ⟨w.heap.size + 1, 0, none⟩))).run Try.prog x.w = .ok (.agg (hC g1)) x.w := fun x => Agg.run_loadAt_sub (x.heap hb1) (pC_hash g1 n1) Try.underlying38 rfl (hC_info _ HL1.out)
  have hl8 : ∀ x : Later v8, (Instr.loadAt 38 (.pointer (some ⟨ab8, 0, none⟩))).run Try.prog x.w = .ok (.agg (hC g1)) x.w := fun x => Agg.run_loadAt_sub (off := 0) (x.heap hb8) (fun j v hj => by simpa using hj) Try.underlying38 rfl (hC_info _ HL1.out)
  have hq1 : ∀ w, (binOp .eql 38 (.agg (hC g1)) (.agg (hC g1))).run Try.prog w = .ok (.bool true) w := fun w => by rw [eql_hash _ _ HL1.out HL1.out]; simp
  have hq01 : ∀ w, (binOp .eql 38 (.agg (hC g0)) (.agg (hC g1))).run Try.prog w = .ok (.bool (g0 == g1)) w := fun w => eql_hash _ _ HL0.out HL1.out w
  have hlt : (letters g0 == letters g1) = (g0 == g1) := by
    rw [Bool.eq_iff_iff]
    simp only [beq_iff_eq]
    exact ⟨fun e => letters_inj HL0.out HL1.out e, fun e => by rw [e]⟩
  refine Agg.wp_region_later_lit (by kernel_rfl) (by kernel_rfl) ?_
  repeat (first
    | ((first
      | (with_reducible refine Agg.wpQuiet_load rfl 38 _ rfl (.pointer (some ⟨w.heap.size, 0, none⟩)) rfl (.agg (hC g0)) (Agg.later_all hl0) ?_)
      | (with_reducible refine Agg.wpQuiet_load rfl 38 _ rfl (.pointer (some ⟨w.heap.size + 1, 0, none⟩)) rfl (.agg (hC g1)) (Agg.later_all hl1) ?_)
      | (with_reducible refine Agg.wpQuiet_load rfl 38 _ rfl (.pointer (some ⟨ab8, 0, none⟩)) rfl (.agg (hC g1)) (Agg.later_all hl8) ?_)
      | (with_reducible refine Agg.wpQuiet_eql rfl 38 38 _ _ rfl (hC g1) (hC g1) rfl rfl true (by kernel_rfl) hq1 ?_)
      | (with_reducible refine Agg.wpQuiet_eql rfl 38 38 _ _ rfl (hC g0) (hC g1) rfl rfl (g0 == g1) (by kernel_rfl) hq01 ?_)); simp only [Act.put, List.setIfInBounds_toArray, List.set_cons_succ, List.set_cons_zero])
    | go_big_quiet_step ((go_at_call 29; exact Agg.Calls.later (letters_any _ (by first | exact HL0.out | exact HL1.out) _))))
  refine wpQuiet_nil ?_
  intro _ hw'
  obtain ⟨x, rfl⟩ := hw'
  go_wp2_with fail
  go_ret
  exact ⟨by first | rfl | simp [hlt], Agg.belowThen hw (Nat.le_refl _) x.h⟩
set_option maxRecDepth 100000 in
set_option maxHeartbeats 2000000 in
theorem back_tn (g0 n0 g1 n1 s : List UInt8) (hl0 : g0.length = 20) (hl1 : g1.length = 20) (hn0 : n0.length ≤ 1048576) (hn1 : n1.length ≤ 1048576) (hs : s.length ≤ 1048576) (m : Int) (w : World) (hm : w.cell? ⟨0, 0, none⟩ = some (.int .i64 m)) (h2 : s.length + n0.length + n1.length ≤ 2000) (hnm : isName n0 = true) (hp : parse s = none) :
    Calls Try.prog 7 #[.agg (pC g0 n0), .agg (pC g1 n1), .string ⟨s.toArray⟩] w fun e w' => e = .returned (.bool true) ∧ Below w.heap.size w w' := by
  have hb1 := heap_alloc_new (w.alloc (.cells (pC g0 n0) 40)) (.cells (pC g1 n1) 40)
  have hb0 : ((w.alloc (.cells (pC g0 n0) 40)).alloc (.cells (pC g1 n1) 40)).heap[w.heap.size]? = _ := (heap_alloc_old _ _ (by simp)).trans (heap_alloc_new w (.cells (pC g0 n0) 40))
  have hw : Below w.heap.size w ((w.alloc (.cells (pC g0 n0) 40)).alloc (.cells (pC g1 n1) 40)) := ((Below.refl _ _).alloc (Nat.le_refl _) _).alloc (by simp) _
  rw [show (w.alloc (.cells (pC g0 n0) 40)).heap.size = w.heap.size + 1 by simp] at hb1
  have hlen : ∀ w (s : List UInt8), (Builtin.len_ #[9] 3 #[.string ⟨s.toArray⟩]).run Try.prog w = .ok (.int .i64 (s.length : Int)) w := fun w s => by rw [run_len_string w 9 3 _ Try.underlying9, Agg.bytes_size]; rfl
  have hls := fun w => hlen w s
  have hln0 := fun w => hlen w n0
  have hln1 := fun w => hlen w n1
  clear hlen
  have HL0 := Lib.hid hl0
  have HL1 := Lib.hid hl1
  clear hl0 hl1
  have HM0 : Hid (∀ w', Below w.heap.size w w' → w'.cell? ⟨0, 0, none⟩ = some (.int .i64 m)) := Lib.hid (fun w' hw' => (hw'.cell (block_lt_of_cell hm)).trans hm)
  clear hm
  have hd : decide (2000 < (s.length : Int) + (n0.length : Int) + (n1.length : Int)) = false := by simp; omega
  have HNM := Lib.hid hnm
  have HP := Lib.hid hp
  have HS : Hid (s.length < 4294967281) := Lib.hid (by omega)
  clear hnm hp
  go_enter Try.func7, Try.ntmps7
  go_wp2_with fail
  generalize (w.alloc (.cells (pC g0 n0) 40)).alloc (.cells (pC g1 n1) 40) = w0 at *
  refine (awake_any _).mono ?_
  rintro e w1 ⟨rfl, hx⟩
  replace hb0 := Agg.keep' hx hb0
  replace hb1 := Agg.keep' hx hb1
  replace hw := Agg.belowThen hw (Nat.le_refl _) hx
  clear hx
  have c0 : w1.cell? ⟨w.heap.size, 20, none⟩ = some (.string ⟨n0.toArray⟩) := by rw [cell_of_row _ _ _ _ _ _ hb0, pC_name g0 n0 HL0.out]
  have c1 : w1.cell? ⟨w.heap.size + 1, 20, none⟩ = some (.string ⟨n1.toArray⟩) := by rw [cell_of_row _ _ _ _ _ _ hb1, pC_name g1 n1 HL1.out]
  go_wp2_with (first | (with_reducible refine wpList_load_row rfl 40 _ rfl w.heap.size rfl 40 _ (0, 0) _ hb0 pC_under rfl (pC_info _ _ HL0.out) ?_))
  refine (path_any _ _ HL0.out _).mono ?_
  rintro e w2 ⟨rfl, hx⟩
  replace hb0 := Agg.keep' hx hb0
  replace hb1 := Agg.keep' hx hb1
  replace hw := Agg.belowThen hw (Nat.le_refl _) hx
  clear hx
  clear c0 c1
  have c0 : w2.cell? ⟨w.heap.size, 20, none⟩ = some (.string ⟨n0.toArray⟩) := by rw [cell_of_row _ _ _ _ _ _ hb0, pC_name g0 n0 HL0.out]
  rw [pathE_of HNM.out, pathS_of HNM.out]
  go_wp2_with fail
  refine (name_any _ _).mono ?_
  rintro e w3 ⟨rfl, hx⟩
  replace hb0 := Agg.keep' hx hb0
  replace hb1 := Agg.keep' hx hb1
  replace hw := Agg.belowThen hw (Nat.le_refl _) hx
  clear hx
  clear c0
  rw [HNM.out]
  go_wp2_with fail

  have htl : (letters g0 ++ 45 :: n0).length < 4294967281 := by
    have := isName_le HNM.out
    simp [letters_length]; omega
  have hpt := parse_text HL0.out HNM.out
  refine (parse_any _ htl m _ (HM0.out _ hw)).mono ?_
  rintro e w4 ⟨rfl, hx⟩
  replace hb0 := Agg.keep' hx hb0
  replace hb1 := Agg.keep' hx hb1
  replace hw := Agg.belowThen hw (Nat.le_refl _) hx
  clear hx
  rw [parseH_some hpt, parseN_some hpt, parseE_some hpt]
  clear htl hpt
  have hz := heap_alloc_new w4 (.cells (pC z20 []) 40)
  have hsz : Hid ((pC z20 []).size = (pC g0 n0).size) := Lib.hid (by rw [pC_size, pC_size, HL0.out]; rfl)
  obtain ⟨hb4, hx⟩ := laid (w := w4) (t := 40) (pC z20 []) (pC g0 n0)
  replace hb0 := Agg.keep' hx hb0
  replace hb1 := Agg.keep' hx hb1
  replace hw := Agg.belowThen hw (Nat.le_refl _) hx
  clear hx
  have hq0 : (Instr.loadAt 40 (.pointer (some ⟨w.heap.size, 0, none⟩))).run Try.prog ((w4.alloc (.cells (pC z20 []) 40)).setRow w4.heap.size (pC g0 n0)) = _ := Agg.run_loadAt_sub (off := 0) (cs := pC g0 n0) hb0 (fun j v hj => by simpa using hj) pC_under rfl (pC_info _ _ HL0.out)
  have hq4 : (Instr.loadAt 40 (.pointer (some ⟨w4.heap.size, 0, none⟩))).run Try.prog ((w4.alloc (.cells (pC z20 []) 40)).setRow w4.heap.size (pC g0 n0)) = _ := Agg.run_loadAt_sub (off := 0) (cs := pC g0 n0) hb4 (fun j v hj => by simpa using hj) pC_under rfl (pC_info _ _ HL0.out)
  have hqq : ∀ w, (binOp .neq 40 (.agg (pC g0 n0)) (.agg (pC g0 n0))).run Try.prog w = .ok (.bool false) w := fun w => by rw [neq_path _ _ _ _ HL0.out HL0.out]; simp
  go_wp2_with (first | (with_reducible refine Agg.wpList_alloc_row rfl 40 rfl (pC z20 []) pC_zero ?_) | (with_reducible refine Agg.wpList_set_row rfl rfl 40 _ _ rfl w4.heap.size (pC g0 n0) rfl rfl 40 _ hz (pC_info _ _ HL0.out) hsz.out (pC_one _ _) ?_) | (with_reducible refine Agg.wpList_loadw 40 _ rfl rfl (.pointer (some ⟨w.heap.size, 0, none⟩)) rfl (.agg (pC g0 n0)) hq0 ?_) | (with_reducible refine Agg.wpList_loadw 40 _ rfl rfl (.pointer (some ⟨w4.heap.size, 0, none⟩)) rfl (.agg (pC g0 n0)) hq4 ?_) | (with_reducible refine Agg.wpList_neqw 40 40 _ _ rfl rfl _ _ rfl rfl false (by kernel_rfl) hqq ?_))
  clear hz hsz
  generalize (w4.alloc (.cells (pC z20 []) 40)).setRow w4.heap.size (pC g0 n0) = v4 at *
  generalize w4.heap.size = ab4 at *
  clear hq0 hq4 hb4 hqq
  refine (parse_any s HS.out m _ (HM0.out _ hw)).mono ?_
  rintro e w5 ⟨rfl, hx⟩
  replace hb0 := Agg.keep' hx hb0
  replace hb1 := Agg.keep' hx hb1
  replace hw := Agg.belowThen hw (Nat.le_refl _) hx
  clear hx

  have hPH : parseH s = z20 := by simp [parseH, HP.out]
  have hPN : parseN s = [] := by simp [parseN, HP.out]
  rw [hPH, hPN, parseE_none HP.out]
  clear hPH hPN
  have hz := heap_alloc_new w5 (.cells (pC z20 []) 40)
  have hsz : Hid ((pC z20 []).size = (pC z20 []).size) := Lib.hid (rfl)
  obtain ⟨hb5, hx⟩ := laid (w := w5) (t := 40) (pC z20 []) (pC z20 [])
  replace hb0 := Agg.keep' hx hb0
  replace hb1 := Agg.keep' hx hb1
  replace hw := Agg.belowThen hw (Nat.le_refl _) hx
  clear hx
  go_wp2_with (first | (with_reducible refine Agg.wpList_alloc_row rfl 40 rfl (pC z20 []) pC_zero ?_) | (with_reducible refine Agg.wpList_set_row rfl rfl 40 _ _ rfl w5.heap.size (pC z20 []) rfl rfl 40 _ hz (pC_info _ _ z20_length) rfl (pC_one _ _) ?_) | (with_reducible refine wpList_load_row rfl 40 _ rfl w5.heap.size rfl 40 _ (0, 0) _ hb5 pC_under rfl (pC_info _ _ z20_length) ?_))
  clear hz hsz
  generalize (w5.alloc (.cells (pC z20 []) 40)).setRow w5.heap.size (pC z20 []) = v5 at *
  generalize w5.heap.size = ab5 at *
  clear hb5
  refine (path_any _ _ z20_length _).mono ?_
  rintro e w6 ⟨rfl, hx⟩
  replace hb0 := Agg.keep' hx hb0
  replace hb1 := Agg.keep' hx hb1
  replace hw := Agg.belowThen hw (Nat.le_refl _) hx
  clear hx
  rw [show pathE [] = 2 from rfl]
  have hlh : (Instr.loadAt 38 (.pointer (some ⟨w.heap.size + 1, 0, none⟩))).run Try.prog w6 = .ok (.agg (hC g1)) w6 := Agg.run_loadAt_sub hb1 (pC_hash g1 n1) Try.underlying38 rfl (hC_info _ HL1.out)
  go_wp2_with (first | (with_reducible refine Agg.wpList_loadw 38 _ rfl rfl (.pointer (some ⟨w.heap.size + 1, 0, none⟩)) rfl (.agg (hC g1)) hlh ?_))
  clear hlh
  refine (letters_any _ HL1.out _).mono ?_
  rintro e w7 ⟨rfl, hx⟩
  replace hb0 := Agg.keep' hx hb0
  replace hb1 := Agg.keep' hx hb1
  replace hw := Agg.belowThen hw (Nat.le_refl _) hx
  clear hx
  go_wp2_with fail
  refine (hash_any _ _).mono ?_
  rintro e w8 ⟨rfl, hx⟩
  replace hb0 := Agg.keep' hx hb0
  replace hb1 := Agg.keep' hx hb1
  replace hw := Agg.belowThen hw (Nat.le_refl _) hx
  clear hx
  rw [hashH_letters HL1.out, hashE_letters HL1.out]
  have hz := heap_alloc_new w8 (.cells (hC z20) 38)
  have hsz : Hid ((hC z20).size = (hC g1).size) := Lib.hid (by rw [hC_size, hC_size, HL1.out]; rfl)
  obtain ⟨hb8, hx⟩ := laid (w := w8) (t := 38) (hC z20) (hC g1)
  replace hb0 := Agg.keep' hx hb0
  replace hb1 := Agg.keep' hx hb1
  replace hw := Agg.belowThen hw (Nat.le_refl _) hx
  clear hx
  go_wp2_with (first | (with_reducible refine Agg.wpList_alloc_row rfl 38 rfl (hC z20) z20_zero ?_) | (with_reducible refine Agg.wpList_set_row rfl rfl 38 _ _ rfl w8.heap.size (hC g1) rfl rfl 38 _ hz (hC_info _ HL1.out) hsz.out (hC_one _) ?_))
  clear hz hsz
  generalize (w8.alloc (.cells (hC z20) 38)).setRow w8.heap.size (hC g1) = v8 at *
  generalize w8.heap.size = ab8 at *
  have hl0 : ∀ x : Later v8, (Instr.loadAt 38 (.pointer (some ⟨w.heap.size, 0, none⟩))).run Try.prog x.w = .ok (.agg (hC g0)) x.w := fun x => Agg.run_loadAt_sub (x.heap hb0) (pC_hash g0 n0) Try.underlying38 rfl (hC_info _ HL0.out)
  have hl1 : ∀ x : Later v8, (Instr.loadAt 38 (.pointer (some ⟨w.heap.size + 1, 0, none⟩))).run Try.prog x.w = .ok (.agg (hC g1)) x.w := fun x => Agg.run_loadAt_sub (x.heap hb1) (pC_hash g1 n1) Try.underlying38 rfl (hC_info _ HL1.out)
  have hl8 : ∀ x : Later v8, (Instr.loadAt 38 (.pointer (some ⟨ab8, 0, none⟩))).run Try.prog x.w = .ok (.agg (hC g1)) x.w := fun x => Agg.run_loadAt_sub (off := 0) (x.heap hb8) (fun j v hj => by simpa using hj) Try.underlying38 rfl (hC_info _ HL1.out)
  have hq1 : ∀ w, (binOp .eql 38 (.agg (hC g1)) (.agg (hC g1))).run Try.prog w = .ok (.bool true) w := fun w => by rw [eql_hash _ _ HL1.out HL1.out]; simp
  have hq01 : ∀ w, (binOp .eql 38 (.agg (hC g0)) (.agg (hC g1))).run Try.prog w = .ok (.bool (g0 == g1)) w := fun w => eql_hash _ _ HL0.out HL1.out w
  have hlt : (letters g0 == letters g1) = (g0 == g1) := by
    rw [Bool.eq_iff_iff]
    simp only [beq_iff_eq]
    exact ⟨fun e => letters_inj HL0.out HL1.out e, fun e => by rw [e]⟩
  refine Agg.wp_region_later_lit (by kernel_rfl) (by kernel_rfl) ?_
  repeat (first
    | ((first
      | (with_reducible refine Agg.wpQuiet_load rfl 38 _ rfl (.pointer (some ⟨w.heap.size, 0, none⟩)) rfl (.agg (hC g0)) (Agg.later_all hl0) ?_)
      | (with_reducible refine Agg.wpQuiet_load rfl 38 _ rfl (.pointer (some ⟨w.heap.size + 1, 0, none⟩)) rfl (.agg (hC g1)) (Agg.later_all hl1) ?_)
      | (with_reducible refine Agg.wpQuiet_load rfl 38 _ rfl (.pointer (some ⟨ab8, 0, none⟩)) rfl (.agg (hC g1)) (Agg.later_all hl8) ?_)
      | (with_reducible refine Agg.wpQuiet_eql rfl 38 38 _ _ rfl (hC g1) (hC g1) rfl rfl true (by kernel_rfl) hq1 ?_)
      | (with_reducible refine Agg.wpQuiet_eql rfl 38 38 _ _ rfl (hC g0) (hC g1) rfl rfl (g0 == g1) (by kernel_rfl) hq01 ?_)); simp only [Act.put, List.setIfInBounds_toArray, List.set_cons_succ, List.set_cons_zero])
    | go_big_quiet_step ((go_at_call 29; exact Agg.Calls.later (letters_any _ (by first | exact HL0.out | exact HL1.out) _))))
  refine wpQuiet_nil ?_
  intro _ hw'
  obtain ⟨x, rfl⟩ := hw'
  go_wp2_with fail
  go_ret
  exact ⟨by first | rfl | simp [hlt], Agg.belowThen hw (Nat.le_refl _) x.h⟩
set_option maxRecDepth 100000 in
set_option maxHeartbeats 2000000 in
theorem back_ft (g0 n0 g1 n1 s q r : List UInt8) (hl0 : g0.length = 20) (hl1 : g1.length = 20) (hn0 : n0.length ≤ 1048576) (hn1 : n1.length ≤ 1048576) (hs : s.length ≤ 1048576) (m : Int) (w : World) (hm : w.cell? ⟨0, 0, none⟩ = some (.int .i64 m)) (h2 : s.length + n0.length + n1.length ≤ 2000) (hnm : isName n0 = false) (hp : parse s = some (q, r)) :
    Calls Try.prog 7 #[.agg (pC g0 n0), .agg (pC g1 n1), .string ⟨s.toArray⟩] w fun e w' => e = .returned (.bool true) ∧ Below w.heap.size w w' := by
  have hb1 := heap_alloc_new (w.alloc (.cells (pC g0 n0) 40)) (.cells (pC g1 n1) 40)
  have hb0 : ((w.alloc (.cells (pC g0 n0) 40)).alloc (.cells (pC g1 n1) 40)).heap[w.heap.size]? = _ := (heap_alloc_old _ _ (by simp)).trans (heap_alloc_new w (.cells (pC g0 n0) 40))
  have hw : Below w.heap.size w ((w.alloc (.cells (pC g0 n0) 40)).alloc (.cells (pC g1 n1) 40)) := ((Below.refl _ _).alloc (Nat.le_refl _) _).alloc (by simp) _
  rw [show (w.alloc (.cells (pC g0 n0) 40)).heap.size = w.heap.size + 1 by simp] at hb1
  have hlen : ∀ w (s : List UInt8), (Builtin.len_ #[9] 3 #[.string ⟨s.toArray⟩]).run Try.prog w = .ok (.int .i64 (s.length : Int)) w := fun w s => by rw [run_len_string w 9 3 _ Try.underlying9, Agg.bytes_size]; rfl
  have hls := fun w => hlen w s
  have hln0 := fun w => hlen w n0
  have hln1 := fun w => hlen w n1
  clear hlen
  have HL0 := Lib.hid hl0
  have HL1 := Lib.hid hl1
  clear hl0 hl1
  have HM0 : Hid (∀ w', Below w.heap.size w w' → w'.cell? ⟨0, 0, none⟩ = some (.int .i64 m)) := Lib.hid (fun w' hw' => (hw'.cell (block_lt_of_cell hm)).trans hm)
  clear hm
  have hd : decide (2000 < (s.length : Int) + (n0.length : Int) + (n1.length : Int)) = false := by simp; omega
  have HNM := Lib.hid hnm
  have HP := Lib.hid hp
  have HS : Hid (s.length < 4294967281) := Lib.hid (by omega)
  clear hnm hp
  go_enter Try.func7, Try.ntmps7
  go_wp2_with fail
  generalize (w.alloc (.cells (pC g0 n0) 40)).alloc (.cells (pC g1 n1) 40) = w0 at *
  refine (awake_any _).mono ?_
  rintro e w1 ⟨rfl, hx⟩
  replace hb0 := Agg.keep' hx hb0
  replace hb1 := Agg.keep' hx hb1
  replace hw := Agg.belowThen hw (Nat.le_refl _) hx
  clear hx
  have c0 : w1.cell? ⟨w.heap.size, 20, none⟩ = some (.string ⟨n0.toArray⟩) := by rw [cell_of_row _ _ _ _ _ _ hb0, pC_name g0 n0 HL0.out]
  have c1 : w1.cell? ⟨w.heap.size + 1, 20, none⟩ = some (.string ⟨n1.toArray⟩) := by rw [cell_of_row _ _ _ _ _ _ hb1, pC_name g1 n1 HL1.out]
  go_wp2_with (first | (with_reducible refine wpList_load_row rfl 40 _ rfl w.heap.size rfl 40 _ (0, 0) _ hb0 pC_under rfl (pC_info _ _ HL0.out) ?_))
  refine (path_any _ _ HL0.out _).mono ?_
  rintro e w2 ⟨rfl, hx⟩
  replace hb0 := Agg.keep' hx hb0
  replace hb1 := Agg.keep' hx hb1
  replace hw := Agg.belowThen hw (Nat.le_refl _) hx
  clear hx
  clear c0 c1
  have c0 : w2.cell? ⟨w.heap.size, 20, none⟩ = some (.string ⟨n0.toArray⟩) := by rw [cell_of_row _ _ _ _ _ _ hb0, pC_name g0 n0 HL0.out]
  rw [pathE_not HNM.out]
  go_wp2_with fail
  refine (name_any _ _).mono ?_
  rintro e w3 ⟨rfl, hx⟩
  replace hb0 := Agg.keep' hx hb0
  replace hb1 := Agg.keep' hx hb1
  replace hw := Agg.belowThen hw (Nat.le_refl _) hx
  clear hx
  clear c0
  rw [HNM.out]
  go_wp2_with fail

  refine (parse_any s HS.out m _ (HM0.out _ hw)).mono ?_
  rintro e w5 ⟨rfl, hx⟩
  replace hb0 := Agg.keep' hx hb0
  replace hb1 := Agg.keep' hx hb1
  replace hw := Agg.belowThen hw (Nat.le_refl _) hx
  clear hx

  obtain ⟨hqn, hql, hqt⟩ := parse_some HP.out
  have HQL := Lib.hid hql
  have HQN := Lib.hid hqn
  have HQT := Lib.hid hqt
  clear hqn hql hqt
  rw [parseH_some HP.out, parseN_some HP.out, parseE_some HP.out]
  have hz := heap_alloc_new w5 (.cells (pC z20 []) 40)
  have hsz : Hid ((pC z20 []).size = (pC q r).size) := Lib.hid (by rw [pC_size, pC_size, HQL.out]; rfl)
  obtain ⟨hb5, hx⟩ := laid (w := w5) (t := 40) (pC z20 []) (pC q r)
  replace hb0 := Agg.keep' hx hb0
  replace hb1 := Agg.keep' hx hb1
  replace hw := Agg.belowThen hw (Nat.le_refl _) hx
  clear hx
  go_wp2_with (first | (with_reducible refine Agg.wpList_alloc_row rfl 40 rfl (pC z20 []) pC_zero ?_) | (with_reducible refine Agg.wpList_set_row rfl rfl 40 _ _ rfl w5.heap.size (pC q r) rfl rfl 40 _ hz (pC_info _ _ HQL.out) hsz.out (pC_one _ _) ?_) | (with_reducible refine wpList_load_row rfl 40 _ rfl w5.heap.size rfl 40 _ (0, 0) _ hb5 pC_under rfl (pC_info _ _ HQL.out) ?_))
  clear hz hsz
  generalize (w5.alloc (.cells (pC z20 []) 40)).setRow w5.heap.size (pC q r) = v5 at *
  generalize w5.heap.size = ab5 at *
  clear hb5
  refine (path_any _ _ HQL.out _).mono ?_
  rintro e w6 ⟨rfl, hx⟩
  replace hb0 := Agg.keep' hx hb0
  replace hb1 := Agg.keep' hx hb1
  replace hw := Agg.belowThen hw (Nat.le_refl _) hx
  clear hx
  rw [pathE_of HQN.out, pathS_of HQN.out, HQT.out]
  have hlh : (Instr.loadAt 38 (.pointer (some ⟨w.heap.size + 1, 0, none⟩))).run Try.prog w6 = .ok (.agg (hC g1)) w6 := Agg.run_loadAt_sub hb1 (pC_hash g1 n1) Try.underlying38 rfl (hC_info _ HL1.out)
  go_wp2_with (first | (with_reducible refine Agg.wpList_loadw 38 _ rfl rfl (.pointer (some ⟨w.heap.size + 1, 0, none⟩)) rfl (.agg (hC g1)) hlh ?_))
  clear hlh
  refine (letters_any _ HL1.out _).mono ?_
  rintro e w7 ⟨rfl, hx⟩
  replace hb0 := Agg.keep' hx hb0
  replace hb1 := Agg.keep' hx hb1
  replace hw := Agg.belowThen hw (Nat.le_refl _) hx
  clear hx
  go_wp2_with fail
  refine (hash_any _ _).mono ?_
  rintro e w8 ⟨rfl, hx⟩
  replace hb0 := Agg.keep' hx hb0
  replace hb1 := Agg.keep' hx hb1
  replace hw := Agg.belowThen hw (Nat.le_refl _) hx
  clear hx
  rw [hashH_letters HL1.out, hashE_letters HL1.out]
  have hz := heap_alloc_new w8 (.cells (hC z20) 38)
  have hsz : Hid ((hC z20).size = (hC g1).size) := Lib.hid (by rw [hC_size, hC_size, HL1.out]; rfl)
  obtain ⟨hb8, hx⟩ := laid (w := w8) (t := 38) (hC z20) (hC g1)
  replace hb0 := Agg.keep' hx hb0
  replace hb1 := Agg.keep' hx hb1
  replace hw := Agg.belowThen hw (Nat.le_refl _) hx
  clear hx
  go_wp2_with (first | (with_reducible refine Agg.wpList_alloc_row rfl 38 rfl (hC z20) z20_zero ?_) | (with_reducible refine Agg.wpList_set_row rfl rfl 38 _ _ rfl w8.heap.size (hC g1) rfl rfl 38 _ hz (hC_info _ HL1.out) hsz.out (hC_one _) ?_))
  clear hz hsz
  generalize (w8.alloc (.cells (hC z20) 38)).setRow w8.heap.size (hC g1) = v8 at *
  generalize w8.heap.size = ab8 at *
  have hl0 : ∀ x : Later v8, (Instr.loadAt 38 (.pointer (some ⟨w.heap.size, 0, none⟩))).run Try.prog x.w = .ok (.agg (hC g0)) x.w := fun x => Agg.run_loadAt_sub (x.heap hb0) (pC_hash g0 n0) Try.underlying38 rfl (hC_info _ HL0.out)
  have hl1 : ∀ x : Later v8, (Instr.loadAt 38 (.pointer (some ⟨w.heap.size + 1, 0, none⟩))).run Try.prog x.w = .ok (.agg (hC g1)) x.w := fun x => Agg.run_loadAt_sub (x.heap hb1) (pC_hash g1 n1) Try.underlying38 rfl (hC_info _ HL1.out)
  have hl8 : ∀ x : Later v8, (Instr.loadAt 38 (.pointer (some ⟨ab8, 0, none⟩))).run Try.prog x.w = .ok (.agg (hC g1)) x.w := fun x => Agg.run_loadAt_sub (off := 0) (x.heap hb8) (fun j v hj => by simpa using hj) Try.underlying38 rfl (hC_info _ HL1.out)
  have hq1 : ∀ w, (binOp .eql 38 (.agg (hC g1)) (.agg (hC g1))).run Try.prog w = .ok (.bool true) w := fun w => by rw [eql_hash _ _ HL1.out HL1.out]; simp
  have hq01 : ∀ w, (binOp .eql 38 (.agg (hC g0)) (.agg (hC g1))).run Try.prog w = .ok (.bool (g0 == g1)) w := fun w => eql_hash _ _ HL0.out HL1.out w
  have hlt : (letters g0 == letters g1) = (g0 == g1) := by
    rw [Bool.eq_iff_iff]
    simp only [beq_iff_eq]
    exact ⟨fun e => letters_inj HL0.out HL1.out e, fun e => by rw [e]⟩
  refine Agg.wp_region_later_lit (by kernel_rfl) (by kernel_rfl) ?_
  repeat (first
    | ((first
      | (with_reducible refine Agg.wpQuiet_load rfl 38 _ rfl (.pointer (some ⟨w.heap.size, 0, none⟩)) rfl (.agg (hC g0)) (Agg.later_all hl0) ?_)
      | (with_reducible refine Agg.wpQuiet_load rfl 38 _ rfl (.pointer (some ⟨w.heap.size + 1, 0, none⟩)) rfl (.agg (hC g1)) (Agg.later_all hl1) ?_)
      | (with_reducible refine Agg.wpQuiet_load rfl 38 _ rfl (.pointer (some ⟨ab8, 0, none⟩)) rfl (.agg (hC g1)) (Agg.later_all hl8) ?_)
      | (with_reducible refine Agg.wpQuiet_eql rfl 38 38 _ _ rfl (hC g1) (hC g1) rfl rfl true (by kernel_rfl) hq1 ?_)
      | (with_reducible refine Agg.wpQuiet_eql rfl 38 38 _ _ rfl (hC g0) (hC g1) rfl rfl (g0 == g1) (by kernel_rfl) hq01 ?_)); simp only [Act.put, List.setIfInBounds_toArray, List.set_cons_succ, List.set_cons_zero])
    | go_big_quiet_step ((go_at_call 29; exact Agg.Calls.later (letters_any _ (by first | exact HL0.out | exact HL1.out) _))))
  refine wpQuiet_nil ?_
  intro _ hw'
  obtain ⟨x, rfl⟩ := hw'
  go_wp2_with fail
  go_ret
  exact ⟨by first | rfl | simp [hlt], Agg.belowThen hw (Nat.le_refl _) x.h⟩
set_option maxRecDepth 100000 in
set_option maxHeartbeats 2000000 in
theorem back_fn (g0 n0 g1 n1 s : List UInt8) (hl0 : g0.length = 20) (hl1 : g1.length = 20) (hn0 : n0.length ≤ 1048576) (hn1 : n1.length ≤ 1048576) (hs : s.length ≤ 1048576) (m : Int) (w : World) (hm : w.cell? ⟨0, 0, none⟩ = some (.int .i64 m)) (h2 : s.length + n0.length + n1.length ≤ 2000) (hnm : isName n0 = false) (hp : parse s = none) :
    Calls Try.prog 7 #[.agg (pC g0 n0), .agg (pC g1 n1), .string ⟨s.toArray⟩] w fun e w' => e = .returned (.bool true) ∧ Below w.heap.size w w' := by
  have hb1 := heap_alloc_new (w.alloc (.cells (pC g0 n0) 40)) (.cells (pC g1 n1) 40)
  have hb0 : ((w.alloc (.cells (pC g0 n0) 40)).alloc (.cells (pC g1 n1) 40)).heap[w.heap.size]? = _ := (heap_alloc_old _ _ (by simp)).trans (heap_alloc_new w (.cells (pC g0 n0) 40))
  have hw : Below w.heap.size w ((w.alloc (.cells (pC g0 n0) 40)).alloc (.cells (pC g1 n1) 40)) := ((Below.refl _ _).alloc (Nat.le_refl _) _).alloc (by simp) _
  rw [show (w.alloc (.cells (pC g0 n0) 40)).heap.size = w.heap.size + 1 by simp] at hb1
  have hlen : ∀ w (s : List UInt8), (Builtin.len_ #[9] 3 #[.string ⟨s.toArray⟩]).run Try.prog w = .ok (.int .i64 (s.length : Int)) w := fun w s => by rw [run_len_string w 9 3 _ Try.underlying9, Agg.bytes_size]; rfl
  have hls := fun w => hlen w s
  have hln0 := fun w => hlen w n0
  have hln1 := fun w => hlen w n1
  clear hlen
  have HL0 := Lib.hid hl0
  have HL1 := Lib.hid hl1
  clear hl0 hl1
  have HM0 : Hid (∀ w', Below w.heap.size w w' → w'.cell? ⟨0, 0, none⟩ = some (.int .i64 m)) := Lib.hid (fun w' hw' => (hw'.cell (block_lt_of_cell hm)).trans hm)
  clear hm
  have hd : decide (2000 < (s.length : Int) + (n0.length : Int) + (n1.length : Int)) = false := by simp; omega
  have HNM := Lib.hid hnm
  have HP := Lib.hid hp
  have HS : Hid (s.length < 4294967281) := Lib.hid (by omega)
  clear hnm hp
  go_enter Try.func7, Try.ntmps7
  go_wp2_with fail
  generalize (w.alloc (.cells (pC g0 n0) 40)).alloc (.cells (pC g1 n1) 40) = w0 at *
  refine (awake_any _).mono ?_
  rintro e w1 ⟨rfl, hx⟩
  replace hb0 := Agg.keep' hx hb0
  replace hb1 := Agg.keep' hx hb1
  replace hw := Agg.belowThen hw (Nat.le_refl _) hx
  clear hx
  have c0 : w1.cell? ⟨w.heap.size, 20, none⟩ = some (.string ⟨n0.toArray⟩) := by rw [cell_of_row _ _ _ _ _ _ hb0, pC_name g0 n0 HL0.out]
  have c1 : w1.cell? ⟨w.heap.size + 1, 20, none⟩ = some (.string ⟨n1.toArray⟩) := by rw [cell_of_row _ _ _ _ _ _ hb1, pC_name g1 n1 HL1.out]
  go_wp2_with (first | (with_reducible refine wpList_load_row rfl 40 _ rfl w.heap.size rfl 40 _ (0, 0) _ hb0 pC_under rfl (pC_info _ _ HL0.out) ?_))
  refine (path_any _ _ HL0.out _).mono ?_
  rintro e w2 ⟨rfl, hx⟩
  replace hb0 := Agg.keep' hx hb0
  replace hb1 := Agg.keep' hx hb1
  replace hw := Agg.belowThen hw (Nat.le_refl _) hx
  clear hx
  clear c0 c1
  have c0 : w2.cell? ⟨w.heap.size, 20, none⟩ = some (.string ⟨n0.toArray⟩) := by rw [cell_of_row _ _ _ _ _ _ hb0, pC_name g0 n0 HL0.out]
  rw [pathE_not HNM.out]
  go_wp2_with fail
  refine (name_any _ _).mono ?_
  rintro e w3 ⟨rfl, hx⟩
  replace hb0 := Agg.keep' hx hb0
  replace hb1 := Agg.keep' hx hb1
  replace hw := Agg.belowThen hw (Nat.le_refl _) hx
  clear hx
  clear c0
  rw [HNM.out]
  go_wp2_with fail

  refine (parse_any s HS.out m _ (HM0.out _ hw)).mono ?_
  rintro e w5 ⟨rfl, hx⟩
  replace hb0 := Agg.keep' hx hb0
  replace hb1 := Agg.keep' hx hb1
  replace hw := Agg.belowThen hw (Nat.le_refl _) hx
  clear hx

  have hPH : parseH s = z20 := by simp [parseH, HP.out]
  have hPN : parseN s = [] := by simp [parseN, HP.out]
  rw [hPH, hPN, parseE_none HP.out]
  clear hPH hPN
  have hz := heap_alloc_new w5 (.cells (pC z20 []) 40)
  have hsz : Hid ((pC z20 []).size = (pC z20 []).size) := Lib.hid (rfl)
  obtain ⟨hb5, hx⟩ := laid (w := w5) (t := 40) (pC z20 []) (pC z20 [])
  replace hb0 := Agg.keep' hx hb0
  replace hb1 := Agg.keep' hx hb1
  replace hw := Agg.belowThen hw (Nat.le_refl _) hx
  clear hx
  go_wp2_with (first | (with_reducible refine Agg.wpList_alloc_row rfl 40 rfl (pC z20 []) pC_zero ?_) | (with_reducible refine Agg.wpList_set_row rfl rfl 40 _ _ rfl w5.heap.size (pC z20 []) rfl rfl 40 _ hz (pC_info _ _ z20_length) rfl (pC_one _ _) ?_) | (with_reducible refine wpList_load_row rfl 40 _ rfl w5.heap.size rfl 40 _ (0, 0) _ hb5 pC_under rfl (pC_info _ _ z20_length) ?_))
  clear hz hsz
  generalize (w5.alloc (.cells (pC z20 []) 40)).setRow w5.heap.size (pC z20 []) = v5 at *
  generalize w5.heap.size = ab5 at *
  clear hb5
  refine (path_any _ _ z20_length _).mono ?_
  rintro e w6 ⟨rfl, hx⟩
  replace hb0 := Agg.keep' hx hb0
  replace hb1 := Agg.keep' hx hb1
  replace hw := Agg.belowThen hw (Nat.le_refl _) hx
  clear hx
  rw [show pathE [] = 2 from rfl]
  have hlh : (Instr.loadAt 38 (.pointer (some ⟨w.heap.size + 1, 0, none⟩))).run Try.prog w6 = .ok (.agg (hC g1)) w6 := Agg.run_loadAt_sub hb1 (pC_hash g1 n1) Try.underlying38 rfl (hC_info _ HL1.out)
  go_wp2_with (first | (with_reducible refine Agg.wpList_loadw 38 _ rfl rfl (.pointer (some ⟨w.heap.size + 1, 0, none⟩)) rfl (.agg (hC g1)) hlh ?_))
  clear hlh
  refine (letters_any _ HL1.out _).mono ?_
  rintro e w7 ⟨rfl, hx⟩
  replace hb0 := Agg.keep' hx hb0
  replace hb1 := Agg.keep' hx hb1
  replace hw := Agg.belowThen hw (Nat.le_refl _) hx
  clear hx
  go_wp2_with fail
  refine (hash_any _ _).mono ?_
  rintro e w8 ⟨rfl, hx⟩
  replace hb0 := Agg.keep' hx hb0
  replace hb1 := Agg.keep' hx hb1
  replace hw := Agg.belowThen hw (Nat.le_refl _) hx
  clear hx
  rw [hashH_letters HL1.out, hashE_letters HL1.out]
  have hz := heap_alloc_new w8 (.cells (hC z20) 38)
  have hsz : Hid ((hC z20).size = (hC g1).size) := Lib.hid (by rw [hC_size, hC_size, HL1.out]; rfl)
  obtain ⟨hb8, hx⟩ := laid (w := w8) (t := 38) (hC z20) (hC g1)
  replace hb0 := Agg.keep' hx hb0
  replace hb1 := Agg.keep' hx hb1
  replace hw := Agg.belowThen hw (Nat.le_refl _) hx
  clear hx
  go_wp2_with (first | (with_reducible refine Agg.wpList_alloc_row rfl 38 rfl (hC z20) z20_zero ?_) | (with_reducible refine Agg.wpList_set_row rfl rfl 38 _ _ rfl w8.heap.size (hC g1) rfl rfl 38 _ hz (hC_info _ HL1.out) hsz.out (hC_one _) ?_))
  clear hz hsz
  generalize (w8.alloc (.cells (hC z20) 38)).setRow w8.heap.size (hC g1) = v8 at *
  generalize w8.heap.size = ab8 at *
  have hl0 : ∀ x : Later v8, (Instr.loadAt 38 (.pointer (some ⟨w.heap.size, 0, none⟩))).run Try.prog x.w = .ok (.agg (hC g0)) x.w := fun x => Agg.run_loadAt_sub (x.heap hb0) (pC_hash g0 n0) Try.underlying38 rfl (hC_info _ HL0.out)
  have hl1 : ∀ x : Later v8, (Instr.loadAt 38 (.pointer (some ⟨w.heap.size + 1, 0, none⟩))).run Try.prog x.w = .ok (.agg (hC g1)) x.w := fun x => Agg.run_loadAt_sub (x.heap hb1) (pC_hash g1 n1) Try.underlying38 rfl (hC_info _ HL1.out)
  have hl8 : ∀ x : Later v8, (Instr.loadAt 38 (.pointer (some ⟨ab8, 0, none⟩))).run Try.prog x.w = .ok (.agg (hC g1)) x.w := fun x => Agg.run_loadAt_sub (off := 0) (x.heap hb8) (fun j v hj => by simpa using hj) Try.underlying38 rfl (hC_info _ HL1.out)
  have hq1 : ∀ w, (binOp .eql 38 (.agg (hC g1)) (.agg (hC g1))).run Try.prog w = .ok (.bool true) w := fun w => by rw [eql_hash _ _ HL1.out HL1.out]; simp
  have hq01 : ∀ w, (binOp .eql 38 (.agg (hC g0)) (.agg (hC g1))).run Try.prog w = .ok (.bool (g0 == g1)) w := fun w => eql_hash _ _ HL0.out HL1.out w
  have hlt : (letters g0 == letters g1) = (g0 == g1) := by
    rw [Bool.eq_iff_iff]
    simp only [beq_iff_eq]
    exact ⟨fun e => letters_inj HL0.out HL1.out e, fun e => by rw [e]⟩
  refine Agg.wp_region_later_lit (by kernel_rfl) (by kernel_rfl) ?_
  repeat (first
    | ((first
      | (with_reducible refine Agg.wpQuiet_load rfl 38 _ rfl (.pointer (some ⟨w.heap.size, 0, none⟩)) rfl (.agg (hC g0)) (Agg.later_all hl0) ?_)
      | (with_reducible refine Agg.wpQuiet_load rfl 38 _ rfl (.pointer (some ⟨w.heap.size + 1, 0, none⟩)) rfl (.agg (hC g1)) (Agg.later_all hl1) ?_)
      | (with_reducible refine Agg.wpQuiet_load rfl 38 _ rfl (.pointer (some ⟨ab8, 0, none⟩)) rfl (.agg (hC g1)) (Agg.later_all hl8) ?_)
      | (with_reducible refine Agg.wpQuiet_eql rfl 38 38 _ _ rfl (hC g1) (hC g1) rfl rfl true (by kernel_rfl) hq1 ?_)
      | (with_reducible refine Agg.wpQuiet_eql rfl 38 38 _ _ rfl (hC g0) (hC g1) rfl rfl (g0 == g1) (by kernel_rfl) hq01 ?_)); simp only [Act.put, List.setIfInBounds_toArray, List.set_cons_succ, List.set_cons_zero])
    | go_big_quiet_step ((go_at_call 29; exact Agg.Calls.later (letters_any _ (by first | exact HL0.out | exact HL1.out) _))))
  refine wpQuiet_nil ?_
  intro _ hw'
  obtain ⟨x, rfl⟩ := hw'
  go_wp2_with fail
  go_ret
  exact ⟨by first | rfl | simp [hlt], Agg.belowThen hw (Nat.le_refl _) x.h⟩
theorem back_any (g0 n0 g1 n1 s : List UInt8) (hl0 : g0.length = 20) (hl1 : g1.length = 20) (hn0 : n0.length ≤ 1048576) (hn1 : n1.length ≤ 1048576) (hs : s.length ≤ 1048576) (m : Int) (w : World) (hm : w.cell? ⟨0, 0, none⟩ = some (.int .i64 m)) :
    Calls Try.prog 7 #[.agg (pC g0 n0), .agg (pC g1 n1), .string ⟨s.toArray⟩] w fun e w' => e = .returned (.bool true) ∧ Below w.heap.size w w' := by
  by_cases h2 : s.length + n0.length + n1.length ≤ 2000
  · cases hnm : isName n0 with
    | true =>
      cases hp : parse s with
      | none => exact back_tn g0 n0 g1 n1 s hl0 hl1 hn0 hn1 hs m w hm h2 hnm hp
      | some x => exact back_tt g0 n0 g1 n1 s x.1 x.2 hl0 hl1 hn0 hn1 hs m w hm h2 hnm hp
    | false =>
      cases hp : parse s with
      | none => exact back_fn g0 n0 g1 n1 s hl0 hl1 hn0 hn1 hs m w hm h2 hnm hp
      | some x => exact back_ft g0 n0 g1 n1 s x.1 x.2 hl0 hl1 hn0 hn1 hs m w hm h2 hnm hp
  · exact back_long g0 n0 g1 n1 s hl0 hl1 hn0 hn1 hs m w hm h2
end Go.Proofs.Ytfgjepfmcmppaaa
