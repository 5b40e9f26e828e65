/- spencelaw03.BaseTells: true, whatever the path and the text. -/
import Derived.Test.YtfgjepfmcmppaaaAwake
import Derived.Test.YtfgjepfmcmppaaaRefParse
import Derived.Test.YtfgjepfmcmppaaaEqual
namespace Go.Proofs.Ytfgjepfmcmppaaa
open Go.RowKit Pl Go.Agg
theorem parseH_length (s : List UInt8) : (parseH s).length = 20 := by
  unfold parseH
  cases h : parse s with
  | none => exact z20_length
  | some x => exact (parse_some h).2.1
/-- a block made and laid full -/
theorem laid {w : World} {t : TypeId} (z c : Array Value) : ((w.alloc (.cells z t)).setRow w.heap.size c).heap[w.heap.size]? = some (.cells c t (0, 0)) ∧ Below w.heap.size w ((w.alloc (.cells z t)).setRow w.heap.size c) :=
  ⟨setRow_heap _ _ _ _ _ _ (heap_alloc_new w (.cells z t)), Agg.below_setRow ((Below.refl _ _).alloc (Nat.le_refl _) _) (Nat.le_refl _)⟩
set_option maxRecDepth 100000 in
set_option maxHeartbeats 1000000 in
theorem tells_any (h n s : List UInt8) (hl : h.length = 20) (hs : s.length ≤ 1048576) (hn : n.length ≤ 1048576) (m : Int) (w : World) (hm : w.cell? ⟨0, 0, none⟩ = some (.int .i64 m)) :
    Calls Try.prog 5 #[.agg (pC h n), .string ⟨s.toArray⟩] w fun e w' => e = .returned (.bool true) ∧ Below w.heap.size w w' := by
  have hb := heap_alloc_new w (.cells (pC h n) 40)
  have hcell : (w.alloc (.cells (pC h n) 40)).cell? ⟨w.heap.size, 20, none⟩ = some (.string ⟨n.toArray⟩) := by rw [cell_of_row _ _ _ _ _ _ hb, pC_name h n hl]
  have hlen : ∀ w (s : List UInt8), (Builtin.len_ #[9] 3 #[.string ⟨s.toArray⟩]).run Try.prog w = .ok (.int .i64 (s.length : Int)) w := fun w s => by rw [run_len_string w 9 3 _ Try.underlying9, Agg.bytes_size]; rfl
  have hls := fun w => hlen w s
  have hln := fun w => hlen w n
  clear hlen
  have HL := Lib.hid hl
  clear hl
  by_cases h2 : s.length + n.length ≤ 2000
  · have hd : decide (2000 < (s.length : Int) + (n.length : Int)) = false := by simp; omega
    have hw0 : Below w.heap.size w (w.alloc (.cells (pC h n) 40)) := (Below.refl _ _).alloc (Nat.le_refl _) _
    go_enter Try.func5, Try.ntmps5
    go_wp2_with fail
    clear hls hln hcell
    have HM0 : Hid (∀ w', Below w.heap.size w w' → w'.cell? ⟨0, 0, none⟩ = some (.int .i64 m)) := Lib.hid (fun w' hw' => (hw'.cell (block_lt_of_cell hm)).trans hm)
    clear hm
    generalize w.alloc (.cells (pC h n) 40) = w0 at *
    have h0 := hb
    have hw := hw0
    clear hb hw0
    refine (hash_any _ _).mono ?_
    rintro e w1 ⟨rfl, hx⟩
    replace h0 := Agg.keep' hx h0
    have hw := Agg.belowThen hw (Nat.le_refl _) hx
    clear hx
    have hz := heap_alloc_new w1 (.cells (hC z20) 38)
    have hsz : Hid ((hC z20).size = (hC (hashH s)).size) := Lib.hid (by rw [hC_size, hC_size, hashH_length]; rfl)
    obtain ⟨h1, hx⟩ := laid (w := w1) (t := 38) (hC z20) (hC (hashH s))
    replace h0 := Agg.keep' hx h0
    have hw := Agg.belowThen hw (Nat.le_refl _) hx
    go_wp2_with (first | (with_reducible refine Agg.wpList_alloc_row rfl 38 rfl (hC z20) z20_zero ?_) | (with_reducible refine Agg.wpList_set_row rfl rfl 38 _ _ rfl w1.heap.size (hC (hashH s)) rfl rfl 38 _ hz (hC_info _ (hashH_length s)) hsz.out (hC_one _) ?_) | (with_reducible refine wpList_load_row rfl 40 _ rfl w.heap.size rfl 40 _ (0, 0) _ h0 pC_under rfl (pC_info _ _ HL.out) ?_))
    clear hx hz hsz
    generalize (w1.alloc (.cells (hC z20) 38)).setRow w1.heap.size (hC (hashH s)) = v1 at *
    generalize w1.heap.size = g1 at *
    try clear w1
    refine (refHash_any _ _).mono ?_
    rintro e w2 ⟨rfl, hx⟩
    replace h0 := Agg.keep' hx h0
    replace h1 := Agg.keep' hx h1
    have hw := Agg.belowThen hw (Nat.le_refl _) hx
    clear hx
    have hz := heap_alloc_new w2 (.cells (hC z20) 38)
    have hsz : Hid ((hC z20).size = (hC (hashH s)).size) := Lib.hid (by rw [hC_size, hC_size, hashH_length]; rfl)
    obtain ⟨h2, hx⟩ := laid (w := w2) (t := 38) (hC z20) (hC (hashH s))
    replace h0 := Agg.keep' hx h0
    replace h1 := Agg.keep' hx h1
    have hw := Agg.belowThen hw (Nat.le_refl _) hx
    go_wp2_with (first | (with_reducible refine Agg.wpList_alloc_row rfl 38 rfl (hC z20) z20_zero ?_) | (with_reducible refine Agg.wpList_set_row rfl rfl 38 _ _ rfl w2.heap.size (hC (hashH s)) rfl rfl 38 _ hz (hC_info _ (hashH_length s)) hsz.out (hC_one _) ?_) | (with_reducible refine wpList_load_row rfl 40 _ rfl w.heap.size rfl 40 _ (0, 0) _ h0 pC_under rfl (pC_info _ _ HL.out) ?_))
    clear hx hz hsz
    generalize (w2.alloc (.cells (hC z20) 38)).setRow w2.heap.size (hC (hashH s)) = v2 at *
    generalize w2.heap.size = g2 at *
    try clear w2
    refine (path_any _ _ HL.out _).mono ?_
    rintro e w3 ⟨rfl, hx⟩
    replace h0 := Agg.keep' hx h0
    replace h1 := Agg.keep' hx h1
    replace h2 := Agg.keep' hx h2
    have hw := Agg.belowThen hw (Nat.le_refl _) hx
    clear hx
    go_wp2_with (first | (with_reducible refine wpList_load_row rfl 40 _ rfl w.heap.size rfl 40 _ (0, 0) _ h0 pC_under rfl (pC_info _ _ HL.out) ?_))
    refine (refPath_any _ _ HL.out (by omega) _).mono ?_
    rintro e w4 ⟨rfl, hx⟩
    replace h0 := Agg.keep' hx h0
    replace h1 := Agg.keep' hx h1
    replace h2 := Agg.keep' hx h2
    have hw := Agg.belowThen hw (Nat.le_refl _) hx
    clear hx
    go_wp2_with (first | (with_reducible refine wpList_load_row rfl 40 _ rfl w.heap.size rfl 40 _ (0, 0) _ h0 pC_under rfl (pC_info _ _ HL.out) ?_))
    have hm := HM0.out _ hw
    refine (parse_any _ (by omega) m _ hm).mono ?_
    rintro e w5 ⟨rfl, hx⟩
    replace h0 := Agg.keep' hx h0
    replace h1 := Agg.keep' hx h1
    replace h2 := Agg.keep' hx h2
    have hw := Agg.belowThen hw (Nat.le_refl _) hx
    clear hx
    have hz := heap_alloc_new w5 (.cells (pC z20 []) 40)
    have hsz : Hid ((pC z20 []).size = (pC (parseH s) (parseN s)).size) := Lib.hid (by rw [pC_size, pC_size, parseH_length]; rfl)
    obtain ⟨h5, hx⟩ := laid (w := w5) (t := 40) (pC z20 []) (pC (parseH s) (parseN s))
    replace h0 := Agg.keep' hx h0
    replace h1 := Agg.keep' hx h1
    replace h2 := Agg.keep' hx h2
    have hw := Agg.belowThen hw (Nat.le_refl _) hx
    go_wp2_with (first | (with_reducible refine Agg.wpList_alloc_row rfl 40 rfl (pC z20 []) pC_zero ?_) | (with_reducible refine Agg.wpList_set_row rfl rfl 40 _ _ rfl w5.heap.size (pC (parseH s) (parseN s)) rfl rfl 40 _ hz (pC_info _ _ (parseH_length s)) hsz.out (pC_one _ _) ?_) | (with_reducible refine wpList_load_row rfl 40 _ rfl w.heap.size rfl 40 _ (0, 0) _ h0 pC_under rfl (pC_info _ _ HL.out) ?_))
    clear hx hz hsz
    generalize (w5.alloc (.cells (pC z20 []) 40)).setRow w5.heap.size (pC (parseH s) (parseN s)) = v5 at *
    generalize w5.heap.size = g5 at *
    try clear w5
    refine (refParse_any _ (by omega) _).mono ?_
    rintro e w6 ⟨rfl, hx⟩
    replace h0 := Agg.keep' hx h0
    replace h1 := Agg.keep' hx h1
    replace h2 := Agg.keep' hx h2
    replace h5 := Agg.keep' hx h5
    have hw := Agg.belowThen hw (Nat.le_refl _) hx
    clear hx
    have hz := heap_alloc_new w6 (.cells (pC z20 []) 40)
    have hsz : Hid ((pC z20 []).size = (pC (parseH s) (parseN s)).size) := Lib.hid (by rw [pC_size, pC_size, parseH_length]; rfl)
    obtain ⟨h6, hx⟩ := laid (w := w6) (t := 40) (pC z20 []) (pC (parseH s) (parseN s))
    replace h0 := Agg.keep' hx h0
    replace h1 := Agg.keep' hx h1
    replace h2 := Agg.keep' hx h2
    replace h5 := Agg.keep' hx h5
    have hw := Agg.belowThen hw (Nat.le_refl _) hx
    go_wp2_with (first | (with_reducible refine Agg.wpList_alloc_row rfl 40 rfl (pC z20 []) pC_zero ?_) | (with_reducible refine Agg.wpList_set_row rfl rfl 40 _ _ rfl w6.heap.size (pC (parseH s) (parseN s)) rfl rfl 40 _ hz (pC_info _ _ (parseH_length s)) hsz.out (pC_one _ _) ?_) | (with_reducible refine wpList_load_row rfl 40 _ rfl w.heap.size rfl 40 _ (0, 0) _ h0 pC_under rfl (pC_info _ _ HL.out) ?_))
    clear hx hz hsz
    generalize (w6.alloc (.cells (pC z20 []) 40)).setRow w6.heap.size (pC (parseH s) (parseN s)) = v6 at *
    generalize w6.heap.size = g6 at *
    try clear w6
    have hc0 : ∀ x : Later v6, x.w.cell? ⟨w.heap.size, 20, none⟩ = some (.string ⟨n.toArray⟩) := fun x => by rw [cell_of_row _ _ _ _ _ _ (x.heap h0), pC_name h n HL.out]
    have hl0 : ∀ x : Later v6, (Instr.loadAt 38 (.pointer (some ⟨w.heap.size, 0, none⟩))).run Try.prog x.w = .ok (.agg (hC h)) x.w := fun x => Agg.run_loadAt_sub (x.heap h0) (pC_hash h n) Try.underlying38 rfl (hC_info h HL.out)
    have hl1 : ∀ x : Later v6, (Instr.loadAt 38 (.pointer (some ⟨g1, 0, none⟩))).run Try.prog x.w = .ok (.agg (hC (hashH s))) x.w := fun x => Agg.run_loadAt_sub (off := 0) (x.heap h1) (fun j v hj => by simpa using hj) Try.underlying38 rfl (hC_info _ (hashH_length s))
    have hl2 : ∀ x : Later v6, (Instr.loadAt 38 (.pointer (some ⟨g2, 0, none⟩))).run Try.prog x.w = .ok (.agg (hC (hashH s))) x.w := fun x => Agg.run_loadAt_sub (off := 0) (x.heap h2) (fun j v hj => by simpa using hj) Try.underlying38 rfl (hC_info _ (hashH_length s))
    have hl5 : ∀ x : Later v6, (Instr.loadAt 40 (.pointer (some ⟨g5, 0, none⟩))).run Try.prog x.w = .ok (.agg (pC (parseH s) (parseN s))) x.w := fun x => Agg.run_loadAt_sub (off := 0) (x.heap h5) (fun j v hj => by simpa using hj) pC_under rfl (pC_info _ _ (parseH_length s))
    have hl6 : ∀ x : Later v6, (Instr.loadAt 40 (.pointer (some ⟨g6, 0, none⟩))).run Try.prog x.w = .ok (.agg (pC (parseH s) (parseN s))) x.w := fun x => Agg.run_loadAt_sub (off := 0) (x.heap h6) (fun j v hj => by simpa using hj) pC_under rfl (pC_info _ _ (parseH_length s))
    have hq1 : ∀ w, (binOp .eql 38 (.agg (hC (hashH s))) (.agg (hC (hashH s)))).run Try.prog w = .ok (.bool true) w := fun w => by rw [eql_hash _ _ (hashH_length s) (hashH_length s)]; simp
    have hq5 : ∀ w, (binOp .eql 40 (.agg (pC (parseH s) (parseN s))) (.agg (pC (parseH s) (parseN s)))).run Try.prog w = .ok (.bool true) w := fun w => by rw [eql_path _ _ _ _ (parseH_length s) (parseH_length s)]; simp
    have hns : s.length ≤ 9223372036854775807 := by omega
    have hnn : n.length ≤ 9223372036854775807 := by omega
    refine Agg.wp_region_later_lit (by kernel_rfl) (by kernel_rfl) ?_
    repeat (first
      | ((first
        | (with_reducible refine Agg.wpQuiet_load rfl 38 _ rfl (.pointer (some ⟨w.heap.size, 0, none⟩)) rfl (.agg (hC h)) (Agg.later_all hl0) ?_)
        | (with_reducible refine Agg.wpQuiet_load rfl 38 _ rfl (.pointer (some ⟨g1, 0, none⟩)) rfl _ (Agg.later_all hl1) ?_)
        | (with_reducible refine Agg.wpQuiet_load rfl 38 _ rfl (.pointer (some ⟨g2, 0, none⟩)) rfl _ (Agg.later_all hl2) ?_)
        | (with_reducible refine Agg.wpQuiet_load rfl 40 _ rfl (.pointer (some ⟨g5, 0, none⟩)) rfl _ (Agg.later_all hl5) ?_)
        | (with_reducible refine Agg.wpQuiet_load rfl 40 _ rfl (.pointer (some ⟨g6, 0, none⟩)) rfl _ (Agg.later_all hl6) ?_)
        | (with_reducible refine Agg.wpQuiet_eql rfl 38 38 _ _ rfl _ _ rfl rfl true (by kernel_rfl) hq1 ?_)
        | (with_reducible refine Agg.wpQuiet_eql rfl 40 40 _ _ rfl _ _ rfl rfl true (by kernel_rfl) hq5 ?_)); simp only [Act.put, List.setIfInBounds_toArray, List.set_cons_succ, List.set_cons_zero])
      | go_big_quiet_step ((first
        | (go_at_call 29; exact Agg.Calls.later (letters_any h HL.out _))
        | (go_at_call 30; exact Agg.Calls.later (refLetters_any h HL.out _))
        | (go_at_call 31; exact Agg.Calls.later (name_any _ _))
        | (go_at_call 32; exact Agg.Calls.later_same (refName_any _ (by assumption) _))
        | (go_at_call 22; exact Agg.Calls.later (awake_any _)))))
    refine wpQuiet_nil ?_
    intro _ hw'
    obtain ⟨x, rfl⟩ := hw'
    go_wp2_with fail
    go_ret
    exact ⟨rfl, Agg.belowThen hw (Nat.le_refl _) x.h⟩
  · have hd : decide (2000 < (s.length : Int) + (n.length : Int)) = true := by simp; omega
    go_enter Try.func5, Try.ntmps5
    go_wp2_with fail
    refine (awake_any _).mono ?_
    rintro e w1 ⟨rfl, hw1⟩
    go_wp2_with fail
    go_ret
    exact ⟨rfl, ((Below.refl _ _).alloc (Nat.le_refl _) _).trans (hw1.mono (by simp))⟩
end Go.Proofs.Ytfgjepfmcmppaaa
