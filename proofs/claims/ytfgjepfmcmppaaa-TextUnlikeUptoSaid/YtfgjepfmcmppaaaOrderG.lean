/- base.order, as the sort asks it: the world behind it to the last block. -/
import Derived.Test.YtfgjepfmcmppaaaOrder
import Derived.Sort.Grow
import Derived.Deep.QuietTactic
namespace Go.Proofs.Ytfgjepfmcmppaaa
open Go.RowKit Pl Go.Agg
open Go.Lib (compareBytes)
set_option maxRecDepth 100000 in
set_option maxHeartbeats 1000000 in
theorem order_grown (h n h' n' : List UInt8) (hl : h.length = 20) (hl' : h'.length = 20) (w : World) :
    Calls Try.prog 62 #[.agg (pC h n), .agg (pC h' n')] w fun e w' => e = .returned (.int .i64 (cmpP h n h' n')) ∧ ∃ q os, w' = Sort.grow (w.drewN q) os := by
  have hb1 := heap_alloc_new (w.alloc (.cells (pC h n) 40)) (.cells (pC h' n') 40)
  have hb0 : ((w.alloc (.cells (pC h n) 40)).alloc (.cells (pC h' n') 40)).heap[w.heap.size]? = _ := (heap_alloc_old _ _ (by simp)).trans (heap_alloc_new w (.cells (pC h n) 40))
  have hw : ∃ os, (w.alloc (.cells (pC h n) 40)).alloc (.cells (pC h' n') 40) = Sort.grow w os := ⟨_, by rw [Sort.alloc_eq_grow, Sort.alloc_eq_grow, Sort.grow_grow]⟩
  obtain ⟨os, hos⟩ := hw
  have HOS := Lib.hid hos
  clear hos
  rw [show (w.alloc (.cells (pC h n) 40)).heap.size = w.heap.size + 1 by simp] at hb1
  have HL := Lib.hid hl
  have HL' := Lib.hid hl'
  clear hl hl'
  have hq0 : (Instr.loadAt 38 (.pointer (some ⟨w.heap.size, 0, none⟩))).run Try.prog ((w.alloc (.cells (pC h n) 40)).alloc (.cells (pC h' n') 40)) = _ := Agg.run_loadAt_sub hb0 (pC_hash h n) Try.underlying38 rfl (hC_info _ HL.out)
  have hq1 : (Instr.loadAt 38 (.pointer (some ⟨w.heap.size + 1, 0, none⟩))).run Try.prog ((w.alloc (.cells (pC h n) 40)).alloc (.cells (pC h' n') 40)) = _ := Agg.run_loadAt_sub hb1 (pC_hash h' n') Try.underlying38 rfl (hC_info _ HL'.out)
  have hqq : ∀ w, (binOp .eql 38 (.agg (hC h)) (.agg (hC h'))).run Try.prog w = .ok (.bool (h == h')) w := fun w => eql_hash _ _ HL.out HL'.out w
  cases hh : (h == h') with
  | true =>
    have hcm : cmpP h n h' n' = compareBytes n n' := by simp [cmpP, hh]
    have c0 : ((w.alloc (.cells (pC h n) 40)).alloc (.cells (pC h' n') 40)).cell? ⟨w.heap.size, 20, none⟩ = some (.string ⟨n.toArray⟩) := by rw [cell_of_row _ _ _ _ _ _ hb0, pC_name h n HL.out]
    have c1 : ((w.alloc (.cells (pC h n) 40)).alloc (.cells (pC h' n') 40)).cell? ⟨w.heap.size + 1, 20, none⟩ = some (.string ⟨n'.toArray⟩) := by rw [cell_of_row _ _ _ _ _ _ hb1, pC_name h' n' HL'.out]
    rw [hh] at hqq
    have HH := Lib.hid hh
    clear hh
    rw [hcm]
    clear hcm
    go_enter Try.func62, Try.ntmps62
    go_wp2_with (first | (with_reducible refine Agg.wpList_loadw 38 _ rfl rfl (.pointer (some ⟨w.heap.size, 0, none⟩)) rfl (.agg (hC h)) hq0 ?_) | (with_reducible refine Agg.wpList_loadw 38 _ rfl rfl (.pointer (some ⟨w.heap.size + 1, 0, none⟩)) rfl (.agg (hC h')) hq1 ?_) | (with_reducible refine Agg.wpList_eqlw 38 38 _ _ rfl rfl (hC h) (hC h') rfl rfl true (by kernel_rfl) hqq ?_))
    refine (cmpString_any _ _ _).mono ?_
    rintro e w1 ⟨rfl, rfl⟩
    go_wp2_with fail
    go_ret
    exact ⟨rfl, 0, os, HOS.out⟩
  | false =>
    have hcm : cmpP h n h' n' = compareBytes h h' := by simp [cmpP, hh]
    rw [hh] at hqq
    have HH := Lib.hid hh
    clear hh
    rw [hcm]
    clear hcm
    go_enter Try.func62, Try.ntmps62
    go_wp2_with (first | (with_reducible refine Agg.wpList_loadw 38 _ rfl rfl (.pointer (some ⟨w.heap.size, 0, none⟩)) rfl (.agg (hC h)) hq0 ?_) | (with_reducible refine Agg.wpList_loadw 38 _ rfl rfl (.pointer (some ⟨w.heap.size + 1, 0, none⟩)) rfl (.agg (hC h')) hq1 ?_) | (with_reducible refine Agg.wpList_eqlw 38 38 _ _ rfl rfl (hC h) (hC h') rfl rfl false (by kernel_rfl) hqq ?_))
    clear hq0 hq1 hqq
    generalize (w.alloc (.cells (pC h n) 40)).alloc (.cells (pC h' n') 40) = w0 at *
    have hcc : ∀ q, Calls Try.prog 97 #[.slice (some ⟨w.heap.size, 0, none⟩) 20 20, .slice (some ⟨w.heap.size + 1, 0, none⟩) 20 20] (w0.drewN q) fun e w' => e = .returned (.int .i64 (compareBytes h h')) ∧ w0.drewN q = w' := fun q => by
      have := bytesCompare_any (w0.drewN q) h h' w.heap.size 0 (w.heap.size + 1) 0 20 20 (fun j y hj => by rw [Nat.zero_add, World.cell?_drewN, cell_of_row _ _ _ _ _ _ hb0, pC_byte h n j y hj]) (fun j y hj => by rw [Nat.zero_add, World.cell?_drewN, cell_of_row _ _ _ _ _ _ hb1, pC_byte h' n' j y hj])
      rwa [HL.out, HL'.out] at this
    have hs := slice_hash
    simp only [Act.put, List.setIfInBounds_toArray, List.set_cons_succ, List.set_cons_zero]
    go_quiet ((go_at_call 97; refine (hcc _).mono ?_; rintro e w' ⟨rfl, rfl⟩; exact ⟨rfl, _, rfl⟩))
    go_wp2_with fail
    go_ret
    exact ⟨rfl, nq, os, by rw [HOS.out]; rfl⟩
end Go.Proofs.Ytfgjepfmcmppaaa
