/- Path: a path's text (base and spenceref03). -/
import Derived.Test.YtpnolgliklmnmaaName
import Derived.Test.YtpnolgliklmnmaaHash
namespace Go.Proofs.Ytpnolgliklmnmaa
open Go.RowKit Pl Go.Mp Go.Agg
/-- a path's cells -/
def pC (h n : List UInt8) : Array Value := hC h ++ #[.string ⟨n.toArray⟩]
theorem pC_size (h n : List UInt8) : (pC h n).size = h.length + 1 := by simp [pC, hC_size]
theorem pC_name (h n : List UInt8) (hl : h.length = 20) : (pC h n)[20]? = some (.string ⟨n.toArray⟩) := by
  rw [pC, Array.getElem?_append, if_neg (by rw [hC_size]; omega), hC_size, hl]; rfl
theorem pC_hash (h n : List UInt8) (j : Nat) (v : Value) (hv : (hC h)[j]? = some v) : (pC h n)[0 + j]? = some v := by
  have hlt : j < (hC h).size := (Array.getElem?_eq_some_iff.1 hv).1
  rw [Nat.zero_add, pC, Array.getElem?_append, if_pos hlt]; exact hv
theorem isName_le {n : List UInt8} (h : isName n = true) : n.length ≤ 24 := by
  simp only [isName, Bool.and_eq_true, decide_eq_true_eq] at h
  exact h.1.2
/-- a path's text, or none; the error -/
def pathS (h n : List UInt8) : List UInt8 := if isName n then letters h ++ 45 :: n else []
def pathE (n : List UInt8) : Int := if isName n then 0 else 2
theorem ret_pair {a b : ByteArray} {k : IntKind} {x y : Int} (h : a = b) (h2 : x = y) : Ending.returned (.tuple #[.string a, .int k x]) = .returned (.tuple #[.string b, .int k y]) := by rw [h, h2]
theorem text_eq (h n : List UInt8) (hn : isName n = true) : ({ data := (letters h).toArray } : ByteArray) ++ { data := #[45] } ++ { data := n.toArray } = ⟨(pathS h n).toArray⟩ := by
  have : ({ data := #[45] } : ByteArray) = ⟨[45].toArray⟩ := rfl
  rw [this, Agg.bytes_append, Agg.bytes_append, pathS, if_pos hn]
  simp
set_option maxRecDepth 100000 in
set_option maxHeartbeats 1000000 in
theorem path_any (h n : List UInt8) (hl : h.length = 20) (w : World) :
    Calls Try.prog 92 #[.agg (pC h n)] w fun e w' => e = .returned (.tuple #[.string ⟨(pathS h n).toArray⟩, .int .i64 (pathE n)]) ∧ Below w.heap.size w w' := by
  have hb := heap_alloc_new w (.cells (pC h n) 44)
  have hcell : (w.alloc (.cells (pC h n) 44)).cell? ⟨w.heap.size, 20, none⟩ = some (.string ⟨n.toArray⟩) := by rw [cell_of_row _ _ _ _ _ _ hb, pC_name h n hl]
  have HL := Lib.hid hl
  clear hl
  have HB := Lib.hid hb
  clear hb
  cases hn : isName n with
  | false =>
    go_enter Try.func92, Try.ntmps92
    go_wp2_with (go_at_call 51; refine (name_any _ _).mono ?_; rintro e w1 ⟨rfl, hw1⟩; rw [hn])
    go_ret2
    exact ⟨by simp [pathS, pathE, hn], ((Below.refl _ _).alloc (Nat.le_refl _) _).trans (hw1.mono (by simp))⟩
  | true =>
    go_enter Try.func92, Try.ntmps92
    go_wp2_with (go_at_call 51; refine (name_any _ _).mono ?_; rintro e w1 ⟨rfl, hw1⟩; rw [hn])
    have hb1 := Agg.keep' hw1 HB.out
    have hc1 : ∀ x : Later w1, x.w.cell? ⟨w.heap.size, 20, none⟩ = some (.string ⟨n.toArray⟩) := fun x => by rw [cell_of_row _ _ _ _ _ _ (x.heap hb1), pC_name h n HL.out]
    have hl1 : ∀ x : Later w1, (Instr.loadAt 42 (.pointer (some ⟨w.heap.size, 0, none⟩))).run Try.prog x.w = .ok (.agg (hC h)) x.w := fun x => Agg.run_loadAt_sub (x.heap hb1) (pC_hash h n) Try.underlying42 rfl (hC_info h HL.out)
    have hln : n.length ≤ 24 := isName_le hn
    have hll : (letters h).length ≤ 32 := by rw [letters_length]; omega
    refine Agg.wp_region_later_lit (by kernel_rfl) (by kernel_rfl) ?_
    repeat (first | (with_reducible refine Agg.wpQuiet_load rfl 42 _ rfl (.pointer (some ⟨w.heap.size, 0, none⟩)) rfl (.agg (hC h)) (Agg.later_all hl1) ?_; simp only [Act.put, List.setIfInBounds_toArray, List.set_cons_succ, List.set_cons_zero]) | go_big_quiet_step ((go_at_call 101; exact Agg.Calls.later (letters_any h HL.out _))))
    refine wpQuiet_nil ?_
    intro _ hw'
    obtain ⟨x, rfl⟩ := hw'
    go_wp2_with fail
    go_ret2
    exact ⟨ret_pair (text_eq h n hn) (by simp [pathE, hn]), ((Below.refl _ _).alloc (Nat.le_refl _) _).trans ((hw1.mono (by simp)).trans (x.h.mono (by have := hw1.size; simp at this; omega)))⟩
end Go.Proofs.Ytpnolgliklmnmaa
