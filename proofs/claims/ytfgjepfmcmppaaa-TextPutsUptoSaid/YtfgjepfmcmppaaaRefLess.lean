/- spenceref03.Less -/
import Derived.Test.YtfgjepfmcmppaaaOrder
import Derived.Test.YtfgjepfmcmppaaaSign
namespace Go.Proofs.Ytfgjepfmcmppaaa
open Go.RowKit Pl Go.Agg
open Go.Lib (compareBytes)
theorem compare_diff : ∀ (k : Nat) (a b : List UInt8) (x y : UInt8), a[k]? = some x → b[k]? = some y → a.take k = b.take k → x ≠ y → decide (compareBytes a b < 0) = decide (x < y)
  | 0, x :: a, y :: b, _, _, hx, hy, _, hne => by
    simp only [List.getElem?_cons_zero, Option.some.injEq] at hx hy
    subst hx hy
    unfold compareBytes
    by_cases h1 : x < y
    · simp [h1]
    · have h2 : y < x := UInt8.lt_of_le_of_ne (UInt8.not_lt.1 h1) (Ne.symm hne)
      simp [h1, h2]
  | k + 1, x :: a, y :: b, _, _, hx, hy, ht, hne => by
    simp only [List.getElem?_cons_succ] at hx hy
    simp only [List.take_succ_cons, List.cons.injEq] at ht
    obtain ⟨rfl, ht⟩ := ht
    have := compare_diff k a b _ _ hx hy ht hne
    unfold compareBytes
    simpa [UInt8.lt_irrefl] using this
  | 0, [], _, _, _, hx, _, _, _ => by simp at hx
  | 0, _ :: _, [], _, _, _, hy, _, _ => by simp at hy
  | _ + 1, [], _, _, _, hx, _, _, _ => by simp at hx
  | _ + 1, _ :: _, [], _, _, _, hy, _, _ => by simp at hy
theorem compare_less (a b : List UInt8) : decide (compareBytes a b < 0) = Op.bytesLess a b := by
  rw [compare_cases]
  cases Op.bytesLess a b <;> cases Op.bytesLess b a <;> simp
set_option maxRecDepth 100000 in
set_option maxHeartbeats 1000000 in
theorem refLess_any (h n h' n' : List UInt8) (hl : h.length = 20) (hl' : h'.length = 20) (w : World) :
    Calls Try.prog 37 #[.agg (pC h n), .agg (pC h' n')] w fun e w' => e = .returned (.bool (decide (cmpP h n h' n' < 0))) ∧ Below w.heap.size w w' := by
  have hb1 := heap_alloc_new (w.alloc (.cells (pC h n) 40)) (.cells (pC h' n') 40)
  have hb0 : ((w.alloc (.cells (pC h n) 40)).alloc (.cells (pC h' n') 40)).heap[w.heap.size]? = _ := (heap_alloc_old _ _ (by simp)).trans (heap_alloc_new w (.cells (pC h n) 40))
  have hw : Below w.heap.size w ((w.alloc (.cells (pC h n) 40)).alloc (.cells (pC h' n') 40)) := ((Below.refl _ _).alloc (Nat.le_refl _) _).alloc (by simp) _
  rw [show (w.alloc (.cells (pC h n) 40)).heap.size = w.heap.size + 1 by simp] at hb1
  have HL := Lib.hid hl
  have HL' := Lib.hid hl'
  clear hl hl'
  go_enter Try.func37, Try.ntmps37
  go_wp2_with fail
  generalize (w.alloc (.cells (pC h n) 40)).alloc (.cells (pC h' n') 40) = w0 at *
  go_loopw [5] (fun i wr => ∃ k : Nat, k ≤ 20 ∧ i = .int .i64 k ∧ h.take k = h'.take k ∧ wr.heap[w.heap.size]? = some (.cells (pC h n) 40 (0, 0)) ∧ wr.heap[w.heap.size + 1]? = some (.cells (pC h' n') 40 (0, 0)) ∧ Below w.heap.size w wr) (fun i _ => 20 - (intOf i).toNat)
  case atStart => exact ⟨0, by omega, rfl, rfl, hb0, hb1, hw⟩
  case round =>
    obtain ⟨k, hk, rfl, hkk, hb0, hb1, hw⟩ := hrel
    have HK := Lib.hid hkk
    clear hkk
    by_cases hlt : k < 20
    · have hd : decide ((k : Int) < 20) = true := by simp; omega
      have hx : h[k]? = some (h[k]'(by rw [HL.out]; exact hlt)) := List.getElem?_eq_getElem _
      have hy : h'[k]? = some (h'[k]'(by rw [HL'.out]; exact hlt)) := List.getElem?_eq_getElem _
      generalize h[k]'(by rw [HL.out]; exact hlt) = x at hx
      generalize h'[k]'(by rw [HL'.out]; exact hlt) = y at hy
      have c0 : wr.cell? ⟨w.heap.size, k, none⟩ = some (.int .u8 (x.toNat : Int)) := by rw [cell_of_row _ _ _ _ _ _ hb0, pC_byte h n k x hx]
      have c1 : wr.cell? ⟨w.heap.size + 1, k, none⟩ = some (.int .u8 (y.toNat : Int)) := by rw [cell_of_row _ _ _ _ _ _ hb1, pC_byte h' n' k y hy]
      have HX := Lib.hid hx
      have HY := Lib.hid hy
      clear hx hy
      by_cases hxy : x = y
      · have hne : ((x.toNat : Int) != (y.toNat : Int)) = false := by simp [hxy]
        go_wp2_with fail
        go_region
        go_wp2_with fail
        go_roundw
        case rel => exact ⟨k + 1, by omega, by go_num, by rw [List.take_add_one, List.take_add_one, HK.out, HX.out, HY.out, hxy], hb0, hb1, hw.drew⟩
        case measure => simp [intOf]; omega
      · have hne : ((x.toNat : Int) != (y.toNat : Int)) = true := by
          simp only [bne_iff_ne, ne_eq]
          intro e
          exact hxy (UInt8.toNat_inj.1 (by omega))
        go_wp2_with fail
        go_region
        have hres : decide (cmpP h n h' n' < 0) = decide (x.toNat < y.toNat) := by
          have hhh : (h == h') = false := by
            simp only [beq_eq_false_iff_ne, ne_eq]
            rintro rfl
            exact hxy (Option.some.inj (HX.out.symm.trans HY.out))
          rw [cmpP, hhh, if_neg (by simp), compare_diff k h h' x y HX.out HY.out HK.out hxy]
          rw [decide_eq_decide, UInt8.lt_iff_toNat_lt]
        have HR := Lib.hid hres
        clear hres
        go_wp2_with fail
        go_region
        go_wp2_with fail
        go_ret
        exact ⟨ret_bool HR.out.symm, hw.drew.drew⟩
    · obtain rfl : k = 20 := by omega
      have hhh : h = h' := by
        have := HK.out
        rwa [List.take_of_length_le (by rw [HL.out]; omega), List.take_of_length_le (by rw [HL'.out]; omega)] at this
      have c0 : wr.cell? ⟨w.heap.size, 20, none⟩ = some (.string ⟨n.toArray⟩) := by rw [cell_of_row _ _ _ _ _ _ hb0, pC_name h n HL.out]
      have c1 : wr.cell? ⟨w.heap.size + 1, 20, none⟩ = some (.string ⟨n'.toArray⟩) := by rw [cell_of_row _ _ _ _ _ _ hb1, pC_name h' n' HL'.out]
      have hres : decide (cmpP h n h' n' < 0) = Op.bytesLess n n' := by rw [← compare_less, cmpP, hhh]; simp
      have HR := Lib.hid hres
      clear hres hhh
      have hta := Agg.bytes_toList n
      have htb := Agg.bytes_toList n'
      go_wp2_with fail
      go_ret
      exact ⟨ret_bool HR.out.symm, hw⟩
end Go.Proofs.Ytfgjepfmcmppaaa
