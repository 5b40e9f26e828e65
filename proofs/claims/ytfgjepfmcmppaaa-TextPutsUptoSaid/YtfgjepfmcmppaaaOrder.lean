/- base.order, base.Less, spenceref03.Less: how two paths stand. -/
import Derived.Test.YtfgjepfmcmppaaaEqual
import Derived.Lib.Bytealg
import Derived.Lib.BytesEntry
import Derived.Test.YtfgjepfmcmppaaaAgg3
namespace Go.Proofs.Ytfgjepfmcmppaaa
open Go.RowKit Pl Go.Agg
open Go.Lib (compareBytes)
/-- how two paths stand -/
def cmpP (h n h' n' : List UInt8) : Int := if h == h' then compareBytes n n' else compareBytes h h'
theorem run_compareBytes (w : World) (a b : List UInt8) (g off g' off' c c' : Nat) (ha : ∀ j x, a[j]? = some x → w.cell? ⟨g, off + j, none⟩ = some (.int .u8 (x.toNat : Int))) (hb : ∀ j x, b[j]? = some x → w.cell? ⟨g', off' + j, none⟩ = some (.int .u8 (x.toNat : Int))) :
    (Extern.BytealgCompare.compare #[.slice (some ⟨g, off, none⟩) a.length c, .slice (some ⟨g', off', none⟩) b.length c']).run Try.prog w = .ok (.int .i64 (compareBytes a b)) w := by
  change Sem.run Try.prog (do pure (goInt (Extern.BytealgCompare.cmp (← Extern.Bytes.bytesOf (.slice (some ⟨g, off, none⟩) a.length c)) (← Extern.Bytes.bytesOf (.slice (some ⟨g', off', none⟩) b.length c'))))) w = _
  have key : ∀ (l : List UInt8) (g off : Nat), (∀ j x, l[j]? = some x → w.cell? ⟨g, off + j, none⟩ = some (.int .u8 (x.toNat : Int))) → (Extern.Bytes.loadBytes ⟨g, off, none⟩ l.length .empty).run Try.prog w = .ok ⟨l.toArray⟩ w := fun l g off h => by
    have := Lib.run_loadBytesX (P := Try.prog) (w := w) (l.map fun c => (c.toNat : Int)) ⟨g, off, none⟩ .empty (fun j x hj => by
      rw [List.getElem?_map] at hj
      cases hl : l[j]? with
      | none => rw [hl] at hj; simp at hj
      | some c =>
        rw [hl] at hj
        obtain rfl := Option.some.inj hj
        have := h j c hl
        rw [Addr.add]
        split
        · rename_i h0; simpa [h0] using this
        · exact this)
    simp only [List.length_map] at this
    rw [this]
    have : Lib.bytesOf (l.map fun c => (c.toNat : Int)) = l := by
      simp [Lib.bytesOf, Function.comp_def]
    rw [this]; simp
  have h1 := key a g off ha
  have h2 := key b g' off' hb
  simp only [Extern.Bytes.bytesOf, Sem.run_bind, Sem.run_pure, Result.andThen, h1, h2]
  rw [Lib.cmp_eq]
  simp [goInt]
set_option maxRecDepth 100000 in
theorem bytesCompare_any (w : World) (a b : List UInt8) (g off g' off' c c' : Nat) (ha : ∀ j x, a[j]? = some x → w.cell? ⟨g, off + j, none⟩ = some (.int .u8 (x.toNat : Int))) (hb : ∀ j x, b[j]? = some x → w.cell? ⟨g', off' + j, none⟩ = some (.int .u8 (x.toNat : Int))) :
    Calls Try.prog 97 #[.slice (some ⟨g, off, none⟩) a.length c, .slice (some ⟨g', off', none⟩) b.length c'] w fun e w' => e = .returned (.int .i64 (compareBytes a b)) ∧ w = w' := by
  have hr := run_compareBytes w a b g off g' off' c c' ha hb
  go_enter Try.func97, Try.ntmps97
  go_wp2
  rw [run_callFunc_extern Try.func140 (by kernel_rfl) (by kernel_rfl) (by kernel_rfl) (e := Extern.BytealgCompare.compare) (by kernel_rfl), hr]
  simp only [Result.andThen]
  rw [Oper.upon_value]
  go_wp2
  go_ret
  exact ⟨rfl, rfl⟩
theorem isNaN_any (s : ByteArray) (w : World) : Calls Try.prog 139 #[.string s] w fun e w' => e = .returned (.bool false) ∧ w = w' := by
  go_enter Try.func139, Try.ntmps139
  go_wp2
  all_goals go_ret
  all_goals simp
theorem compare_cases : ∀ (a b : List UInt8), compareBytes a b = if Op.bytesLess a b then -1 else if Op.bytesLess b a then 1 else 0
  | [], [] => rfl
  | [], _ :: _ => by simp [compareBytes, Op.bytesLess]
  | _ :: _, [] => by simp [compareBytes, Op.bytesLess]
  | x :: a, y :: b => by
    have ih := compare_cases a b
    unfold compareBytes Op.bytesLess
    by_cases h1 : x < y
    · simp [h1]
    · by_cases h2 : y < x
      · have : ¬ x = y := fun e => by subst e; exact h1 h2
        simp [h1, h2, this]
      · have : x = y := UInt8.le_antisymm (UInt8.not_lt.1 h2) (UInt8.not_lt.1 h1)
        subst this
        simp [h1, ih]
theorem bytesLess_asymm : ∀ (a b : List UInt8), Op.bytesLess a b = true → Op.bytesLess b a = false
  | [], [], h => by simp [Op.bytesLess] at h
  | [], _ :: _, _ => by simp [Op.bytesLess]
  | _ :: _, [], h => by simp [Op.bytesLess] at h
  | x :: a, y :: b, h => by
    simp only [Op.bytesLess, Bool.or_eq_true, Bool.and_eq_true, decide_eq_true_eq, beq_iff_eq] at h
    simp only [Op.bytesLess, Bool.or_eq_false_iff, decide_eq_false_iff_not, Bool.and_eq_false_iff, beq_eq_false_iff_ne]
    rcases h with h | ⟨rfl, h⟩
    · exact ⟨fun h' => absurd (UInt8.lt_trans h h') (UInt8.lt_irrefl _), .inl (fun e => by subst e; exact UInt8.lt_irrefl _ h)⟩
    · exact ⟨UInt8.lt_irrefl _, .inr (bytesLess_asymm a b h)⟩
theorem bytesLess_irrefl (a : List UInt8) : Op.bytesLess a a = false := by
  cases h : Op.bytesLess a a with
  | false => rfl
  | true => exact absurd (bytesLess_asymm a a h) (by rw [h]; simp)
theorem bytesLess_total : ∀ (a b : List UInt8), a ≠ b → Op.bytesLess a b = false → Op.bytesLess b a = true
  | [], [], h, _ => absurd rfl h
  | [], _ :: _, _, h => by simp [Op.bytesLess] at h
  | _ :: _, [], _, _ => by simp [Op.bytesLess]
  | x :: a, y :: b, hne, h => by
    simp only [Op.bytesLess, Bool.or_eq_false_iff, decide_eq_false_iff_not, Bool.and_eq_false_iff, beq_eq_false_iff_ne] at h
    simp only [Op.bytesLess, Bool.or_eq_true, Bool.and_eq_true, decide_eq_true_eq, beq_iff_eq]
    by_cases e : x = y
    · subst e
      refine .inr ⟨rfl, bytesLess_total a b (fun e => hne (by rw [e])) ?_⟩
      exact h.2.resolve_left (fun h' => h' rfl)
    · exact .inl (UInt8.lt_of_le_of_ne (UInt8.not_lt.1 h.1) (Ne.symm e))
theorem cmpString_any (a b : List UInt8) (w : World) : Calls Try.prog 96 #[.string ⟨a.toArray⟩, .string ⟨b.toArray⟩] w fun e w' => e = .returned (.int .i64 (compareBytes a b)) ∧ w = w' := by
  have hta := Agg.bytes_toList a
  have htb := Agg.bytes_toList b
  rw [compare_cases]
  by_cases hab : a = b
  · subst hab
    have h1 := bytesLess_irrefl a
    rw [h1]
    go_enter Try.func96, Try.ntmps96
    go_wp2_with (go_at_call 139; refine (isNaN_any _ _).mono ?_; rintro e w' ⟨rfl, rfl⟩)
    go_ret
    exact ⟨rfl, rfl⟩
  · have hb : (a == b) = false := by simpa using hab
    cases h1 : Op.bytesLess a b with
    | true =>
      have h2 := bytesLess_asymm _ _ h1
      go_enter Try.func96, Try.ntmps96
      go_wp2_with (go_at_call 139; refine (isNaN_any _ _).mono ?_; rintro e w' ⟨rfl, rfl⟩)
      go_ret
      exact ⟨rfl, rfl⟩
    | false =>
      have h2 := bytesLess_total _ _ hab h1
      rw [h2]
      go_enter Try.func96, Try.ntmps96
      go_wp2_with (go_at_call 139; refine (isNaN_any _ _).mono ?_; rintro e w' ⟨rfl, rfl⟩)
      go_ret
      exact ⟨rfl, rfl⟩
theorem pC_byte (h n : List UInt8) (j : Nat) (x : UInt8) (hj : h[j]? = some x) : (pC h n)[j]? = some (.int .u8 (x.toNat : Int)) := by
  have hlt := (List.getElem?_eq_some_iff.1 hj).1
  have := pC_hash h n j (.int .u8 (x.toNat : Int)) (by rw [hC_get h j hlt]; rw [List.getElem?_eq_getElem hlt] at hj; rw [Option.some.inj hj])
  simpa using this
theorem slice_hash (g : Nat) (w : World) : (Instr.sliceAt 38 (.pointer (some ⟨g, 0, none⟩)) none none none).run Try.prog w = .ok (.slice (some ⟨g, 0, none⟩) 20 20) w := by kernel_rfl
set_option maxRecDepth 100000 in
set_option maxHeartbeats 1000000 in
theorem order_any (h n h' n' : List UInt8) (hl : h.length = 20) (hl' : h'.length = 20) (w : World) :
    Calls Try.prog 62 #[.agg (pC h n), .agg (pC h' n')] w fun e w' => e = .returned (.int .i64 (cmpP h n h' n')) ∧ Below w.heap.size w w' := by
  have hb1 := heap_alloc_new (w.alloc (.cells (pC h n) 40)) (.cells (pC h' n') 40)
  have hb0 : ((w.alloc (.cells (pC h n) 40)).alloc (.cells (pC h' n') 40)).heap[w.heap.size]? = _ := (heap_alloc_old _ _ (by simp)).trans (heap_alloc_new w (.cells (pC h n) 40))
  have hw : Below w.heap.size w ((w.alloc (.cells (pC h n) 40)).alloc (.cells (pC h' n') 40)) := ((Below.refl _ _).alloc (Nat.le_refl _) _).alloc (by simp) _
  rw [show (w.alloc (.cells (pC h n) 40)).heap.size = w.heap.size + 1 by simp] at hb1
  have HL := Lib.hid hl
  have HL' := Lib.hid hl'
  clear hl hl'
  have hq0 : (Instr.loadAt 38 (.pointer (some ⟨w.heap.size, 0, none⟩))).run Try.prog ((w.alloc (.cells (pC h n) 40)).alloc (.cells (pC h' n') 40)) = _ := Agg.run_loadAt_sub hb0 (pC_hash h n) Try.underlying38 rfl (hC_info _ HL.out)
  have hq1 : (Instr.loadAt 38 (.pointer (some ⟨w.heap.size + 1, 0, none⟩))).run Try.prog ((w.alloc (.cells (pC h n) 40)).alloc (.cells (pC h' n') 40)) = _ := Agg.run_loadAt_sub hb1 (pC_hash h' n') Try.underlying38 rfl (hC_info _ HL'.out)
  have hqq : ∀ w, (binOp .eql 38 (.agg (hC h)) (.agg (hC h'))).run Try.prog w = .ok (.bool (h == h')) w := fun w => eql_hash _ _ HL.out HL'.out w
  cases hh : (h == h') with
  | true =>
    have hcm : cmpP h n h' n' = compareBytes n n' := by simp [cmpP, hh]
    have c0 : ((w.alloc (.cells (pC h n) 40)).alloc (.cells (pC h' n') 40)).cell? ⟨w.heap.size, 20, none⟩ = some (.string ⟨n.toArray⟩) := by rw [cell_of_row _ _ _ _ _ _ hb0, pC_name h n HL.out]
    have c1 : ((w.alloc (.cells (pC h n) 40)).alloc (.cells (pC h' n') 40)).cell? ⟨w.heap.size + 1, 20, none⟩ = some (.string ⟨n'.toArray⟩) := by rw [cell_of_row _ _ _ _ _ _ hb1, pC_name h' n' HL'.out]
    rw [hh] at hqq
    have HH := Lib.hid hh
    clear hh
    rw [hcm]
    clear hcm
    go_enter Try.func62, Try.ntmps62
    go_wp2_with (first | (with_reducible refine Agg.wpList_loadw 38 _ rfl rfl (.pointer (some ⟨w.heap.size, 0, none⟩)) rfl (.agg (hC h)) hq0 ?_) | (with_reducible refine Agg.wpList_loadw 38 _ rfl rfl (.pointer (some ⟨w.heap.size + 1, 0, none⟩)) rfl (.agg (hC h')) hq1 ?_) | (with_reducible refine Agg.wpList_eqlw 38 38 _ _ rfl rfl (hC h) (hC h') rfl rfl true (by kernel_rfl) hqq ?_))
    refine (cmpString_any _ _ _).mono ?_
    rintro e w1 ⟨rfl, rfl⟩
    go_wp2_with fail
    go_ret
    exact ⟨rfl, hw⟩
  | false =>
    have hcm : cmpP h n h' n' = compareBytes h h' := by simp [cmpP, hh]
    rw [hh] at hqq
    have HH := Lib.hid hh
    clear hh
    rw [hcm]
    clear hcm
    go_enter Try.func62, Try.ntmps62
    go_wp2_with (first | (with_reducible refine Agg.wpList_loadw 38 _ rfl rfl (.pointer (some ⟨w.heap.size, 0, none⟩)) rfl (.agg (hC h)) hq0 ?_) | (with_reducible refine Agg.wpList_loadw 38 _ rfl rfl (.pointer (some ⟨w.heap.size + 1, 0, none⟩)) rfl (.agg (hC h')) hq1 ?_) | (with_reducible refine Agg.wpList_eqlw 38 38 _ _ rfl rfl (hC h) (hC h') rfl rfl false (by kernel_rfl) hqq ?_))
    clear hq0 hq1 hqq
    generalize (w.alloc (.cells (pC h n) 40)).alloc (.cells (pC h' n') 40) = w0 at *
    have hcc : ∀ x : Later w0, Calls Try.prog 97 #[.slice (some ⟨w.heap.size, 0, none⟩) 20 20, .slice (some ⟨w.heap.size + 1, 0, none⟩) 20 20] x.w fun e w' => e = .returned (.int .i64 (compareBytes h h')) ∧ x.w = w' := fun x => by
      have := bytesCompare_any x.w h h' w.heap.size 0 (w.heap.size + 1) 0 20 20 (fun j y hj => by rw [Nat.zero_add, cell_of_row _ _ _ _ _ _ (x.heap hb0), pC_byte h n j y hj]) (fun j y hj => by rw [Nat.zero_add, cell_of_row _ _ _ _ _ _ (x.heap hb1), pC_byte h' n' j y hj])
      rwa [HL.out, HL'.out] at this
    have hs := slice_hash
    simp only [Act.put, List.setIfInBounds_toArray, List.set_cons_succ, List.set_cons_zero]
    refine Agg.wp_region_later_lit (by kernel_rfl) (by kernel_rfl) ?_
    repeat go_big_quiet_step ((go_at_call 97; exact Agg.Calls.later_same (hcc _)))
    refine wpQuiet_nil ?_
    intro _ hw'
    obtain ⟨x, rfl⟩ := hw'
    go_wp2_with fail
    go_ret
    exact ⟨rfl, Agg.belowThen hw (Nat.le_refl _) x.h⟩
theorem less_any (h n h' n' : List UInt8) (hl : h.length = 20) (hl' : h'.length = 20) (w : World) :
    Calls Try.prog 36 #[.agg (pC h n), .agg (pC h' n')] w fun e w' => e = .returned (.bool (decide (cmpP h n h' n' < 0))) ∧ Below w.heap.size w w' := by
  have hb1 := heap_alloc_new (w.alloc (.cells (pC h n) 40)) (.cells (pC h' n') 40)
  have hb0 : ((w.alloc (.cells (pC h n) 40)).alloc (.cells (pC h' n') 40)).heap[w.heap.size]? = _ := (heap_alloc_old _ _ (by simp)).trans (heap_alloc_new w (.cells (pC h n) 40))
  have hw : Below w.heap.size w ((w.alloc (.cells (pC h n) 40)).alloc (.cells (pC h' n') 40)) := ((Below.refl _ _).alloc (Nat.le_refl _) _).alloc (by simp) _
  rw [show (w.alloc (.cells (pC h n) 40)).heap.size = w.heap.size + 1 by simp] at hb1
  have HL := Lib.hid hl
  have HL' := Lib.hid hl'
  clear hl hl'
  go_enter Try.func36, Try.ntmps36
  go_wp2_with (first | (with_reducible refine wpList_load_row rfl 40 _ rfl w.heap.size rfl 40 _ (0, 0) _ hb0 pC_under rfl (pC_info _ _ HL.out) ?_) | (with_reducible refine wpList_load_row rfl 40 _ rfl (w.heap.size + 1) rfl 40 _ (0, 0) _ hb1 pC_under rfl (pC_info _ _ HL'.out) ?_))
  refine (order_any h n h' n' HL.out HL'.out _).mono ?_
  rintro e w1 ⟨rfl, hx⟩
  go_wp2_with fail
  go_ret
  exact ⟨rfl, Agg.belowThen hw (Nat.le_refl _) hx⟩
end Go.Proofs.Ytfgjepfmcmppaaa
