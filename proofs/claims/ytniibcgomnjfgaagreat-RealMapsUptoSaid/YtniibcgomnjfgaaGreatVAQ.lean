/- A map grown one by one (plain law): whatever lies at a place first stays; in another order, where no two unlike ones have one place, it is the same. (Several texts in one.) -/
import Derived.Test.YtniibcgomnjfgaaGreatVAG
import Derived.Lib.Bytealg
import Derived.Lib.BytesEntry
import Derived.Test.YtniibcgomnjfgaaGreatVAA
import Derived.Test.YtniibcgomnjfgaaGreatVAF
import Derived.Sort.Statements
import Derived.Test.YtniibcgomnjfgaaGreatVAE
/-! (of general use) base.order, base.Less, spenceref03.Less: how two paths stand. -/
namespace Go.Proofs.YtniibcgomnjfgaaGreat
open Go.RowKit Pl Go.Agg
open Go.Lib (compareBytes)
/-- how two paths stand -/
def cmpP (h n h' n' : List UInt8) : Int := if h == h' then compareBytes n n' else compareBytes h h'
theorem run_compareBytes (w : World) (a b : List UInt8) (g off g' off' c c' : Nat) (ha : ∀ j x, a[j]? = some x → w.cell? ⟨g, off + j, none⟩ = some (.int .u8 (x.toNat : Int))) (hb : ∀ j x, b[j]? = some x → w.cell? ⟨g', off' + j, none⟩ = some (.int .u8 (x.toNat : Int))) :
    (Extern.BytealgCompare.compare #[.slice (some ⟨g, off, none⟩) a.length c, .slice (some ⟨g', off', none⟩) b.length c']).run Tryz.prog w = .ok (.int .i64 (compareBytes a b)) w := by
  change Sem.run Tryz.prog (do pure (goInt (Extern.BytealgCompare.cmp (← Extern.Bytes.bytesOf (.slice (some ⟨g, off, none⟩) a.length c)) (← Extern.Bytes.bytesOf (.slice (some ⟨g', off', none⟩) b.length c'))))) w = _
  have key : ∀ (l : List UInt8) (g off : Nat), (∀ j x, l[j]? = some x → w.cell? ⟨g, off + j, none⟩ = some (.int .u8 (x.toNat : Int))) → (Extern.Bytes.loadBytes ⟨g, off, none⟩ l.length .empty).run Tryz.prog w = .ok ⟨l.toArray⟩ w := fun l g off h => by
    have := Lib.run_loadBytesX (P := Tryz.prog) (w := w) (l.map fun c => (c.toNat : Int)) ⟨g, off, none⟩ .empty (fun j x hj => by
      rw [List.getElem?_map] at hj
      cases hl : l[j]? with
      | none => rw [hl] at hj; simp at hj
      | some c =>
        rw [hl] at hj
        obtain rfl := Option.some.inj hj
        have := h j c hl
        rw [Addr.add]
        split
        · rename_i h0; simpa [h0] using this
        · exact this)
    simp only [List.length_map] at this
    rw [this]
    have : Lib.bytesOf (l.map fun c => (c.toNat : Int)) = l := by
      simp [Lib.bytesOf, Function.comp_def]
    rw [this]; simp
  have h1 := key a g off ha
  have h2 := key b g' off' hb
  simp only [Extern.Bytes.bytesOf, Sem.run_bind, Sem.run_pure, Result.andThen, h1, h2]
  rw [Lib.cmp_eq]
  simp [goInt]
set_option maxRecDepth 100000 in
theorem bytesCompare_any (w : World) (a b : List UInt8) (g off g' off' c c' : Nat) (ha : ∀ j x, a[j]? = some x → w.cell? ⟨g, off + j, none⟩ = some (.int .u8 (x.toNat : Int))) (hb : ∀ j x, b[j]? = some x → w.cell? ⟨g', off' + j, none⟩ = some (.int .u8 (x.toNat : Int))) :
    Calls Tryz.prog 67 #[.slice (some ⟨g, off, none⟩) a.length c, .slice (some ⟨g', off', none⟩) b.length c'] w fun e w' => e = .returned (.int .i64 (compareBytes a b)) ∧ w = w' := by
  have hr := run_compareBytes w a b g off g' off' c c' ha hb
  go_enter Tryz.func67, Tryz.ntmps67
  go_wp2
  rw [run_callFunc_extern Tryz.func105 (by kernel_rfl) (by kernel_rfl) (by kernel_rfl) (e := Extern.BytealgCompare.compare) (by kernel_rfl), hr]
  simp only [Result.andThen]
  rw [Oper.upon_value]
  go_wp2
  go_ret
  exact ⟨rfl, rfl⟩
theorem isNaN_any (s : ByteArray) (w : World) : Calls Tryz.prog 151 #[.string s] w fun e w' => e = .returned (.bool false) ∧ w = w' := by
  go_enter Tryz.func151, Tryz.ntmps151
  go_wp2
  all_goals go_ret
  all_goals simp
theorem compare_cases : ∀ (a b : List UInt8), compareBytes a b = if Op.bytesLess a b then -1 else if Op.bytesLess b a then 1 else 0
  | [], [] => rfl
  | [], _ :: _ => by simp [compareBytes, Op.bytesLess]
  | _ :: _, [] => by simp [compareBytes, Op.bytesLess]
  | x :: a, y :: b => by
    have ih := compare_cases a b
    unfold compareBytes Op.bytesLess
    by_cases h1 : x < y
    · simp [h1]
    · by_cases h2 : y < x
      · have : ¬ x = y := fun e => by subst e; exact h1 h2
        simp [h1, h2, this]
      · have : x = y := UInt8.le_antisymm (UInt8.not_lt.1 h2) (UInt8.not_lt.1 h1)
        subst this
        simp [h1, ih]
theorem bytesLess_asymm : ∀ (a b : List UInt8), Op.bytesLess a b = true → Op.bytesLess b a = false
  | [], [], h => by simp [Op.bytesLess] at h
  | [], _ :: _, _ => by simp [Op.bytesLess]
  | _ :: _, [], h => by simp [Op.bytesLess] at h
  | x :: a, y :: b, h => by
    simp only [Op.bytesLess, Bool.or_eq_true, Bool.and_eq_true, decide_eq_true_eq, beq_iff_eq] at h
    simp only [Op.bytesLess, Bool.or_eq_false_iff, decide_eq_false_iff_not, Bool.and_eq_false_iff, beq_eq_false_iff_ne]
    rcases h with h | ⟨rfl, h⟩
    · exact ⟨fun h' => absurd (UInt8.lt_trans h h') (UInt8.lt_irrefl _), .inl (fun e => by subst e; exact UInt8.lt_irrefl _ h)⟩
    · exact ⟨UInt8.lt_irrefl _, .inr (bytesLess_asymm a b h)⟩
theorem bytesLess_irrefl (a : List UInt8) : Op.bytesLess a a = false := by
  cases h : Op.bytesLess a a with
  | false => rfl
  | true => exact absurd (bytesLess_asymm a a h) (by rw [h]; simp)
theorem bytesLess_total : ∀ (a b : List UInt8), a ≠ b → Op.bytesLess a b = false → Op.bytesLess b a = true
  | [], [], h, _ => absurd rfl h
  | [], _ :: _, _, h => by simp [Op.bytesLess] at h
  | _ :: _, [], _, _ => by simp [Op.bytesLess]
  | x :: a, y :: b, hne, h => by
    simp only [Op.bytesLess, Bool.or_eq_false_iff, decide_eq_false_iff_not, Bool.and_eq_false_iff, beq_eq_false_iff_ne] at h
    simp only [Op.bytesLess, Bool.or_eq_true, Bool.and_eq_true, decide_eq_true_eq, beq_iff_eq]
    by_cases e : x = y
    · subst e
      refine .inr ⟨rfl, bytesLess_total a b (fun e => hne (by rw [e])) ?_⟩
      exact h.2.resolve_left (fun h' => h' rfl)
    · exact .inl (UInt8.lt_of_le_of_ne (UInt8.not_lt.1 h.1) (Ne.symm e))
theorem cmpString_any (a b : List UInt8) (w : World) : Calls Tryz.prog 115 #[.string ⟨a.toArray⟩, .string ⟨b.toArray⟩] w fun e w' => e = .returned (.int .i64 (compareBytes a b)) ∧ w = w' := by
  have hta := Agg.bytes_toList a
  have htb := Agg.bytes_toList b
  rw [compare_cases]
  by_cases hab : a = b
  · subst hab
    have h1 := bytesLess_irrefl a
    rw [h1]
    go_enter Tryz.func115, Tryz.ntmps115
    go_wp2_with (go_at_call 151; refine (isNaN_any _ _).mono ?_; rintro e w' ⟨rfl, rfl⟩)
    go_ret
    exact ⟨rfl, rfl⟩
  · have hb : (a == b) = false := by simpa using hab
    cases h1 : Op.bytesLess a b with
    | true =>
      have h2 := bytesLess_asymm _ _ h1
      go_enter Tryz.func115, Tryz.ntmps115
      go_wp2_with (go_at_call 151; refine (isNaN_any _ _).mono ?_; rintro e w' ⟨rfl, rfl⟩)
      go_ret
      exact ⟨rfl, rfl⟩
    | false =>
      have h2 := bytesLess_total _ _ hab h1
      rw [h2]
      go_enter Tryz.func115, Tryz.ntmps115
      go_wp2_with (go_at_call 151; refine (isNaN_any _ _).mono ?_; rintro e w' ⟨rfl, rfl⟩)
      go_ret
      exact ⟨rfl, rfl⟩
theorem pC_byte (h n : List UInt8) (j : Nat) (x : UInt8) (hj : h[j]? = some x) : (pC h n)[j]? = some (.int .u8 (x.toNat : Int)) := by
  have hlt := (List.getElem?_eq_some_iff.1 hj).1
  have := pC_hash h n j (.int .u8 (x.toNat : Int)) (by rw [hC_get h j hlt]; rw [List.getElem?_eq_getElem hlt] at hj; rw [Option.some.inj hj])
  simpa using this
theorem slice_hash (g : Nat) (w : World) : (Instr.sliceAt 24 (.pointer (some ⟨g, 0, none⟩)) none none none).run Tryz.prog w = .ok (.slice (some ⟨g, 0, none⟩) 20 20) w := by kernel_rfl
set_option maxRecDepth 100000 in
set_option maxHeartbeats 1000000 in
theorem order_any (h n h' n' : List UInt8) (hl : h.length = 20) (hl' : h'.length = 20) (w : World) :
    Calls Tryz.prog 75 #[.agg (pC h n), .agg (pC h' n')] w fun e w' => e = .returned (.int .i64 (cmpP h n h' n')) ∧ Below w.heap.size w w' := by
  have hb1 := heap_alloc_new (w.alloc (.cells (pC h n) 26)) (.cells (pC h' n') 26)
  have hb0 : ((w.alloc (.cells (pC h n) 26)).alloc (.cells (pC h' n') 26)).heap[w.heap.size]? = _ := (heap_alloc_old _ _ (by simp)).trans (heap_alloc_new w (.cells (pC h n) 26))
  have hw : Below w.heap.size w ((w.alloc (.cells (pC h n) 26)).alloc (.cells (pC h' n') 26)) := ((Below.refl _ _).alloc (Nat.le_refl _) _).alloc (by simp) _
  rw [show (w.alloc (.cells (pC h n) 26)).heap.size = w.heap.size + 1 by simp] at hb1
  have HL := Lib.hid hl
  have HL' := Lib.hid hl'
  clear hl hl'
  have hq0 : (Instr.loadAt 24 (.pointer (some ⟨w.heap.size, 0, none⟩))).run Tryz.prog ((w.alloc (.cells (pC h n) 26)).alloc (.cells (pC h' n') 26)) = _ := Agg.run_loadAt_sub hb0 (pC_hash h n) Tryz.underlying24 rfl (hC_info _ HL.out)
  have hq1 : (Instr.loadAt 24 (.pointer (some ⟨w.heap.size + 1, 0, none⟩))).run Tryz.prog ((w.alloc (.cells (pC h n) 26)).alloc (.cells (pC h' n') 26)) = _ := Agg.run_loadAt_sub hb1 (pC_hash h' n') Tryz.underlying24 rfl (hC_info _ HL'.out)
  have hqq : ∀ w, (binOp .eql 24 (.agg (hC h)) (.agg (hC h'))).run Tryz.prog w = .ok (.bool (h == h')) w := fun w => eql_hash _ _ HL.out HL'.out w
  cases hh : (h == h') with
  | true =>
    have hcm : cmpP h n h' n' = compareBytes n n' := by simp [cmpP, hh]
    have c0 : ((w.alloc (.cells (pC h n) 26)).alloc (.cells (pC h' n') 26)).cell? ⟨w.heap.size, 20, none⟩ = some (.string ⟨n.toArray⟩) := by rw [cell_of_row _ _ _ _ _ _ hb0, pC_name h n HL.out]
    have c1 : ((w.alloc (.cells (pC h n) 26)).alloc (.cells (pC h' n') 26)).cell? ⟨w.heap.size + 1, 20, none⟩ = some (.string ⟨n'.toArray⟩) := by rw [cell_of_row _ _ _ _ _ _ hb1, pC_name h' n' HL'.out]
    rw [hh] at hqq
    have HH := Lib.hid hh
    clear hh
    rw [hcm]
    clear hcm
    go_enter Tryz.func75, Tryz.ntmps75
    go_wp2_with (first | (with_reducible refine Agg.wpList_loadw 24 _ rfl rfl (.pointer (some ⟨w.heap.size, 0, none⟩)) rfl (.agg (hC h)) hq0 ?_) | (with_reducible refine Agg.wpList_loadw 24 _ rfl rfl (.pointer (some ⟨w.heap.size + 1, 0, none⟩)) rfl (.agg (hC h')) hq1 ?_) | (with_reducible refine Agg.wpList_eqlw 24 24 _ _ rfl rfl (hC h) (hC h') rfl rfl true (by kernel_rfl) hqq ?_))
    refine (cmpString_any _ _ _).mono ?_
    rintro e w1 ⟨rfl, rfl⟩
    go_wp2_with fail
    go_ret
    exact ⟨rfl, hw⟩
  | false =>
    have hcm : cmpP h n h' n' = compareBytes h h' := by simp [cmpP, hh]
    rw [hh] at hqq
    have HH := Lib.hid hh
    clear hh
    rw [hcm]
    clear hcm
    go_enter Tryz.func75, Tryz.ntmps75
    go_wp2_with (first | (with_reducible refine Agg.wpList_loadw 24 _ rfl rfl (.pointer (some ⟨w.heap.size, 0, none⟩)) rfl (.agg (hC h)) hq0 ?_) | (with_reducible refine Agg.wpList_loadw 24 _ rfl rfl (.pointer (some ⟨w.heap.size + 1, 0, none⟩)) rfl (.agg (hC h')) hq1 ?_) | (with_reducible refine Agg.wpList_eqlw 24 24 _ _ rfl rfl (hC h) (hC h') rfl rfl false (by kernel_rfl) hqq ?_))
    clear hq0 hq1 hqq
    generalize (w.alloc (.cells (pC h n) 26)).alloc (.cells (pC h' n') 26) = w0 at *
    have hcc : ∀ x : Later w0, Calls Tryz.prog 67 #[.slice (some ⟨w.heap.size, 0, none⟩) 20 20, .slice (some ⟨w.heap.size + 1, 0, none⟩) 20 20] x.w fun e w' => e = .returned (.int .i64 (compareBytes h h')) ∧ x.w = w' := fun x => by
      have := bytesCompare_any x.w h h' w.heap.size 0 (w.heap.size + 1) 0 20 20 (fun j y hj => by rw [Nat.zero_add, cell_of_row _ _ _ _ _ _ (x.heap hb0), pC_byte h n j y hj]) (fun j y hj => by rw [Nat.zero_add, cell_of_row _ _ _ _ _ _ (x.heap hb1), pC_byte h' n' j y hj])
      rwa [HL.out, HL'.out] at this
    have hs := slice_hash
    simp only [Act.put, List.setIfInBounds_toArray, List.set_cons_succ, List.set_cons_zero]
    refine Agg.wp_region_later_lit (by kernel_rfl) (by kernel_rfl) ?_
    repeat go_big_quiet_step ((go_at_call 67; exact Agg.Calls.later_same (hcc _)))
    refine wpQuiet_nil ?_
    intro _ hw'
    obtain ⟨x, rfl⟩ := hw'
    go_wp2_with fail
    go_ret
    exact ⟨rfl, Agg.belowThen hw (Nat.le_refl _) x.h⟩
end Go.Proofs.YtniibcgomnjfgaaGreat
/-! (of general use) spenceref03.Less -/
namespace Go.Proofs.YtniibcgomnjfgaaGreat
open Go.RowKit Pl Go.Agg
open Go.Lib (compareBytes)
theorem compare_diff : ∀ (k : Nat) (a b : List UInt8) (x y : UInt8), a[k]? = some x → b[k]? = some y → a.take k = b.take k → x ≠ y → decide (compareBytes a b < 0) = decide (x < y)
  | 0, x :: a, y :: b, _, _, hx, hy, _, hne => by
    simp only [List.getElem?_cons_zero, Option.some.injEq] at hx hy
    subst hx hy
    unfold compareBytes
    by_cases h1 : x < y
    · simp [h1]
    · have h2 : y < x := UInt8.lt_of_le_of_ne (UInt8.not_lt.1 h1) (Ne.symm hne)
      simp [h1, h2]
  | k + 1, x :: a, y :: b, _, _, hx, hy, ht, hne => by
    simp only [List.getElem?_cons_succ] at hx hy
    simp only [List.take_succ_cons, List.cons.injEq] at ht
    obtain ⟨rfl, ht⟩ := ht
    have := compare_diff k a b _ _ hx hy ht hne
    unfold compareBytes
    simpa [UInt8.lt_irrefl] using this
  | 0, [], _, _, _, hx, _, _, _ => by simp at hx
  | 0, _ :: _, [], _, _, _, hy, _, _ => by simp at hy
  | _ + 1, [], _, _, _, hx, _, _, _ => by simp at hx
  | _ + 1, _ :: _, [], _, _, _, hy, _, _ => by simp at hy
theorem compare_less (a b : List UInt8) : decide (compareBytes a b < 0) = Op.bytesLess a b := by
  rw [compare_cases]
  cases Op.bytesLess a b <;> cases Op.bytesLess b a <;> simp
end Go.Proofs.YtniibcgomnjfgaaGreat
/-! A path as a map's key. -/
namespace Go.Proofs.YtniibcgomnjfgaaGreat
open Go.RowKit Pl Go.Mp Go.Agg Go.Instr
theorem part_byte (h : List UInt8) (i : Nat) (hi : i < h.length) (w : World) : (Go.part 5 (hC h) i).run Tryz.prog w = .ok (.int .u8 (h[i].toNat : Int)) w := by
  unfold Go.part
  have : (isAgg 5).run Tryz.prog w = .ok false w := by kernel_rfl
  simp only [Sem.run_bind, this, Result.andThen_ok, Bool.false_eq_true, if_false, hC_get h i hi, Sem.run_pure]
theorem check_byte (e : Bool) (n : Nat) (k : Int) (w : World) : (checkKey e (n + 1) 5 (.int .u8 k)).run Tryz.prog w = .ok () w := by
  unfold checkKey
  rw [Sem.run_bind, run_underlying Tryz.underlying5 w]
  simp [Result.andThen]
theorem check_hash (e : Bool) (n : Nat) (h : List UInt8) (hl : h.length = 20) (w : World) : (checkKey e (n + 2) 24 (.agg (hC h))).run Tryz.prog w = .ok () w := by
  unfold checkKey
  rw [Sem.run_bind, run_underlying Tryz.underlying24 w]
  have hsz : ∀ w, (Go.sizeOf 5).run Tryz.prog w = .ok 1 w := fun w => by kernel_rfl
  simp only [Result.andThen_ok, Std.Legacy.Range.forIn_eq_forIn_range', Std.Legacy.Range.size, Nat.sub_zero, Nat.add_sub_cancel, Nat.div_one]
  have hall : ∀ i ∈ List.range' 0 20 1, i < h.length := fun i hi => by have := List.mem_range'_1.1 hi; omega
  generalize List.range' 0 20 1 = l at hall ⊢
  induction l with
  | nil => simp
  | cons i l ih =>
    simp only [List.forIn_cons, Sem.run_bind, hsz, Result.andThen_ok, Nat.mul_one, part_byte h i (hall i (by simp)), check_byte, Sem.run_pure]
    have := ih fun j hj => hall j (by simp [hj])
    simp only [Sem.run_bind, Sem.run_pure] at this ⊢
    exact this
theorem check_path (e : Bool) (n : Nat) (p : P20) (w : World) : (checkKey e (n + 3) 26 (pV p)).run Tryz.prog w = .ok () w := by
  unfold checkKey pV
  rw [Sem.run_bind, run_underlying pC_under w]
  simp only [Result.andThen_ok]
  rw [← Array.forIn_toList]
  have hf := path_fields
  generalize (Tryz.prog.fieldsOf 26).toList = fs at hf ⊢
  cases fs with
  | nil => exact absurd hf (by simp)
  | cons f1 fs =>
  cases fs with
  | nil => exact absurd hf (by simp)
  | cons f2 fs =>
  cases fs with
  | cons f3 fs => exact absurd hf (by simp)
  | nil =>
    simp only [List.map_cons, List.map_nil, List.cons.injEq, Prod.mk.injEq, and_true] at hf
    obtain ⟨⟨a1, a2, a3⟩, b1, b2, b3⟩ := hf
    have hstr : ∀ w, (checkKey e (n + 2) 9 (.string ⟨p.1.2.toArray⟩)).run Tryz.prog w = .ok () w := fun w => by
      unfold checkKey
      rw [Sem.run_bind, run_underlying Tryz.underlying9 w]
      simp [Result.andThen]
    simp [a1, a2, a3, b1, b2, b3, part_hash _ _ p.2, part_name _ _ p.2, check_hash e n _ p.2, hstr]
theorem bits_all (n : Nat) : ∀ (l : List Value), (∀ v ∈ l, sameBits n v v = true) → (l.zip l).all (fun (x, y) => sameBits n x y) = true
  | [], _ => rfl
  | v :: l, h => by
    simp only [List.zip_cons_cons, List.all_cons, Bool.and_eq_true]
    exact ⟨h v (by simp), bits_all n l fun u hu => h u (by simp [hu])⟩
theorem bits_path (n : Nat) (p : P20) : sameBits (n + 1) (pV p) (pV p) = true := by
  unfold pV sameBits
  simp only [beq_self_eq_true, Bool.true_and]
  refine bits_all n _ fun v hv => ?_
  simp only [pC, hC, Lib.byteCells, Array.toList_append, List.mem_append, List.mem_map] at hv
  rcases hv with ⟨c, _, rfl⟩ | hv
  · unfold sameBits; simp
  · obtain rfl : v = .string ⟨p.1.2.toArray⟩ := by simpa using hv
    unfold sameBits
    rw [beq_toListBytes]
    simp
set_option maxRecDepth 100000 in
theorem path_key : KeyEq Tryz.prog 26 pV where
  check := fun e p w => check_path e 9997 p w
  desc := ⟨_, pC_under, .inr ⟨fun a b => rfl, fun a b w => by
    have h := eql_path a.1.1 a.1.2 b.1.1 b.1.2 a.2 b.2 w
    rw [run_eql_struct] at h
    unfold Op.equal Op.maxDepth
    generalize hr : (Op.equalIn 10000 26 (.agg (pC a.1.1 a.1.2)) (.agg (pC b.1.1 b.1.2))).run Tryz.prog w = r at h
    unfold pV
    rw [hr]
    cases r with
    | ok x w' =>
      simp [Result.andThen] at h
      obtain ⟨rfl, rfl⟩ := h
      congr 1
      rw [Bool.eq_iff_iff]
      simp [Subtype.ext_iff, Prod.ext_iff]
    | halt x w' => simp [Result.andThen] at h⟩⟩
  bits := fun p => bits_path 9999 p
end Go.Proofs.YtniibcgomnjfgaaGreat
/-! Paths in order: the plain law of both Sorted. -/
namespace Go.Proofs.YtniibcgomnjfgaaGreat
open Pl
open Go.Lib (compareBytes)
theorem bytesLess_trans : ∀ (a b c : List UInt8), Op.bytesLess a b = true → Op.bytesLess b c = true → Op.bytesLess a c = true
  | [], [], _, h, _ => by simp [Op.bytesLess] at h
  | [], _ :: _, [], _, h => by simp [Op.bytesLess] at h
  | [], _ :: _, _ :: _, _, _ => by simp [Op.bytesLess]
  | _ :: _, [], _, h, _ => by simp [Op.bytesLess] at h
  | _ :: _, _ :: _, [], _, h => by simp [Op.bytesLess] at h
  | x :: a, y :: b, z :: c, h1, h2 => by
    simp only [Op.bytesLess, Bool.or_eq_true, Bool.and_eq_true, decide_eq_true_eq, beq_iff_eq] at h1 h2 ⊢
    rcases h1 with h1 | ⟨rfl, h1⟩
    · rcases h2 with h2 | ⟨rfl, h2⟩
      · exact .inl (UInt8.lt_trans h1 h2)
      · exact .inl h1
    · rcases h2 with h2 | ⟨rfl, h2⟩
      · exact .inl h2
      · exact .inr ⟨rfl, bytesLess_trans a b c h1 h2⟩
/-- how two paths stand, as the sort asks it -/
def cmp20 (p q : P20) : Int := cmpP p.1.1 p.1.2 q.1.1 q.1.2
def lt20 (p q : P20) : Bool := decide (cmp20 p q < 0)
theorem lt20_eq (p q : P20) : lt20 p q = if p.1.1 == q.1.1 then Op.bytesLess p.1.2 q.1.2 else Op.bytesLess p.1.1 q.1.1 := by
  unfold lt20 cmp20 cmpP
  split <;> exact compare_less _ _
theorem lt20_irrefl (p : P20) : lt20 p p = false := by rw [lt20_eq]; simp [bytesLess_irrefl]
theorem lt20_trans (p q r : P20) (h1 : lt20 p q = true) (h2 : lt20 q r = true) : lt20 p r = true := by
  rw [lt20_eq] at h1 h2 ⊢
  by_cases e1 : p.1.1 = q.1.1 <;> by_cases e2 : q.1.1 = r.1.1
  · have e3 : p.1.1 = r.1.1 := e1.trans e2
    simp only [beq_iff_eq, e1, e2, if_true] at h1 h2 ⊢
    exact bytesLess_trans _ _ _ h1 h2
  · have e3 : ¬ p.1.1 = r.1.1 := fun e => e2 (e1.symm.trans e)
    simp only [beq_iff_eq, e1, e2, if_false] at h2 ⊢
    exact h2
  · have e3 : ¬ p.1.1 = r.1.1 := fun e => e1 (e.trans e2.symm)
    simp only [beq_iff_eq, e1, e3, if_false] at h1 ⊢
    rwa [← e2]
  · simp only [beq_iff_eq, e1, e2, if_false] at h1 h2
    have h3 := bytesLess_trans _ _ _ h1 h2
    have e3 : ¬ p.1.1 = r.1.1 := fun e => by rw [e, bytesLess_irrefl] at h3; cases h3
    simp only [beq_iff_eq, e3, if_false]
    exact h3
theorem lt20_total (p q : P20) (hne : p ≠ q) (h : lt20 p q = false) : lt20 q p = true := by
  rw [lt20_eq] at h ⊢
  by_cases e : p.1.1 = q.1.1
  · have e' : q.1.1 = p.1.1 := e.symm
    simp only [beq_iff_eq, e, if_true] at h ⊢
    exact bytesLess_total _ _ (fun e2 => hne (Subtype.ext (Prod.ext e e2))) h
  · have e' : ¬ q.1.1 = p.1.1 := fun x => e x.symm
    simp only [beq_iff_eq, e, e', if_false] at h ⊢
    exact bytesLess_total _ _ e h
theorem lt20_asymm (p q : P20) (h : lt20 p q = true) : lt20 q p = false := by
  cases h2 : lt20 q p with
  | false => rfl
  | true => have := lt20_trans _ _ _ h h2; rw [lt20_irrefl] at this; cases this
theorem lt20_swo : Sort.SWO lt20 where
  irrefl := lt20_irrefl
  trans := lt20_trans
  ntrans := fun x y z h1 h2 => by
    cases h3 : lt20 x z with
    | false => rfl
    | true =>
      by_cases e : x = y
      · subst e; rw [h3] at h2; cases h2
      · have := lt20_trans _ _ _ (lt20_total _ _ e h1) h3
        rw [this] at h2; cases h2
/-- rising: each ahead of all behind it -/
def Rising (l : List P20) : Prop := l.Pairwise fun p q => lt20 p q = true
theorem rising_unique : ∀ (a b : List P20), Rising a → Rising b → (∀ x, x ∈ a ↔ x ∈ b) → a = b
  | [], [], _, _, _ => rfl
  | [], y :: b, _, _, h => absurd ((h y).2 (by simp)) (by simp)
  | x :: a, [], _, _, h => absurd ((h x).1 (by simp)) (by simp)
  | x :: a, y :: b, ha, hb, h => by
    rw [Rising, List.pairwise_cons] at ha hb
    have hxy : x = y := by
      rcases List.mem_cons.1 ((h x).1 (by simp)) with e | hx
      · exact e
      · rcases List.mem_cons.1 ((h y).2 (by simp)) with e | hy
        · exact e.symm
        · have h1 := hb.1 x hx
          have h2 := ha.1 y hy
          rw [lt20_asymm _ _ h1] at h2; cases h2
    subst hxy
    congr 1
    refine rising_unique a b ha.2 hb.2 fun z => ?_
    have hz := h z
    simp only [List.mem_cons] at hz
    constructor
    · intro hza
      rcases hz.1 (.inr hza) with e | hzb
      · subst e
        have := ha.1 z hza
        rw [lt20_irrefl] at this; cases this
      · exact hzb
    · intro hzb
      rcases hz.2 (.inr hzb) with e | hza
      · subst e
        have := hb.1 z hzb
        rw [lt20_irrefl] at this; cases this
      · exact hza
/-- a sorted list without doubles rises -/
theorem rising_of_sorted (l : List P20) (hn : l.Nodup) (hs : l.Pairwise fun p q => lt20 q p = false) : Rising l := by
  refine List.Pairwise.imp₂ ?_ hn hs
  intro p q hne h
  exact lt20_total q p (Ne.symm hne) h
end Go.Proofs.YtniibcgomnjfgaaGreat
/-! A map grown one by one (plain law): whatever lies at a place first stays; in another order, where no two unlike ones have one place, it is the same. -/
namespace Go.Gr
section
variable {α κ : Type}
/-- a strict order of places -/
structure Ord (lt : κ → κ → Bool) : Prop where
  irrefl : ∀ a, lt a a = false
  trans : ∀ a b c, lt a b = true → lt b c = true → lt a c = true
  total : ∀ a b, a ≠ b → lt a b = false → lt b a = true
theorem Ord.asymm {lt : κ → κ → Bool} (h : Ord lt) {a b : κ} (h1 : lt a b = true) : lt b a = false := by
  cases h2 : lt b a with
  | false => rfl
  | true => have := h.trans _ _ _ h1 h2; rw [h.irrefl] at this; cases this
variable (key : α → κ) (lt : κ → κ → Bool) (right : α → Bool)
/-- rising by their places -/
def Up (l : List α) : Prop := l.Pairwise fun a b => lt (key a) (key b) = true
/-- a map, as the code tells it -/
def MapP (l : List α) : Prop := ∀ (i : Nat) x, l[i]? = some x → right x = true ∧ ∀ (j : Nat) y, i = j + 1 → l[j]? = some y → lt (key y) (key x) = true
variable {key lt right}
theorem up_unique (hO : Ord lt) : ∀ (a b : List α), Up key lt a → Up key lt b → (∀ x, x ∈ a ↔ x ∈ b) → a = b
  | [], [], _, _, _ => rfl
  | [], y :: b, _, _, h => absurd ((h y).2 (by simp)) (by simp)
  | x :: a, [], _, _, h => absurd ((h x).1 (by simp)) (by simp)
  | x :: a, y :: b, ha, hb, h => by
    rw [Up, List.pairwise_cons] at ha hb
    have hxy : x = y := by
      rcases List.mem_cons.1 ((h x).1 (by simp)) with e | hx
      · exact e
      · rcases List.mem_cons.1 ((h y).2 (by simp)) with e | hy
        · exact e.symm
        · have h1 := hb.1 x hx
          have h2 := ha.1 y hy
          rw [hO.asymm h1] at h2; cases h2
    subst hxy
    congr 1
    refine up_unique hO a b ha.2 hb.2 fun z => ?_
    have hz := h z
    simp only [List.mem_cons] at hz
    constructor
    · intro hza
      rcases hz.1 (.inr hza) with e | hzb
      · subst e
        have := ha.1 z hza
        rw [hO.irrefl] at this; cases this
      · exact hzb
    · intro hzb
      rcases hz.2 (.inr hzb) with e | hza
      · subst e
        have := hb.1 z hzb
        rw [hO.irrefl] at this; cases this
      · exact hza
theorem up_key (hO : Ord lt) : ∀ (a : List α), Up key lt a → ∀ x ∈ a, ∀ y ∈ a, key x = key y → x = y
  | [], _, x, hx, _, _, _ => by simp at hx
  | z :: a, h, x, hx, y, hy, e => by
    rw [Up, List.pairwise_cons] at h
    rcases List.mem_cons.1 hx with rfl | hx'
    · rcases List.mem_cons.1 hy with rfl | hy'
      · rfl
      · have := h.1 y hy'; rw [e, hO.irrefl] at this; cases this
    · rcases List.mem_cons.1 hy with rfl | hy'
      · have := h.1 x hx'; rw [e, hO.irrefl] at this; cases this
      · exact up_key hO a h.2 x hx' y hy' e
theorem up_insert {l : List α} {k : Nat} {x : α} (hl : Up key lt l) (h1 : ∀ y ∈ l.take k, lt (key y) (key x) = true) (h2 : ∀ y ∈ l.drop k, lt (key x) (key y) = true) : Up key lt (l.take k ++ x :: l.drop k) := by
  have hl' : Up key lt (l.take k ++ l.drop k) := by rw [List.take_append_drop]; exact hl
  rw [Up, List.pairwise_append] at hl' ⊢
  refine ⟨hl'.1, List.pairwise_cons.2 ⟨h2, hl'.2.1⟩, fun a ha b hb => ?_⟩
  rcases List.mem_cons.1 hb with rfl | hb'
  · exact h1 a ha
  · exact hl'.2.2 a ha b hb'
theorem mem_insert {l : List α} {k : Nat} {x z : α} : z ∈ l.take k ++ x :: l.drop k ↔ z = x ∨ z ∈ l := by
  rw [List.mem_append, List.mem_cons]
  constructor
  · rintro (h | h | h)
    · exact .inr (List.mem_of_mem_take h)
    · exact .inl h
    · exact .inr (List.mem_of_mem_drop h)
  · rintro (h | h)
    · exact .inr (.inl h)
    · rw [← List.take_append_drop k l, List.mem_append] at h
      exact h.elim .inl fun h => .inr (.inr h)
theorem mapP_iff (hO : Ord lt) (l : List α) : MapP key lt right l ↔ (∀ x ∈ l, right x = true) ∧ Up key lt l := by
  constructor
  · intro h
    refine ⟨fun x hx => ?_, ?_⟩
    · obtain ⟨i, hi, rfl⟩ := List.getElem_of_mem hx
      exact (h i l[i] (List.getElem?_eq_getElem hi)).1
    · rw [Up, List.pairwise_iff_getElem]
      intro i j hi hj hij
      obtain ⟨d, rfl⟩ : ∃ d, j = i + 1 + d := ⟨j - (i + 1), by omega⟩
      clear hij
      induction d with
      | zero => exact (h (i + 1) _ (List.getElem?_eq_getElem hj)).2 i l[i] rfl (List.getElem?_eq_getElem hi)
      | succ d ih =>
        have hj' : i + 1 + d < l.length := by omega
        exact hO.trans _ _ _ (ih hj') ((h (i + 1 + d + 1) _ (List.getElem?_eq_getElem (by omega))).2 (i + 1 + d) _ rfl (List.getElem?_eq_getElem hj'))
  · rintro ⟨h1, h2⟩ i x hx
    refine ⟨h1 x (List.mem_of_getElem? hx), fun j y hij hy => ?_⟩
    subst hij
    obtain ⟨hi, rfl⟩ := List.getElem?_eq_some_iff.1 hx
    obtain ⟨hj, rfl⟩ := List.getElem?_eq_some_iff.1 hy
    exact List.pairwise_iff_getElem.1 h2 j (j + 1) hj hi (by omega)
variable (key lt right)
/-- what was grown of some -/
structure Grown (p out : List α) (clean : Bool) : Prop where
  up : Up key lt out
  ok : ∀ y ∈ out, right y = true
  first : ∀ y ∈ out, ∃ i : Nat, p[i]? = some y ∧ ∀ (j : Nat) z, j < i → p[j]? = some z → right z = true → key z ≠ key y
  has : ∀ x ∈ p, right x = true → ∃ y ∈ out, key y = key x
  clean : clean = true ↔ ∀ x ∈ p, right x = true → x ∈ out
variable {key lt right}
theorem Grown.nil : Grown key lt right [] [] true where
  up := List.Pairwise.nil
  ok := by simp
  first := by simp
  has := by simp
  clean := by simp
theorem Grown.map (hO : Ord lt) {p out : List α} {c : Bool} (h : Grown key lt right p out c) : MapP key lt right out := (mapP_iff hO out).2 ⟨h.ok, h.up⟩
theorem Grown.skip {p out : List α} {c : Bool} {x : α} (h : Grown key lt right p out c) (hx : right x = false) : Grown key lt right (p ++ [x]) out c where
  up := h.up
  ok := h.ok
  first := fun y hy => by
    obtain ⟨i, hi, hf⟩ := h.first y hy
    have hlt := (List.getElem?_eq_some_iff.1 hi).1
    exact ⟨i, by rw [List.getElem?_append_left hlt]; exact hi, fun j z hj hz => hf j z hj (by rwa [List.getElem?_append_left (by omega)] at hz)⟩
  has := fun z hz hr => by
    rcases List.mem_append.1 hz with hz | hz
    · exact h.has z hz hr
    · rw [List.mem_singleton.1 hz, hx] at hr; cases hr
  clean := by
    rw [h.clean]
    constructor
    · intro hc z hz hr
      rcases List.mem_append.1 hz with hz | hz
      · exact hc z hz hr
      · rw [List.mem_singleton.1 hz, hx] at hr; cases hr
    · exact fun hc z hz hr => hc z (List.mem_append_left _ hz) hr
theorem Grown.add (hO : Ord lt) {p out : List α} {c : Bool} {x : α} {k : Nat} (h : Grown key lt right p out c) (hx : right x = true)
    (h1 : ∀ y ∈ out.take k, lt (key y) (key x) = true) (h2 : ∀ y ∈ out.drop k, lt (key x) (key y) = true) : Grown key lt right (p ++ [x]) (out.take k ++ x :: out.drop k) c := by
  have hno : ∀ y ∈ out, key y ≠ key x := fun y hy e => by
    rw [← List.take_append_drop k out, List.mem_append] at hy
    rcases hy with hy | hy
    · have := h1 y hy; rw [e, hO.irrefl] at this; cases this
    · have := h2 y hy; rw [e, hO.irrefl] at this; cases this
  refine ⟨up_insert h.up h1 h2, ?_, ?_, ?_, ?_⟩
  · intro y hy
    rcases mem_insert.1 hy with rfl | hy
    · exact hx
    · exact h.ok y hy
  · intro y hy
    rcases mem_insert.1 hy with rfl | hy
    · refine ⟨p.length, by simp, fun j z hj hz hr e => ?_⟩
      rw [List.getElem?_append_left hj] at hz
      obtain ⟨u, hu, he⟩ := h.has z (List.mem_of_getElem? hz) hr
      exact hno u hu (he.trans e)
    · obtain ⟨i, hi, hf⟩ := h.first y hy
      have hlt := (List.getElem?_eq_some_iff.1 hi).1
      exact ⟨i, by rw [List.getElem?_append_left hlt]; exact hi, fun j z hj hz => hf j z hj (by rwa [List.getElem?_append_left (by omega)] at hz)⟩
  · intro z hz hr
    rcases List.mem_append.1 hz with hz | hz
    · obtain ⟨u, hu, he⟩ := h.has z hz hr
      exact ⟨u, mem_insert.2 (.inr hu), he⟩
    · rw [List.mem_singleton.1 hz]
      exact ⟨x, mem_insert.2 (.inl rfl), rfl⟩
  · rw [h.clean]
    constructor
    · intro hc z hz hr
      rcases List.mem_append.1 hz with hz | hz
      · exact mem_insert.2 (.inr (hc z hz hr))
      · exact mem_insert.2 (.inl (List.mem_singleton.1 hz))
    · intro hc z hz hr
      rcases mem_insert.1 (hc z (List.mem_append_left _ hz) hr) with e | hm
      · subst e
        obtain ⟨u, hu, he⟩ := h.has z hz hr
        exact absurd he (hno u hu)
      · exact hm
theorem Grown.again {p out : List α} {c : Bool} {x : α} (h : Grown key lt right p out c) (hx : x ∈ out) : Grown key lt right (p ++ [x]) out c where
  up := h.up
  ok := h.ok
  first := fun y hy => by
    obtain ⟨i, hi, hf⟩ := h.first y hy
    have hlt := (List.getElem?_eq_some_iff.1 hi).1
    exact ⟨i, by rw [List.getElem?_append_left hlt]; exact hi, fun j z hj hz => hf j z hj (by rwa [List.getElem?_append_left (by omega)] at hz)⟩
  has := fun z hz hr => by
    rcases List.mem_append.1 hz with hz | hz
    · exact h.has z hz hr
    · rw [List.mem_singleton.1 hz]; exact ⟨x, hx, rfl⟩
  clean := by
    rw [h.clean]
    constructor
    · intro hc z hz hr
      rcases List.mem_append.1 hz with hz | hz
      · exact hc z hz hr
      · rw [List.mem_singleton.1 hz]; exact hx
    · exact fun hc z hz hr => hc z (List.mem_append_left _ hz) hr
theorem Grown.other (hO : Ord lt) {p out : List α} {c : Bool} {x y : α} (h : Grown key lt right p out c) (hr : right x = true) (hy : y ∈ out) (he : key y = key x) (hne : y ≠ x) : Grown key lt right (p ++ [x]) out false where
  up := h.up
  ok := h.ok
  first := fun y hy => by
    obtain ⟨i, hi, hf⟩ := h.first y hy
    have hlt := (List.getElem?_eq_some_iff.1 hi).1
    exact ⟨i, by rw [List.getElem?_append_left hlt]; exact hi, fun j z hj hz => hf j z hj (by rwa [List.getElem?_append_left (by omega)] at hz)⟩
  has := fun z hz hr => by
    rcases List.mem_append.1 hz with hz | hz
    · exact h.has z hz hr
    · rw [List.mem_singleton.1 hz]; exact ⟨y, hy, he⟩
  clean := by
    constructor
    · intro e; cases e
    · intro hc
      have := hc x (by simp) hr
      exact absurd (up_key hO out h.up y hy x this he) hne
/-- how many lie at a place -/
def many [DecidableEq κ] (key : α → κ) (a : List α) (k : κ) : Nat := a.countP fun y => decide (key y = k)
theorem many_one [DecidableEq κ] (hO : Ord lt) : ∀ {a : List α}, Up key lt a → ∀ {y : α}, y ∈ a → many key a (key y) = 1
  | [], _, y, hy => by simp at hy
  | z :: a, h, y, hy => by
    have h' := h
    rw [Up, List.pairwise_cons] at h
    unfold many
    rw [List.countP_cons]
    by_cases e : key z = key y
    · have h0 : a.countP (fun u => decide (key u = key y)) = 0 := by
        rw [List.countP_eq_zero]
        intro u hu hd
        have := h.1 u hu
        rw [e, of_decide_eq_true hd, hO.irrefl] at this; cases this
      simp [h0, e]
    · rcases List.mem_cons.1 hy with rfl | hy'
      · exact absurd rfl e
      · have := many_one hO h.2 hy'
        unfold many at this
        simp [this, e]
theorem Grown.one [DecidableEq κ] (hO : Ord lt) {p out : List α} {c : Bool} (h : Grown key lt right p out c) {x : α} (hx : x ∈ p) (hr : right x = true) : many key out (key x) = 1 := by
  obtain ⟨y, hy, he⟩ := h.has x hx hr
  rw [← he]; exact many_one hO h.up hy
theorem Grown.is_first {p out : List α} {c : Bool} (h : Grown key lt right p out c) {i : Nat} {x y : α} (hi : p[i]? = some x) (hr : right x = true)
    (hf : ∀ (j : Nat) z, j < i → p[j]? = some z → right z = true → key z ≠ key x) (hy : y ∈ out) (he : key y = key x) : y = x := by
  obtain ⟨k, hk, hkf⟩ := h.first y hy
  rcases Nat.lt_trichotomy k i with hlt | rfl | hlt
  · exact absurd he (hf k y hlt hk (h.ok y hy))
  · rw [hk] at hi; exact Option.some.inj hi
  · exact absurd he.symm (hkf i x hlt hi hr)
theorem Grown.turned (hO : Ord lt) {p q a b : List α} {c d : Bool} (h : Grown key lt right p a c) (g : Grown key lt right q b d) (hm : ∀ x, x ∈ p ↔ x ∈ q) : c = d ∧ (c = true → a = b) := by
  have aux : ∀ {p q a b : List α} {c d : Bool}, Grown key lt right p a c → Grown key lt right q b d → (∀ x, x ∈ p ↔ x ∈ q) → c = true → d = true := by
    intro p q a b c d h g hm hc
    rw [g.clean]
    intro x hx hr
    obtain ⟨y, hy, he⟩ := g.has x hx hr
    have hxa := h.clean.1 hc x ((hm x).2 hx) hr
    obtain ⟨i, hi, _⟩ := g.first y hy
    have hya := h.clean.1 hc y ((hm y).2 (List.mem_of_getElem? hi)) (g.ok y hy)
    rw [← up_key hO a h.up y hya x hxa he]; exact hy
  refine ⟨?_, fun hc => ?_⟩
  · cases c with
    | true => exact (aux h g hm rfl).symm
    | false =>
      cases d with
      | false => rfl
      | true => have := aux g h (fun x => (hm x).symm) rfl; cases this
  · have hd := aux h g hm hc
    refine up_unique hO a b h.up g.up fun x => ⟨fun hx => ?_, fun hx => ?_⟩
    · obtain ⟨i, hi, _⟩ := h.first x hx
      exact g.clean.1 hd x ((hm x).1 (List.mem_of_getElem? hi)) (h.ok x hx)
    · obtain ⟨i, hi, _⟩ := g.first x hx
      exact h.clean.1 hc x ((hm x).2 (List.mem_of_getElem? hi)) (g.ok x hx)
end
end Go.Gr
