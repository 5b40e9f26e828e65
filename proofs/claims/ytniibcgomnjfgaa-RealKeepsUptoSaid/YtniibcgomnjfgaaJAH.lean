/- real.some with a closure that asks for a class, a key, a held path. (Several texts in one.) -/
import Derived.Test.YtniibcgomnjfgaaJAB
import Derived.Lib.Bytealg
import Derived.Lib.BytesEntry
import Derived.Test.YtniibcgomnjfgaaJAC
import Derived.Test.YtniibcgomnjfgaaJAD
import Derived.Test.YtniibcgomnjfgaaJAE
import Derived.Test.YtniibcgomnjfgaaJAG
/-! (of general use) base.order, base.Less, spenceref03.Less: how two paths stand. -/
namespace Go.Proofs.Ytniibcgomnjfgaa
open Go.RowKit Pl Go.Agg
open Go.Lib (compareBytes)
/-- how two paths stand -/
def cmpP (h n h' n' : List UInt8) : Int := if h == h' then compareBytes n n' else compareBytes h h'
theorem run_compareBytes (w : World) (a b : List UInt8) (g off g' off' c c' : Nat) (ha : ∀ j x, a[j]? = some x → w.cell? ⟨g, off + j, none⟩ = some (.int .u8 (x.toNat : Int))) (hb : ∀ j x, b[j]? = some x → w.cell? ⟨g', off' + j, none⟩ = some (.int .u8 (x.toNat : Int))) :
    (Extern.BytealgCompare.compare #[.slice (some ⟨g, off, none⟩) a.length c, .slice (some ⟨g', off', none⟩) b.length c']).run Try.prog w = .ok (.int .i64 (compareBytes a b)) w := by
  change Sem.run Try.prog (do pure (goInt (Extern.BytealgCompare.cmp (← Extern.Bytes.bytesOf (.slice (some ⟨g, off, none⟩) a.length c)) (← Extern.Bytes.bytesOf (.slice (some ⟨g', off', none⟩) b.length c'))))) w = _
  have key : ∀ (l : List UInt8) (g off : Nat), (∀ j x, l[j]? = some x → w.cell? ⟨g, off + j, none⟩ = some (.int .u8 (x.toNat : Int))) → (Extern.Bytes.loadBytes ⟨g, off, none⟩ l.length .empty).run Try.prog w = .ok ⟨l.toArray⟩ w := fun l g off h => by
    have := Lib.run_loadBytesX (P := Try.prog) (w := w) (l.map fun c => (c.toNat : Int)) ⟨g, off, none⟩ .empty (fun j x hj => by
      rw [List.getElem?_map] at hj
      cases hl : l[j]? with
      | none => rw [hl] at hj; simp at hj
      | some c =>
        rw [hl] at hj
        obtain rfl := Option.some.inj hj
        have := h j c hl
        rw [Addr.add]
        split
        · rename_i h0; simpa [h0] using this
        · exact this)
    simp only [List.length_map] at this
    rw [this]
    have : Lib.bytesOf (l.map fun c => (c.toNat : Int)) = l := by
      simp [Lib.bytesOf, Function.comp_def]
    rw [this]; simp
  have h1 := key a g off ha
  have h2 := key b g' off' hb
  simp only [Extern.Bytes.bytesOf, Sem.run_bind, Sem.run_pure, Result.andThen, h1, h2]
  rw [Lib.cmp_eq]
  simp [goInt]
set_option maxRecDepth 100000 in
theorem bytesCompare_any (w : World) (a b : List UInt8) (g off g' off' c c' : Nat) (ha : ∀ j x, a[j]? = some x → w.cell? ⟨g, off + j, none⟩ = some (.int .u8 (x.toNat : Int))) (hb : ∀ j x, b[j]? = some x → w.cell? ⟨g', off' + j, none⟩ = some (.int .u8 (x.toNat : Int))) :
    Calls Try.prog 42 #[.slice (some ⟨g, off, none⟩) a.length c, .slice (some ⟨g', off', none⟩) b.length c'] w fun e w' => e = .returned (.int .i64 (compareBytes a b)) ∧ w = w' := by
  have hr := run_compareBytes w a b g off g' off' c c' ha hb
  go_enter Try.func42, Try.ntmps42
  go_wp2
  rw [run_callFunc_extern Try.func54 (by kernel_rfl) (by kernel_rfl) (by kernel_rfl) (e := Extern.BytealgCompare.compare) (by kernel_rfl), hr]
  simp only [Result.andThen]
  rw [Oper.upon_value]
  go_wp2
  go_ret
  exact ⟨rfl, rfl⟩
theorem isNaN_any (s : ByteArray) (w : World) : Calls Try.prog 72 #[.string s] w fun e w' => e = .returned (.bool false) ∧ w = w' := by
  go_enter Try.func72, Try.ntmps72
  go_wp2
  all_goals go_ret
  all_goals simp
theorem compare_cases : ∀ (a b : List UInt8), compareBytes a b = if Op.bytesLess a b then -1 else if Op.bytesLess b a then 1 else 0
  | [], [] => rfl
  | [], _ :: _ => by simp [compareBytes, Op.bytesLess]
  | _ :: _, [] => by simp [compareBytes, Op.bytesLess]
  | x :: a, y :: b => by
    have ih := compare_cases a b
    unfold compareBytes Op.bytesLess
    by_cases h1 : x < y
    · simp [h1]
    · by_cases h2 : y < x
      · have : ¬ x = y := fun e => by subst e; exact h1 h2
        simp [h1, h2, this]
      · have : x = y := UInt8.le_antisymm (UInt8.not_lt.1 h2) (UInt8.not_lt.1 h1)
        subst this
        simp [h1, ih]
theorem bytesLess_asymm : ∀ (a b : List UInt8), Op.bytesLess a b = true → Op.bytesLess b a = false
  | [], [], h => by simp [Op.bytesLess] at h
  | [], _ :: _, _ => by simp [Op.bytesLess]
  | _ :: _, [], h => by simp [Op.bytesLess] at h
  | x :: a, y :: b, h => by
    simp only [Op.bytesLess, Bool.or_eq_true, Bool.and_eq_true, decide_eq_true_eq, beq_iff_eq] at h
    simp only [Op.bytesLess, Bool.or_eq_false_iff, decide_eq_false_iff_not, Bool.and_eq_false_iff, beq_eq_false_iff_ne]
    rcases h with h | ⟨rfl, h⟩
    · exact ⟨fun h' => absurd (UInt8.lt_trans h h') (UInt8.lt_irrefl _), .inl (fun e => by subst e; exact UInt8.lt_irrefl _ h)⟩
    · exact ⟨UInt8.lt_irrefl _, .inr (bytesLess_asymm a b h)⟩
theorem bytesLess_irrefl (a : List UInt8) : Op.bytesLess a a = false := by
  cases h : Op.bytesLess a a with
  | false => rfl
  | true => exact absurd (bytesLess_asymm a a h) (by rw [h]; simp)
theorem bytesLess_total : ∀ (a b : List UInt8), a ≠ b → Op.bytesLess a b = false → Op.bytesLess b a = true
  | [], [], h, _ => absurd rfl h
  | [], _ :: _, _, h => by simp [Op.bytesLess] at h
  | _ :: _, [], _, _ => by simp [Op.bytesLess]
  | x :: a, y :: b, hne, h => by
    simp only [Op.bytesLess, Bool.or_eq_false_iff, decide_eq_false_iff_not, Bool.and_eq_false_iff, beq_eq_false_iff_ne] at h
    simp only [Op.bytesLess, Bool.or_eq_true, Bool.and_eq_true, decide_eq_true_eq, beq_iff_eq]
    by_cases e : x = y
    · subst e
      refine .inr ⟨rfl, bytesLess_total a b (fun e => hne (by rw [e])) ?_⟩
      exact h.2.resolve_left (fun h' => h' rfl)
    · exact .inl (UInt8.lt_of_le_of_ne (UInt8.not_lt.1 h.1) (Ne.symm e))
theorem cmpString_any (a b : List UInt8) (w : World) : Calls Try.prog 59 #[.string ⟨a.toArray⟩, .string ⟨b.toArray⟩] w fun e w' => e = .returned (.int .i64 (compareBytes a b)) ∧ w = w' := by
  have hta := Agg.bytes_toList a
  have htb := Agg.bytes_toList b
  rw [compare_cases]
  by_cases hab : a = b
  · subst hab
    have h1 := bytesLess_irrefl a
    rw [h1]
    go_enter Try.func59, Try.ntmps59
    go_wp2_with (go_at_call 72; refine (isNaN_any _ _).mono ?_; rintro e w' ⟨rfl, rfl⟩)
    go_ret
    exact ⟨rfl, rfl⟩
  · have hb : (a == b) = false := by simpa using hab
    cases h1 : Op.bytesLess a b with
    | true =>
      have h2 := bytesLess_asymm _ _ h1
      go_enter Try.func59, Try.ntmps59
      go_wp2_with (go_at_call 72; refine (isNaN_any _ _).mono ?_; rintro e w' ⟨rfl, rfl⟩)
      go_ret
      exact ⟨rfl, rfl⟩
    | false =>
      have h2 := bytesLess_total _ _ hab h1
      rw [h2]
      go_enter Try.func59, Try.ntmps59
      go_wp2_with (go_at_call 72; refine (isNaN_any _ _).mono ?_; rintro e w' ⟨rfl, rfl⟩)
      go_ret
      exact ⟨rfl, rfl⟩
theorem pC_byte (h n : List UInt8) (j : Nat) (x : UInt8) (hj : h[j]? = some x) : (pC h n)[j]? = some (.int .u8 (x.toNat : Int)) := by
  have hlt := (List.getElem?_eq_some_iff.1 hj).1
  have := pC_hash h n j (.int .u8 (x.toNat : Int)) (by rw [hC_get h j hlt]; rw [List.getElem?_eq_getElem hlt] at hj; rw [Option.some.inj hj])
  simpa using this
theorem slice_hash (g : Nat) (w : World) : (Instr.sliceAt 30 (.pointer (some ⟨g, 0, none⟩)) none none none).run Try.prog w = .ok (.slice (some ⟨g, 0, none⟩) 20 20) w := by kernel_rfl
set_option maxRecDepth 100000 in
set_option maxHeartbeats 1000000 in
theorem order_any (h n h' n' : List UInt8) (hl : h.length = 20) (hl' : h'.length = 20) (w : World) :
    Calls Try.prog 46 #[.agg (pC h n), .agg (pC h' n')] w fun e w' => e = .returned (.int .i64 (cmpP h n h' n')) ∧ Below w.heap.size w w' := by
  have hb1 := heap_alloc_new (w.alloc (.cells (pC h n) 32)) (.cells (pC h' n') 32)
  have hb0 : ((w.alloc (.cells (pC h n) 32)).alloc (.cells (pC h' n') 32)).heap[w.heap.size]? = _ := (heap_alloc_old _ _ (by simp)).trans (heap_alloc_new w (.cells (pC h n) 32))
  have hw : Below w.heap.size w ((w.alloc (.cells (pC h n) 32)).alloc (.cells (pC h' n') 32)) := ((Below.refl _ _).alloc (Nat.le_refl _) _).alloc (by simp) _
  rw [show (w.alloc (.cells (pC h n) 32)).heap.size = w.heap.size + 1 by simp] at hb1
  have HL := Lib.hid hl
  have HL' := Lib.hid hl'
  clear hl hl'
  have hq0 : (Instr.loadAt 30 (.pointer (some ⟨w.heap.size, 0, none⟩))).run Try.prog ((w.alloc (.cells (pC h n) 32)).alloc (.cells (pC h' n') 32)) = _ := Agg.run_loadAt_sub hb0 (pC_hash h n) Try.underlying30 rfl (hC_info _ HL.out)
  have hq1 : (Instr.loadAt 30 (.pointer (some ⟨w.heap.size + 1, 0, none⟩))).run Try.prog ((w.alloc (.cells (pC h n) 32)).alloc (.cells (pC h' n') 32)) = _ := Agg.run_loadAt_sub hb1 (pC_hash h' n') Try.underlying30 rfl (hC_info _ HL'.out)
  have hqq : ∀ w, (binOp .eql 30 (.agg (hC h)) (.agg (hC h'))).run Try.prog w = .ok (.bool (h == h')) w := fun w => eql_hash _ _ HL.out HL'.out w
  cases hh : (h == h') with
  | true =>
    have hcm : cmpP h n h' n' = compareBytes n n' := by simp [cmpP, hh]
    have c0 : ((w.alloc (.cells (pC h n) 32)).alloc (.cells (pC h' n') 32)).cell? ⟨w.heap.size, 20, none⟩ = some (.string ⟨n.toArray⟩) := by rw [cell_of_row _ _ _ _ _ _ hb0, pC_name h n HL.out]
    have c1 : ((w.alloc (.cells (pC h n) 32)).alloc (.cells (pC h' n') 32)).cell? ⟨w.heap.size + 1, 20, none⟩ = some (.string ⟨n'.toArray⟩) := by rw [cell_of_row _ _ _ _ _ _ hb1, pC_name h' n' HL'.out]
    rw [hh] at hqq
    have HH := Lib.hid hh
    clear hh
    rw [hcm]
    clear hcm
    go_enter Try.func46, Try.ntmps46
    go_wp2_with (first | (with_reducible refine Agg.wpList_loadw 30 _ rfl rfl (.pointer (some ⟨w.heap.size, 0, none⟩)) rfl (.agg (hC h)) hq0 ?_) | (with_reducible refine Agg.wpList_loadw 30 _ rfl rfl (.pointer (some ⟨w.heap.size + 1, 0, none⟩)) rfl (.agg (hC h')) hq1 ?_) | (with_reducible refine Agg.wpList_eqlw 30 30 _ _ rfl rfl (hC h) (hC h') rfl rfl true (by kernel_rfl) hqq ?_))
    refine (cmpString_any _ _ _).mono ?_
    rintro e w1 ⟨rfl, rfl⟩
    go_wp2_with fail
    go_ret
    exact ⟨rfl, hw⟩
  | false =>
    have hcm : cmpP h n h' n' = compareBytes h h' := by simp [cmpP, hh]
    rw [hh] at hqq
    have HH := Lib.hid hh
    clear hh
    rw [hcm]
    clear hcm
    go_enter Try.func46, Try.ntmps46
    go_wp2_with (first | (with_reducible refine Agg.wpList_loadw 30 _ rfl rfl (.pointer (some ⟨w.heap.size, 0, none⟩)) rfl (.agg (hC h)) hq0 ?_) | (with_reducible refine Agg.wpList_loadw 30 _ rfl rfl (.pointer (some ⟨w.heap.size + 1, 0, none⟩)) rfl (.agg (hC h')) hq1 ?_) | (with_reducible refine Agg.wpList_eqlw 30 30 _ _ rfl rfl (hC h) (hC h') rfl rfl false (by kernel_rfl) hqq ?_))
    clear hq0 hq1 hqq
    generalize (w.alloc (.cells (pC h n) 32)).alloc (.cells (pC h' n') 32) = w0 at *
    have hcc : ∀ x : Later w0, Calls Try.prog 42 #[.slice (some ⟨w.heap.size, 0, none⟩) 20 20, .slice (some ⟨w.heap.size + 1, 0, none⟩) 20 20] x.w fun e w' => e = .returned (.int .i64 (compareBytes h h')) ∧ x.w = w' := fun x => by
      have := bytesCompare_any x.w h h' w.heap.size 0 (w.heap.size + 1) 0 20 20 (fun j y hj => by rw [Nat.zero_add, cell_of_row _ _ _ _ _ _ (x.heap hb0), pC_byte h n j y hj]) (fun j y hj => by rw [Nat.zero_add, cell_of_row _ _ _ _ _ _ (x.heap hb1), pC_byte h' n' j y hj])
      rwa [HL.out, HL'.out] at this
    have hs := slice_hash
    simp only [Act.put, List.setIfInBounds_toArray, List.set_cons_succ, List.set_cons_zero]
    refine Agg.wp_region_later_lit (by kernel_rfl) (by kernel_rfl) ?_
    repeat go_big_quiet_step ((go_at_call 42; exact Agg.Calls.later_same (hcc _)))
    refine wpQuiet_nil ?_
    intro _ hw'
    obtain ⟨x, rfl⟩ := hw'
    go_wp2_with fail
    go_ret
    exact ⟨rfl, Agg.belowThen hw (Nat.le_refl _) x.h⟩
end Go.Proofs.Ytniibcgomnjfgaa
/-! A path as a map's key. -/
namespace Go.Proofs.Ytniibcgomnjfgaa
open Go.RowKit Pl Go.Mp Go.Agg Go.Instr
theorem part_byte (h : List UInt8) (i : Nat) (hi : i < h.length) (w : World) : (Go.part 5 (hC h) i).run Try.prog w = .ok (.int .u8 (h[i].toNat : Int)) w := by
  unfold Go.part
  have : (isAgg 5).run Try.prog w = .ok false w := by kernel_rfl
  simp only [Sem.run_bind, this, Result.andThen_ok, Bool.false_eq_true, if_false, hC_get h i hi, Sem.run_pure]
theorem check_byte (e : Bool) (n : Nat) (k : Int) (w : World) : (checkKey e (n + 1) 5 (.int .u8 k)).run Try.prog w = .ok () w := by
  unfold checkKey
  rw [Sem.run_bind, run_underlying Try.underlying5 w]
  simp [Result.andThen]
theorem check_hash (e : Bool) (n : Nat) (h : List UInt8) (hl : h.length = 20) (w : World) : (checkKey e (n + 2) 30 (.agg (hC h))).run Try.prog w = .ok () w := by
  unfold checkKey
  rw [Sem.run_bind, run_underlying Try.underlying30 w]
  have hsz : ∀ w, (Go.sizeOf 5).run Try.prog w = .ok 1 w := fun w => by kernel_rfl
  simp only [Result.andThen_ok, Std.Legacy.Range.forIn_eq_forIn_range', Std.Legacy.Range.size, Nat.sub_zero, Nat.add_sub_cancel, Nat.div_one]
  have hall : ∀ i ∈ List.range' 0 20 1, i < h.length := fun i hi => by have := List.mem_range'_1.1 hi; omega
  generalize List.range' 0 20 1 = l at hall ⊢
  induction l with
  | nil => simp
  | cons i l ih =>
    simp only [List.forIn_cons, Sem.run_bind, hsz, Result.andThen_ok, Nat.mul_one, part_byte h i (hall i (by simp)), check_byte, Sem.run_pure]
    have := ih fun j hj => hall j (by simp [hj])
    simp only [Sem.run_bind, Sem.run_pure] at this ⊢
    exact this
theorem check_path (e : Bool) (n : Nat) (p : P20) (w : World) : (checkKey e (n + 3) 32 (pV p)).run Try.prog w = .ok () w := by
  unfold checkKey pV
  rw [Sem.run_bind, run_underlying pC_under w]
  simp only [Result.andThen_ok]
  rw [← Array.forIn_toList]
  have hf := path_fields
  generalize (Try.prog.fieldsOf 32).toList = fs at hf ⊢
  cases fs with
  | nil => exact absurd hf (by simp)
  | cons f1 fs =>
  cases fs with
  | nil => exact absurd hf (by simp)
  | cons f2 fs =>
  cases fs with
  | cons f3 fs => exact absurd hf (by simp)
  | nil =>
    simp only [List.map_cons, List.map_nil, List.cons.injEq, Prod.mk.injEq, and_true] at hf
    obtain ⟨⟨a1, a2, a3⟩, b1, b2, b3⟩ := hf
    have hstr : ∀ w, (checkKey e (n + 2) 9 (.string ⟨p.1.2.toArray⟩)).run Try.prog w = .ok () w := fun w => by
      unfold checkKey
      rw [Sem.run_bind, run_underlying Try.underlying9 w]
      simp [Result.andThen]
    simp [a1, a2, a3, b1, b2, b3, part_hash _ _ p.2, part_name _ _ p.2, check_hash e n _ p.2, hstr]
theorem bits_all (n : Nat) : ∀ (l : List Value), (∀ v ∈ l, sameBits n v v = true) → (l.zip l).all (fun (x, y) => sameBits n x y) = true
  | [], _ => rfl
  | v :: l, h => by
    simp only [List.zip_cons_cons, List.all_cons, Bool.and_eq_true]
    exact ⟨h v (by simp), bits_all n l fun u hu => h u (by simp [hu])⟩
theorem bits_path (n : Nat) (p : P20) : sameBits (n + 1) (pV p) (pV p) = true := by
  unfold pV sameBits
  simp only [beq_self_eq_true, Bool.true_and]
  refine bits_all n _ fun v hv => ?_
  simp only [pC, hC, Lib.byteCells, Array.toList_append, List.mem_append, List.mem_map] at hv
  rcases hv with ⟨c, _, rfl⟩ | hv
  · unfold sameBits; simp
  · obtain rfl : v = .string ⟨p.1.2.toArray⟩ := by simpa using hv
    unfold sameBits
    rw [beq_toListBytes]
    simp
set_option maxRecDepth 100000 in
theorem path_key : KeyEq Try.prog 32 pV where
  check := fun e p w => check_path e 9997 p w
  desc := ⟨_, pC_under, .inr ⟨fun a b => rfl, fun a b w => by
    have h := eql_path a.1.1 a.1.2 b.1.1 b.1.2 a.2 b.2 w
    rw [run_eql_struct] at h
    unfold Op.equal Op.maxDepth
    generalize hr : (Op.equalIn 10000 32 (.agg (pC a.1.1 a.1.2)) (.agg (pC b.1.1 b.1.2))).run Try.prog w = r at h
    unfold pV
    rw [hr]
    cases r with
    | ok x w' =>
      simp [Result.andThen] at h
      obtain ⟨rfl, rfl⟩ := h
      congr 1
      rw [Bool.eq_iff_iff]
      simp [Subtype.ext_iff, Prod.ext_iff]
    | halt x w' => simp [Result.andThen] at h⟩⟩
  bits := fun p => bits_path 9999 p
end Go.Proofs.Ytniibcgomnjfgaa
/-! A hash as a map's key. -/
namespace Go.Proofs.Ytniibcgomnjfgaa
open Go.RowKit Pl Go.Mp Go.Agg Go.Instr
def hV (h : H20) : Value := .agg (hC h.1)
theorem bits_hash (n : Nat) (h : H20) : sameBits (n + 1) (hV h) (hV h) = true := by
  unfold hV sameBits
  simp only [beq_self_eq_true, Bool.true_and]
  refine bits_all n _ fun v hv => ?_
  simp only [hC, Lib.byteCells, List.mem_map] at hv
  obtain ⟨c, _, rfl⟩ := hv
  unfold sameBits; simp
set_option maxRecDepth 100000 in
theorem hash_key : KeyEq Try.prog 30 hV where
  check := fun e h w => check_hash e 9998 h.1 h.2 w
  desc := ⟨_, Try.underlying30, .inr ⟨fun a b => rfl, fun a b w => by
    have h := eql_hash a.1 b.1 a.2 b.2 w
    rw [run_eql_struct] at h
    unfold Op.equal Op.maxDepth
    generalize hr : (Op.equalIn 10000 30 (.agg (hC a.1)) (.agg (hC b.1))).run Try.prog w = r at h
    unfold hV
    rw [hr]
    cases r with
    | ok x w' =>
      simp [Result.andThen] at h
      obtain ⟨rfl, rfl⟩ := h
      congr 1
      rw [Bool.eq_iff_iff]
      simp [Subtype.ext_iff]
    | halt x w' => simp [Result.andThen] at h⟩⟩
  bits := fun p => bits_hash 9999 p
end Go.Proofs.Ytniibcgomnjfgaa
/-! Maps that a call makes: a look-up that does not ask whether it is there; what a new key leaves. -/
namespace Go.Mp
open Go.RowKit Go.Instr
section
variable {P : Program} {α β : Type} [DecidableEq α]
/-- what a look-up yields -/
def mval {β : Type} (ν : β → Value) (z : Value) : Option β → Value | some v => ν v | none => z
/-- 'v := m[k]' -/
theorem run_lookup0 {t K E : TypeId} {w : World} {b : Nat} {κ : α → Value} {ν : β → Value} {m : List (α × β)} {z : Value} (ht : P.underlying t = some (.map K E)) (hK : KeyEq P K κ) (hz : ∀ w, (zeroValue E).run P w = .ok z w)
    (h : MapIs w b κ ν m) (a : α) :
    (lookup t (.map (some b)) (κ a) false).run P w = .ok (mval ν z (mget m a)) w := by
  obtain ⟨es, c, hb, he⟩ := h
  unfold lookup
  rw [Sem.run_bind, run_underlying ht w]
  simp only [Result.andThen, Sem.run_bind, getObj, Sem.run, hb, Sem.run_pure, hK.check, findKey_eq hK a m es.toList w he]
  have hg := place_get m a 0
  cases hp : place m a 0 with
  | none =>
    rw [hp] at hg
    simp [← hg, hz, mval]
  | some x =>
    rw [hp] at hg
    simp [← hg, mval]
theorem mput_new' (m : List (α × β)) (x : α) (v : β) (h : mget m x = none) : mput m x v = m ++ [(x, v)] := by
  induction m with
  | nil => rfl
  | cons p r ih =>
    by_cases e : x = p.1
    · simp [mget, e] at h
    · have h' : mget r x = none := by simpa [mget, e] using h
      simp [mput, e, ih h']
theorem mget_none (m : List (α × β)) (x : α) (h : ¬ x ∈ m.map (·.1)) : mget m x = none := by
  unfold mget
  rw [List.find?_eq_none.2]
  · rfl
  · intro y hy
    simp only [decide_eq_true_eq]
    rintro rfl
    exact h (List.mem_map.2 ⟨y, hy, rfl⟩)
theorem mget_some (m : List (α × β)) (x : α) (v : β) (h : x ∈ m.map (·.1)) (hv : ∀ p ∈ m, p.2 = v) : mget m x = some v := by
  unfold mget
  cases hf : m.find? (fun p => decide (x = p.1)) with
  | some y => simp only [Option.map_some]; rw [hv y (List.mem_of_find?_eq_some hf)]
  | none =>
    rw [List.find?_eq_none] at hf
    obtain ⟨y, hy, rfl⟩ := List.mem_map.1 h
    exact absurd (hf y hy) (by simp)
variable {ops : Array Oper} {rest : List Oper} {o : Oper} {a : Act} {w : World} {Q : Exit → Act → World → Prop}
theorem wpList_lookup0 (hg : o.guard = none) (mo xo : Operand) (t K E : TypeId) (hop : o.op = Op.lookup t mo xo false) (ht : P.underlying t = some (.map K E)) {κ : α → Value} {ν : β → Value} {z : Value}
    (hK : KeyEq P K κ) (hz : ∀ w, (zeroValue E).run P w = .ok z w) {b : Nat} {m : List (α × β)} (hm : a.eval mo = .map (some b)) (h : MapIs w b κ ν m) (x : α) (hx : a.eval xo = κ x) (r : Value) (hr : mval ν z (mget m x) = r)
    (hk : wpList P ops Q rest (a.put o.dst r) w) : wpList P ops Q (o :: rest) a w := by
  refine wpList_plain hg fun K' hK' => ?_
  unfold Oper.wp
  simp [execOp, hop, hm, hx, run_lookup0 ht hK hz h x, Result.andThen, hr]
  exact hK' _ _ hk
omit [DecidableEq α] in
/-- 'make(map[K]V)', 'map[K]V{}' -/
theorem wpList_makeMap (κ : α → Value) (ν : β → Value) (hg : o.guard = none) (t : TypeId) (hop : o.op = Op.makeMap t none)
    (h : ∀ g w', MapIs w' g κ ν [] → Below w.heap.size w w' → w.heap.size ≤ g → wpList P ops Q rest (a.put o.dst (.map (some g))) w') : wpList P ops Q (o :: rest) a w := by
  refine wpList_plain hg fun K' hK' => ?_
  unfold Oper.wp
  simp [execOp, hop, run_makeMap, Result.andThen]
  exact hK' _ _ (h _ _ (MapIs.empty w κ ν) ((Below.refl _ _).alloc (Nat.le_refl _) _) (Nat.le_refl _))
end
end Go.Mp
/-! real.some with a closure that asks for a class, a key, a held path. -/
namespace Go.Proofs.Ytniibcgomnjfgaa
open Go.RowKit Pl Go.Agg Go.Mp
theorem filter_take {l : List BuV} {p : Bu → Bool} {k : Nat} {x : BuV} (hx : l[k]? = some x) : ((l.take (k + 1)).map (·.1)).filter p = ((l.take k).map (·.1)).filter p ++ if p x.1 then [x.1] else [] := by
  rw [List.take_add_one, hx]
  simp [List.filter_append, List.filter_cons]
def heldM (l : List P20) : List (P20 × Int) := l.map fun p => (p, 1)
theorem ofClassC_any (x : BuV) (b3 : Nat) (h : H20) (w : World) (hb : LoadsL Try.prog w 30 (some ⟨b3, 0, none⟩) (.agg (hC h.1))) : Calls Try.prog 29 #[.agg (bC x), .pointer (some ⟨b3, 0, none⟩)] w fun e w' => e = .returned (.bool (decide (x.1.cl = h))) ∧ Below w.heap.size w w' := by
  have HH := Lib.hid hb
  have HE := Lib.hid (fun W => eqlHB x.1.cl h W)
  clear hb
  go_enter Try.func29, Try.ntmps29
  go_wp2_with (first | (with_reducible refine wpList_box rfl 35 _ rfl (bC x) rfl ?_; intro g1 w1 hb1 hx1 hg1; have HL1 := Lib.hid (BuG.of_blk hb1); have HH1 := Lib.hid (HH.out.below hx1); have HX1 := Lib.hid hx1; clear hb1 hx1 hg1) | (with_reducible refine wpList_loadL HL1.out.cls rfl _ rfl rfl ?_) | (with_reducible refine wpList_loadL HH1.out rfl _ rfl rfl ?_) | (with_reducible refine wpList_eqlw 30 30 _ _ rfl rfl (hC x.1.cl.1) (hC h.1) rfl rfl _ (by kernel_rfl) HE.out ?_))
  go_ret
  exact ⟨rfl, HX1.out⟩
theorem ofKeyC_any (x : BuV) (b3 : Nat) (h : H20) (w : World) (hb : LoadsL Try.prog w 30 (some ⟨b3, 0, none⟩) (.agg (hC h.1))) : Calls Try.prog 30 #[.agg (bC x), .pointer (some ⟨b3, 0, none⟩)] w fun e w' => e = .returned (.bool (decide (x.1.ky = h))) ∧ Below w.heap.size w w' := by
  have HH := Lib.hid hb
  have HE := Lib.hid (fun W => eqlHB x.1.ky h W)
  clear hb
  go_enter Try.func30, Try.ntmps30
  go_wp2_with (first | (with_reducible refine wpList_box rfl 35 _ rfl (bC x) rfl ?_; intro g1 w1 hb1 hx1 hg1; have HL1 := Lib.hid (BuG.of_blk hb1); have HH1 := Lib.hid (HH.out.below hx1); have HX1 := Lib.hid hx1; clear hb1 hx1 hg1) | (with_reducible refine wpList_loadL HL1.out.key rfl _ rfl rfl ?_) | (with_reducible refine wpList_loadL HH1.out rfl _ rfl rfl ?_) | (with_reducible refine wpList_eqlw 30 30 _ _ rfl rfl (hC x.1.ky.1) (hC h.1) rfl rfl _ (by kernel_rfl) HE.out ?_))
  go_ret
  exact ⟨rfl, HX1.out⟩
def KeptM (m : List (P20 × Int)) (held : List P20) : Prop := ∀ p, mget m p = if p ∈ held then some 1 else none
theorem zeroIB (w : World) : (zeroValue 3).run Try.prog w = .ok (.int .i64 0) w := by kernel_rfl
theorem kept_val {m : List (P20 × Int)} {held : List P20} (h : KeptM m held) (p : P20) : mval (fun n : Int => .int .i64 n) (.int .i64 0) (mget m p) = .int .i64 (if p ∈ held then 1 else 0) := by
  rw [h p]; split <;> rfl
theorem keptC_any (x : BuV) (b3 gm : Nat) (m : List (P20 × Int)) (held : List P20) (w : World) (hb : LoadsL Try.prog w 65 (some ⟨b3, 0, none⟩) (.map (some gm))) (hm : MapIs w gm pV (fun n : Int => .int .i64 n) m) (hk : KeptM m held) : Calls Try.prog 27 #[.agg (bC x), .pointer (some ⟨b3, 0, none⟩)] w fun e w' => e = .returned (.bool (decide (x.1.pa ∈ held))) ∧ Below w.heap.size w w' := by
  have HH := Lib.hid hb
  have HM := Lib.hid hm
  obtain ⟨r, hr⟩ : ∃ r, decide (x.1.pa ∈ held) = r := ⟨_, rfl⟩
  rw [hr]
  have HV := Lib.hid (show mval (fun n : Int => .int .i64 n) (.int .i64 0) (mget m x.1.pa) = .int .i64 (if r then 1 else 0) by rw [kept_val hk, ← hr]; by_cases h : x.1.pa ∈ held <;> simp [h])
  clear hb hm hr hk
  go_enter Try.func27, Try.ntmps27
  cases r
  all_goals
    go_wp2_with (first | (with_reducible refine wpList_box rfl 35 _ rfl (bC x) rfl ?_; intro g1 w1 hb1 hx1 hg1; have HL1 := Lib.hid (BuG.of_blk hb1); have HH1 := Lib.hid (HH.out.below hx1); have HM1 := Lib.hid (HM.out.keep (hx1.block _ HM.out.lt)); have HX1 := Lib.hid hx1; clear hb1 hx1 hg1) | (with_reducible refine wpList_loadL HL1.out.path rfl _ rfl rfl ?_) | (with_reducible refine wpList_loadL HH1.out rfl _ rfl rfl ?_) | (at_lookup; refine Mp.wpList_lookup0 rfl _ _ 65 32 3 rfl Try.underlying65 path_key zeroIB rfl HM1.out x.1.pa rfl _ HV.out ?_))
    go_ret
    exact ⟨rfl, HX1.out⟩
set_option maxRecDepth 100000 in
set_option maxHeartbeats 4000000 in
theorem someClass_any (v : Value) (l : List BuV) (hn : l.length ≤ 1048576) (hni : ∀ x ∈ l, x.1.ins.length ≤ 1048576) (b3 : Nat) (h : H20) (w : World) (hs : BusAt w v l) (hb : LoadsL Try.prog w 30 (some ⟨b3, 0, none⟩) (.agg (hC h.1))) :
    Calls Try.prog 26 #[v, .func (.func 29) #[] #[.pointer (some ⟨b3, 0, none⟩)]] w fun e w' => ∃ v' lv, e = .returned v' ∧ OwnBus w.heap.size w' v' lv ∧ lv.map (·.1) = (l.map (·.1)).filter (fun y => decide (y.cl = h)) ∧ Below w.heap.size w w' := by
  have HS := Lib.hid hs
  have hlv := fun W => bus_len hs W
  have HBX := Lib.hid hb
  clear hb
  clear hs
  go_enter Try.func26, Try.ntmps26
  go_wp2_with fail
  go_loopw [4, 9] (fun out i wr => ∃ (k : Nat) (lv : List BuV), k ≤ l.length ∧ i = .int .i64 k ∧ OwnBus w.heap.size wr out lv ∧ lv.map (·.1) = ((l.take k).map (·.1)).filter (fun y => decide (y.cl = h)) ∧ Below w.heap.size w wr) (fun _ i _ => l.length - (intOf i).toNat)
  case atStart => exact ⟨0, [], by omega, rfl, OwnBus.nil _ _, rfl, Below.refl _ _⟩
  case round =>
    obtain ⟨wr1, rfl⟩ : ∃ y : World, y = wr := ⟨_, rfl⟩
    obtain ⟨k, lv, hk, rfl, ho, hm, hw⟩ := hrel
    have hll : lv.length ≤ 1048576 := by
      have h1 := congrArg List.length hm
      have h2 := List.length_filter_le (fun y => decide (y.cl = h)) ((l.take k).map (·.1))
      simp only [List.length_map, List.length_take] at h1 h2; omega
    have HO := Lib.hid ho
    have HM := Lib.hid hm
    have HW := Lib.hid hw
    clear hm hw ho
    by_cases hlt : k < l.length
    · have hd : decide ((k : Int) < (l.length : Int)) = true := by simp; omega
      obtain ⟨x, hxk⟩ : ∃ x, l[k]? = some x := ⟨_, List.getElem?_eq_getElem hlt⟩
      obtain ⟨q, hadr, hq, hin⟩ := (HS.out.below HW.out).at_ k x hxk
      have HNI := Lib.hid (hni x (List.mem_of_getElem? hxk))
      have HQ := Lib.hid hq
      have HFT := Lib.hid (filter_take (p := (fun y => decide (y.cl = h))) hxk)
      have HI := Lib.hid hin
      clear hq hxk hin
      go_wp2_with (first | (with_reducible refine wpList_loadL HQ.out.all rfl _ rfl rfl ?_) | (refine wpList_new rfl rfl rfl 35 6 12 rfl rfl rfl (by decide) (bC (zB, none, 0, 0)) (bC x) bC_zero (by rw [bC_size, bC_size]) (bC_info x) (bC_one x) rfl (by simp [Act.put]) ?_; intro g2 w2 hb2 hx2 hg2; have HL2 := Lib.hid (BuG.of_blk hb2); have HX2 := Lib.hid hx2; have HW2 := Lib.hid (Agg.belowThen HW.out (Nat.le_refl _) hx2); clear hb2 hx2 hg2) | (with_reducible refine wpList_loadL HL2.out.all rfl _ rfl rfl ?_))
      refine (ofClassC_any x b3 h w2 (HBX.out.below HW2.out)).mono ?_
      rintro e w3 ⟨rfl, hx3⟩
      have HL3 := Lib.hid (HL2.out.below hx3)
      have HX3 := Lib.hid (Agg.belowThen HX2.out (Nat.le_refl _) hx3)
      clear hx3
      obtain ⟨r, hr⟩ : ∃ r, (decide (x.1.cl = h)) = r := ⟨_, rfl⟩
      simp only [hr]
      have HR := Lib.hid hr
      clear hr
      cases r with
      | false =>
        go_wp2_with fail
        go_roundw
        case rel => exact ⟨k + 1, lv, by omega, by go_num, HO.out.below HX3.out, by rw [HFT.out, HR.out, HM.out]; simp, Agg.belowThen HW.out (Nat.le_refl _) HX3.out⟩
        case measure => simp [intOf]; omega
      | true =>
      go_wp2_with (first | (with_reducible refine wpList_loadL HL3.out.all rfl _ rfl rfl ?_))
      refine (owned_any x w3 HNI.out (HI.out.below HX3.out)).mono ?_
      rintro e w4 ⟨iv, rfl, ho4, hx4⟩
      have hX4 := Agg.belowThen HX3.out (Nat.le_refl _) hx4
      have hW4 := Agg.belowThen HW.out (Nat.le_refl _) hX4
      have HO4 := Lib.hid (HO.out.below hX4)
      have HN4 := Lib.hid (ho4.lower (Agg.belowThen HW.out (Nat.le_refl _) HX3.out).size)
      have HW4 := Lib.hid hW4
      clear ho4 hx4 hX4 hW4
      go_wp2_with (first | (refine wpList_push (E := EBu) (base := w.heap.size) rfl rfl 19 rfl _ rfl _ rfl (x.1, iv) rfl (fun _ => rfl) (by simp) HO4.out.row (by omega) (by decide) HW4.out.size ?_; intro u5 v5 w5 ho5 hp5; have HO5 := Lib.hid (HO4.out.push (x := (x.1, iv)) HN4.out ho5 hp5); have HW5 := Lib.hid (HW4.out.trans (hp5.below w.heap.size (Nat.le_refl _) HW4.out.size)); clear ho5 hp5))
      go_roundw
      case rel => exact ⟨k + 1, lv ++ [(x.1, iv)], by omega, by go_num, HO5.out, by rw [HFT.out, HR.out, List.map_append, HM.out]; rfl, HW5.out⟩
      case measure => simp [intOf]; omega
    · obtain rfl : k = l.length := by omega
      go_wp2_with fail
      go_ret
      exact ⟨_, rfl, lv, HO.out, by rw [HM.out, List.take_length], HW.out⟩
set_option maxRecDepth 100000 in
set_option maxHeartbeats 4000000 in
theorem someKey_any (v : Value) (l : List BuV) (hn : l.length ≤ 1048576) (hni : ∀ x ∈ l, x.1.ins.length ≤ 1048576) (b3 : Nat) (h : H20) (w : World) (hs : BusAt w v l) (hb : LoadsL Try.prog w 30 (some ⟨b3, 0, none⟩) (.agg (hC h.1))) :
    Calls Try.prog 26 #[v, .func (.func 30) #[] #[.pointer (some ⟨b3, 0, none⟩)]] w fun e w' => ∃ v' lv, e = .returned v' ∧ OwnBus w.heap.size w' v' lv ∧ lv.map (·.1) = (l.map (·.1)).filter (fun y => decide (y.ky = h)) ∧ Below w.heap.size w w' := by
  have HS := Lib.hid hs
  have hlv := fun W => bus_len hs W
  have HBX := Lib.hid hb
  clear hb
  clear hs
  go_enter Try.func26, Try.ntmps26
  go_wp2_with fail
  go_loopw [4, 9] (fun out i wr => ∃ (k : Nat) (lv : List BuV), k ≤ l.length ∧ i = .int .i64 k ∧ OwnBus w.heap.size wr out lv ∧ lv.map (·.1) = ((l.take k).map (·.1)).filter (fun y => decide (y.ky = h)) ∧ Below w.heap.size w wr) (fun _ i _ => l.length - (intOf i).toNat)
  case atStart => exact ⟨0, [], by omega, rfl, OwnBus.nil _ _, rfl, Below.refl _ _⟩
  case round =>
    obtain ⟨wr1, rfl⟩ : ∃ y : World, y = wr := ⟨_, rfl⟩
    obtain ⟨k, lv, hk, rfl, ho, hm, hw⟩ := hrel
    have hll : lv.length ≤ 1048576 := by
      have h1 := congrArg List.length hm
      have h2 := List.length_filter_le (fun y => decide (y.ky = h)) ((l.take k).map (·.1))
      simp only [List.length_map, List.length_take] at h1 h2; omega
    have HO := Lib.hid ho
    have HM := Lib.hid hm
    have HW := Lib.hid hw
    clear hm hw ho
    by_cases hlt : k < l.length
    · have hd : decide ((k : Int) < (l.length : Int)) = true := by simp; omega
      obtain ⟨x, hxk⟩ : ∃ x, l[k]? = some x := ⟨_, List.getElem?_eq_getElem hlt⟩
      obtain ⟨q, hadr, hq, hin⟩ := (HS.out.below HW.out).at_ k x hxk
      have HNI := Lib.hid (hni x (List.mem_of_getElem? hxk))
      have HQ := Lib.hid hq
      have HFT := Lib.hid (filter_take (p := (fun y => decide (y.ky = h))) hxk)
      have HI := Lib.hid hin
      clear hq hxk hin
      go_wp2_with (first | (with_reducible refine wpList_loadL HQ.out.all rfl _ rfl rfl ?_) | (refine wpList_new rfl rfl rfl 35 6 12 rfl rfl rfl (by decide) (bC (zB, none, 0, 0)) (bC x) bC_zero (by rw [bC_size, bC_size]) (bC_info x) (bC_one x) rfl (by simp [Act.put]) ?_; intro g2 w2 hb2 hx2 hg2; have HL2 := Lib.hid (BuG.of_blk hb2); have HX2 := Lib.hid hx2; have HW2 := Lib.hid (Agg.belowThen HW.out (Nat.le_refl _) hx2); clear hb2 hx2 hg2) | (with_reducible refine wpList_loadL HL2.out.all rfl _ rfl rfl ?_))
      refine (ofKeyC_any x b3 h w2 (HBX.out.below HW2.out)).mono ?_
      rintro e w3 ⟨rfl, hx3⟩
      have HL3 := Lib.hid (HL2.out.below hx3)
      have HX3 := Lib.hid (Agg.belowThen HX2.out (Nat.le_refl _) hx3)
      clear hx3
      obtain ⟨r, hr⟩ : ∃ r, (decide (x.1.ky = h)) = r := ⟨_, rfl⟩
      simp only [hr]
      have HR := Lib.hid hr
      clear hr
      cases r with
      | false =>
        go_wp2_with fail
        go_roundw
        case rel => exact ⟨k + 1, lv, by omega, by go_num, HO.out.below HX3.out, by rw [HFT.out, HR.out, HM.out]; simp, Agg.belowThen HW.out (Nat.le_refl _) HX3.out⟩
        case measure => simp [intOf]; omega
      | true =>
      go_wp2_with (first | (with_reducible refine wpList_loadL HL3.out.all rfl _ rfl rfl ?_))
      refine (owned_any x w3 HNI.out (HI.out.below HX3.out)).mono ?_
      rintro e w4 ⟨iv, rfl, ho4, hx4⟩
      have hX4 := Agg.belowThen HX3.out (Nat.le_refl _) hx4
      have hW4 := Agg.belowThen HW.out (Nat.le_refl _) hX4
      have HO4 := Lib.hid (HO.out.below hX4)
      have HN4 := Lib.hid (ho4.lower (Agg.belowThen HW.out (Nat.le_refl _) HX3.out).size)
      have HW4 := Lib.hid hW4
      clear ho4 hx4 hX4 hW4
      go_wp2_with (first | (refine wpList_push (E := EBu) (base := w.heap.size) rfl rfl 19 rfl _ rfl _ rfl (x.1, iv) rfl (fun _ => rfl) (by simp) HO4.out.row (by omega) (by decide) HW4.out.size ?_; intro u5 v5 w5 ho5 hp5; have HO5 := Lib.hid (HO4.out.push (x := (x.1, iv)) HN4.out ho5 hp5); have HW5 := Lib.hid (HW4.out.trans (hp5.below w.heap.size (Nat.le_refl _) HW4.out.size)); clear ho5 hp5))
      go_roundw
      case rel => exact ⟨k + 1, lv ++ [(x.1, iv)], by omega, by go_num, HO5.out, by rw [HFT.out, HR.out, List.map_append, HM.out]; rfl, HW5.out⟩
      case measure => simp [intOf]; omega
    · obtain rfl : k = l.length := by omega
      go_wp2_with fail
      go_ret
      exact ⟨_, rfl, lv, HO.out, by rw [HM.out, List.take_length], HW.out⟩
set_option maxRecDepth 100000 in
set_option maxHeartbeats 4000000 in
theorem someKept_any (v : Value) (l : List BuV) (hn : l.length ≤ 1048576) (hni : ∀ x ∈ l, x.1.ins.length ≤ 1048576) (b3 gm : Nat) (mm : List (P20 × Int)) (held : List P20) (w : World) (hs : BusAt w v l) (hb : LoadsL Try.prog w 65 (some ⟨b3, 0, none⟩) (.map (some gm))) (hm : MapIs w gm pV (fun n : Int => .int .i64 n) mm) (hkm : KeptM mm held) :
    Calls Try.prog 26 #[v, .func (.func 27) #[] #[.pointer (some ⟨b3, 0, none⟩)]] w fun e w' => ∃ v' lv, e = .returned v' ∧ OwnBus w.heap.size w' v' lv ∧ lv.map (·.1) = (l.map (·.1)).filter (fun y => decide (y.pa ∈ held)) ∧ Below w.heap.size w w' := by
  have HS := Lib.hid hs
  have hlv := fun W => bus_len hs W
  have HBX := Lib.hid hb
  have HMX := Lib.hid hm
  have HKX := Lib.hid hkm
  clear hb hm hkm
  clear hs
  go_enter Try.func26, Try.ntmps26
  go_wp2_with fail
  go_loopw [4, 9] (fun out i wr => ∃ (k : Nat) (lv : List BuV), k ≤ l.length ∧ i = .int .i64 k ∧ OwnBus w.heap.size wr out lv ∧ lv.map (·.1) = ((l.take k).map (·.1)).filter (fun y => decide (y.pa ∈ held)) ∧ Below w.heap.size w wr) (fun _ i _ => l.length - (intOf i).toNat)
  case atStart => exact ⟨0, [], by omega, rfl, OwnBus.nil _ _, rfl, Below.refl _ _⟩
  case round =>
    obtain ⟨wr1, rfl⟩ : ∃ y : World, y = wr := ⟨_, rfl⟩
    obtain ⟨k, lv, hk, rfl, ho, hm, hw⟩ := hrel
    have hll : lv.length ≤ 1048576 := by
      have h1 := congrArg List.length hm
      have h2 := List.length_filter_le (fun y => decide (y.pa ∈ held)) ((l.take k).map (·.1))
      simp only [List.length_map, List.length_take] at h1 h2; omega
    have HO := Lib.hid ho
    have HM := Lib.hid hm
    have HW := Lib.hid hw
    clear hm hw ho
    by_cases hlt : k < l.length
    · have hd : decide ((k : Int) < (l.length : Int)) = true := by simp; omega
      obtain ⟨x, hxk⟩ : ∃ x, l[k]? = some x := ⟨_, List.getElem?_eq_getElem hlt⟩
      obtain ⟨q, hadr, hq, hin⟩ := (HS.out.below HW.out).at_ k x hxk
      have HNI := Lib.hid (hni x (List.mem_of_getElem? hxk))
      have HQ := Lib.hid hq
      have HFT := Lib.hid (filter_take (p := (fun y => decide (y.pa ∈ held))) hxk)
      have HI := Lib.hid hin
      clear hq hxk hin
      go_wp2_with (first | (with_reducible refine wpList_loadL HQ.out.all rfl _ rfl rfl ?_) | (refine wpList_new rfl rfl rfl 35 6 12 rfl rfl rfl (by decide) (bC (zB, none, 0, 0)) (bC x) bC_zero (by rw [bC_size, bC_size]) (bC_info x) (bC_one x) rfl (by simp [Act.put]) ?_; intro g2 w2 hb2 hx2 hg2; have HL2 := Lib.hid (BuG.of_blk hb2); have HX2 := Lib.hid hx2; have HW2 := Lib.hid (Agg.belowThen HW.out (Nat.le_refl _) hx2); clear hb2 hx2 hg2) | (with_reducible refine wpList_loadL HL2.out.all rfl _ rfl rfl ?_))
      refine (keptC_any x b3 gm mm held w2 (HBX.out.below HW2.out) (HMX.out.keep (HW2.out.block _ HMX.out.lt)) HKX.out).mono ?_
      rintro e w3 ⟨rfl, hx3⟩
      have HL3 := Lib.hid (HL2.out.below hx3)
      have HX3 := Lib.hid (Agg.belowThen HX2.out (Nat.le_refl _) hx3)
      clear hx3
      obtain ⟨r, hr⟩ : ∃ r, (decide (x.1.pa ∈ held)) = r := ⟨_, rfl⟩
      simp only [hr]
      have HR := Lib.hid hr
      clear hr
      cases r with
      | false =>
        go_wp2_with fail
        go_roundw
        case rel => exact ⟨k + 1, lv, by omega, by go_num, HO.out.below HX3.out, by rw [HFT.out, HR.out, HM.out]; simp, Agg.belowThen HW.out (Nat.le_refl _) HX3.out⟩
        case measure => simp [intOf]; omega
      | true =>
      go_wp2_with (first | (with_reducible refine wpList_loadL HL3.out.all rfl _ rfl rfl ?_))
      refine (owned_any x w3 HNI.out (HI.out.below HX3.out)).mono ?_
      rintro e w4 ⟨iv, rfl, ho4, hx4⟩
      have hX4 := Agg.belowThen HX3.out (Nat.le_refl _) hx4
      have hW4 := Agg.belowThen HW.out (Nat.le_refl _) hX4
      have HO4 := Lib.hid (HO.out.below hX4)
      have HN4 := Lib.hid (ho4.lower (Agg.belowThen HW.out (Nat.le_refl _) HX3.out).size)
      have HW4 := Lib.hid hW4
      clear ho4 hx4 hX4 hW4
      go_wp2_with (first | (refine wpList_push (E := EBu) (base := w.heap.size) rfl rfl 19 rfl _ rfl _ rfl (x.1, iv) rfl (fun _ => rfl) (by simp) HO4.out.row (by omega) (by decide) HW4.out.size ?_; intro u5 v5 w5 ho5 hp5; have HO5 := Lib.hid (HO4.out.push (x := (x.1, iv)) HN4.out ho5 hp5); have HW5 := Lib.hid (HW4.out.trans (hp5.below w.heap.size (Nat.le_refl _) HW4.out.size)); clear ho5 hp5))
      go_roundw
      case rel => exact ⟨k + 1, lv ++ [(x.1, iv)], by omega, by go_num, HO5.out, by rw [HFT.out, HR.out, List.map_append, HM.out]; rfl, HW5.out⟩
      case measure => simp [intOf]; omega
    · obtain rfl : k = l.length := by omega
      go_wp2_with fail
      go_ret
      exact ⟨_, rfl, lv, HO.out, by rw [HM.out, List.take_length], HW.out⟩
end Go.Proofs.Ytniibcgomnjfgaa
