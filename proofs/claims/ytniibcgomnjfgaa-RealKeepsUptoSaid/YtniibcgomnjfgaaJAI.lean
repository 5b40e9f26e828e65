/- base.Sorted at every slice of paths. (Several texts in one.) -/
import Derived.Test.YtniibcgomnjfgaaProg
import Derived.Shelf.SlGeneric
import Derived.Ground.SlsfProg
import Derived.Shelf.SlSortCmp.WholeK
import Derived.Test.YtniibcgomnjfgaaJAH
import Derived.Sort.Grow
import Derived.Deep.QuietTactic
import Derived.Test.YtniibcgomnjfgaaJAB
import Derived.Sort.Statements
import Derived.Test.YtniibcgomnjfgaaJAD
import Derived.Test.YtniibcgomnjfgaaJAA
import Derived.Test.YtniibcgomnjfgaaJAC
import Derived.Great.BuildSlice
import Derived.Shelf.SlSortCmp.NoneTotal
/-! DERIVED: THE SHELF's CONTRACTS AT THIS DUMP, IN PLAIN WORDS (tools/lay-plain.mjs out of 'TryShelf.lean', which tools/lay-shelf.mjs wrote): THE SAME DECLARATIONS UNDER THE SAME NAMES: 'import', 'namespace', 'open', 'def', 'theorem' AND NOTHING ELSE: no command of the shelf's: FOR A HAND-IN. Each laying: the table of numbers ('.._ren') and one theorem, a field a fact of the dump's own or the kernel's comparison; each contract: ONE APPLICATION. -/
namespace Go.Proofs
open Go.Shelf
def Try.sortPath_ren : Go.Shelf.Ren := ⟨fun | 6 => 45 | 15 => 58 | 14 => 57 | 28 => 70 | 29 => 71 | 20 => 62 | 21 => 63 | 22 => 64 | 23 => 65 | 24 => 66 | 25 => 67 | 26 => 68 | 27 => 69 | 46 => 75 | 47 => 76 | 48 => 77 | 49 => 78 | 50 => 79 | 57 => 80 | n => n, fun | 22 => 40 | 24 => 32 | 25 => 90 | 3 => 3 | 39 => 97 | 0 => 0 | 53 => 115 | 55 => 95 | 4 => 4 | 46 => 109 | 45 => 108 | 50 => 78 | 5 => 5 | 9 => 9 | 66 => 118 | 70 => 122 | 76 => 124 | 77 => 125 | n => n, fun | n => n⟩
theorem Try.sortPath : Go.Proofs.SlLaysF0.n6 Try.prog Try.sortPath_ren := {
  mixed := by kernel_rfl
  f6 := ⟨Try.f45.name, by decide, Try.func45.trans (congrArg some (by kernel_rfl))⟩
  f14 := ⟨Try.f57.name, by decide, Try.func57.trans (congrArg some (by kernel_rfl))⟩
  f15 := Try.func58.trans (congrArg some (by kernel_rfl))
  f20 := ⟨Try.f62.name, by decide, Try.func62.trans (congrArg some (by kernel_rfl))⟩
  f21 := ⟨Try.f63.name, by decide, Try.func63.trans (congrArg some (by kernel_rfl))⟩
  f22 := ⟨Try.f64.name, by decide, Try.func64.trans (congrArg some (by kernel_rfl))⟩
  f23 := ⟨Try.f65.name, by decide, Try.func65.trans (congrArg some (by kernel_rfl))⟩
  f24 := ⟨Try.f66.name, by decide, Try.func66.trans (congrArg some (by kernel_rfl))⟩
  f25 := ⟨Try.f67.name, by decide, Try.func67.trans (congrArg some (by kernel_rfl))⟩
  f26 := ⟨Try.f68.name, by decide, Try.func68.trans (congrArg some (by kernel_rfl))⟩
  f27 := ⟨Try.f69.name, by decide, Try.func69.trans (congrArg some (by kernel_rfl))⟩
  f28 := Try.func70.trans (congrArg some (by kernel_rfl))
  f29 := Try.func71.trans (congrArg some (by kernel_rfl))
  f46 := ⟨Try.f75.name, by decide, Try.func75.trans (congrArg some (by kernel_rfl))⟩
  f47 := Try.func76.trans (congrArg some (by kernel_rfl))
  f48 := Try.func77.trans (congrArg some (by kernel_rfl))
  f49 := ⟨Try.f78.name, by decide, Try.func78.trans (congrArg some (by kernel_rfl))⟩
  f50 := ⟨Try.f79.name, by decide, Try.func79.trans (congrArg some (by kernel_rfl))⟩
  f57 := ⟨Try.f80.name, by decide, Try.func80.trans (congrArg some (by kernel_rfl))⟩
  t0 := Try.underlying0
  a0 := Try.isAgg0
  z0 := Try.sizeOf0
  v0 := Try.zeroValue0
  t3 := Try.underlying3
  a3 := Try.isAgg3
  z3 := Try.sizeOf3
  v3 := Try.zeroValue3
  t4 := Try.underlying4
  a4 := Try.isAgg4
  z4 := Try.sizeOf4
  v4 := Try.zeroValue4
  t5 := Try.underlying5
  a5 := Try.isAgg5
  z5 := Try.sizeOf5
  v5 := Try.zeroValue5
  t9 := Try.underlying9
  a9 := Try.isAgg9
  z9 := Try.sizeOf9
  v9 := Try.zeroValue9
  t22 := Try.underlying40
  a22 := Try.isAgg40
  z22 := Try.sizeOf40
  v22 := Try.zeroValue40
  t25 := Try.underlying90
  a25 := Try.isAgg90
  z25 := Try.sizeOf90
  v25 := Try.zeroValue90
  t39 := Try.underlying97
  a39 := Try.isAgg97
  z39 := Try.sizeOf97
  v39 := Try.zeroValue97
  t45 := Try.underlying108
  a45 := Try.isAgg108
  z45 := Try.sizeOf108
  v45 := Try.zeroValue108
  t46 := Try.underlying109
  a46 := Try.isAgg109
  z46 := Try.sizeOf109
  v46 := Try.zeroValue109
  t50 := Try.underlying78
  a50 := Try.isAgg78
  z50 := Try.sizeOf78
  v50 := Try.zeroValue78
  t53 := Try.underlying115
  a53 := Try.isAgg115
  z53 := Try.sizeOf115
  v53 := Try.zeroValue115
  t55 := Try.underlying95
  a55 := Try.isAgg95
  z55 := Try.sizeOf95
  v55 := Try.zeroValue95
  t66 := Try.underlying118
  a66 := Try.isAgg118
  z66 := Try.sizeOf118
  v66 := Try.zeroValue118
  t70 := Try.underlying122
  a70 := Try.isAgg122
  z70 := Try.sizeOf122
  v70 := Try.zeroValue122
  t76 := Try.underlying124
  a76 := Try.isAgg124
  z76 := Try.sizeOf124
  v76 := Try.zeroValue124
  t77 := Try.underlying125
  a77 := Try.isAgg125
  z77 := Try.sizeOf125
  v77 := Try.zeroValue125 }
end Go.Proofs
/-! base.order, as the sort asks it: the world behind it to the last block. -/
namespace Go.Proofs.Ytniibcgomnjfgaa
open Go.RowKit Pl Go.Agg
open Go.Lib (compareBytes)
set_option maxRecDepth 100000 in
set_option maxHeartbeats 1000000 in
theorem order_grown (h n h' n' : List UInt8) (hl : h.length = 20) (hl' : h'.length = 20) (w : World) :
    Calls Try.prog 46 #[.agg (pC h n), .agg (pC h' n')] w fun e w' => e = .returned (.int .i64 (cmpP h n h' n')) ∧ ∃ q os, w' = Sort.grow (w.drewN q) os := by
  have hb1 := heap_alloc_new (w.alloc (.cells (pC h n) 32)) (.cells (pC h' n') 32)
  have hb0 : ((w.alloc (.cells (pC h n) 32)).alloc (.cells (pC h' n') 32)).heap[w.heap.size]? = _ := (heap_alloc_old _ _ (by simp)).trans (heap_alloc_new w (.cells (pC h n) 32))
  have hw : ∃ os, (w.alloc (.cells (pC h n) 32)).alloc (.cells (pC h' n') 32) = Sort.grow w os := ⟨_, by rw [Sort.alloc_eq_grow, Sort.alloc_eq_grow, Sort.grow_grow]⟩
  obtain ⟨os, hos⟩ := hw
  have HOS := Lib.hid hos
  clear hos
  rw [show (w.alloc (.cells (pC h n) 32)).heap.size = w.heap.size + 1 by simp] at hb1
  have HL := Lib.hid hl
  have HL' := Lib.hid hl'
  clear hl hl'
  have hq0 : (Instr.loadAt 30 (.pointer (some ⟨w.heap.size, 0, none⟩))).run Try.prog ((w.alloc (.cells (pC h n) 32)).alloc (.cells (pC h' n') 32)) = _ := Agg.run_loadAt_sub hb0 (pC_hash h n) Try.underlying30 rfl (hC_info _ HL.out)
  have hq1 : (Instr.loadAt 30 (.pointer (some ⟨w.heap.size + 1, 0, none⟩))).run Try.prog ((w.alloc (.cells (pC h n) 32)).alloc (.cells (pC h' n') 32)) = _ := Agg.run_loadAt_sub hb1 (pC_hash h' n') Try.underlying30 rfl (hC_info _ HL'.out)
  have hqq : ∀ w, (binOp .eql 30 (.agg (hC h)) (.agg (hC h'))).run Try.prog w = .ok (.bool (h == h')) w := fun w => eql_hash _ _ HL.out HL'.out w
  cases hh : (h == h') with
  | true =>
    have hcm : cmpP h n h' n' = compareBytes n n' := by simp [cmpP, hh]
    have c0 : ((w.alloc (.cells (pC h n) 32)).alloc (.cells (pC h' n') 32)).cell? ⟨w.heap.size, 20, none⟩ = some (.string ⟨n.toArray⟩) := by rw [cell_of_row _ _ _ _ _ _ hb0, pC_name h n HL.out]
    have c1 : ((w.alloc (.cells (pC h n) 32)).alloc (.cells (pC h' n') 32)).cell? ⟨w.heap.size + 1, 20, none⟩ = some (.string ⟨n'.toArray⟩) := by rw [cell_of_row _ _ _ _ _ _ hb1, pC_name h' n' HL'.out]
    rw [hh] at hqq
    have HH := Lib.hid hh
    clear hh
    rw [hcm]
    clear hcm
    go_enter Try.func46, Try.ntmps46
    go_wp2_with (first | (with_reducible refine Agg.wpList_loadw 30 _ rfl rfl (.pointer (some ⟨w.heap.size, 0, none⟩)) rfl (.agg (hC h)) hq0 ?_) | (with_reducible refine Agg.wpList_loadw 30 _ rfl rfl (.pointer (some ⟨w.heap.size + 1, 0, none⟩)) rfl (.agg (hC h')) hq1 ?_) | (with_reducible refine Agg.wpList_eqlw 30 30 _ _ rfl rfl (hC h) (hC h') rfl rfl true (by kernel_rfl) hqq ?_))
    refine (cmpString_any _ _ _).mono ?_
    rintro e w1 ⟨rfl, rfl⟩
    go_wp2_with fail
    go_ret
    exact ⟨rfl, 0, os, HOS.out⟩
  | false =>
    have hcm : cmpP h n h' n' = compareBytes h h' := by simp [cmpP, hh]
    rw [hh] at hqq
    have HH := Lib.hid hh
    clear hh
    rw [hcm]
    clear hcm
    go_enter Try.func46, Try.ntmps46
    go_wp2_with (first | (with_reducible refine Agg.wpList_loadw 30 _ rfl rfl (.pointer (some ⟨w.heap.size, 0, none⟩)) rfl (.agg (hC h)) hq0 ?_) | (with_reducible refine Agg.wpList_loadw 30 _ rfl rfl (.pointer (some ⟨w.heap.size + 1, 0, none⟩)) rfl (.agg (hC h')) hq1 ?_) | (with_reducible refine Agg.wpList_eqlw 30 30 _ _ rfl rfl (hC h) (hC h') rfl rfl false (by kernel_rfl) hqq ?_))
    clear hq0 hq1 hqq
    generalize (w.alloc (.cells (pC h n) 32)).alloc (.cells (pC h' n') 32) = w0 at *
    have hcc : ∀ q, Calls Try.prog 42 #[.slice (some ⟨w.heap.size, 0, none⟩) 20 20, .slice (some ⟨w.heap.size + 1, 0, none⟩) 20 20] (w0.drewN q) fun e w' => e = .returned (.int .i64 (compareBytes h h')) ∧ w0.drewN q = w' := fun q => by
      have := bytesCompare_any (w0.drewN q) h h' w.heap.size 0 (w.heap.size + 1) 0 20 20 (fun j y hj => by rw [Nat.zero_add, World.cell?_drewN, cell_of_row _ _ _ _ _ _ hb0, pC_byte h n j y hj]) (fun j y hj => by rw [Nat.zero_add, World.cell?_drewN, cell_of_row _ _ _ _ _ _ hb1, pC_byte h' n' j y hj])
      rwa [HL.out, HL'.out] at this
    have hs := slice_hash
    simp only [Act.put, List.setIfInBounds_toArray, List.set_cons_succ, List.set_cons_zero]
    go_quiet ((go_at_call 42; refine (hcc _).mono ?_; rintro e w' ⟨rfl, rfl⟩; exact ⟨rfl, _, rfl⟩))
    go_wp2_with fail
    go_ret
    exact ⟨rfl, nq, os, by rw [HOS.out]; rfl⟩
end Go.Proofs.Ytniibcgomnjfgaa
/-! (of general use) spenceref03.Less -/
namespace Go.Proofs.Ytniibcgomnjfgaa
open Go.RowKit Pl Go.Agg
open Go.Lib (compareBytes)
theorem compare_diff : ∀ (k : Nat) (a b : List UInt8) (x y : UInt8), a[k]? = some x → b[k]? = some y → a.take k = b.take k → x ≠ y → decide (compareBytes a b < 0) = decide (x < y)
  | 0, x :: a, y :: b, _, _, hx, hy, _, hne => by
    simp only [List.getElem?_cons_zero, Option.some.injEq] at hx hy
    subst hx hy
    unfold compareBytes
    by_cases h1 : x < y
    · simp [h1]
    · have h2 : y < x := UInt8.lt_of_le_of_ne (UInt8.not_lt.1 h1) (Ne.symm hne)
      simp [h1, h2]
  | k + 1, x :: a, y :: b, _, _, hx, hy, ht, hne => by
    simp only [List.getElem?_cons_succ] at hx hy
    simp only [List.take_succ_cons, List.cons.injEq] at ht
    obtain ⟨rfl, ht⟩ := ht
    have := compare_diff k a b _ _ hx hy ht hne
    unfold compareBytes
    simpa [UInt8.lt_irrefl] using this
  | 0, [], _, _, _, hx, _, _, _ => by simp at hx
  | 0, _ :: _, [], _, _, _, hy, _, _ => by simp at hy
  | _ + 1, [], _, _, _, hx, _, _, _ => by simp at hx
  | _ + 1, _ :: _, [], _, _, _, hy, _, _ => by simp at hy
theorem compare_less (a b : List UInt8) : decide (compareBytes a b < 0) = Op.bytesLess a b := by
  rw [compare_cases]
  cases Op.bytesLess a b <;> cases Op.bytesLess b a <;> simp
end Go.Proofs.Ytniibcgomnjfgaa
/-! Paths in order: the plain law of both Sorted. -/
namespace Go.Proofs.Ytniibcgomnjfgaa
open Pl
open Go.Lib (compareBytes)
theorem bytesLess_trans : ∀ (a b c : List UInt8), Op.bytesLess a b = true → Op.bytesLess b c = true → Op.bytesLess a c = true
  | [], [], _, h, _ => by simp [Op.bytesLess] at h
  | [], _ :: _, [], _, h => by simp [Op.bytesLess] at h
  | [], _ :: _, _ :: _, _, _ => by simp [Op.bytesLess]
  | _ :: _, [], _, h, _ => by simp [Op.bytesLess] at h
  | _ :: _, _ :: _, [], _, h => by simp [Op.bytesLess] at h
  | x :: a, y :: b, z :: c, h1, h2 => by
    simp only [Op.bytesLess, Bool.or_eq_true, Bool.and_eq_true, decide_eq_true_eq, beq_iff_eq] at h1 h2 ⊢
    rcases h1 with h1 | ⟨rfl, h1⟩
    · rcases h2 with h2 | ⟨rfl, h2⟩
      · exact .inl (UInt8.lt_trans h1 h2)
      · exact .inl h1
    · rcases h2 with h2 | ⟨rfl, h2⟩
      · exact .inl h2
      · exact .inr ⟨rfl, bytesLess_trans a b c h1 h2⟩
/-- how two paths stand, as the sort asks it -/
def cmp20 (p q : P20) : Int := cmpP p.1.1 p.1.2 q.1.1 q.1.2
def lt20 (p q : P20) : Bool := decide (cmp20 p q < 0)
theorem lt20_eq (p q : P20) : lt20 p q = if p.1.1 == q.1.1 then Op.bytesLess p.1.2 q.1.2 else Op.bytesLess p.1.1 q.1.1 := by
  unfold lt20 cmp20 cmpP
  split <;> exact compare_less _ _
theorem lt20_irrefl (p : P20) : lt20 p p = false := by rw [lt20_eq]; simp [bytesLess_irrefl]
theorem lt20_trans (p q r : P20) (h1 : lt20 p q = true) (h2 : lt20 q r = true) : lt20 p r = true := by
  rw [lt20_eq] at h1 h2 ⊢
  by_cases e1 : p.1.1 = q.1.1 <;> by_cases e2 : q.1.1 = r.1.1
  · have e3 : p.1.1 = r.1.1 := e1.trans e2
    simp only [beq_iff_eq, e1, e2, if_true] at h1 h2 ⊢
    exact bytesLess_trans _ _ _ h1 h2
  · have e3 : ¬ p.1.1 = r.1.1 := fun e => e2 (e1.symm.trans e)
    simp only [beq_iff_eq, e1, e2, if_false] at h2 ⊢
    exact h2
  · have e3 : ¬ p.1.1 = r.1.1 := fun e => e1 (e.trans e2.symm)
    simp only [beq_iff_eq, e1, e3, if_false] at h1 ⊢
    rwa [← e2]
  · simp only [beq_iff_eq, e1, e2, if_false] at h1 h2
    have h3 := bytesLess_trans _ _ _ h1 h2
    have e3 : ¬ p.1.1 = r.1.1 := fun e => by rw [e, bytesLess_irrefl] at h3; cases h3
    simp only [beq_iff_eq, e3, if_false]
    exact h3
theorem lt20_total (p q : P20) (hne : p ≠ q) (h : lt20 p q = false) : lt20 q p = true := by
  rw [lt20_eq] at h ⊢
  by_cases e : p.1.1 = q.1.1
  · have e' : q.1.1 = p.1.1 := e.symm
    simp only [beq_iff_eq, e, if_true] at h ⊢
    exact bytesLess_total _ _ (fun e2 => hne (Subtype.ext (Prod.ext e e2))) h
  · have e' : ¬ q.1.1 = p.1.1 := fun x => e x.symm
    simp only [beq_iff_eq, e, e', if_false] at h ⊢
    exact bytesLess_total _ _ e h
theorem lt20_asymm (p q : P20) (h : lt20 p q = true) : lt20 q p = false := by
  cases h2 : lt20 q p with
  | false => rfl
  | true => have := lt20_trans _ _ _ h h2; rw [lt20_irrefl] at this; cases this
theorem lt20_swo : Sort.SWO lt20 where
  irrefl := lt20_irrefl
  trans := lt20_trans
  ntrans := fun x y z h1 h2 => by
    cases h3 : lt20 x z with
    | false => rfl
    | true =>
      by_cases e : x = y
      · subst e; rw [h3] at h2; cases h2
      · have := lt20_trans _ _ _ (lt20_total _ _ e h1) h3
        rw [this] at h2; cases h2
/-- rising: each ahead of all behind it -/
def Rising (l : List P20) : Prop := l.Pairwise fun p q => lt20 p q = true
theorem rising_unique : ∀ (a b : List P20), Rising a → Rising b → (∀ x, x ∈ a ↔ x ∈ b) → a = b
  | [], [], _, _, _ => rfl
  | [], y :: b, _, _, h => absurd ((h y).2 (by simp)) (by simp)
  | x :: a, [], _, _, h => absurd ((h x).1 (by simp)) (by simp)
  | x :: a, y :: b, ha, hb, h => by
    rw [Rising, List.pairwise_cons] at ha hb
    have hxy : x = y := by
      rcases List.mem_cons.1 ((h x).1 (by simp)) with e | hx
      · exact e
      · rcases List.mem_cons.1 ((h y).2 (by simp)) with e | hy
        · exact e.symm
        · have h1 := hb.1 x hx
          have h2 := ha.1 y hy
          rw [lt20_asymm _ _ h1] at h2; cases h2
    subst hxy
    congr 1
    refine rising_unique a b ha.2 hb.2 fun z => ?_
    have hz := h z
    simp only [List.mem_cons] at hz
    constructor
    · intro hza
      rcases hz.1 (.inr hza) with e | hzb
      · subst e
        have := ha.1 z hza
        rw [lt20_irrefl] at this; cases this
      · exact hzb
    · intro hzb
      rcases hz.2 (.inr hzb) with e | hza
      · subst e
        have := hb.1 z hzb
        rw [lt20_irrefl] at this; cases this
      · exact hza
/-- a sorted list without doubles rises -/
theorem rising_of_sorted (l : List P20) (hn : l.Nodup) (hs : l.Pairwise fun p q => lt20 q p = false) : Rising l := by
  refine List.Pairwise.imp₂ ?_ hn hs
  intro p q hne h
  exact lt20_total q p (Ne.symm hne) h
end Go.Proofs.Ytniibcgomnjfgaa
/-! Slices of paths. -/

/-! slices.SortFunc at paths, by base.order. -/
namespace Go.Proofs.Ytniibcgomnjfgaa
open Go.RowKit Pl Go.Sort
theorem cmpLays20 (blk off size : Nat) (w : World) : CmpLays Try.prog 46 #[] cells20 21 cmp20 blk off size w :=
  fun _ _ _ _ x y => order_grown x.1.1 x.1.2 y.1.1 y.1.2 x.2 y.2 _
theorem sort_any (d : Array P20) (blk off cap : Nat) (w : World) (hH : HoldsK cells20 21 w blk off d) (hblk : blk < w.heap.size) (hsz : d.size < 4611686018427387904) :
    Calls Try.prog 45 #[.slice (some ⟨blk, off, none⟩) d.size cap, .func (.func 46) #[] #[]] w fun e w' =>
      e = .returned (.tuple #[]) ∧ ∃ d' n os, PermIn 0 d.size d d' ∧ SortedIn lt20 0 d.size d' ∧ w' = sortWorldK cells20 21 w blk off n d' os := by
  have eg : ∀ args w, (callFunc 46 args).run Try.prog w = .ok (.enter 46 args) w := enters_of Try.func46 (by kernel_rfl) rfl
  exact AnyQ.slices_SortFunc Try.sortPath 21 (fun w => by kernel_rfl) (fun w => by kernel_rfl) cells20 cells20_length cells20_one cmp20 lt20_swo 46 #[] blk off cap d w eg (cmpLays20 blk off d.size w) hH hblk hsz
end Go.Proofs.Ytniibcgomnjfgaa
/-! From a slice of the call's own to the sort and back. -/
namespace Go.Proofs.Ytniibcgomnjfgaa
open Go.RowKit Pl Go.Sort
theorem flat_at (l : List P20) (t : Nat) (h : t < l.length * 21) : (flat l)[t]? = some ((cells20 (l.toArray[t / 21]!))[t % 21]!) := by
  have hq : t / 21 < l.length := by omega
  have hp : l[t / 21]? = some l[t / 21] := List.getElem?_eq_getElem hq
  have hc : t % 21 < (cells20 l[t / 21]).length := by rw [cells20_length]; omega
  have e := flat_get l (t / 21) l[t / 21] (t % 21) ((cells20 l[t / 21])[t % 21]) hp (by
    rw [← Array.getElem?_toList]
    exact List.getElem?_eq_getElem hc)
  rw [show t / 21 * 21 + t % 21 = t by omega] at e
  rw [e, getElem!_pos l.toArray (t / 21) (by simpa using hq)]
  simp only [List.getElem_toArray]
  rw [getElem!_pos _ (t % 21) hc]
theorem holdsK_of (w : World) (g off : Nat) (l : List P20) (h : ∀ j u, (flat l)[j]? = some u → w.cell? ⟨g, off + j, none⟩ = some u) (hf : ∀ j, j < l.length * 21 → w.frozen? ⟨g, off + j, none⟩ = false) : HoldsK cells20 21 w g off l.toArray := by
  intro j hj
  rw [size_flatK] at hj
  have hj' : j < l.length * 21 := by simpa using hj
  refine ⟨?_, hf j hj'⟩
  rw [h j _ (flat_at l j hj'), get_flatK _ _ _ _ (by simpa using hj')]
  rfl
theorem elems_of_holdsK (w : World) (g off cap : Nat) (l : List P20) (hg : g < w.heap.size) (h : HoldsK cells20 21 w g off l.toArray) : ElemsAt w (.slice (some ⟨g, off, none⟩) l.length cap) l := by
  refine .inr ⟨⟨g, off, none⟩, cap, rfl, hg, fun j u hj => ?_⟩
  rw [flat20] at hj
  rw [Agg.add_plain]
  have hlt : j < l.length * 21 := by rw [← flat_length]; exact (List.getElem?_eq_some_iff.1 hj).1
  have := (h j (by rw [size_flatK]; simpa using hlt)).1
  rw [get_flatK _ _ _ _ (by simpa using hlt)] at this
  rw [flat_at l j hlt] at hj
  rw [this, ← Option.some.inj hj]
  rfl
theorem putRow_below {B blk off : Nat} {a w : World} {d : Array P20} (h : Below B a w) (hB : B ≤ blk) : Below B a (putRowK cells20 21 w blk off d) := by
  refine h.trans ⟨rfl, rfl, rfl, ?_, fun k hk => ?_⟩
  · show w.heap.size ≤ (w.heap.modify blk _).size
    simp
  · show (w.heap.modify blk _)[k]? = w.heap[k]?
    rw [Array.getElem?_modify, if_neg (by omega)]
theorem grow_below {B : Nat} {a w : World} (os : Array Obj) (h : Below B a w) (hB : B ≤ w.heap.size) : Below B a (grow w os) := by
  refine h.trans ⟨rfl, rfl, rfl, ?_, fun k hk => ?_⟩
  · show w.heap.size ≤ (w.heap ++ os).size
    simp
  · show (w.heap ++ os)[k]? = w.heap[k]?
    exact Array.getElem?_append_left (by omega)
/-- slices.SortFunc over a slice of the call's own, whose paths differ: it holds the same, rising -/
theorem sort_own (base : Nat) (D : List P20) (hD : D.Nodup) (hlen : D.length ≤ 1048576) (g cap : Nat) (w : World) (cur : Array Value) (hg : base ≤ g) (hbw : base ≤ w.heap.size) (hb : w.heap[g]? = some (.cells cur 32 (0, 0))) (htk : cur.toList.take (D.length * 21) = flat D) :
    Calls Try.prog 45 #[.slice (some ⟨g, 0, none⟩) D.length cap, .func (.func 46) #[] #[]] w fun e w' =>
      e = .returned (.tuple #[]) ∧ ∃ R, Rising R ∧ (∀ x, x ∈ R ↔ x ∈ D) ∧ ElemsAt w' (.slice (some ⟨g, 0, none⟩) D.length cap) R ∧ RowKit.Below base w w' := by
  have hgl := Agg.heap_lt hb
  have hcells : ∀ j u, (flat D)[j]? = some u → w.cell? ⟨g, 0 + j, none⟩ = some u := fun j u hj => by
    rw [Nat.zero_add, cell_of_row _ _ _ _ _ _ hb]
    rw [← htk, List.getElem?_take] at hj
    split at hj
    · simpa using hj
    · cases hj
  have hH := holdsK_of w g 0 D hcells (fun j _ => frozen_of_row _ _ _ _ _ hb)
  have hs := sort_any D.toArray g 0 cap w hH hgl (by simp; omega)
  rw [List.size_toArray] at hs
  refine hs.mono fun e w' ⟨he, d', n, os, hp, hso, hw⟩ => ?_
  obtain ⟨hsz, _, hperm⟩ := hp
  have hsz' : d'.size = D.length := by simpa using hsz
  have hP : d'.toList.Perm D := by
    have e1 : (d'.extract 0 D.length).toList = d'.toList := by rw [← hsz']; simp
    have e2 : (D.toArray.extract 0 D.length).toList = D := by simp
    rw [e1, e2] at hperm
    exact hperm
  have hll : d'.toList.length = D.length := by simpa using hsz'
  have hd : d'.toList.toArray = d' := by simp
  have hH' : HoldsK cells20 21 w' g 0 d'.toList.toArray := by
    rw [hd, hw]
    have h1 : HoldsK cells20 21 (putRowK cells20 21 (Sort.ahead w n) g 0 d') g 0 d' := holdsK_putRowK cells20 21 (Sort.ahead w n) g 0 D.toArray d' (holdsK_ahead cells20 21 w n g 0 _ hH) (by simpa using hsz')
    exact holdsK_grow cells20 21 _ os g 0 d' (by show g < (w.heap.modify g _).size; simpa using hgl) h1
  have hB : RowKit.Below base w w' := by
    rw [hw]
    have h1 : RowKit.Below base w (Sort.ahead w n) := ⟨rfl, rfl, rfl, Nat.le_refl _, fun _ _ => rfl⟩
    exact grow_below os (putRow_below h1 hg) (by show base ≤ (w.heap.modify g _).size; simpa using hbw)
  refine ⟨he, d'.toList, ?_, fun x => hP.mem_iff, ?_, hB⟩
  · refine rising_of_sorted _ (hP.nodup_iff.2 hD) ?_
    rw [List.pairwise_iff_getElem]
    intro i j hi hj hij
    have := hso i j (Nat.zero_le _) hij (by omega)
    rw [getElem!_pos d' j (by simpa using hj), getElem!_pos d' i (by simpa using hi)] at this
    simpa using this
  · have := elems_of_holdsK w' g 0 cap d'.toList (Nat.lt_of_lt_of_le hgl hB.size) hH'
    rwa [hll] at this
end Go.Proofs.Ytniibcgomnjfgaa
/-! A block made and laid full. -/
namespace Go.Proofs.Ytniibcgomnjfgaa
open Go.RowKit Pl Go.Agg
/-- a block made and laid full -/
theorem laid {w : World} {t : TypeId} (z c : Array Value) : ((w.alloc (.cells z t)).setRow w.heap.size c).heap[w.heap.size]? = some (.cells c t (0, 0)) ∧ Below w.heap.size w ((w.alloc (.cells z t)).setRow w.heap.size c) :=
  ⟨setRow_heap _ _ _ _ _ _ (heap_alloc_new w (.cells z t)), Agg.below_setRow ((Below.refl _ _).alloc (Nat.le_refl _) _) (Nat.le_refl _)⟩
end Go.Proofs.Ytniibcgomnjfgaa
/-! base.Sorted: its paths once, rising. -/
namespace Go.Proofs.Ytniibcgomnjfgaa
open Go.RowKit Pl Go.Mp Go.Agg
/-- paths, each once, in the order in which they came -/
def once (l : List P20) : List P20 := l.foldl (fun D x => if x ∈ D then D else D ++ [x]) []
theorem once_snoc (l : List P20) (x : P20) : once (l ++ [x]) = if x ∈ once l then once l else once l ++ [x] := by
  unfold once
  rw [List.foldl_append]
  rfl
theorem snoc_ind {p : List P20 → Prop} (h0 : p []) (h1 : ∀ l x, p l → p (l ++ [x])) (l : List P20) : p l := by
  rw [← List.reverse_reverse l]
  induction l.reverse with
  | nil => exact h0
  | cons x r ih => rw [List.reverse_cons]; exact h1 _ _ ih
theorem mem_once (l : List P20) : ∀ x, x ∈ once l ↔ x ∈ l := by
  refine snoc_ind (p := fun l => ∀ x, x ∈ once l ↔ x ∈ l) ?_ ?_ l
  · simp [once]
  · intro l y ih
    intro x
    rw [once_snoc]
    split
    · rename_i h
      rw [ih, List.mem_append, List.mem_singleton]
      constructor
      · exact .inl
      · rintro (h' | rfl)
        · exact h'
        · exact (ih _).1 h
    · simp [ih]
theorem once_nodup (l : List P20) : (once l).Nodup := by
  refine snoc_ind (p := fun l => (once l).Nodup) ?_ ?_ l
  · simp [once]
  · intro l y ih
    rw [once_snoc]
    split
    · exact ih
    · rename_i h
      rw [List.nodup_append]
      exact ⟨ih, by simp, fun a ha b hb => by obtain rfl : b = y := (by simpa using hb); exact fun e => h (e ▸ ha)⟩
theorem once_le (l : List P20) : (once l).length ≤ l.length := by
  refine snoc_ind (p := fun l => (once l).length ≤ l.length) ?_ ?_ l
  · simp [once]
  · intro l y ih
    rw [once_snoc]
    split <;> simp <;> omega
theorem own_keep {w w' : World} {base : Nat} {e : TypeId} {n sz : Nat} {v : Value} {xs : List Value} (h : w.ownsRow base e sz v n xs) (hk : ∀ (g : Nat) (cur : Array Value) (t : TypeId) (fr : Nat × Nat), w.heap[g]? = some (Obj.cells cur t fr) → w'.heap[g]? = some (Obj.cells cur t fr)) : w'.ownsRow base e sz v n xs := by
  obtain ⟨h1, h2⟩ := h
  refine ⟨h1, ?_⟩
  rcases h2 with h2 | ⟨g, cap, cur, e1, e2, e3, e4⟩
  · exact .inl h2
  · exact .inr ⟨g, cap, cur, e1, e2, hk _ _ _ _ e3, e4⟩
theorem own_below {w w' : World} {base : Nat} {e : TypeId} {n sz : Nat} {v : Value} {xs : List Value} (h : w.ownsRow base e sz v n xs) (hb : Below w.heap.size w w') : w'.ownsRow base e sz v n xs :=
  own_keep h fun _ _ _ _ hg => Agg.keep' hb hg
theorem store_none (a : Addr) (w : World) : (storeCells a []).run Try.prog w = .ok () w := by simp [storeCells]
set_option maxRecDepth 100000 in
/-- a slice literal of one path -/
theorem slice_one (x : P20) (w : World) : (Instr.buildSlice 40 1 #[(0, pV x)]).run Try.prog w = .ok (.slice (some ⟨w.heap.size, 0, none⟩) 1 1) (w.alloc (.cells (pC x.1.1 x.1.2) 32)) := by
  have hz := pC_zero
  have hs := pC_info x.1.1 x.1.2 x.2
  cases hi : Try.prog.info? 32 with
  | none => rw [hi] at hz; cases hz
  | some ie =>
    rw [hi] at hz hs
    have hsz : ie.size = 21 := by
      have := Option.some.inj hs
      rw [pC_size, x.2] at this
      exact this
    refine run_buildSlice w 40 32 1 _ (pC x.1.1 x.1.2) ie (.agg (pC z20 [])) (by kernel_rfl) hi (Option.some.inj hz) (by rw [hsz]; decide) (by rw [hsz]; decide) ?_
    rw [hsz]
    show Instr.fill _ _ [(0, pV x)] = _
    rw [Agg.fill_cons (off := 0) (size := 21) rfl (by simp [pV, Value.cells, pC_size, x.2]) (by simp), Agg.fill_nil]
    congr 1
    apply Array.ext'
    simp [Agg.splice, pV, Value.cells, pC_size, x.2]
theorem map_not_cells {w : World} {b : Nat} {m : List (P20 × Unit)} (h : MapIs w b pV (fun _ => .agg #[]) m) {cur : Array Value} {t : TypeId} {fr : Nat × Nat} (hc : w.heap[b]? = some (Obj.cells cur t fr)) : False := by
  obtain ⟨es, c, hb, _⟩ := h
  rw [hb] at hc; cases hc
def nU : Unit → Value := fun _ => .agg #[]
theorem own_new {wr w2 w3 : World} {base b n sz : Nat} {e : TypeId} {v : Value} {xs : List Value} {m : List (P20 × Unit)} (h : wr.ownsRow base e sz v n xs) (hx : Below wr.heap.size wr w2) (hm : MapIs w2 b pV nU m) (hb : ButMap b w2 w3) (o : Obj) : (w3.alloc o).ownsRow base e sz v n xs :=
  own_keep h fun g cur t fr hg => by
    have h2 := Agg.keep' hx hg
    have hne : g ≠ b := fun e => map_not_cells hm (e ▸ h2)
    have h3 := (hb.other hne).trans h2
    exact (heap_alloc_old _ _ (Agg.heap_lt h3)).trans h3
theorem own_apart {w : World} {base b n sz : Nat} {e : TypeId} {v : Value} {xs : List Value} {m : List (P20 × Unit)} (h : w.ownsRow base e sz v n xs) (hm : MapIs w b pV nU m) : some b ≠ v.ownBlock ∧ ∀ k, v.ownBlock = some k → base ≤ k := by
  obtain ⟨_, ⟨rfl, _⟩ | ⟨g, cap, cur, rfl, hb, hc, _⟩⟩ := h
  · exact ⟨by simp [Value.ownBlock], fun k hk => by simp [Value.ownBlock] at hk⟩
  · refine ⟨fun e => ?_, fun k hk => ?_⟩
    · have : b = g := by simpa [Value.ownBlock] using e
      subst this
      exact map_not_cells hm hc
    · have : g = k := by simpa [Value.ownBlock] using hk
      omega
theorem mput_new (m : List (P20 × Unit)) (x : P20) (h : mget m x = none) : mput m x () = m ++ [(x, ())] := by
  induction m with
  | nil => rfl
  | cons p r ih =>
    by_cases e : x = p.1
    · simp [mget, e] at h
    · have h' : mget r x = none := by simpa [mget, e] using h
      simp [mput, e, ih h']
theorem new_cells (w3 : World) (x : P20) (j : Nat) (u : Value) (hj : (cells20 x)[j]? = some u) : (w3.alloc (.cells (pC x.1.1 x.1.2) 32)).cell? ((⟨w3.heap.size, 0, none⟩ : Addr).add j) = some u := by
  have hadd : (⟨w3.heap.size, 0, none⟩ : Addr).add j = ⟨w3.heap.size, 0 + j, none⟩ := by unfold Addr.add; split <;> simp_all
  rw [hadd, cell_of_row _ _ _ _ _ _ (heap_alloc_new w3 (.cells (pC x.1.1 x.1.2) 32))]
  simpa [cells20] using hj
theorem zeroU (w : World) : (zeroValue 87).run Try.prog w = .ok (.agg #[]) w := by kernel_rfl
theorem mget_once_some (D : List P20) (x : P20) (h : x ∈ D) : mget (D.map fun p => (p, ())) x = some () := by
  unfold mget
  cases hf : (D.map fun p => (p, ())).find? (fun p => decide (x = p.1)) with
  | some y => rfl
  | none =>
    rw [List.find?_eq_none] at hf
    exact absurd (hf (x, ()) (List.mem_map.2 ⟨x, h, rfl⟩)) (by simp)
theorem mget_once_none (D : List P20) (x : P20) (h : ¬ x ∈ D) : mget (D.map fun p => (p, ())) x = none := by
  unfold mget
  rw [List.find?_eq_none.2]
  · rfl
  · intro y hy
    obtain ⟨p, hp, rfl⟩ := List.mem_map.1 hy
    simp only [decide_eq_true_eq]
    rintro rfl
    exact h hp
set_option maxRecDepth 100000 in
set_option maxHeartbeats 1000000 in
theorem sorted_some (v : Value) (l : List P20) (hlen : l.length ≤ 1048576) (hl0 : l ≠ []) (w : World) (he : ElemsAt w v l) :
    Calls Try.prog 28 #[v] w fun e w' => ∃ v R, e = .returned v ∧ Rising R ∧ (∀ x, x ∈ R ↔ x ∈ l) ∧ ElemsAt w' v R ∧ Below w.heap.size w w' := by
  go_enter Try.func28, Try.ntmps28
  have hmm := @run_makeMap Try.prog
  have hlv := fun W => elems_len he W
  go_wp2_with fail
  clear hmm
  have HE := Lib.hid he
  clear he
  go_loopw [2, 11] (fun out i wr => ∃ k : Nat, k ≤ l.length ∧ i = .int .i64 k ∧ wr.ownsRow w.heap.size 32 21 out (once (l.take k)).length (flat (once (l.take k))) ∧ MapIs wr w.heap.size pV nU ((once (l.take k)).map fun p => (p, ())) ∧ Below w.heap.size w wr)
    (fun _ i _ => l.length - (intOf i).toNat)
  case atStart => exact ⟨0, by omega, rfl, ⟨rfl, .inl ⟨rfl, rfl⟩⟩, MapIs.empty _ _ _, (Below.refl _ w).alloc (Nat.le_refl _) _⟩
  case round =>
    obtain ⟨k, hk, rfl, hown, hm, hw⟩ := hrel
    by_cases hlt : k < l.length
    · have hd : decide ((k : Int) < (l.length : Int)) = true := by simp; omega
      have hx : l[k]? = some l[k] := List.getElem?_eq_getElem hlt
      generalize l[k] = x at hx
      obtain ⟨p, hadr, hldL, _⟩ := elem_at (HE.out.below hw) k x hx
      have hld := hldL.now
      clear hldL
      have HX := Lib.hid hx
      have HOWN := Lib.hid hown
      have HMP := Lib.hid hm
      clear hx hown hm
      have hst := store_none
      have hz := heap_alloc_new wr (.cells (pC z20 []) 32)
      have hsz : Hid ((pC z20 []).size = (pC x.1.1 x.1.2).size) := Lib.hid (by rw [pC_size, pC_size, x.2]; rfl)
      obtain ⟨h1, hx1⟩ := laid (w := wr) (t := 32) (pC z20 []) (pC x.1.1 x.1.2)
      have hm1 := HMP.out.keep (hx1.block _ HMP.out.lt)
      have HM1 := Lib.hid hm1
      clear hm1
      by_cases hin : x ∈ once (l.take k)
      · have hmg : mget ((once (l.take k)).map fun p => (p, ())) x = some () := mget_once_some _ _ hin
        go_wp2_with (first | (with_reducible refine Agg.wpList_loadw 32 _ rfl rfl (.pointer (some p)) rfl (.agg (pC x.1.1 x.1.2)) hld ?_) | (with_reducible refine Agg.wpList_alloc_row rfl 32 rfl (pC z20 []) pC_zero ?_) | (with_reducible refine Agg.wpList_set_row rfl rfl 32 _ _ rfl wr.heap.size (pC x.1.1 x.1.2) rfl rfl 32 _ hz (pC_info _ _ x.2) hsz.out (pC_one _ _) ?_) | (with_reducible refine wpList_load_row rfl 32 _ rfl wr.heap.size rfl 32 _ (0, 0) _ h1 pC_under rfl (pC_info _ _ x.2) ?_) | (at_lookup; refine Mp.wpList_lookup_hit rfl _ _ 86 32 87 rfl Try.underlying86 path_key zeroU rfl HM1.out x rfl () hmg ?_; simp only [nU]))
        go_wp2_with fail
        go_roundw
        case rel =>
          refine ⟨k + 1, by omega, by go_num, ?_, ?_, ?_⟩
          · rw [List.take_add_one, HX.out]
            simp only [Option.toList_some]
            rw [once_snoc, if_pos hin]
            exact own_below HOWN.out (hx1.alloc hx1.size _)
          · rw [List.take_add_one, HX.out]
            simp only [Option.toList_some]
            rw [once_snoc, if_pos hin]
            exact HM1.out.keep (heap_alloc_old _ _ HM1.out.lt)
          · exact (Agg.belowThen hw (Nat.le_refl _) hx1).alloc (Nat.le_trans hw.size hx1.size) _
        case measure => simp [intOf]; omega
      · have hmg : mget ((once (l.take k)).map fun p => (p, ())) x = none := mget_once_none _ _ hin
        have hu54 : Try.prog.underlying 40 = some (.slice 32) := by kernel_rfl
        obtain ⟨ie, hie0⟩ := info_path
        have hie := Lib.hid hie0
        clear hie0
        have hzc : (Value.agg (pC z20 [])).cells.size = 21 := by simp [Value.cells, pC_size, z20_length]
        have hol := once_le (l.take k)
        have hol2 : (l.take k).length ≤ l.length := by simp; omega
        have hmx : (once (l.take k)).length + 1 ≤ maxLen := by simp only [maxLen]; omega
        have hby : ((once (l.take k)).length + 1) * 40 ≤ 140737488355328 := by omega
        have hlt1 : wr.heap.size < ((wr.alloc (.cells (pC z20 []) 32)).setRow wr.heap.size (pC x.1.1 x.1.2)).heap.size := Agg.heap_lt h1
        have h2 : (((wr.alloc (.cells (pC z20 []) 32)).setRow wr.heap.size (pC x.1.1 x.1.2)).alloc (.cells #[] 87)).heap[wr.heap.size]? = _ := (heap_alloc_old _ _ hlt1).trans h1
        have HM2 : Hid (MapIs (((wr.alloc (.cells (pC z20 []) 32)).setRow wr.heap.size (pC x.1.1 x.1.2)).alloc (.cells #[] 87)) w.heap.size pV nU ((once (l.take k)).map fun p => (p, ()))) := Lib.hid (HM1.out.keep (heap_alloc_old _ _ HM1.out.lt))
        have hx2 : Below wr.heap.size wr (((wr.alloc (.cells (pC z20 []) 32)).setRow wr.heap.size (pC x.1.1 x.1.2)).alloc (.cells #[] 87)) := hx1.alloc hx1.size _
        have hne : wr.heap.size ≠ w.heap.size := by have := HMP.out.lt; omega
        go_wp2_with (first | (with_reducible refine Agg.wpList_loadw 32 _ rfl rfl (.pointer (some p)) rfl (.agg (pC x.1.1 x.1.2)) hld ?_) | (with_reducible refine Agg.wpList_alloc_row rfl 32 rfl (pC z20 []) pC_zero ?_) | (with_reducible refine Agg.wpList_set_row rfl rfl 32 _ _ rfl wr.heap.size (pC x.1.1 x.1.2) rfl rfl 32 _ hz (pC_info _ _ x.2) hsz.out (pC_one _ _) ?_) | (with_reducible refine wpList_load_row rfl 32 _ rfl wr.heap.size rfl 32 _ (0, 0) _ h1 pC_under rfl (pC_info _ _ x.2) ?_) | (with_reducible refine wpList_load_row rfl 32 _ rfl wr.heap.size rfl 32 _ (0, 0) _ h2 pC_under rfl (pC_info _ _ x.2) ?_) | (with_reducible refine wpList_load_row rfl 32 _ rfl wr.heap.size rfl 32 _ (0, 0) _ h3 pC_under rfl (pC_info _ _ x.2) ?_) | (at_lookup; refine Mp.wpList_lookup_miss rfl _ _ 86 32 87 rfl Try.underlying86 path_key zeroU rfl HM1.out x rfl hmg ?_) | (at_mapUpdate; refine Mp.wpList_mapUpdate rfl rfl _ _ _ 86 32 87 rfl Try.underlying86 path_key rfl HM2.out x rfl () rfl ?_; intro w3 hm3 hb3; have h3 := (hb3.other hne).trans h2) | (with_reducible refine Agg.wpList_buildSlice1 40 1 0 _ rfl rfl (pV x) rfl _ _ (slice_one x _) ?_) | (at_builtin; refine walk_stop ?_))
        refine ⟨?_, trivial⟩
        refine wpList_append_own _ rfl _ _ 40 rfl w.heap.size 32 ie _ 21 40 hu54 hie.out.1 hie.out.2.1 hie.out.2.2.1 hie.out.2.2.2 hzc (by decide) _ _ _ rfl (own_new HOWN.out hx2 HM2.out hb3 _) ⟨w3.heap.size, 0, none⟩ 1 1 (cells20 x) rfl (cells20_length x) (new_cells w3 x) (cells20_one x) hmx hby ?hbs ?_
        case hbs => have h5 := hb3.size; have h6 := hx2.size; have h7 := hw.size; simp only [World.size_alloc] at *; omega
        intro v5 w5 ho5 hg5 _
        go_wp2_with fail
        go_roundw
        case rel =>
          have hon : once (l.take (k + 1)) = once (l.take k) ++ [x] := by
            rw [List.take_add_one, HX.out]
            simp only [Option.toList_some]
            rw [once_snoc, if_neg hin]
          refine ⟨k + 1, by omega, by go_num, ?_, ?_, ?_⟩
          · rw [hon, flat_append, List.length_append]
            simpa [flat] using ho5
          · rw [hon, List.map_append]
            rw [mput_new _ _ hmg] at hm3
            have hm4 := hm3.keep (heap_alloc_old w3 (.cells (pC x.1.1 x.1.2) 32) hm3.lt)
            exact hm4.keep (hg5.block _ hm4.lt (own_apart (own_new HOWN.out hx2 HM2.out hb3 _) hm4).1)
          · have hm4 := hm3.keep (heap_alloc_old w3 (.cells (pC x.1.1 x.1.2) 32) hm3.lt)
            have hb4 : Below w.heap.size w (w3.alloc (.cells (pC x.1.1 x.1.2) 32)) := (hb3.below (Agg.belowThen hw (Nat.le_refl _) hx2) (Nat.le_refl _)).alloc (Nat.le_of_lt hm3.lt) _
            exact hb4.grown hg5 hb4.size (own_apart (own_new HOWN.out hx2 HM2.out hb3 _) hm4).2
        case measure => simp [intOf]; omega
    · obtain rfl : k = l.length := by omega
      go_wp2_with fail
      rw [List.take_length] at hown
      have hne : (once l).length ≠ 0 := by
        intro h0
        obtain ⟨y, hy⟩ := List.exists_mem_of_ne_nil l hl0
        have := (mem_once l y).2 hy
        rw [List.length_eq_zero_iff] at h0
        rw [h0] at this
        cases this
      obtain ⟨hfl, ⟨_, h0⟩ | ⟨g', cap', cur, rfl, hgb, hcur, hle, _, _, htk⟩⟩ := hown
      · exact absurd h0 hne
      refine (sort_own w.heap.size (once l) (once_nodup l) (Nat.le_trans (once_le l) hlen) g' cap' wr cur hgb hw.size hcur htk).mono ?_
      rintro e w1 ⟨rfl, R, hR, hmem, hel, hb1⟩
      go_wp2_with fail
      go_ret
      exact ⟨_, R, rfl, hR, fun x => (hmem x).trans (mem_once l x), hel, hw.trans hb1⟩
end Go.Proofs.Ytniibcgomnjfgaa
/-! base.Sorted at every slice of paths. -/
namespace Go.Proofs.Ytniibcgomnjfgaa
open Go.RowKit Pl Go.Mp Go.Agg
theorem sort_none (p : Option Addr) (cap : Nat) (fv : Value) (w : World) :
    Calls Try.prog 45 #[.slice p 0 cap, fv] w fun e w' => e = .returned (.tuple #[]) ∧ w' = w := AnyF.slices_SortFunc_none Try.sortPath p cap fv w
set_option maxRecDepth 100000 in
theorem sorted_none (a : Option Addr) (c : Nat) (w : World) :
    Calls Try.prog 28 #[.slice a 0 c] w fun e w' => e = .returned (.slice none 0 0) ∧ Below w.heap.size w w' := by
  have hmm := @run_makeMap Try.prog
  go_enter Try.func28, Try.ntmps28
  go_wp2_with fail
  refine wp_loop_rounds 1 ?_
  rw [rounds_succ]
  go_wp2_with fail
  refine (sort_none _ _ _ _).mono ?_
  rintro e w1 ⟨rfl, rfl⟩
  go_wp2_with fail
  go_ret
  exact ⟨rfl, (Below.refl _ w).alloc (Nat.le_refl _) _⟩
theorem sorted_any (v : Value) (l : List P20) (hlen : l.length ≤ 1048576) (w : World) (he : ElemsAt w v l) :
    Calls Try.prog 28 #[v] w fun e w' => ∃ v R, e = .returned v ∧ Rising R ∧ (∀ x, x ∈ R ↔ x ∈ l) ∧ ElemsAt w' v R ∧ Below w.heap.size w w' := by
  by_cases h0 : l = []
  · subst h0
    obtain ⟨p, c, rfl⟩ := he.form
    exact (sorted_none _ c w).mono fun e w' ⟨h1, h2⟩ => ⟨_, [], h1, List.Pairwise.nil, fun _ => Iff.rfl, SliceOf.nil _ _ _, h2⟩
  · exact sorted_some v l hlen h0 w he
end Go.Proofs.Ytniibcgomnjfgaa
