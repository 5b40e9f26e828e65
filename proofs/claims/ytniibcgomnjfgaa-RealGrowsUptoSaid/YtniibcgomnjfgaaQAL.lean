/- spencelaw22.grown: a map grown one by one. (Several texts in one.) -/
import Derived.Test.YtniibcgomnjfgaaQAE
import Derived.Test.YtniibcgomnjfgaaQAB
import Derived.Test.YtniibcgomnjfgaaQAH
import Derived.Test.YtniibcgomnjfgaaQAK
/-! '==' of what was made, of hashes, of paths; slices.Equal, spencekit.SameMades, SameBuilt, SameBuilts. -/
namespace Go.Proofs.Ytniibcgomnjfgaa
open Go.RowKit Pl Go.Agg
theorem eqlInP (d : Nat) (p q : P20) (w : World) : (Op.equalIn (d + 3) 32 (.agg (pC p.1.1 p.1.2)) (.agg (pC q.1.1 q.1.2))).run Try.prog w = .ok (decide (p = q)) w := by
  rw [run_equalIn_struct w (d + 2) 32 _ _ pC_under (by kernel_rfl)]
  have hf := path_fields
  generalize (Try.prog.fieldsOf 32).toList = fs at hf ⊢
  cases fs with
  | nil => exact absurd hf (by simp)
  | cons f1 fs =>
  cases fs with
  | nil => exact absurd hf (by simp)
  | cons f2 fs =>
  cases fs with
  | cons f3 fs => exact absurd hf (by simp)
  | nil =>
    simp only [List.map_cons, List.map_nil, List.cons.injEq, Prod.mk.injEq, and_true] at hf
    obtain ⟨⟨a1, a2, a3⟩, b1, b2, b3⟩ := hf
    have e : decide (p = q) = (p.1.1 == q.1.1 && p.1.2 == q.1.2) := by
      rw [Bool.eq_iff_iff]
      simp [Subtype.ext_iff, Prod.ext_iff]
    rw [e]
    simp only [Op.eqFields, a1, a2, a3, b1, b2, b3, Sem.run_bind, Sem.run_ite, part_hash _ _ p.2, part_hash _ _ q.2, part_name _ _ p.2, part_name _ _ q.2, Result.andThen_ok, eqlIn_hash d _ _ p.2 q.2, run_equalIn_string w (d + 1) 9 _ _ Try.underlying9, Agg.bytes_toList]
    cases p.1.1 == q.1.1 <;> cases p.1.2 == q.1.2 <;> simp
theorem partAgg {ty : TypeId} {n : Nat} (ha : ∀ w, (isAgg ty).run Try.prog w = .ok true w) (hs : ∀ w, (sizeOf ty).run Try.prog w = .ok n w) (cs ds : Array Value) (off : Nat) (hn : ds.size = n) (h : ∀ j v, ds[j]? = some v → cs[off + j]? = some v) (w : World) :
    (Go.part ty cs off).run Try.prog w = .ok (.agg ds) w := by
  unfold Go.part
  simp only [Sem.run_bind, ha, Result.andThen_ok, if_true, hs, Sem.run_pure]
  congr 2
  apply Array.ext_getElem?
  intro j
  by_cases hj : j < n
  · have h1 : ds[j]? = some (ds[j]'(by omega)) := Array.getElem?_eq_getElem _
    have h2 := h j _ h1
    have h3 := (Array.getElem?_eq_some_iff.1 h2).1
    rw [h1, Array.getElem?_extract]
    rw [if_pos (by omega)]
    exact h2
  · rw [Array.getElem?_eq_none (xs := ds) (by omega), Array.getElem?_eq_none (by simp; omega)]
theorem made_fields : (Try.prog.fieldsOf 55).toList.map (fun f => (f.name, f.type, f.offset)) = [("Class", 30, 0), ("Path", 32, 20)] := by kernel_rfl
theorem isAggP (w : World) : (isAgg 32).run Try.prog w = .ok true w := by kernel_rfl
theorem sizeP (w : World) : (sizeOf 32).run Try.prog w = .ok 21 w := by kernel_rfl
theorem part_mcl (x : Md) (w : World) : (Go.part 30 (mC x) 0).run Try.prog w = .ok (.agg (hC x.1.1)) w := partAgg isAgg_hash size_hash _ _ 0 (by rw [hC_size, x.1.2]) (mC_cl x) w
theorem part_mpa (x : Md) (w : World) : (Go.part 32 (mC x) 20).run Try.prog w = .ok (.agg (pC x.2.1.1 x.2.1.2)) w := partAgg isAggP sizeP _ _ 20 (by rw [pC_size, x.2.2]) (mC_pa x) w
theorem eqlInM (d : Nat) (x y : Md) (w : World) : (Op.equalIn (d + 4) 55 (.agg (mC x)) (.agg (mC y))).run Try.prog w = .ok (decide (x = y)) w := by
  rw [run_equalIn_struct w (d + 3) 55 _ _ mC_under (by kernel_rfl)]
  have hf := made_fields
  generalize (Try.prog.fieldsOf 55).toList = fs at hf ⊢
  cases fs with
  | nil => exact absurd hf (by simp)
  | cons f1 fs =>
  cases fs with
  | nil => exact absurd hf (by simp)
  | cons f2 fs =>
  cases fs with
  | cons f3 fs => exact absurd hf (by simp)
  | nil =>
    simp only [List.map_cons, List.map_nil, List.cons.injEq, Prod.mk.injEq, and_true] at hf
    obtain ⟨⟨a1, a2, a3⟩, b1, b2, b3⟩ := hf
    have e : decide (x = y) = (x.1.1 == y.1.1 && decide (x.2 = y.2)) := by
      rw [Bool.eq_iff_iff]
      simp [Subtype.ext_iff, Prod.ext_iff]
    rw [e]
    simp only [Op.eqFields, a1, a2, a3, b1, b2, b3, Sem.run_bind, Sem.run_ite, part_mcl, part_mpa, Result.andThen_ok, eqlIn_hash (d + 1) _ _ x.1.2 y.1.2, eqlInP d]
    cases x.1.1 == y.1.1 <;> cases decide (x.2 = y.2) <;> simp
theorem neqM (x y : Md) (w : World) : (binOp .neq 55 (.agg (mC x)) (.agg (mC y))).run Try.prog w = .ok (.bool (!decide (x = y))) w := by rw [run_neq_struct, eqlInM 9996]; rfl
theorem eqlHB (x y : H20) (w : World) : (binOp .eql 30 (.agg (hC x.1)) (.agg (hC y.1))).run Try.prog w = .ok (.bool (decide (x = y))) w := by
  rw [eql_hash _ _ x.2 y.2]
  congr 2
  rw [Bool.eq_iff_iff]; simp [Subtype.ext_iff]
theorem eqlPB (x y : P20) (w : World) : (binOp .eql 32 (.agg (pC x.1.1 x.1.2)) (.agg (pC y.1.1 y.1.2))).run Try.prog w = .ok (.bool (decide (x = y))) w := by rw [run_eql_struct, eqlInP 9997]; rfl
theorem neqPB (x y : P20) (w : World) : (binOp .neq 32 (.agg (pC x.1.1 x.1.2)) (.agg (pC y.1.1 y.1.2))).run Try.prog w = .ok (.bool (!decide (x = y))) w := by rw [run_neq_struct, eqlInP 9997]; rfl
/-- alike up to a place -/
def AlikeU {α : Type} (l m : List α) (k : Nat) : Prop := ∀ (j : Nat), j < k → l[j]? = m[j]?
theorem alikeU_all {α : Type} {l m : List α} (hl : l.length = m.length) (h : AlikeU l m l.length) : l = m := by
  refine List.ext_getElem? fun j => ?_
  by_cases hj : j < l.length
  · exact h j hj
  · rw [List.getElem?_eq_none (by omega), List.getElem?_eq_none (by omega)]
theorem alikeU_succ {α : Type} {l m : List α} {k : Nat} (h : AlikeU l m k) (hk : l[k]? = m[k]?) : AlikeU l m (k + 1) := fun j hj => by
  by_cases e : j = k
  · subst e; exact hk
  · exact h j (by omega)
set_option maxRecDepth 100000 in
set_option maxHeartbeats 4000000 in
theorem mEqual_any (v u : Value) (l m : List Md) (hl : l.length ≤ 1048576) (w : World) (hs : MdsAt w v l) (ht : MdsAt w u m) :
    Calls Try.prog 40 #[v, u] w fun e w' => e = .returned (.bool (decide (l = m))) ∧ Below w.heap.size w w' := by
  have HS := Lib.hid hs
  have HT := Lib.hid ht
  have hlv := fun W => mds_len hs W
  have hlu := fun W => mds_len ht W
  clear hs ht
  by_cases hlm : l.length = m.length
  · have hd0 : ((l.length : Int) != (m.length : Int)) = false := by simp; omega
    go_enter Try.func40, Try.ntmps40
    go_wp2_with fail
    go_loopw [13] (fun i wr => ∃ k : Nat, k ≤ l.length ∧ i = .int .i64 (k : Int) ∧ AlikeU l m k ∧ Below w.heap.size w wr) (fun i _ => l.length - (intOf i).toNat)
    case atStart => exact ⟨0, by omega, rfl, fun j hj => absurd hj (by omega), Below.refl _ _⟩
    case round =>
      obtain ⟨wr1, rfl⟩ : ∃ y : World, y = wr := ⟨_, rfl⟩
      obtain ⟨k, hk, rfl, ha, hw⟩ := hrel
      have HA := Lib.hid ha
      have HW := Lib.hid hw
      clear ha hw
      by_cases hlt : k < l.length
      · have hd : decide ((k : Int) < (l.length : Int)) = true := by simp; omega
        obtain ⟨x, hxk⟩ : ∃ x, l[k]? = some x := ⟨_, List.getElem?_eq_getElem hlt⟩
        obtain ⟨y, hyk⟩ : ∃ y, m[k]? = some y := ⟨_, List.getElem?_eq_getElem (by omega)⟩
        obtain ⟨q, hadr, hq⟩ := mds_at (HS.out.below HW.out) k x hxk
        obtain ⟨q2, hadr2, hq2⟩ := mds_at (HT.out.below HW.out) k y hyk
        have HQ := Lib.hid hq
        have HQ2 := Lib.hid hq2
        have HX := Lib.hid hxk
        have HY := Lib.hid hyk
        clear hq hq2 hxk hyk
        obtain ⟨e, he⟩ : ∃ e, decide (x = y) = e := ⟨_, rfl⟩
        have HN := Lib.hid (fun W => (show (binOp .neq 55 (.agg (mC x)) (.agg (mC y))).run Try.prog W = .ok (.bool (!e)) W by rw [neqM, he]))
        have HE := Lib.hid he
        clear he
        cases e with
        | false =>
          go_wp2_with fail
          try simp only [Act.put, List.setIfInBounds_toArray, List.set_cons_succ, List.set_cons_zero]
          refine Agg.wp_region_later_lit (by kernel_rfl) (by kernel_rfl) ?_
          repeat (first | go_big_quiet_skip | ((first | (with_reducible refine Agg.wpQuiet_loadL HQ.out.all rfl _ rfl rfl ?_) | (with_reducible refine Agg.wpQuiet_loadL HQ2.out.all rfl _ rfl rfl ?_) | (with_reducible refine Agg.wpQuiet_neq 55 55 _ _ rfl rfl (mC x) (mC y) rfl rfl _ (by kernel_rfl) HN.out ?_)); simp only [Act.put, List.setIfInBounds_toArray, List.set_cons_succ, List.set_cons_zero]) | go_big_quiet_step (fail))
          refine wpQuiet_nil ?_
          intro _ hw'
          obtain ⟨x4, rfl⟩ := hw'
          go_wp2_with fail
          go_ret
          refine ⟨ret_bool (Eq.symm (decide_eq_false fun e => ?_)), Agg.belowThen HW.out (Nat.le_refl _) x4.h⟩
          subst e
          have h1 := HX.out
          rw [HY.out] at h1
          exact of_decide_eq_false HE.out (Option.some.inj h1).symm
        | true =>
          go_wp2_with fail
          try simp only [Act.put, List.setIfInBounds_toArray, List.set_cons_succ, List.set_cons_zero]
          refine Agg.wp_region_later_lit (by kernel_rfl) (by kernel_rfl) ?_
          repeat (first | go_big_quiet_skip | ((first | (with_reducible refine Agg.wpQuiet_loadL HQ.out.all rfl _ rfl rfl ?_) | (with_reducible refine Agg.wpQuiet_loadL HQ2.out.all rfl _ rfl rfl ?_) | (with_reducible refine Agg.wpQuiet_neq 55 55 _ _ rfl rfl (mC x) (mC y) rfl rfl _ (by kernel_rfl) HN.out ?_)); simp only [Act.put, List.setIfInBounds_toArray, List.set_cons_succ, List.set_cons_zero]) | go_big_quiet_step (fail))
          refine wpQuiet_nil ?_
          intro _ hw'
          obtain ⟨x4, rfl⟩ := hw'
          go_wp2_with fail
          go_roundw
          case rel => exact ⟨k + 1, by omega, by go_num, alikeU_succ HA.out (by rw [HX.out, HY.out, of_decide_eq_true HE.out]), Agg.belowThen HW.out (Nat.le_refl _) x4.h⟩
          case measure => simp [intOf]; omega
      · obtain rfl : k = l.length := by omega
        go_wp2_with fail
        go_ret
        exact ⟨ret_bool (Eq.symm (decide_eq_true (alikeU_all hlm HA.out))), HW.out⟩
  · have hd0 : ((l.length : Int) != (m.length : Int)) = true := by simp; omega
    go_enter Try.func40, Try.ntmps40
    go_wp2_with fail
    go_ret
    exact ⟨ret_bool (Eq.symm (decide_eq_false fun e => hlm (by rw [e]))), Below.refl _ _⟩
set_option maxRecDepth 100000 in
set_option maxHeartbeats 4000000 in
theorem sameMades_any (v u : Value) (l m : List Md) (hl : l.length ≤ 1048576) (w : World) (hs : MdsAt w v l) (ht : MdsAt w u m) :
    Calls Try.prog 25 #[v, u] w fun e w' => e = .returned (.bool (decide (l = m))) ∧ Below w.heap.size w w' := by
  have HS := Lib.hid hs
  have HT := Lib.hid ht
  have hlv := fun W => mds_len hs W
  have hlu := fun W => mds_len ht W
  clear hs ht
  by_cases hlm : l.length = m.length
  · have hd0 : ((l.length : Int) != (m.length : Int)) = false := by simp; omega
    go_enter Try.func25, Try.ntmps25
    go_wp2_with fail
    go_loopw [5] (fun i wr => ∃ k : Nat, k ≤ l.length ∧ i = .int .i64 (k : Int) ∧ AlikeU l m k ∧ Below w.heap.size w wr) (fun i _ => l.length - (intOf i).toNat)
    case atStart => exact ⟨0, by omega, rfl, fun j hj => absurd hj (by omega), Below.refl _ _⟩
    case round =>
      obtain ⟨wr1, rfl⟩ : ∃ y : World, y = wr := ⟨_, rfl⟩
      obtain ⟨k, hk, rfl, ha, hw⟩ := hrel
      have HA := Lib.hid ha
      have HW := Lib.hid hw
      clear ha hw
      by_cases hlt : k < l.length
      · have hd : decide ((k : Int) < (l.length : Int)) = true := by simp; omega
        obtain ⟨x, hxk⟩ : ∃ x, l[k]? = some x := ⟨_, List.getElem?_eq_getElem hlt⟩
        obtain ⟨y, hyk⟩ : ∃ y, m[k]? = some y := ⟨_, List.getElem?_eq_getElem (by omega)⟩
        obtain ⟨q, hadr, hq⟩ := mds_at (HS.out.below HW.out) k x hxk
        obtain ⟨q2, hadr2, hq2⟩ := mds_at (HT.out.below HW.out) k y hyk
        have HQ := Lib.hid hq
        have HQ2 := Lib.hid hq2
        have HX := Lib.hid hxk
        have HY := Lib.hid hyk
        clear hq hq2 hxk hyk
        obtain ⟨e, he⟩ : ∃ e, decide (x = y) = e := ⟨_, rfl⟩
        have HN := Lib.hid (fun W => (show (binOp .neq 55 (.agg (mC x)) (.agg (mC y))).run Try.prog W = .ok (.bool (!e)) W by rw [neqM, he]))
        have HE := Lib.hid he
        clear he
        cases e with
        | false =>
          go_wp2_with fail
          try simp only [Act.put, List.setIfInBounds_toArray, List.set_cons_succ, List.set_cons_zero]
          refine Agg.wp_region_later_lit (by kernel_rfl) (by kernel_rfl) ?_
          repeat (first | go_big_quiet_skip | ((first | (with_reducible refine Agg.wpQuiet_loadL HQ.out.all rfl _ rfl rfl ?_) | (with_reducible refine Agg.wpQuiet_loadL HQ2.out.all rfl _ rfl rfl ?_) | (with_reducible refine Agg.wpQuiet_neq 55 55 _ _ rfl rfl (mC x) (mC y) rfl rfl _ (by kernel_rfl) HN.out ?_)); simp only [Act.put, List.setIfInBounds_toArray, List.set_cons_succ, List.set_cons_zero]) | go_big_quiet_step (fail))
          refine wpQuiet_nil ?_
          intro _ hw'
          obtain ⟨x4, rfl⟩ := hw'
          go_wp2_with fail
          go_ret
          refine ⟨ret_bool (Eq.symm (decide_eq_false fun e => ?_)), Agg.belowThen HW.out (Nat.le_refl _) x4.h⟩
          subst e
          have h1 := HX.out
          rw [HY.out] at h1
          exact of_decide_eq_false HE.out (Option.some.inj h1).symm
        | true =>
          go_wp2_with fail
          try simp only [Act.put, List.setIfInBounds_toArray, List.set_cons_succ, List.set_cons_zero]
          refine Agg.wp_region_later_lit (by kernel_rfl) (by kernel_rfl) ?_
          repeat (first | go_big_quiet_skip | ((first | (with_reducible refine Agg.wpQuiet_loadL HQ.out.all rfl _ rfl rfl ?_) | (with_reducible refine Agg.wpQuiet_loadL HQ2.out.all rfl _ rfl rfl ?_) | (with_reducible refine Agg.wpQuiet_neq 55 55 _ _ rfl rfl (mC x) (mC y) rfl rfl _ (by kernel_rfl) HN.out ?_)); simp only [Act.put, List.setIfInBounds_toArray, List.set_cons_succ, List.set_cons_zero]) | go_big_quiet_step (fail))
          refine wpQuiet_nil ?_
          intro _ hw'
          obtain ⟨x4, rfl⟩ := hw'
          go_wp2_with fail
          go_roundw
          case rel => exact ⟨k + 1, by omega, by go_num, alikeU_succ HA.out (by rw [HX.out, HY.out, of_decide_eq_true HE.out]), Agg.belowThen HW.out (Nat.le_refl _) x4.h⟩
          case measure => simp [intOf]; omega
      · obtain rfl : k = l.length := by omega
        go_wp2_with fail
        go_ret
        exact ⟨ret_bool (Eq.symm (decide_eq_true (alikeU_all hlm HA.out))), HW.out⟩
  · have hd0 : ((l.length : Int) != (m.length : Int)) = true := by simp; omega
    go_enter Try.func25, Try.ntmps25
    go_wp2_with fail
    go_ret
    exact ⟨ret_bool (Eq.symm (decide_eq_false fun e => hlm (by rw [e]))), Below.refl _ _⟩

end Go.Proofs.Ytniibcgomnjfgaa
/-! real.Add of any builts. -/
namespace Go.Agg
open Go.RowKit
theorem wpList_slice1B {P : Program} {α : Type} {E : Elem P α} {ops : Array Oper} {rest : List Oper} {o : Oper} {a : Act} {w : World} {Q : Exit → Act → World → Prop} (hg : o.guard = none) (y : Operand) (ho : o.op = .buildSlice E.st 1 #[(0, y)]) (x : α) (hy : a.eval y = E.val x)
    (h : ∀ gv w', Blk w' gv E.ty (E.val x).cells → Below w.heap.size w w' → w.heap.size ≤ gv → wpList P ops Q rest (a.put o.dst (.slice (some ⟨gv, 0, none⟩) 1 1)) w') : wpList P ops Q (o :: rest) a w :=
  wpList_val hg (v := .slice (some ⟨w.heap.size, 0, none⟩) 1 1) (w' := w.alloc (.cells (E.val x).cells E.ty)) (by simp [execOp, ho, hy, run_slice_one]) (h _ _ (Blk.new w E.ty _) ((Below.refl _ _).alloc (Nat.le_refl _) _) (Nat.le_refl _))
end Go.Agg
namespace Go.Proofs.Ytniibcgomnjfgaa
open Go.RowKit Pl Go.Agg
abbrev MapB (l : List Bu) : Prop := Gr.MapP plOf ltPl rightBu l
/-- what Add answers -/
def AddP (l : List Bu) (b : Bu) (l' : List Bu) (c : Nat) : Prop :=
  (c = 2 ∧ (¬ MapB l ∨ rightBu b = false)) ∨
  (c = 0 ∧ MapB l ∧ rightBu b = true ∧ ∃ k, (∀ y ∈ l.take k, ltPl (plOf y) (plOf b) = true) ∧ (∀ y ∈ l.drop k, ltPl (plOf b) (plOf y) = true) ∧ l' = l.take k ++ b :: l.drop k) ∨
  (c = 0 ∧ MapB l ∧ rightBu b = true ∧ b ∈ l ∧ l' = l) ∨
  (c = 6 ∧ MapB l ∧ rightBu b = true ∧ ∃ y ∈ l, plOf y = plOf b ∧ y ≠ b)
theorem bu_ext {x y : Bu} (h1 : plOf x = plOf y) (h2 : x.pa = y.pa) (h3 : x.ins = y.ins) : x = y := by
  cases x; cases y
  simp only [plOf, Prod.mk.injEq] at *
  obtain ⟨rfl, rfl, rfl⟩ := h1
  subst h2 h3
  rfl
theorem srch_add {l : List BuV} {b : Bu} {k : Nat} (hU : Gr.Up (fun x : BuV => plOf x.1) ltPl l) (h : Srch l (plOf b) k k) (hno : ¬ ∃ x, l[k]? = some x ∧ plOf x.1 = plOf b) :
    (∀ y ∈ (l.map (·.1)).take k, ltPl (plOf y) (plOf b) = true) ∧ (∀ y ∈ (l.map (·.1)).drop k, ltPl (plOf b) (plOf y) = true) := by
  constructor
  · intro y hy
    rw [← List.map_take, List.mem_map] at hy
    obtain ⟨x, hx, rfl⟩ := hy
    obtain ⟨t, ht, rfl⟩ := List.getElem_of_mem hx
    rw [List.length_take] at ht
    refine h.low t _ (by omega) ?_
    rw [List.getElem_take]
    exact List.getElem?_eq_getElem (by omega)
  · intro y hy
    rw [← List.map_drop, List.mem_map] at hy
    obtain ⟨x, hx, rfl⟩ := hy
    obtain ⟨t, ht, rfl⟩ := List.getElem_of_mem hx
    rw [List.length_drop] at ht
    have hx' : l[k + t]? = some (l.drop k)[t] := by rw [List.getElem_drop]; exact List.getElem?_eq_getElem (by omega)
    have hf := h.high (k + t) _ (by omega) hx'
    refine ltPl_total _ _ (fun e => ?_) hf
    by_cases h0 : t = 0
    · subst h0; exact hno ⟨_, hx', e⟩
    · obtain ⟨z, hz⟩ : ∃ z, l[k]? = some z := ⟨_, List.getElem?_eq_getElem (by omega)⟩
      have h1 := up_lt hU (by omega : k < k + t) hz hx'
      have h2 := h.high k z (Nat.le_refl _) hz
      rw [e] at h1
      rw [h1] at h2; cases h2
theorem up_map {l : List BuV} (h : MapB (l.map (·.1))) : Gr.Up (fun x : BuV => plOf x.1) ltPl l := by
  have := ((Gr.mapP_iff ltPl_ord _).1 h).2
  unfold Gr.Up at *
  rwa [List.pairwise_map] at this
set_option maxRecDepth 100000 in
set_option maxHeartbeats 8000000 in
theorem add_any (v : Value) (l : List BuV) (hl : l.length ≤ 1000000) (hni : ∀ x ∈ l, x.1.ins.length ≤ 1048576) (b : BuV) (hnb : b.1.ins.length ≤ 1048576) (w : World) (hs : BusAt w v l) (hb : InsAt w b) :
    Calls Try.prog 21 #[v, .agg (bC b)] w fun e w' => ∃ (v' : Value) (c : Nat) (lv : List BuV), e = .returned (.tuple #[v', .int .i64 (c : Int)]) ∧ AddP (l.map (·.1)) b.1 (lv.map (·.1)) c ∧ BusAt w' v' lv ∧ Below w.heap.size w w' := by
  have HS := Lib.hid hs
  have HB := Lib.hid hb
  have HNI := Lib.hid hni
  have hnil : ∀ W, BusAt W (.slice none 0 0) [] := fun W => ⟨SliceOf.nil _ _ _, by simp⟩
  have HNIL := Lib.hid hnil
  clear hs hb hni hnil
  go_enter Try.func21, Try.ntmps21
  go_wp2_with (first | (with_reducible refine wpList_box rfl 35 _ rfl (bC b) rfl ?_; intro g1 w1 hb1 hx1 hg1; have HL1 := Lib.hid (BuG.of_blk hb1); have HX1 := Lib.hid hx1; clear hb1 hx1 hg1))
  refine (buMap_any v l (by omega) w1 (HS.out.below HX1.out)).mono ?_
  rintro e w2 ⟨bm, rfl, hbm, hx2⟩
  have HX2 := Lib.hid (Agg.belowThen HX1.out (Nat.le_refl _) hx2)
  have HL2 := Lib.hid (HL1.out.below hx2)
  have HBM := Lib.hid hbm
  clear hx2 hbm
  cases bm with
  | false =>
    go_wp2_with fail
    go_ret2
    exact ⟨_, 2, [], rfl, .inl ⟨rfl, .inl fun h => by have := HBM.out.2 h; cases this⟩, HNIL.out _, HX2.out⟩
  | true =>
  have HM := Lib.hid (HBM.out.1 rfl)
  go_wp2_with (first | (with_reducible refine wpList_loadL HL2.out.all rfl _ rfl rfl ?_))
  refine (buRight_any b w2 (HB.out.below HX2.out)).mono ?_
  rintro e w3 ⟨rfl, hx3⟩
  have HX3 := Lib.hid (Agg.belowThen HX2.out (Nat.le_refl _) hx3)
  have HL3 := Lib.hid (HL2.out.below hx3)
  clear hx3
  cases hrb : rightBu b.1 with
  | false =>
    have HRB := Lib.hid hrb
    clear hrb
    go_wp2_with fail
    go_ret2
    exact ⟨_, 2, [], rfl, .inl ⟨rfl, .inr HRB.out⟩, HNIL.out _, HX3.out⟩
  | true =>
  have HRB := Lib.hid hrb
  clear hrb
  go_wp2_with (first | (with_reducible refine wpList_loadL HL3.out.all rfl _ rfl rfl ?_))
  refine (of_any b w3).mono ?_
  rintro e w4 ⟨rfl, hx4⟩
  have HX4 := Lib.hid (Agg.belowThen HX3.out (Nat.le_refl _) hx4)
  have HL4 := Lib.hid (HL3.out.below hx4)
  clear hx4
  go_wp2_with fail
  refine (search_any v l (by omega) (up_map HM.out) (plOf b.1) w4 (HS.out.below HX4.out)).mono ?_
  rintro e w5 ⟨k, there, rfl, hsr, hth, hx5⟩
  have hkl := hsr.top
  have HSR := Lib.hid hsr
  have HTH := Lib.hid hth
  have HX5 := Lib.hid (Agg.belowThen HX4.out (Nat.le_refl _) hx5)
  have HL5 := Lib.hid (HL4.out.below hx5)
  clear hx5 hsr hth
  go_wp2_with fail
  refine (someAll_any v l (by omega) HNI.out w5 (HS.out.below HX5.out)).mono ?_
  rintro e w6 ⟨v6, lv, rfl, ho6, hm6, hx6⟩
  have HX6 := Lib.hid (Agg.belowThen HX5.out (Nat.le_refl _) hx6)
  have HL6 := Lib.hid (HL5.out.below hx6)
  have HO6 := Lib.hid ho6
  have HM6 := Lib.hid hm6
  have hll : lv.length = l.length := by have := congrArg List.length hm6; simpa using this
  have HS6 := Lib.hid (Nat.le_trans (Nat.le_refl _) HX5.out.size)
  have HSZ := Lib.hid hx6.size
  clear hx6 ho6 hm6
  cases there with
  | false =>
    have HNO := Lib.hid (show ¬ ∃ x, l[k]? = some x ∧ plOf x.1 = plOf b.1 from fun h => by have := HTH.out.2 h; cases this)
    go_wp2_with (first | (with_reducible refine wpList_loadL HL6.out.all rfl _ rfl rfl ?_))
    refine (owned_any b w6 hnb (HB.out.below HX6.out)).mono ?_
    rintro e w7 ⟨iv, rfl, ho7, hx7⟩
    have HX7 := Lib.hid (Agg.belowThen HX6.out (Nat.le_refl _) hx7)
    have HO7 := Lib.hid (HO6.out.below hx7)
    have HI7 := Lib.hid (ho7.lower HSZ.out)
    have HLT7 := Lib.hid (Nat.le_trans HSZ.out hx7.size)
    clear hx7 ho7
    go_wp2_with (first | (refine wpList_slice1B (E := EBu) rfl _ rfl (b.1, iv) rfl ?_; intro gv w8 hb8 hx8 hg8; have HV8 := Lib.hid (show Blk w8 gv 35 (bC (b.1, iv)) from hb8); have HX8 := Lib.hid (Agg.belowThen HX7.out (Nat.le_refl _) hx8); have HO8 := Lib.hid (HO7.out.below hx8); have HI8 := Lib.hid (HI7.out.below hx8); have HLT8 := Lib.hid (Nat.le_trans HLT7.out hx8.size); have HNE := Lib.hid (show v6.ownBlock ≠ some gv from fun e => (by obtain ⟨_, cur, hc⟩ := HO7.out.row.block gv e; have := Agg.heap_lt hc; omega)); clear hb8 hx8 hg8))
    refine (insert_any v6 lv (by omega) w5.heap.size gv k (b.1, iv) w8 HO8.out HI8.out HV8.out HNE.out HLT8.out (by omega)).mono ?_
    rintro e w9 ⟨v9, l9, rfl, rfl, ho9, hx9⟩
    have HX9 := Lib.hid (show Below w.heap.size w w9 from HX8.out.trans (hx9.mono HS6.out))
    have HO9 := Lib.hid ho9
    clear ho9 hx9
    go_wp2_with fail
    go_ret2
    refine ⟨_, 0, _, rfl, .inr (.inl ⟨rfl, HM.out, HRB.out, k, (srch_add (up_map HM.out) HSR.out HNO.out).1, (srch_add (up_map HM.out) HSR.out HNO.out).2, ?_⟩), HO9.out.at_, HX9.out⟩
    rw [← HM6.out]
    simp
  | true =>
    obtain ⟨x, hxk, hpl⟩ := HTH.out.1 rfl
    obtain ⟨q, hadr, hq, hin⟩ := (HS.out.below HX6.out).at_ k x hxk
    have hbi := HB.out.below HX6.out
    have HQ := Lib.hid hq
    have HX := Lib.hid hxk
    have HPL := Lib.hid hpl
    have hxl := HNI.out x (List.mem_of_getElem? hxk)
    have hmem : x.1 ∈ l.map (·.1) := List.mem_map.2 ⟨x, List.mem_of_getElem? hxk, rfl⟩
    have HMEM := Lib.hid hmem
    obtain ⟨e1, he1⟩ : ∃ e, (!decide (x.1.pa = b.1.pa)) = e := ⟨_, rfl⟩
    obtain ⟨e2, he2⟩ : ∃ e, decide (x.1.ins = b.1.ins) = e := ⟨_, rfl⟩
    have HN := Lib.hid (fun W => (show (binOp .neq 32 (.agg (pC x.1.pa.1.1 x.1.pa.1.2)) (.agg (pC b.1.pa.1.1 b.1.pa.1.2))).run Try.prog W = .ok (.bool e1) W by rw [neqPB, he1]))
    have HEQ := Lib.hid (fun z : Later w6 => (show Calls Try.prog 40 #[ivV x.2, ivV b.2] z.w fun e w' => e = .returned (.bool e2) ∧ Below z.w.heap.size z.w w' by have := mEqual_any (ivV x.2) (ivV b.2) x.1.ins b.1.ins hxl z.w (SliceOf.below hin z.h) (SliceOf.below hbi z.h); rwa [he2] at this))
    have HE1 := Lib.hid he1
    have HE2 := Lib.hid he2
    clear hq hxk hpl hin hbi hmem he1 he2
    cases e1 with
    | true =>
      go_wp2_with fail
      try simp only [Act.put, List.setIfInBounds_toArray, List.set_cons_succ, List.set_cons_zero]
      refine Agg.wp_region_later_lit (by kernel_rfl) (by kernel_rfl) ?_
      repeat (first | go_big_quiet_skip | ((first | (with_reducible refine Agg.wpQuiet_loadL HQ.out.path rfl _ rfl rfl ?_) | (with_reducible refine Agg.wpQuiet_loadL HL6.out.path rfl _ rfl rfl ?_) | (with_reducible refine Agg.wpQuiet_neq 32 32 _ _ rfl rfl (pC x.1.pa.1.1 x.1.pa.1.2) (pC b.1.pa.1.1 b.1.pa.1.2) rfl rfl _ (by kernel_rfl) HN.out ?_)); simp only [Act.put, List.setIfInBounds_toArray, List.set_cons_succ, List.set_cons_zero]) | go_big_quiet_step (fail))
      refine wpQuiet_nil ?_
      intro _ hw'
      obtain ⟨x9, rfl⟩ := hw'
      go_wp2_with fail
      go_ret2
      exact ⟨_, 6, [], rfl, .inr (.inr (.inr ⟨rfl, HM.out, HRB.out, x.1, HMEM.out, HPL.out, fun e => (by have := HE1.out; rw [e] at this; simp at this)⟩)), HNIL.out _, Agg.belowThen HX6.out (Nat.le_refl _) x9.h⟩
    | false =>
      cases e2 with
      | false =>
        go_wp2_with fail
        try simp only [Act.put, List.setIfInBounds_toArray, List.set_cons_succ, List.set_cons_zero]
        refine Agg.wp_region_later_lit (by kernel_rfl) (by kernel_rfl) ?_
        repeat (first | go_big_quiet_skip | ((first | (with_reducible refine Agg.wpQuiet_loadL HQ.out.path rfl _ rfl rfl ?_) | (with_reducible refine Agg.wpQuiet_loadL HL6.out.path rfl _ rfl rfl ?_) | (with_reducible refine Agg.wpQuiet_neq 32 32 _ _ rfl rfl (pC x.1.pa.1.1 x.1.pa.1.2) (pC b.1.pa.1.1 b.1.pa.1.2) rfl rfl _ (by kernel_rfl) HN.out ?_) | (with_reducible refine Agg.wpQuiet_loadL HQ.out.ins rfl _ rfl rfl ?_) | (with_reducible refine Agg.wpQuiet_loadL HL6.out.ins rfl _ rfl rfl ?_)); simp only [Act.put, List.setIfInBounds_toArray, List.set_cons_succ, List.set_cons_zero]) | go_big_quiet_step ((first | (go_at_call 40; with_reducible exact Agg.Calls.later (HEQ.out _)))))
        refine wpQuiet_nil ?_
        intro _ hw'
        obtain ⟨x9, rfl⟩ := hw'
        go_wp2_with fail
        go_ret2
        exact ⟨_, 6, [], rfl, .inr (.inr (.inr ⟨rfl, HM.out, HRB.out, x.1, HMEM.out, HPL.out, fun e => of_decide_eq_false HE2.out (by rw [e])⟩)), HNIL.out _, Agg.belowThen HX6.out (Nat.le_refl _) x9.h⟩
      | true =>
        have hxb : x.1 = b.1 := bu_ext HPL.out (by simpa using HE1.out) (of_decide_eq_true HE2.out)
        have HXB := Lib.hid (show b.1 ∈ l.map (·.1) by rw [← hxb]; exact HMEM.out)
        clear hxb
        go_wp2_with fail
        try simp only [Act.put, List.setIfInBounds_toArray, List.set_cons_succ, List.set_cons_zero]
        refine Agg.wp_region_later_lit (by kernel_rfl) (by kernel_rfl) ?_
        repeat (first | go_big_quiet_skip | ((first | (with_reducible refine Agg.wpQuiet_loadL HQ.out.path rfl _ rfl rfl ?_) | (with_reducible refine Agg.wpQuiet_loadL HL6.out.path rfl _ rfl rfl ?_) | (with_reducible refine Agg.wpQuiet_neq 32 32 _ _ rfl rfl (pC x.1.pa.1.1 x.1.pa.1.2) (pC b.1.pa.1.1 b.1.pa.1.2) rfl rfl _ (by kernel_rfl) HN.out ?_) | (with_reducible refine Agg.wpQuiet_loadL HQ.out.ins rfl _ rfl rfl ?_) | (with_reducible refine Agg.wpQuiet_loadL HL6.out.ins rfl _ rfl rfl ?_)); simp only [Act.put, List.setIfInBounds_toArray, List.set_cons_succ, List.set_cons_zero]) | go_big_quiet_step ((first | (go_at_call 40; with_reducible exact Agg.Calls.later (HEQ.out _)))))
        refine wpQuiet_nil ?_
        intro _ hw'
        obtain ⟨x9, rfl⟩ := hw'
        go_wp2_with fail
        go_ret2
        exact ⟨_, 0, lv, rfl, .inr (.inr (.inl ⟨rfl, HM.out, HRB.out, HXB.out, HM6.out⟩)), (HO6.out.below x9.h).at_, Agg.belowThen HX6.out (Nat.le_refl _) x9.h⟩
end Go.Proofs.Ytniibcgomnjfgaa
/-! spencelaw22.grown: a map grown one by one. -/
namespace Go.Proofs.Ytniibcgomnjfgaa
open Go.RowKit Pl Go.Agg
abbrev GrownB (p out : List Bu) (c : Bool) : Prop := Gr.Grown plOf ltPl rightBu p out c
/-- what a round of grown leaves -/
theorem grown_round {p out out' : List Bu} {cb : Bool} {x : Bu} {c : Nat} (hg : GrownB p out cb) (ha : AddP out x out' c) : (c = 2 ∧ GrownB (p ++ [x]) out cb) ∨ (c = 0 ∧ GrownB (p ++ [x]) out' cb ∧ out'.length ≤ out.length + 1) ∨ (c = 6 ∧ GrownB (p ++ [x]) out false) := by
  rcases ha with ⟨rfl, h⟩ | ⟨rfl, _, hr, k, h1, h2, rfl⟩ | ⟨rfl, _, hr, hm, rfl⟩ | ⟨rfl, _, hr, y, hy, he, hne⟩
  · refine .inl ⟨rfl, ?_⟩
    rcases h with h | h
    · exact absurd (hg.map ltPl_ord) h
    · exact hg.skip h
  · exact .inr (.inl ⟨rfl, hg.add ltPl_ord hr h1 h2, by simp; omega⟩)
  · exact .inr (.inl ⟨rfl, hg.again hm, by omega⟩)
  · exact .inr (.inr ⟨rfl, hg.other ltPl_ord hr hy he hne⟩)
theorem grown_mem {p out : List Bu} {cb : Bool} (hg : GrownB p out cb) {y : Bu} (hy : y ∈ out) : y ∈ p := by
  obtain ⟨i, hi, _⟩ := hg.first y hy
  exact List.mem_of_getElem? hi
/-- what grown answers -/
def GrownO (l : List BuV) (w : World) (e : Ending) (w' : World) : Prop := ∃ (v' : Value) (cb : Bool) (lv : List BuV), e = .returned (.tuple #[v', .bool cb]) ∧ GrownB (l.map (·.1)) (lv.map (·.1)) cb ∧ BusAt w' v' lv ∧ lv.length ≤ l.length ∧ Below w.heap.size w w'
set_option maxRecDepth 100000 in
set_option maxHeartbeats 8000000 in
theorem grown_any (v : Value) (l : List BuV) (hl : l.length ≤ 1000) (hni : ∀ x ∈ l, x.1.ins.length ≤ 1048576) (w : World) (hs : BusAt w v l) :
    Calls Try.prog 7 #[v] w fun e w' => GrownO l w e w' := by
  have HS := Lib.hid hs
  have HNI := Lib.hid (show ∀ y ∈ l.map (·.1), y.ins.length ≤ 1048576 from fun y hy => by obtain ⟨x, hx, rfl⟩ := List.mem_map.1 hy; exact hni x hx)
  have hlv := fun W => bus_len hs W
  clear hs hni
  go_enter Try.func7, Try.ntmps7
  go_wp2_with fail
  go_loopw [4, 5, 6] (fun out c i wr => ∃ (k : Nat) (lv : List BuV) (cb : Bool), k ≤ l.length ∧ i = .int .i64 (k : Int) ∧ c = .bool cb ∧ lv.length ≤ k ∧ BusAt wr out lv ∧ GrownB ((l.take k).map (·.1)) (lv.map (·.1)) cb ∧ Below w.heap.size w wr) (fun _ _ i _ => l.length - (intOf i).toNat)
  case atStart => exact ⟨0, [], true, by omega, rfl, rfl, by simp, ⟨SliceOf.nil _ _ _, by simp⟩, by simpa using Gr.Grown.nil, Below.refl _ _⟩
  case round =>
    obtain ⟨wr1, rfl⟩ : ∃ y : World, y = wr := ⟨_, rfl⟩
    obtain ⟨k, lv, cb, hk, rfl, rfl, hlk, hb, hg, hw⟩ := hrel
    have HB := Lib.hid hb
    have HG := Lib.hid hg
    have HW := Lib.hid hw
    clear hb hg hw
    by_cases hlt : k < l.length
    · have hd : decide ((k : Int) < (l.length : Int)) = true := by simp; omega
      obtain ⟨x, hxk⟩ : ∃ x, l[k]? = some x := ⟨_, List.getElem?_eq_getElem hlt⟩
      obtain ⟨q, hadr, hq, hin⟩ := (HS.out.below HW.out).at_ k x hxk
      have HQ := Lib.hid hq
      have HX := Lib.hid (show (l.take (k + 1)).map (·.1) = (l.take k).map (·.1) ++ [x.1] by rw [List.take_add_one, hxk]; simp)
      have hnx : x.1.ins.length ≤ 1048576 := HNI.out x.1 (List.mem_map.2 ⟨x, List.mem_of_getElem? hxk, rfl⟩)
      have hnl : ∀ y ∈ lv, y.1.ins.length ≤ 1048576 := fun y hy => HNI.out y.1 (by
        have h1 := grown_mem HG.out (List.mem_map.2 ⟨y, hy, rfl⟩)
        obtain ⟨z, hz, e⟩ := List.mem_map.1 h1
        exact List.mem_map.2 ⟨z, List.mem_of_mem_take hz, e⟩)
      clear hq hxk
      go_wp2_with (first | (with_reducible refine wpList_loadL HQ.out.all rfl _ rfl rfl ?_))
      refine (add_any _ lv (by omega) hnl x hnx _ HB.out hin).mono ?_
      rintro e w2 ⟨v2, c, lv2, rfl, ha, hb2, hx2⟩
      have HB2 := Lib.hid hb2
      have HB1 := Lib.hid (HB.out.below hx2)
      have HW2 := Lib.hid (Agg.belowThen HW.out (Nat.le_refl _) hx2)
      have hgr := grown_round HG.out ha
      clear hin hb2 hx2 ha hnl
      rcases hgr with ⟨rfl, hg2⟩ | ⟨rfl, hg2, hll⟩ | ⟨rfl, hg2⟩
      · have HG2 := Lib.hid hg2
        clear hg2
        cases cb
        all_goals
          go_wp2_with fail
          go_roundw
          case rel => exact ⟨k + 1, lv, _, by omega, by go_num, rfl, by omega, HB1.out, by rw [HX.out]; exact HG2.out, HW2.out⟩
          case measure => simp [intOf]; omega
      · have HG2 := Lib.hid hg2
        have hll2 : lv2.length ≤ k + 1 := by simp at hll; omega
        clear hg2 hll
        cases cb
        all_goals
          go_wp2_with fail
          go_roundw
          case rel => exact ⟨k + 1, lv2, _, by omega, by go_num, rfl, hll2, HB2.out, by rw [HX.out]; exact HG2.out, HW2.out⟩
          case measure => simp [intOf]; omega
      · have HG2 := Lib.hid hg2
        clear hg2
        cases cb
        all_goals
          go_wp2_with fail
          go_roundw
          case rel => exact ⟨k + 1, lv, _, by omega, by go_num, rfl, by omega, HB1.out, by rw [HX.out]; exact HG2.out, HW2.out⟩
          case measure => simp [intOf]; omega
    · obtain rfl : k = l.length := by omega
      rw [List.take_length] at HG
      go_wp2_with fail
      go_ret2
      unfold GrownO
      exact ⟨_, cb, lv, rfl, HG.out, HB.out, hlk, HW.out⟩
end Go.Proofs.Ytniibcgomnjfgaa
