/- slices.Insert of one built into builts of the call's own. (Several texts in one.) -/
import Derived.Test.YtniibcgomnjfgaaGreatVAR
import Derived.Test.YtniibcgomnjfgaaGreatVAB
import Derived.Laws.CopyRow
import Derived.Test.YtniibcgomnjfgaaGreatVAO
import Derived.Lib.AppendZerosOnto
import Derived.Lib.Overlaps
import Derived.Test.YtniibcgomnjfgaaGreatVAP
import Derived.Test.YtniibcgomnjfgaaGreatVAD
/-! real.Map of any builts. -/
namespace Go.Proofs.YtniibcgomnjfgaaGreat
open Go.RowKit Pl Go.Agg
/-- a map up to a place -/
def MapU (l : List BuV) (k : Nat) : Prop := ∀ (i : Nat) x, i < k → l[i]? = some x → rightBu x.1 = true ∧ ∀ (j : Nat) y, i = j + 1 → l[j]? = some y → ltPl (plOf y.1) (plOf x.1) = true
theorem mapU_all (l : List BuV) : MapU l l.length ↔ Gr.MapP plOf ltPl rightBu (l.map (·.1)) := by
  constructor
  · intro h i x hx
    rw [List.getElem?_map] at hx
    cases hl : l[i]? with
    | none => rw [hl] at hx; cases hx
    | some u =>
      rw [hl] at hx
      obtain rfl : u.1 = x := by simpa using hx
      have hi := (List.getElem?_eq_some_iff.1 hl).1
      refine ⟨(h i u hi hl).1, fun j y hij hy => ?_⟩
      rw [List.getElem?_map] at hy
      cases hl2 : l[j]? with
      | none => rw [hl2] at hy; cases hy
      | some z =>
        rw [hl2] at hy
        obtain rfl : z.1 = y := by simpa using hy
        exact (h i u hi hl).2 j z hij hl2
  · intro h i x _ hx
    have h1 := h i x.1 (by rw [List.getElem?_map, hx]; rfl)
    exact ⟨h1.1, fun j y hij hy => h1.2 j y.1 hij (by rw [List.getElem?_map, hy]; rfl)⟩
theorem mapU_zero (l : List BuV) : MapU l 0 := fun i _ hi => absurd hi (by omega)
theorem mapU_succ {l : List BuV} {k : Nat} {x : BuV} (h : MapU l k) (hx : l[k]? = some x) (hr : rightBu x.1 = true) (hl : ∀ (j : Nat) y, k = j + 1 → l[j]? = some y → ltPl (plOf y.1) (plOf x.1) = true) : MapU l (k + 1) := by
  intro i y hi hy
  by_cases e : i = k
  · subst e
    rw [hx] at hy
    obtain rfl := Option.some.inj hy
    exact ⟨hr, hl⟩
  · exact h i y (by omega) hy
theorem mapU_not {l : List BuV} {k : Nat} {x : BuV} (hx : l[k]? = some x) (hno : rightBu x.1 = false ∨ ∃ (j : Nat) (y : BuV), k = j + 1 ∧ l[j]? = some y ∧ ltPl (plOf y.1) (plOf x.1) = false) : (false = true ↔ Gr.MapP plOf ltPl rightBu (l.map (·.1))) := by
  constructor
  · intro h; cases h
  · intro h
    rw [← mapU_all] at h
    have h1 := h k x (List.getElem?_eq_some_iff.1 hx).1 hx
    rcases hno with hn | ⟨j, y, e1, e2, e3⟩
    · rw [h1.1] at hn; cases hn
    · rw [h1.2 j y e1 e2] at e3; cases e3
set_option maxRecDepth 100000 in
set_option maxHeartbeats 8000000 in
theorem buMap_any (v : Value) (l : List BuV) (hn : l.length ≤ 1048576) (w : World) (hs : BusAt w v l) :
    Calls Tryz.prog 16 #[v] w fun e w' => ∃ b, e = .returned (.bool b) ∧ (b = true ↔ Gr.MapP plOf ltPl rightBu (l.map (·.1))) ∧ Below w.heap.size w w' := by
  have HS := Lib.hid hs
  have hlv := fun W => bus_len hs W
  clear hs
  go_enter Tryz.func16, Tryz.ntmps16
  go_wp2_with fail
  go_loopw [7] (fun i wr => ∃ k : Nat, k ≤ l.length ∧ i = .int .i64 k ∧ MapU l k ∧ Below w.heap.size w wr) (fun i _ => l.length - (intOf i).toNat)
  case atStart => exact ⟨0, by omega, rfl, mapU_zero l, Below.refl _ _⟩
  case round =>
    obtain ⟨wr1, rfl⟩ : ∃ y : World, y = wr := ⟨_, rfl⟩
    obtain ⟨k, hk, rfl, hm, hw⟩ := hrel
    have HM := Lib.hid hm
    have HW := Lib.hid hw
    clear hm hw
    by_cases hlt : k < l.length
    · have hd : decide ((k : Int) < (l.length : Int)) = true := by simp; omega
      obtain ⟨x, hxk⟩ : ∃ x, l[k]? = some x := ⟨_, List.getElem?_eq_getElem hlt⟩
      obtain ⟨q, hadr, hq, hin⟩ := (HS.out.below HW.out).at_ k x hxk
      have HQ := Lib.hid hq
      have HX := Lib.hid hxk
      have HI := Lib.hid hin
      clear hq hxk hin
      go_wp2_with (first | (with_reducible refine wpList_loadL HQ.out.all rfl _ rfl rfl ?_) | (with_reducible refine wpList_zero rfl 29 rfl (bC (zB, none, 0, 0)) bC_zero ?_; intro g2 w2 hb2 hx2 hg2; have HB2 := Lib.hid hb2; have HX2 := Lib.hid hx2; have HG2 := Lib.hid hg2; clear hb2 hx2 hg2) | (with_reducible refine wpList_put rfl rfl 29 _ _ rfl g2 (bC x) (bC (zB, none, 0, 0)) rfl rfl HB2.out (bC_info _) (by rw [bC_size, bC_size]) (bC_one _) ?_; intro w3 hb3 hx3 hs3 _; have HL3 := Lib.hid (BuG.of_blk hb3); have HX3 := Lib.hid (HX2.out.trans (hx3.mono HG2.out)); clear hb3 hx3 hs3))
      have HW3 := Lib.hid (Agg.belowThen HW.out (Nat.le_refl _) HX3.out)
      have HI3 := Lib.hid (HI.out.below HX3.out)
      have HS3 := Lib.hid (HS.out.below HW3.out)
      cases hr : rightBu x.1 with
      | false =>
        have HR := Lib.hid (fun y : Later w3 => (show Calls Tryz.prog 35 #[.agg (bC x)] y.w fun e w' => e = .returned (.bool false) ∧ Below y.w.heap.size y.w w' by have := buRight_any x y.w (HI3.out.below y.h); rwa [hr] at this))
        have HNO := Lib.hid (mapU_not HX.out (.inl hr))
        clear hr
        try simp only [Act.put, List.setIfInBounds_toArray, List.set_cons_succ, List.set_cons_zero]
        refine Agg.wp_region_later_lit (by kernel_rfl) (by kernel_rfl) ?_
        repeat (first | go_big_quiet_skip | ((first | (with_reducible refine Agg.wpQuiet_loadL HL3.out.all rfl _ rfl rfl ?_)); simp only [Act.put, List.setIfInBounds_toArray, List.set_cons_succ, List.set_cons_zero]) | go_big_quiet_step ((first | (go_at_call 35; exact Agg.Calls.later (HR.out _)))))
        refine wpQuiet_nil ?_
        intro _ hw'
        obtain ⟨x4, rfl⟩ := hw'
        go_wp2_with fail
        go_ret
        exact ⟨false, rfl, HNO.out, Agg.belowThen HW3.out (Nat.le_refl _) x4.h⟩
      | true =>
        have HR := Lib.hid (fun y : Later w3 => (show Calls Tryz.prog 35 #[.agg (bC x)] y.w fun e w' => e = .returned (.bool true) ∧ Below y.w.heap.size y.w w' by have := buRight_any x y.w (HI3.out.below y.h); rwa [hr] at this))
        have HRR := Lib.hid hr
        clear hr
        by_cases h0 : k = 0
        · subst h0
          have hd0 : decide ((0 : Int) < ((0 : Nat) : Int)) = false := by simp
          try simp only [Act.put, List.setIfInBounds_toArray, List.set_cons_succ, List.set_cons_zero]
          refine Agg.wp_region_later_lit (by kernel_rfl) (by kernel_rfl) ?_
          repeat (first | go_big_quiet_skip | ((first | (with_reducible refine Agg.wpQuiet_loadL HL3.out.all rfl _ rfl rfl ?_)); simp only [Act.put, List.setIfInBounds_toArray, List.set_cons_succ, List.set_cons_zero]) | go_big_quiet_step ((first | (go_at_call 35; exact Agg.Calls.later (HR.out _)))))
          refine wpQuiet_nil ?_
          intro _ hw'
          obtain ⟨x4, rfl⟩ := hw'
          go_wp2_with fail
          go_roundw
          case rel => exact ⟨1, by omega, by go_num, mapU_succ HM.out HX.out HRR.out (fun j y e => absurd e (by omega)), Agg.belowThen HW3.out (Nat.le_refl _) x4.h⟩
          case measure => simp [intOf]; omega
        · obtain ⟨j, rfl⟩ : ∃ j, k = j + 1 := ⟨k - 1, by omega⟩
          have hd0 : decide ((0 : Int) < ((j + 1 : Nat) : Int)) = true := decide_eq_true (by omega)
          obtain ⟨y, hyk⟩ : ∃ y, l[j]? = some y := ⟨_, List.getElem?_eq_getElem (by omega)⟩
          obtain ⟨q2, hadr2, hq2, hin2⟩ := HS3.out.at_ j y hyk
          have HQ2 := Lib.hid hq2
          have HY := Lib.hid hyk
          have HOY := Lib.hid (fun z : Later w3 => of_any y z.w)
          have HOX := Lib.hid (fun z : Later w3 => of_any x z.w)
          have HAG := Lib.hid (fun z : Later w3 => against_any (plOf y.1) (plOf x.1) z.w)
          have hsub : (((j + 1 : Nat) : Int) - 1) = (j : Int) := by omega
          clear hq2 hyk hin2
          obtain ⟨c, hc⟩ : ∃ c, cmpPl (plOf y.1) (plOf x.1) = c := ⟨_, rfl⟩
          rw [hc] at HAG
          have HC := Lib.hid hc
          clear hc
          by_cases h1 : 0 ≤ c
          · have hd1 := decide_eq_true h1
            try simp only [Act.put, List.setIfInBounds_toArray, List.set_cons_succ, List.set_cons_zero]
            refine Agg.wp_region_later_lit (by kernel_rfl) (by kernel_rfl) ?_
            repeat (first | go_big_quiet_skip | ((first | (with_reducible refine Agg.wpQuiet_loadL HL3.out.all rfl _ rfl rfl ?_) | (with_reducible refine Agg.wpQuiet_loadL HQ2.out.all rfl _ rfl rfl ?_)); simp only [Act.put, List.setIfInBounds_toArray, List.set_cons_succ, List.set_cons_zero]) | go_big_quiet_step ((first | (go_at_call 35; exact Agg.Calls.later (HR.out _)) | (go_at_call 37; with_reducible exact Agg.Calls.later (HOY.out _)) | (go_at_call 37; with_reducible exact Agg.Calls.later (HOX.out _)) | (go_at_call 39; exact Agg.Calls.later (HAG.out _)))))
            refine wpQuiet_nil ?_
            intro _ hw'
            obtain ⟨x4, rfl⟩ := hw'
            go_wp2_with fail
            go_ret
            exact ⟨false, rfl, mapU_not HX.out (.inr ⟨j, y, rfl, HY.out, by rw [← cmpPl_neg, HC.out]; exact decide_eq_false (by omega)⟩), Agg.belowThen HW3.out (Nat.le_refl _) x4.h⟩
          · have hd1 := decide_eq_false h1
            try simp only [Act.put, List.setIfInBounds_toArray, List.set_cons_succ, List.set_cons_zero]
            refine Agg.wp_region_later_lit (by kernel_rfl) (by kernel_rfl) ?_
            repeat (first | go_big_quiet_skip | ((first | (with_reducible refine Agg.wpQuiet_loadL HL3.out.all rfl _ rfl rfl ?_) | (with_reducible refine Agg.wpQuiet_loadL HQ2.out.all rfl _ rfl rfl ?_)); simp only [Act.put, List.setIfInBounds_toArray, List.set_cons_succ, List.set_cons_zero]) | go_big_quiet_step ((first | (go_at_call 35; exact Agg.Calls.later (HR.out _)) | (go_at_call 37; with_reducible exact Agg.Calls.later (HOY.out _)) | (go_at_call 37; with_reducible exact Agg.Calls.later (HOX.out _)) | (go_at_call 39; exact Agg.Calls.later (HAG.out _)))))
            refine wpQuiet_nil ?_
            intro _ hw'
            obtain ⟨x4, rfl⟩ := hw'
            go_wp2_with fail
            go_roundw
            case rel => exact ⟨j + 1 + 1, by omega, by go_num, mapU_succ HM.out HX.out HRR.out (fun i z e hz => (by obtain rfl : j = i := (by omega); rw [HY.out] at hz; obtain rfl := Option.some.inj hz; rw [← cmpPl_neg, HC.out]; exact decide_eq_true (by omega))), Agg.belowThen HW3.out (Nat.le_refl _) x4.h⟩
            case measure => simp [intOf]; omega
    · obtain rfl : k = l.length := by omega
      go_wp2_with fail
      go_ret
      exact ⟨true, rfl, ⟨fun _ => (mapU_all l).1 HM.out, fun _ => rfl⟩, HW.out⟩
end Go.Proofs.YtniibcgomnjfgaaGreat
/-! 'copy' into a row of the call's own, at elements of many cells. -/
namespace Go.Agg
open Go.RowKit
section
variable {P : Program} {α : Type} {E : Elem P α} {w : World} {base : Nat}
theorem Elem.flat_take (l : List α) (k : Nat) (hk : k ≤ l.length) : (E.flat l).take (k * E.n) = E.flat (l.take k) := by
  have h : E.flat l = E.flat (l.take k) ++ E.flat (l.drop k) := by rw [← E.flat_append, List.take_append_drop]
  rw [h, List.take_left' (by rw [E.flat_length, List.length_take, Nat.min_eq_left hk])]
theorem Elem.flat_drop (l : List α) (k : Nat) (hk : k ≤ l.length) : (E.flat l).drop (k * E.n) = E.flat (l.drop k) := by
  have h : E.flat l = E.flat (l.take k) ++ E.flat (l.drop k) := by rw [← E.flat_append, List.take_append_drop]
  rw [h, List.drop_left' (by rw [E.flat_length, List.length_take, Nat.min_eq_left hk])]
theorem run_copyE (w : World) (sT ty : TypeId) (g o dLen dCap : Nat) (a : Addr) (sLen sCap : Nat) (cur : Array Value) (t : TypeId) (cs : List Value)
    (hg : w.heap[g]? = some (.cells cur t (0, 0))) (hn : cs.length = Nat.min sLen dLen * E.n)
    (hsrc : ∀ j v, cs[j]? = some v → w.cell? (a.add j) = some v) (hfit : o + cs.length ≤ cur.size) (h1 : ∀ v ∈ cs, v.oneCell' = true) :
    (Builtin.copy_ #[E.st, sT] ty #[.slice (some ⟨g, o, none⟩) dLen dCap, .slice (some a) sLen sCap]).run P w =
      .ok (goInt (Nat.min sLen dLen : Nat)) (w.setRow g (cur.toList.take o ++ cs ++ cur.toList.drop (o + cs.length)).toArray) := by
  obtain ⟨i, hi, _, hs, _⟩ := E.info
  have hl := run_loadCells_list (P := P) w a cs hsrc
  have hst := run_storeCells_at P g o t cs 0 cur w hg (by simpa using hfit) h1
  simp [Builtin.copy_, run_underlying E.slice, Builtin.lenOf, Builtin.firstCells, sizeOf, typeInfo, hi, hs, ← hn, hl, hst]
theorem splice_take {β : Type} (C cs : List β) (o N : Nat) (h1 : o + cs.length ≤ N) (h2 : N ≤ C.length) : (C.take o ++ cs ++ C.drop (o + cs.length)).take N = (C.take N).take o ++ cs ++ (C.take N).drop (o + cs.length) := by
  rw [List.take_append, List.take_of_length_le (by simp; omega)]
  congr 1
  · rw [List.take_take, Nat.min_eq_left (by omega)]
  · rw [List.drop_take]; congr 1; simp; omega
theorem run_copy_put {g n c : Nat} {sv : Value} {l m : List α} (hown : Own E base w (.slice (some ⟨g, 0, none⟩) n c) l) (hs : SliceOf E w sv m) (hne : m ≠ []) (k dl dc : Nat) (hk : k + m.length ≤ l.length) (hdl : m.length ≤ dl) (ty : TypeId) :
    ∃ cur, (Builtin.copy_ #[E.st, E.st] ty #[.slice (some ⟨g, k * E.n, none⟩) dl dc, sv]).run P w = .ok (goInt (m.length : Nat)) (w.setRow g cur) ∧ Own E base (w.setRow g cur) (.slice (some ⟨g, 0, none⟩) n c) (l.take k ++ m ++ l.drop (k + m.length)) := by
  obtain ⟨hfl, ⟨h0, _⟩ | ⟨g', cap, cur, hv, hgb, hcur, hle, hmx, hsz, htk⟩⟩ := hown
  · cases h0
  · obtain ⟨rfl, rfl, rfl⟩ : g = g' ∧ n = l.length ∧ c = cap := by injection hv with e1 e2 e3; injection e1 with e1; injection e1 with e1; exact ⟨e1, e2, e3⟩
    rcases hs with ⟨p, c', rfl, rfl⟩ | ⟨p, sc, rfl, hp, hsc⟩
    · exact absurd rfl hne
    · have hml : (E.flat m).length = m.length * E.n := E.flat_length m
      have hkm : k * E.n + m.length * E.n ≤ l.length * E.n := by rw [← Nat.add_mul]; exact Nat.mul_le_mul_right _ hk
      have hlc : l.length * E.n ≤ c * E.n := Nat.mul_le_mul_right _ hle
      have hmd : Nat.min m.length dl = m.length := Nat.min_eq_left hdl
      refine ⟨_, (run_copyE w E.st ty g (k * E.n) dl dc p m.length sc cur E.ty (E.flat m) hcur (by rw [hml, hmd]) hsc (by rw [hml, hsz]; omega) (E.flat_one' m)).trans (by rw [hmd]), ?_⟩
      refine ⟨E.flat_length _, .inr ⟨g, c, _, by congr 1; simp; omega, hgb, setRow_heap _ _ _ _ _ _ hcur, by simp; omega, hmx, ?_, ?_⟩⟩
      · simp [hml]
        rw [← hsz] at *; omega
      · rw [show (l.take k ++ m ++ l.drop (k + m.length)).length = l.length by simp; omega, splice_take _ _ _ _ (by rw [hml]; exact hkm) (by rw [show cur.toList.length = cur.size from Array.length_toList, hsz]; exact hlc), htk, E.flat_append, E.flat_append, hml, ← Nat.add_mul, E.flat_take _ _ (by omega), E.flat_drop _ _ hk]
theorem run_copy_up {g n c : Nat} {l : List α} (hown : Own E base w (.slice (some ⟨g, 0, none⟩) n c) l) (hroom : n + 1 ≤ c) (k dl dc sl sc : Nat) (hk : k < n) (hdl : dl = n - k) (hsl : sl = n + 1 - k) (ty : TypeId) :
    ∃ cur, (Builtin.copy_ #[E.st, E.st] ty #[.slice (some ⟨g, (k + 1) * E.n, none⟩) dl dc, .slice (some ⟨g, k * E.n, none⟩) sl sc]).run P w = .ok (goInt ((n - k : Nat) : Nat)) (w.setRow g cur) ∧ Own E base (w.setRow g cur) (.slice (some ⟨g, 0, none⟩) (n + 1) c) (l.take (k + 1) ++ l.drop k) := by
  obtain ⟨hfl, ⟨h0, _⟩ | ⟨g', cap, cur, hv, hgb, hcur, hle, hmx, hsz, htk⟩⟩ := hown
  · cases h0
  · obtain ⟨rfl, rfl, rfl⟩ : g = g' ∧ n = l.length ∧ c = cap := by injection hv with e1 e2 e3; injection e1 with e1; injection e1 with e1; exact ⟨e1, e2, e3⟩
    subst hdl hsl
    have hml : (E.flat (l.drop k)).length = (l.length - k) * E.n := by rw [E.flat_length, List.length_drop]
    have hkn : (k + 1) * E.n + (l.length - k) * E.n = (l.length + 1) * E.n := by rw [← Nat.add_mul]; congr 1; omega
    have hlc : (l.length + 1) * E.n ≤ c * E.n := Nat.mul_le_mul_right _ hroom
    have hmn : Nat.min (l.length + 1 - k) (l.length - k) = l.length - k := Nat.min_eq_right (by omega)
    refine ⟨_, (run_copyE w E.st ty g ((k + 1) * E.n) (l.length - k) dc ⟨g, k * E.n, none⟩ (l.length + 1 - k) sc cur E.ty (E.flat (l.drop k)) hcur (by rw [hml, hmn]) ?_ (by rw [hml, hsz]; omega) (E.flat_one' _)).trans (by rw [hmn]), ?_⟩
    · intro j u hj
      rw [add_plain, cell_of_row _ _ _ _ _ _ hcur]
      rw [← E.flat_drop _ _ (by omega), ← htk, List.getElem?_drop, List.getElem?_take] at hj
      split at hj
      · simpa using hj
      · cases hj
    · have hl1 : (l.take (k + 1) ++ l.drop k).length = l.length + 1 := by simp; omega
      refine ⟨by rw [E.flat_length, hl1], .inr ⟨g, c, _, by rw [hl1], hgb, setRow_heap _ _ _ _ _ _ hcur, by omega, hmx, ?_, ?_⟩⟩
      · simp [hml]; rw [← hsz] at hlc ⊢; omega
      · rw [hl1, List.take_append_of_le_length (by simp [hml]; rw [← hsz] at hlc; omega), List.take_of_length_le (by simp [hml]; omega), E.flat_append, ← E.flat_take _ _ (by omega), ← htk, List.take_take, Nat.min_eq_left (Nat.mul_le_mul_right _ (by omega))]
end
end Go.Agg
/-! Laws of no program for slices.Insert: slices of many cells cut, grown by zeros; copies whose runs are known. -/
namespace Go.Agg
open Go.RowKit
section
variable {P : Program} {α : Type} (E : Elem P α)
theorem Elem.runLow (p : Option Addr) (n c k : Nat) (hk : k ≤ n) (W : World) : (Instr.sliceAt E.st (.slice p n c) (some (.int .i64 (k : Int))) none none).run P W = .ok (.slice (if c = k then p else p.map (·.add (k * E.n))) (n - k) (c - k)) W := by
  simp [Instr.sliceAt, Instr.slice, Instr.sliceBounds, Instr.sliceBound, run_underlying E.slice, Sem.run_bind, asIntOf, run_sizeOf_elem]
  intro h
  omega
theorem Elem.runCut (g n c k : Nat) (hk : k ≤ n) (hc : k < c) (W : World) : (Instr.sliceAt E.st (.slice (some ⟨g, 0, none⟩) n c) (some (.int .i64 (k : Int))) none none).run P W = .ok (.slice (some ⟨g, k * E.n, none⟩) (n - k) (c - k)) W := by
  rw [E.runLow _ n c k hk W, if_neg (by omega)]
  simp only [Option.map_some, add_plain, Nat.zero_add]
theorem Elem.runHigh (p : Option Addr) (n c k : Nat) (hk : k ≤ c) (W : World) : (Instr.sliceAt E.st (.slice p n c) none (some (.int .i64 (k : Int))) none).run P W = .ok (.slice p k c) W := by
  have hp : (p.map fun x => x.add 0) = p := by cases p <;> rfl
  simp [Instr.sliceAt, Instr.slice, Instr.sliceBounds, Instr.sliceBound, run_underlying E.slice, Sem.run_bind, asIntOf, hk, hp, run_sizeOf_elem]
variable {E}
/-- zeros, as elements -/
theorem zeroCells_flat (z : α) (hz : E.val z = E.zero) (n : Nat) : (Builtin.zeroCells E.zero.cells n).toList = E.flat (List.replicate n z) := by
  have hs := E.zsize
  have hpos := E.pos
  refine List.ext_getElem? fun j => ?_
  by_cases hj : j < n * E.n
  · have hq : j % E.n < E.n := Nat.mod_lt _ hpos
    have hk : j / E.n < n := (Nat.div_lt_iff_lt_mul hpos).2 hj
    have h4 : (E.val z).cells[j % E.n]? = some E.zero.cells[j % E.n]! := by
      rw [hz, getElem!_def, Array.getElem?_eq_getElem (by omega)]
    have h5 := E.flat_get (List.replicate n z) (j / E.n) z (j % E.n) _ (by simp [hk]) h4
    rw [show j / E.n * E.n + j % E.n = j by rw [Nat.mul_comm]; exact Nat.div_add_mod j E.n] at h5
    rw [h5]
    simp [Builtin.zeroCells, hs, hj]
  · rw [List.getElem?_eq_none (by simp [Builtin.zeroCells, hs]; omega), List.getElem?_eq_none (by rw [E.flat_length]; simp; omega)]
/-- 'append(s, make([]T, n)...)' where there is no room -/
theorem run_append_zerosE {base : Nat} {w : World} {g c : Nat} {l : List α} (z : α) (hz : E.val z = E.zero) (hown : Own E base w (.slice (some ⟨g, 0, none⟩) l.length c) l) (tn : TypeId) (htn : P.underlying tn = some (.int .i64)) (n : Nat) (hn : 0 < n) (hg : c < l.length + n) (h63 : l.length + n ≤ 1099511627776 / 8) (hby : E.bytes ≤ 1000) (hbase : base ≤ w.heap.size) (ty : TypeId) :
    ∃ cap w', (Builtin.append_ #[E.st, tn] ty #[.slice (some ⟨g, 0, none⟩) l.length c, .int .i64 (n : Int)]).run P w = .ok (.slice (some ⟨w.heap.size, 0, none⟩) (l.length + n) cap) w' ∧ Own E base w' (.slice (some ⟨w.heap.size, 0, none⟩) (l.length + n) cap) (l ++ List.replicate n z) ∧ Below w.heap.size w w' ∧ w'.heap.size = w.heap.size + 1 := by
  obtain ⟨i, hi, hzi, hs, hb⟩ := E.info
  have hsl := hown.slice
  obtain ⟨_, ⟨h0, _⟩ | ⟨g', cap, cur, hv, hgb, hcur, hle, hmx, hsz, htk⟩⟩ := hown
  · cases h0
  · obtain ⟨rfl, rfl⟩ : g = g' ∧ c = cap := by injection hv with e1 e2 e3; injection e1 with e1; injection e1 with e1; exact ⟨e1, e3⟩
    have hmul : (l.length + n) * E.bytes ≤ 140737488355328 := Nat.le_trans (Nat.mul_le_mul h63 hby) (by omega)
    have hmul2 : n * E.bytes ≤ 140737488355328 := Nat.le_trans (Nat.mul_le_mul_right _ (by omega)) hmul
    have hold : (Builtin.firstCells i.size l.length (.slice (some ⟨g, 0, none⟩) l.length c)).run P w.drew = .ok (E.flat l).toArray w.drew := by
      rw [hs]
      refine run_firstCells_some w.drew E.n l.length ⟨g, 0, none⟩ l.length c (E.flat l) (E.flat_length l) fun j u hj => ?_
      rw [add_plain, Nat.zero_add]
      rw [← htk, List.getElem?_take] at hj
      split at hj
      · show w.cell? _ = _
        rw [cell_of_row _ _ _ _ _ _ hcur]
        simpa using hj
      · cases hj
    have hr := Lib.run_append_grow_zeros (P := P) w E.st tn ty E.ty i E.zero .i64 .i64 E.slice htn hi hzi (some ⟨g, 0, none⟩) l.length c (E.flat l) hold n hn (by rw [hs]; exact E.pos) hg (by omega) (by rw [hb]; omega) (by rw [hb]; exact growslice_fits hg hmul)
    refine ⟨_, _, hr, ⟨E.flat_length _, .inr ⟨w.heap.size, grownCap w (l.length + n) c E.ty, _, by rw [List.length_append, List.length_replicate], hbase, heap_alloc_new _ _, by rw [List.length_append, List.length_replicate]; exact grownCap_ge w _ _ _, grownCap_le_maxLen w (l.length + n) c E.ty (by unfold maxLen; omega), ?_, ?_⟩⟩, (Below.refl _ _).drew.alloc (Nat.le_refl _) _, Array.size_push _⟩
    · have h1 := grownCap_ge w (l.length + n) c E.ty
      have h2 : (E.flat l).length = l.length * E.n := E.flat_length l
      simp only [Array.size_append, List.size_toArray, h2, Builtin.zeroCells, Array.size_map, Array.size_range, E.zsize]
      rw [← Nat.add_mul, ← Nat.add_mul]
      congr 1
      omega
    · rw [Array.toList_append, Array.toList_append, zeroCells_flat z hz, zeroCells_flat z hz, ← E.flat_append, ← E.flat_append, List.append_assoc]
      have := E.flat_take ((l ++ List.replicate n z) ++ List.replicate (grownCap w (l.length + n) c E.ty - (l.length + n)) z) (l ++ List.replicate n z).length (by simp)
      rw [List.take_left] at this
      rw [← List.append_assoc]
      exact this
section
variable {ops : Array Oper} {rest : List Oper} {o : Oper} {a : Act} {w : World} {Q : Exit → Act → World → Prop}
theorem wpList_copyR (hgd : o.guard = none) (d s : Operand) (t t' : TypeId)
    (ho : o.op = .call { callee := .builtin .copy, args := #[d, s], argTypes := #[t, t'] }) (v u : Value) (hd : a.eval d = v) (hs : a.eval s = u) {v' : Value} {w' : World}
    (hr : (Builtin.copy_ #[t, t'] o.type #[v, u]).run P w = .ok v' w') (h : wpList P ops Q rest (a.put o.dst v') w') : wpList P ops Q (o :: rest) a w := by
  refine wpList_val hgd (v := v') (w' := w') ?_ h
  simp only [execOp, ho, resolve, invoke, builtin, Sem.run_bind, Sem.run_pure, Result.andThen_ok, List.map_toArray, List.map_cons, List.map_nil, hd, hs, hr]
theorem wpList_appendR (hgd : o.guard = none) (s x : Operand) (t tn : TypeId)
    (ho : o.op = .call { callee := .builtin .append, args := #[s, x], argTypes := #[t, tn] }) (vs vx : Value) (hs : a.eval s = vs) (hx : a.eval x = vx) {v' : Value} {w' : World}
    (hr : (Builtin.append_ #[t, tn] o.type #[vs, vx]).run P w = .ok v' w') (h : wpList P ops Q rest (a.put o.dst v') w') : wpList P ops Q (o :: rest) a w := by
  refine wpList_val hgd (v := v') (w' := w') ?_ h
  simp only [execOp, ho, resolve, invoke, builtin, Sem.run_bind, Sem.run_pure, Result.andThen_ok, List.map_toArray, List.map_cons, List.map_nil, hs, hx, hr]
end
theorem Pushed.of_only {base : Nat} {w w' : World} {v : Value} {l : List α} (h : Own E base w v l) (ho : Only (fun k => v.ownBlock = some k) w w') : Pushed E base w w' v :=
  pushed_of h ⟨ho.os, ho.tape, ho.output, ho.size, fun k hk hne => ho.block k hk fun e => hne e.symm⟩
end
end Go.Agg
/-! slices.Insert of one built into builts of the call's own. -/
namespace Go.Proofs.YtniibcgomnjfgaaGreat
open Go.RowKit Pl Go.Agg
theorem shape_row {w : World} {g : Nat} {cs : Array Value} {t : TypeId} (h : w.heap[g]? = some (.cells cs t (0, 0))) : w.shape? g = some (t, cs.size) := by simp [World.shape?, h]
theorem overl_apart {w : World} {gv g : Nat} {x : BuV} {cs : Array Value} (hne : gv ≠ g) (hv : Blk w gv 29 (bC x)) (hg : w.heap[g]? = some (.cells cs 29 (0, 0))) (hcs : cs.size ≠ 0) (off lb cb : Nat) :
    (callFunc 69 #[.slice (some ⟨gv, 0, none⟩) 1 1, .slice (some ⟨g, off, none⟩) lb cb]).run Tryz.prog w = .ok (.value (.bool false)) w := by
  rw [run_callFunc_extern Tryz.func69 (by kernel_rfl) (by kernel_rfl) (by kernel_rfl) (e := Extern.SlicesOverlaps.overlaps #[22, 22] #[4]) (by kernel_rfl),
    Lib.run_overlaps_apart w 22 4 29 EBu.slice 63 (fun w => run_sizeOf_elem (E := EBu) w) ⟨gv, 0, none⟩ ⟨g, off, none⟩ 1 1 lb cb hne 29 29 (bC x).size cs.size (shape_row hv) (shape_row hg) hcs (frozen_of_row _ _ _ _ _ hv) (frozen_of_row _ _ _ _ _ hv)]
  rfl
def zV : BuV := (zB, none, 0, 0)
theorem own_row {base : Nat} {w : World} {g c n : Nat} {l : List BuV} (h : Own EBu base w (.slice (some ⟨g, 0, none⟩) n c) l) : ∃ cur, w.heap[g]? = some (.cells cur 29 (0, 0)) ∧ cur.size = c * 63 ∧ n ≤ c ∧ c ≤ maxLen ∧ base ≤ g := by
  obtain ⟨_, ⟨h0, _⟩ | ⟨g', cap, cur, hv, hgb, hcur, hle, hmx, hsz, _⟩⟩ := h
  · cases h0
  · obtain ⟨rfl, rfl, rfl⟩ : g = g' ∧ n = l.length ∧ c = cap := by injection hv with e1 e2 e3; injection e1 with e1; injection e1 with e1; exact ⟨e1, e2, e3⟩
    exact ⟨cur, hcur, hsz, hle, hmx, hgb⟩
theorem only_setRow {w : World} {g : Nat} {cs : Array Value} : Only (· = g) w (w.setRow g cs) := ⟨rfl, rfl, rfl, by simp, fun k _ hk => setRow_other w g k cs hk⟩
set_option maxRecDepth 100000 in
set_option maxHeartbeats 4000000 in
/-- at the end -/
theorem insert_end (v : Value) (l : List BuV) (hl : l.length ≤ 1048576) (base : Nat) (gv : Nat) (x : BuV) (w : World) (hown : Own EBu base w v l) (hv : Blk w gv 29 (bC x)) (hbase : base ≤ w.heap.size) :
    Calls Tryz.prog 42 #[v, .int .i64 (l.length : Int), .slice (some ⟨gv, 0, none⟩) 1 1] w fun e w' => ∃ v', e = .returned v' ∧ Own EBu base w' v' (l ++ [x]) ∧ Pushed EBu base w w' v := by
  have HO := Lib.hid hown
  have HVV := Lib.hid (slice_of_block (E := EBu) (a := x) hv)
  have hlv := fun W => hown.slice.len W
  obtain ⟨p, c, rfl⟩ := hown.slice.form
  have hlo := EBu.runLow (P := Tryz.prog) p l.length c l.length (Nat.le_refl _)
  have hee : ((l.length : Int) == (l.length : Int)) = true := by simp
  clear hown hv
  go_enter Tryz.func42, Tryz.ntmps42
  go_wp2_with (first | (refine Agg.wpList_appendO (E := EBu) (base := base) rfl _ _ rfl (.slice (some ⟨gv, 0, none⟩) 1 1) rfl rfl [x] HO.out HVV.out (by simp; omega) (by decide) hbase ?_; intro v2 w2 ho2 hp2 _; have HO2 := Lib.hid ho2; have HP2 := Lib.hid (show Pushed EBu base w w2 (.slice p l.length c) from hp2); clear ho2 hp2))
  all_goals go_ret
  all_goals first | exact ⟨_, rfl, HO2.out, HP2.out⟩ | (rename_i h; have hp := HP2.out; rw [h] at hp; exact ⟨_, rfl, HO2.out, hp⟩)
theorem ins_eq (l : List BuV) (k : Nat) (x : BuV) (hk : k < l.length) : (l.take (k + 1) ++ l.drop k).take k ++ [x] ++ (l.take (k + 1) ++ l.drop k).drop (k + 1) = l.take k ++ x :: l.drop k := by
  rw [List.take_append_of_le_length (by simp; omega), List.take_take, Nat.min_eq_left (by omega), List.drop_left' (by simp; omega)]
  simp
theorem grow_eq (l : List BuV) (k : Nat) (x : BuV) (hk : k < l.length) : (((l.take k ++ List.replicate (l.length + 1 - k) zV).take k ++ [x] ++ (l.take k ++ List.replicate (l.length + 1 - k) zV).drop (k + [x].length)).take (k + 1) ++ l.drop k ++ ((l.take k ++ List.replicate (l.length + 1 - k) zV).take k ++ [x] ++ (l.take k ++ List.replicate (l.length + 1 - k) zV).drop (k + [x].length)).drop (k + 1 + (l.drop k).length)) = l.take k ++ x :: l.drop k := by
  have h1 : (l.take k).length = k := by simp; omega
  have h2 : (l.take k ++ List.replicate (l.length + 1 - k) zV).take k = l.take k := List.take_left' h1
  have h3 : (l.take k ++ [x]).length = k + 1 := by simp; omega
  have hR : ((l.take k ++ List.replicate (l.length + 1 - k) zV).drop (k + [x].length)).length = l.length - k := by simp; omega
  rw [h2]
  generalize (l.take k ++ List.replicate (l.length + 1 - k) zV).drop (k + [x].length) = R at *
  have h5 : (l.take k ++ [x] ++ R).drop (k + 1 + (l.drop k).length) = [] := List.drop_eq_nil_of_le (by rw [List.length_append, h3, hR, List.length_drop]; exact Nat.le_refl _)
  rw [h5, List.take_left' h3]
  simp
theorem sl_low {g n c k : Nat} {i : Int} (hi : i = (k : Int)) (hk : k ≤ n) (hc : k < c) (W : World) : (Instr.sliceAt 22 (.slice (some ⟨g, 0, none⟩) n c) (some (.int .i64 i)) none none).run Tryz.prog W = .ok (.slice (some ⟨g, k * 63, none⟩) (n - k) (c - k)) W := by
  subst hi; exact EBu.runCut g n c k hk hc W
theorem sl_high {g n c k : Nat} {i : Int} (hi : i = (k : Int)) (hk : k ≤ c) (W : World) : (Instr.sliceAt 22 (.slice (some ⟨g, 0, none⟩) n c) none (some (.int .i64 i)) none).run Tryz.prog W = .ok (.slice (some ⟨g, 0, none⟩) k c) W := by
  subst hi; exact EBu.runHigh _ n c k hk W
set_option maxRecDepth 100000 in
set_option maxHeartbeats 4000000 in
/-- in the midst, where there is room -/
theorem insert_room (l : List BuV) (hl : l.length ≤ 1048576) (base g c gv k : Nat) (x : BuV) (w : World) (hown : Own EBu base w (.slice (some ⟨g, 0, none⟩) l.length c) l) (hv : Blk w gv 29 (bC x)) (hne : gv ≠ g) (hk : k < l.length) (hroom : l.length + 1 ≤ c) :
    Calls Tryz.prog 42 #[.slice (some ⟨g, 0, none⟩) l.length c, .int .i64 (k : Int), .slice (some ⟨gv, 0, none⟩) 1 1] w fun e w' => ∃ v', e = .returned v' ∧ Own EBu base w' v' (l.take k ++ x :: l.drop k) ∧ Pushed EBu base w w' (.slice (some ⟨g, 0, none⟩) l.length c) := by
  have HO := Lib.hid hown
  have HV := Lib.hid hv
  have hlv := fun W => hown.slice.len W
  obtain ⟨cur, hcur, hsz, hle, hmx, hgb⟩ := own_row hown
  have hmx' : c ≤ 9223372036854775807 := by unfold maxLen at hmx; omega
  have hov := fun lb cb => overl_apart hne hv hcur (by omega) ((k + 1) * 63) lb cb
  have hs1 := sl_low (g := g) (n := l.length) (c := c) (k := k) rfl (by omega) (by omega)
  have hs13 := sl_high (g := g) (n := l.length) (c := c) (k := l.length + 1) (i := (l.length : Int) + 1) (by omega) (by omega)
  have hs14 := sl_low (g := g) (n := l.length + 1) (c := c) (k := k + 1) (i := (k : Int) + 1) (by omega) (by omega) (by omega)
  have hs15 := sl_low (g := g) (n := l.length + 1) (c := c) (k := k) rfl (by omega) (by omega)
  rw [Nat.add_sub_add_right] at hs14
  have hee : ((k : Int) == (l.length : Int)) = false := by simp; omega
  have hcc : decide ((c : Int) < (l.length : Int) + 1) = false := by simp; omega
  have hne1 : ¬ ((k : Int) = (l.length : Int)) := by omega
  have HCUR := Lib.hid hcur
  clear hown hv hcur hmx
  go_enter Tryz.func42, Tryz.ntmps42
  go_wp2_with (simp only [hov])
  try simp only [List.append_eq, List.cons_append, List.nil_append]
  try simp only [Act.put, List.setIfInBounds_toArray, List.set_cons_succ, List.set_cons_zero]
  refine Agg.wp_region_row 8 (fun w' => ∃ x : Later w, w' = x.w) (by kernel_rfl) (by kernel_rfl) ⟨⟨_, (Below.refl _ _).drew⟩, rfl⟩ ?_
  simp only [List.take_succ_cons, List.take_zero, List.drop_succ_cons, List.drop_zero]
  repeat (first | go_big_quiet_skip | go_big_quiet_step (fail))
  refine wpQuiet_nil ?_
  intro _ hw'
  obtain ⟨x1, rfl⟩ := hw'
  obtain ⟨cur1, hr1, ho1⟩ := run_copy_up (E := EBu) (HO.out.below x1.h) hroom k (l.length - k) (c - (k + 1)) (l.length + 1 - k) (c - k) hk rfl rfl 3
  have hv1 : Blk x1.w gv 29 (bC x) := HV.out.below x1.h
  have hn1 : Only (· = g) w (x1.w.setRow g cur1) := (Only.of_below x1.h).trans only_setRow (fun _ _ h => h)
  have hv2 : Blk (x1.w.setRow g cur1) gv 29 (bC x) := hv1.onlyB only_setRow hne
  have HR1 := Lib.hid (show (Builtin.copy_ #[22, 22] 3 #[.slice (some ⟨g, (k + 1) * 63, none⟩) (l.length - k) (c - (k + 1)), .slice (some ⟨g, k * 63, none⟩) (l.length + 1 - k) (c - k)]).run Tryz.prog x1.w = .ok (goInt ((l.length - k : Nat) : Nat)) (x1.w.setRow g cur1) from hr1)
  generalize x1.w.setRow g cur1 = w2 at *
  obtain ⟨cur2, hr2, ho2⟩ := run_copy_put (E := EBu) (m := [x]) ho1 (slice_of_block (E := EBu) (a := x) hv2) (by simp) k (l.length + 1 - k) (c - k) (by simp; omega) (by simp; omega) 3
  have hn2 : Only (· = g) w (w2.setRow g cur2) := hn1.trans only_setRow (fun _ _ h => h)
  have HR2 := Lib.hid (show (Builtin.copy_ #[22, 22] 3 #[.slice (some ⟨g, k * 63, none⟩) (l.length + 1 - k) (c - k), .slice (some ⟨gv, 0, none⟩) 1 1]).run Tryz.prog w2 = .ok (goInt (1 : Nat)) (w2.setRow g cur2) from hr2)
  generalize w2.setRow g cur2 = w3 at *
  have e3 : (l.take (k + 1) ++ l.drop k).take k ++ [x] ++ (l.take (k + 1) ++ l.drop k).drop (k + [x].length) = l.take k ++ x :: l.drop k := ins_eq l k x hk
  rw [e3] at ho2
  have HO3 := Lib.hid ho2
  have HN3 := Lib.hid (show Pushed EBu base w w3 (.slice (some ⟨g, 0, none⟩) l.length c) from Pushed.of_only HO.out (hn2.mono fun i _ h => by subst h; rfl))
  clear hr1 hr2 ho1 ho2 hn1 hn2 hv1 hv2
  go_wp2_with (first | (refine wpList_copyR rfl _ _ 22 22 rfl _ _ rfl rfl HR1.out ?_) | (refine wpList_copyR rfl _ _ 22 22 rfl _ _ rfl rfl HR2.out ?_))
  go_ret
  exact ⟨_, rfl, HO3.out, HN3.out⟩
theorem Own.pre {base : Nat} {w : World} {g c n : Nat} {l : List BuV} (h : Own EBu base w (.slice (some ⟨g, 0, none⟩) n c) l) (k : Nat) (hk : k ≤ l.length) : Own EBu base w (.slice (some ⟨g, 0, none⟩) (l.take k).length c) (l.take k) := by
  obtain ⟨_, ⟨h0, _⟩ | ⟨g', cap, cur, hv, hgb, hcur, hle, hmx, hsz, htk⟩⟩ := h
  · cases h0
  · obtain ⟨rfl, rfl, rfl⟩ : g = g' ∧ n = l.length ∧ c = cap := by injection hv with e1 e2 e3; injection e1 with e1; injection e1 with e1; exact ⟨e1, e2, e3⟩
    refine ⟨EBu.flat_length _, .inr ⟨g, c, cur, rfl, hgb, hcur, by simp; omega, hmx, hsz, ?_⟩⟩
    rw [List.length_take, Nat.min_eq_left hk, ← EBu.flat_take l k hk, ← htk, List.take_take, Nat.min_eq_left (Nat.mul_le_mul_right _ hk)]
theorem dropped {base : Nat} {w : World} {g c n : Nat} {l : List BuV} (h : Own EBu base w (.slice (some ⟨g, 0, none⟩) n c) l) (k : Nat) (hk : k ≤ l.length) : SliceOf EBu w (.slice (some ⟨g, k * 63, none⟩) (l.length - k) (c - k)) (l.drop k) := by
  obtain ⟨_, ⟨h0, _⟩ | ⟨g', cap, cur, hv, hgb, hcur, hle, hmx, hsz, htk⟩⟩ := h
  · cases h0
  · obtain ⟨rfl, rfl, rfl⟩ : g = g' ∧ n = l.length ∧ c = cap := by injection hv with e1 e2 e3; injection e1 with e1; injection e1 with e1; exact ⟨e1, e2, e3⟩
    refine .inr ⟨_, c - k, by rw [List.length_drop], heap_lt hcur, fun j u hj => ?_⟩
    rw [add_plain, cell_of_row _ _ _ _ _ _ hcur]
    rw [← EBu.flat_drop l k hk, ← htk, List.getElem?_drop, List.getElem?_take] at hj
    split at hj
    · simpa [show EBu.n = 63 from rfl] using hj
    · cases hj
set_option maxRecDepth 100000 in
set_option maxHeartbeats 4000000 in
/-- in the midst, where there is none -/
theorem insert_grow (l : List BuV) (hl : l.length ≤ 1048576) (base g c gv k : Nat) (x : BuV) (w : World) (hown : Own EBu base w (.slice (some ⟨g, 0, none⟩) l.length c) l) (hv : Blk w gv 29 (bC x)) (hbase : base ≤ w.heap.size) (hk : k < l.length) (hroom : c < l.length + 1) :
    Calls Tryz.prog 42 #[.slice (some ⟨g, 0, none⟩) l.length c, .int .i64 (k : Int), .slice (some ⟨gv, 0, none⟩) 1 1] w fun e w' => ∃ v', e = .returned v' ∧ Own EBu base w' v' (l.take k ++ x :: l.drop k) ∧ Pushed EBu base w w' (.slice (some ⟨g, 0, none⟩) l.length c) := by
  have HO := Lib.hid hown
  have HV := Lib.hid hv
  have hlv := fun W => hown.slice.len W
  obtain ⟨cur, hcur, hsz, hle, hmx, hgb⟩ := own_row hown
  have hpl : (l.take k).length = k := by simp; omega
  have hs1 := sl_low (g := g) (n := l.length) (c := c) (k := k) rfl (by omega) (by omega)
  have hs9 := sl_high (g := g) (n := l.length) (c := c) (k := k) rfl (by omega)
  have hee : ((k : Int) == (l.length : Int)) = false := by simp; omega
  have hcc : decide ((c : Int) < (l.length : Int) + 1) = true := by simp; omega
  obtain ⟨cap, w1, hr1, ho1, hx1, hz1⟩ := run_append_zerosE (E := EBu) zV rfl (Own.pre hown k (by omega)) 3 Tryz.underlying3 (l.length + 1 - k) (by omega) (by rw [hpl]; omega) (by rw [hpl]; omega) (by decide) hbase 22
  rw [hpl, show k + (l.length + 1 - k) = l.length + 1 by omega] at hr1 ho1
  have hcap : l.length + 1 ≤ cap := (own_row ho1).choose_spec.2.2.1
  have HR1 := Lib.hid (show (Builtin.append_ #[22, 3] 22 #[.slice (some ⟨g, 0, none⟩) k c, .int .i64 ((l.length : Int) + 1 - (k : Int))]).run Tryz.prog w = .ok (.slice (some ⟨w.heap.size, 0, none⟩) (l.length + 1) cap) w1 by rw [show ((l.length : Int) + 1 - (k : Int)) = ((l.length + 1 - k : Nat) : Int) by omega]; exact hr1)
  have hs10 := sl_low (g := w.heap.size) (n := l.length + 1) (c := cap) (k := k) rfl (by omega) (by omega)
  have hs11 := sl_low (g := w.heap.size) (n := l.length + 1) (c := cap) (k := k + 1) (i := (k : Int) + 1) (by omega) (by omega) (by omega)
  rw [Nat.add_sub_add_right] at hs11
  have hv1 : Blk w1 gv 29 (bC x) := hv.below hx1
  obtain ⟨cur2, hr2, ho2⟩ := run_copy_put (E := EBu) (m := [x]) ho1 (slice_of_block (E := EBu) (a := x) hv1) (by simp) k (l.length + 1 - k) (cap - k) (by simp; omega) (by simp; omega) 3
  have hx2 : Below w.heap.size w (w1.setRow w.heap.size cur2) := below_setRow hx1 (Nat.le_refl _)
  have HR2 := Lib.hid (show (Builtin.copy_ #[22, 22] 3 #[.slice (some ⟨w.heap.size, k * 63, none⟩) (l.length + 1 - k) (cap - k), .slice (some ⟨gv, 0, none⟩) 1 1]).run Tryz.prog w1 = .ok (goInt (1 : Nat)) (w1.setRow w.heap.size cur2) from hr2)
  generalize w1.setRow w.heap.size cur2 = w2 at *
  have HO2 := Lib.hid ho2
  have HX2 := Lib.hid hx2
  clear hown hv hcur hmx hr1 ho1 hr2 ho2 hx2 hv1
  go_enter Tryz.func42, Tryz.ntmps42
  have hr2 := HR2.out
  go_wp2_with (at_builtin; refine wpList_appendR rfl _ _ 22 3 rfl _ _ rfl rfl HR1.out ?_)
  clear hr2
  try simp only [List.append_eq, List.cons_append, List.nil_append]
  try simp only [Act.put, List.setIfInBounds_toArray, List.set_cons_succ, List.set_cons_zero]
  refine Agg.wp_region_row 8 (fun w' => ∃ x : Later w2, w' = x.w) (by kernel_rfl) (by kernel_rfl) ⟨⟨_, (Below.refl _ _).drew⟩, rfl⟩ ?_
  simp only [List.take_succ_cons, List.take_zero, List.drop_succ_cons, List.drop_zero]
  repeat (first | go_big_quiet_skip | go_big_quiet_step (fail))
  refine wpQuiet_nil ?_
  intro _ hw'
  obtain ⟨x3, rfl⟩ := hw'
  have hdl : (l.drop k).length = l.length - k := List.length_drop
  obtain ⟨cur4, hr4, ho4⟩ := run_copy_put (E := EBu) (m := l.drop k) (HO2.out.below x3.h) (dropped (HO.out.below (Agg.belowThen HX2.out (Nat.le_refl _) x3.h)) k (by omega)) (by intro e; rw [e] at hdl; simp at hdl; omega) (k + 1) (l.length - k) (cap - (k + 1)) (by simp; omega) (by rw [hdl]; exact Nat.le_refl _) 3
  rw [hdl] at hr4
  have HR4 := Lib.hid (show (Builtin.copy_ #[22, 22] 3 #[.slice (some ⟨w.heap.size, (k + 1) * 63, none⟩) (l.length - k) (cap - (k + 1)), .slice (some ⟨g, k * 63, none⟩) (l.length - k) (c - k)]).run Tryz.prog x3.w = .ok (goInt ((l.length - k : Nat) : Nat)) (x3.w.setRow w.heap.size cur4) from hr4)
  have HX4 := Lib.hid (show Below w.heap.size w (x3.w.setRow w.heap.size cur4) from below_setRow (Agg.belowThen HX2.out (Nat.le_refl _) x3.h) (Nat.le_refl _))
  rw [grow_eq l k x hk] at ho4
  have HO4 := Lib.hid ho4
  clear hr4 ho4
  go_wp2_with (first | (refine wpList_copyR rfl _ _ 22 22 rfl _ _ rfl rfl HR4.out ?_))
  go_ret
  exact ⟨_, rfl, HO4.out, Pushed.of_only HO.out (Only.of_below HX4.out)⟩
end Go.Proofs.YtniibcgomnjfgaaGreat
