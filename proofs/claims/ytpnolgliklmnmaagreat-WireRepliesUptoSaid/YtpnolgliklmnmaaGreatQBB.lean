/- spencekit.LentReply, KeptReply. (Several texts in one.) -/
import Derived.Test.YtpnolgliklmnmaaGreatQBA
import Derived.Test.YtpnolgliklmnmaaGreatQAF
import Derived.Test.YtpnolgliklmnmaaGreatQAV
import Derived.Test.YtpnolgliklmnmaaGreatQAX
import Derived.Test.YtpnolgliklmnmaaGreatQAS
/-! spencekit.LentRows, KeptRows. -/
namespace Go.Proofs.YtpnolgliklmnmaaGreat
open Go.RowKit Pl Go.Agg
theorem LentO.keepT {α : Type} {E : Elem Tryz.prog α} {M l : List α} {base : Nat} {w w' : World} {u : Value} (h : LentO E M base w u l) (hk : ∀ (g : Nat) (cur : Array Value) (fr : Nat × Nat), w.heap[g]? = some (Obj.cells cur E.ty fr) → w'.heap[g]? = some (Obj.cells cur E.ty fr)) : LentO E M base w' u l := by
  obtain ⟨g, cap, rfl, ho⟩ := h
  exact ⟨g, cap, rfl, ho.keepT hk⟩
theorem LentO.below {α : Type} {E : Elem Tryz.prog α} {M l : List α} {base : Nat} {w w' : World} {u : Value} (h : LentO E M base w u l) (hb : Below w.heap.size w w') : LentO E M base w' u l := h.keepT fun _ _ _ hg => keep' hb hg
theorem LentO.lower {α : Type} {E : Elem Tryz.prog α} {M l : List α} {base b' : Nat} {w : World} {u : Value} (h : LentO E M base w u l) (hb : b' ≤ base) : LentO E M b' w u l := by
  obtain ⟨g, cap, rfl, ho⟩ := h
  exact ⟨g, cap, rfl, ho.lower hb⟩
theorem sliceOf_prefix {α : Type} {E : Elem Tryz.prog α} {w : World} {p : Option Addr} {cap : Nat} {l M : List α} (h : SliceOf E w (.slice p (l.length + M.length) cap) (l ++ M)) : SliceOf E w (.slice p l.length cap) l := by
  rcases h with ⟨q, c, hv, hl⟩ | ⟨q, c, hv, hp, hc⟩
  · obtain ⟨rfl, _⟩ := List.append_eq_nil_iff.1 hl
    exact SliceOf.nil _ _ _
  · simp only [Value.slice.injEq] at hv
    obtain ⟨rfl, _, rfl⟩ := hv
    refine .inr ⟨_, _, rfl, hp, fun j u hj => hc j u ?_⟩
    rw [Elem.flat_append, List.getElem?_append_left (List.getElem?_eq_some_iff.1 hj).1]
    exact hj
/-- rows that are lent, each in a block of its own -/
structure RowsLent (base : Nat) (w : World) (us : List SV) (ls : List (List UInt8)) : Prop where
  len : us.length = ls.length
  row : ∀ (k : Nat) (s : SV) (l : List UInt8), us[k]? = some s → ls[k]? = some l → LentO EB (marks 1 12) base w s.1 l
section
variable {base : Nat} {w w' : World} {us : List SV} {ls : List (List UInt8)}
theorem RowsLent.below (h : RowsLent base w us ls) (hb : Below w.heap.size w w') : RowsLent base w' us ls := ⟨h.len, fun k s l h1 h2 => (h.row k s l h1 h2).below hb⟩
theorem RowsLent.pushed {B : Nat} {u : Value} (h : RowsLent base w us ls) (hp : Pushed EBB B w w' u) : RowsLent base w' us ls := ⟨h.len, fun k s l h1 h2 => (h.row k s l h1 h2).keepT fun g cur fr hg => hp.blk g _ _ _ (by decide) hg⟩
theorem RowsLent.push {s : SV} {l : List UInt8} (h : RowsLent base w us ls) (hs : LentO EB (marks 1 12) base w s.1 l) : RowsLent base w (us ++ [s]) (ls ++ [l]) := by
  refine ⟨by simp [h.len], fun k t m h1 h2 => ?_⟩
  have hl := h.len
  by_cases hk : k < us.length
  · rw [List.getElem?_append_left hk] at h1
    rw [List.getElem?_append_left (by omega)] at h2
    exact h.row k t m h1 h2
  · rw [List.getElem?_append_right (by omega)] at h1 h2
    by_cases hk0 : k - us.length = 0
    · rw [hk0] at h1
      rw [show k - ls.length = 0 by omega] at h2
      obtain rfl : s = t := by simpa using h1
      obtain rfl : l = m := by simpa using h2
      exact hs
    · rw [List.getElem?_eq_none (by simp; omega)] at h1; cases h1
theorem LentO.form {α : Type} {E : Elem Tryz.prog α} {M l : List α} {u : Value} (h : LentO E M base w u l) : ∃ p n c, u = .slice p n c := by
  obtain ⟨g, cap, rfl, _⟩ := h
  exact ⟨_, _, _, rfl⟩
theorem RowsLent.rows (h : RowsLent base w us ls) : RowsIn w us ls := ⟨h.len, fun k s l h1 h2 => by
  obtain ⟨g, cap, hv, hgb, hle, hs⟩ := (h.row k s l h1 h2).lent (by rw [marks_length]; omega)
  rw [hv]
  have := sliceOf_prefix hs
  exact this⟩
end
set_option maxRecDepth 100000 in
set_option maxHeartbeats 1000000 in
theorem lentRows_any (v : Value) (vs : List SV) (ls : List (List UInt8)) (hl : ls.length ≤ 1048576) (hll : ∀ l ∈ ls, l.length ≤ 1048576) (w : World) (he : BBAt w v vs) (hr : RowsIn w vs ls) :
    Calls Tryz.prog 120 #[v] w fun e w' => ∃ u us, e = .returned u ∧ Below w.heap.size w w' ∧ Own EBB w.heap.size w' u us ∧ RowsLent w.heap.size w' us ls := by
  have hlv := fun W => bb_len he W
  rw [hr.len] at hlv
  have HE := Lib.hid he
  have HR := Lib.hid hr
  clear he hr
  go_enter Tryz.func120, Tryz.ntmps120
  go_wp2_with fail
  go_loopw [3, 4] (fun out i wr => ∃ k us, k ≤ ls.length ∧ i = .int .i64 (k : Int) ∧ Own EBB w.heap.size wr out us ∧ RowsLent w.heap.size wr us (ls.take k) ∧ Below w.heap.size w wr) (fun _ i _ => ls.length - (intOf i).toNat)
  case atStart => exact ⟨0, [], by omega, rfl, Own.nil _ _ _, ⟨by simp, fun k s l h => by simp at h⟩, Below.refl _ _⟩
  case round =>
    obtain ⟨w1, rfl⟩ : ∃ w1 : World, w1 = wr := ⟨_, rfl⟩
    obtain ⟨k, us, hk, rfl, ho, hrl, hw⟩ := hrel
    have HO := Lib.hid ho
    have HRL := Lib.hid hrl
    have HW := Lib.hid hw
    clear ho hrl
    by_cases hlt : k < ls.length
    · obtain ⟨l, hlk⟩ : ∃ l, ls[k]? = some l := ⟨_, List.getElem?_eq_getElem hlt⟩
      obtain ⟨s, hsk⟩ : ∃ s, vs[k]? = some s := ⟨_, List.getElem?_eq_getElem (by rw [HR.out.len]; exact hlt)⟩
      have hl8 := hll l (List.mem_of_getElem? hlk)
      have HS := Lib.hid ((HR.out.row k s l hsk hlk).below hw)
      obtain ⟨q, hadr, hld⟩ := bb_at (HE.out.below hw) k s hsk
      have HLD := Lib.hid hld
      have HT := Lib.hid (show ls.take k ++ [l] = ls.take (k + 1) by rw [List.take_add_one, hlk]; rfl)
      have hul := HRL.out.len
      have h63 : us.length + 1 ≤ 1099511627776 / 8 := by simp at hul; omega
      clear hlk hsk hld hw
      go_wp2_with (first | (with_reducible refine Agg.wpList_loadL HLD.out rfl _ rfl rfl ?_))
      refine (lentBytes_own s.1 l hl8 w1 HS.out).mono ?_
      rintro e w2 ⟨u, rfl, hx2, hlo⟩
      obtain ⟨t, rfl⟩ : ∃ t : SV, u = t.1 := ⟨⟨u, hlo.form⟩, rfl⟩
      have hsz := HW.out.size
      have HO2 := Lib.hid (HO.out.below hx2)
      have HRL2 := Lib.hid ((HRL.out.below hx2).push (hlo.lower hsz))
      have HW2 := Lib.hid (Agg.belowThen HW.out (Nat.le_refl _) hx2)
      have hsz2 := HW2.out.size
      clear hlo hx2
      go_wp2_with (first | (refine Agg.wpList_push (E := EBB) (base := w.heap.size) rfl rfl 17 rfl _ rfl _ rfl t rfl (fun _ => rfl) (by simp) HO2.out h63 (by decide) hsz2 ?_; intro u5 v5 w5 ho5 hp5; have HO5 := Lib.hid ho5; have HRL5 := Lib.hid (HRL2.out.pushed hp5); have HW5 := Lib.hid (HW2.out.trans (hp5.below w.heap.size (Nat.le_refl _) hsz2)); clear ho5 hp5))
      go_roundw
      case rel => exact ⟨k + 1, us ++ [t], by omega, by go_num, HO5.out, by rw [← HT.out]; exact HRL5.out, HW5.out⟩
      case measure => simp [intOf]; omega
    · obtain rfl : k = ls.length := by omega
      have hrl := HRL.out
      rw [List.take_length] at hrl
      have HRT := Lib.hid hrl
      clear hrl
      go_wp2_with fail
      go_ret
      exact ⟨_, us, rfl, HW.out, HO.out, HRT.out⟩
set_option maxRecDepth 100000 in
set_option maxHeartbeats 1000000 in
theorem keptRows_any (u v : Value) (us vs : List SV) (ls : List (List UInt8)) (hl : ls.length ≤ 1048576) (hll : ∀ l ∈ ls, l.length ≤ 1048576) (base : Nat) (w : World) (hu : BBAt w u us) (hul : ∀ W, Below w.heap.size w W → RowsLent base W us ls) (hv : BBAt w v vs) (hr : RowsIn w vs ls) :
    Calls Tryz.prog 123 #[u, v] w fun e w' => e = .returned (.bool true) ∧ Below w.heap.size w w' := by
  have hlu := fun W => bb_len hu W
  have hlv := fun W => bb_len hv W
  rw [hr.len] at hlv
  rw [(hul w (Below.refl _ _)).len] at hlu
  have HU := Lib.hid hu
  have HUL := Lib.hid hul
  have HV := Lib.hid hv
  have HR := Lib.hid hr
  have hne : ((ls.length : Int) != (ls.length : Int)) = false := by simp
  clear hu hul hv hr
  go_enter Tryz.func123, Tryz.ntmps123
  go_wp2_with fail
  go_loopw [5] (fun i wr => ∃ k : Nat, k ≤ ls.length ∧ i = .int .i64 (k : Int) ∧ Below w.heap.size w wr) (fun i _ => ls.length - (intOf i).toNat)
  case atStart => exact ⟨0, by omega, rfl, Below.refl _ _⟩
  case round =>
    obtain ⟨w1, rfl⟩ : ∃ w1 : World, w1 = wr := ⟨_, rfl⟩
    obtain ⟨k, hk, rfl, hw⟩ := hrel
    by_cases hlt : k < ls.length
    · obtain ⟨l, hlk⟩ : ∃ l, ls[k]? = some l := ⟨_, List.getElem?_eq_getElem hlt⟩
      obtain ⟨s, hsk⟩ : ∃ s, vs[k]? = some s := ⟨_, List.getElem?_eq_getElem (by rw [HR.out.len]; exact hlt)⟩
      obtain ⟨t, htk⟩ : ∃ s, us[k]? = some s := ⟨_, List.getElem?_eq_getElem (by rw [(HUL.out w (Below.refl _ _)).len]; exact hlt)⟩
      have hl8 := hll l (List.mem_of_getElem? hlk)
      obtain ⟨p, hadr, hld⟩ := bb_at (HU.out.below hw) k t htk
      obtain ⟨q, hadq, hlq⟩ := bb_at (HV.out.below hw) k s hsk
      have HLX := Lib.hid hld
      have HLY := Lib.hid hlq
      have HKB := Lib.hid (fun z : Later w1 => keptBytes_any t.1 s.1 l hl8 base z.w (((HUL.out z.w (Agg.belowThen hw (Nat.le_refl _) z.h)).row k t l htk hlk).lent (by rw [marks_length]; omega)) (((HR.out.row k s l hsk hlk).below hw).below z.h))
      clear hlk hsk htk hld hlq
      go_wp2_with fail
      try simp only [Act.put, List.setIfInBounds_toArray, List.set_cons_succ, List.set_cons_zero]
      refine Agg.wp_region_later_lit (by kernel_rfl) (by kernel_rfl) ?_
      repeat (first | go_big_quiet_skip | ((first | (with_reducible refine Agg.wpQuiet_loadL HLX.out rfl _ rfl rfl ?_) | (with_reducible refine Agg.wpQuiet_loadL HLY.out rfl _ rfl rfl ?_)); simp only [Act.put, List.setIfInBounds_toArray, List.set_cons_succ, List.set_cons_zero]) | go_big_quiet_step ((go_at_call 19; exact Agg.Calls.later (HKB.out _))))
      refine wpQuiet_nil ?_
      intro _ hw'
      obtain ⟨x1, rfl⟩ := hw'
      go_wp2_with fail
      go_roundw
      case rel => exact ⟨k + 1, by omega, by go_num, Agg.belowThen hw (Nat.le_refl _) x1.h⟩
      case measure => simp [intOf]; omega
    · obtain rfl : k = ls.length := by omega
      go_wp2_with fail
      go_ret
      exact ⟨rfl, hw⟩
end Go.Proofs.YtpnolgliklmnmaaGreat
/-! spencekit.LentPaths, KeptPaths. -/
namespace Go.Proofs.YtpnolgliklmnmaaGreat
open Go.RowKit Pl Go.Agg
set_option maxRecDepth 100000 in
set_option maxHeartbeats 1000000 in
theorem lentPaths_any (v : Value) (b : List P20) (hb : b.length ≤ 1048576) (w : World) (he : ElemsAt w v b) :
    Calls Tryz.prog 70 #[v] w fun e w' => ∃ u, e = .returned u ∧ Below w.heap.size w w' ∧ Lent E20 (marksG mkP 1 12) w.heap.size w' u b := by
  have hlv := fun W => elems_len he W
  have HE := Lib.hid he
  clear he
  have hc : b.length + 12 ≤ 1099511627776 / 8 := by omega
  go_enter Tryz.func70, Tryz.ntmps70
  go_wp2_with (first | (refine Agg.wpList_make0 (base := w.heap.size) E20 rfl .i64 .i64 _ (b.length + 12) rfl rfl hc (by decide) (Nat.le_refl _) ?_; intro v1 w1 ho1 hx1) | (at_builtin; refine Agg.walk_stop ?_))
  refine ⟨?_, trivial⟩
  have h63 : ([] : List P20).length + b.length ≤ 1099511627776 / 8 := by simp; omega
  refine Agg.wpList_appendS (E := E20) rfl _ _ rfl v rfl rfl b ho1 (SliceOf.below HE.out hx1) h63 (by decide) hx1.size ?_
  intro v2 w2 ho2 hp2 _
  rw [List.nil_append] at ho2
  have hx2 := hx1.trans (hp2.below w.heap.size (Nat.le_refl _) hx1.size)
  simp only [Act.put, List.setIfInBounds_toArray, List.set_cons_succ, List.set_cons_zero]
  clear ho1 hp2 hx1
  go_wp2_with fail
  go_loopw [3, 4] (fun out i wr => ∃ k : Nat, k ≤ 12 ∧ i = .int .i64 k ∧ Own E20 w.heap.size wr out (b ++ marksG mkP 1 k) ∧ Below w.heap.size w wr) (fun _ i _ => 12 - (intOf i).toNat)
  case atStart => exact ⟨0, by omega, rfl, by simpa [marksG] using ho2, hx2⟩
  case round =>
    clear ho2 hx2
    obtain ⟨w3, rfl⟩ : ∃ w3 : World, w3 = wr := ⟨_, rfl⟩
    obtain ⟨k, hk, rfl, ho, hw⟩ := hrel
    have HO := Lib.hid ho
    have HW := Lib.hid hw
    clear ho hw
    by_cases hlt : k < 12
    · have h63 : (b ++ marksG mkP 1 k).length + 1 ≤ 1099511627776 / 8 := by rw [List.length_append, marksG_length]; omega
      have hsz := HW.out.size
      go_wp2_with fail
      refine (markPath_any 1 k (by omega) (by omega) _).mono ?_
      rintro e w4 ⟨rfl, hw4⟩
      have hx4 := Agg.belowThen HW.out (Nat.le_refl _) hw4
      have HO4 := Lib.hid (HO.out.below hw4)
      have hsz4 := hx4.size
      go_wp2_with (first | (refine Agg.wpList_push (E := E20) (base := w.heap.size) rfl rfl 19 rfl _ rfl _ rfl (mkP 1 k) rfl (fun _ => rfl) (by simp) HO4.out h63 (by decide) hsz4 ?_; intro u5 v5 w5 ho5 hp5))
      rw [List.append_assoc, ← marksG_succ] at ho5
      go_wp2_with fail
      go_roundw
      case rel => exact ⟨k + 1, by omega, by go_num, ho5, hx4.trans (hp5.below w.heap.size (Nat.le_refl _) hsz4)⟩
      case measure => simp [intOf]; omega
    · obtain rfl : k = 12 := by omega
      obtain ⟨g, cap, rfl, hcap, hlent⟩ := Lent.of_own HO.out (by rw [marksG_length]; omega)
      rw [marksG_length] at hcap
      have hcap2 : b.length ≤ cap := by omega
      have HLT := Lib.hid hlent
      clear hlent
      go_wp2_with fail
      go_ret
      exact ⟨_, rfl, HW.out, HLT.out⟩
theorem markPath_off (k n : Nat) (hk : n ≤ k) (hk2 : k ≤ 16777216) (w : World) : Calls Tryz.prog 116 #[.int .i64 1, .int .i64 ((k : Int) - (n : Int))] w fun e w' => e = .returned (.agg (pC z20 (mkT 1 (k - n)))) ∧ Below w.heap.size w w' := by
  rw [show ((k : Int) - (n : Int)) = ((k - n : Nat) : Int) by omega]
  exact markPath_any 1 (k - n) (by omega) (by omega) w
set_option maxRecDepth 100000 in
set_option maxHeartbeats 1000000 in
theorem keptPaths_any (u v : Value) (b : List P20) (hb : b.length ≤ 1048576) (base : Nat) (w : World) (hu : Lent E20 (marksG mkP 1 12) base w u b) (hv : ElemsAt w v b) :
    Calls Tryz.prog 75 #[u, v] w fun e w' => e = .returned (.bool true) ∧ Below w.heap.size w w' := by
  have hlv := fun W => elems_len hv W
  have HV := Lib.hid hv
  obtain ⟨g, cap, rfl, _, hcap, ha⟩ := hu
  rw [marksG_length] at hcap ha
  have HA := Lib.hid ha
  clear hv ha
  have hne : ((b.length : Int) != (b.length : Int)) = false := by simp
  go_enter Tryz.func75, Tryz.ntmps75
  go_wp2_with fail
  go_loopw [6] (fun i wr => ∃ k : Nat, k ≤ b.length + 12 ∧ i = .int .i64 k ∧ Below w.heap.size w wr) (fun i _ => b.length + 12 - (intOf i).toNat)
  case atStart => exact ⟨0, by omega, rfl, Below.refl _ _⟩
  case round =>
    obtain ⟨w1, rfl⟩ : ∃ w1 : World, w1 = wr := ⟨_, rfl⟩
    obtain ⟨k, hk, rfl, hw⟩ := hrel
    have HW := Lib.hid hw
    clear hw
    by_cases hlt : k < b.length + 12
    · by_cases hlt2 : k < b.length
      · obtain ⟨y, hyk⟩ : ∃ y, b[k]? = some y := ⟨_, List.getElem?_eq_getElem hlt2⟩
        obtain ⟨pa, hadp, hlda⟩ := elem_at (SliceOf.below HA.out HW.out) k y (by rw [List.getElem?_append_left hlt2]; exact hyk)
        obtain ⟨pv, hadv, hldv⟩ := elem_at (SliceOf.below HV.out HW.out) k y hyk
        have HLA := Lib.hid hlda.1
        have HLV := Lib.hid hldv.1
        have hd1 : decide ((k : Int) < (b.length : Int)) = true := by simp; omega
        have hd3 : decide (b.length ≤ k) = false := by simp; omega
        have hq : ∀ w, (binOp .eql 27 (.agg (pC y.1.1 y.1.2)) (.agg (pC y.1.1 y.1.2))).run Tryz.prog w = .ok (.bool true) w := fun w => by rw [eql_path _ _ _ _ y.2 y.2]; simp
        have HQ := Lib.hid hq
        clear hyk hlda hldv hq
        go_wp2_with fail
        try simp only [Act.put, List.setIfInBounds_toArray, List.set_cons_succ, List.set_cons_zero]
        refine Agg.wp_region_later_lit (by kernel_rfl) (by kernel_rfl) ?_
        repeat (first | go_big_quiet_skip | ((first | (with_reducible refine Agg.wpQuiet_loadL HLA.out rfl _ rfl rfl ?_) | (with_reducible refine Agg.wpQuiet_loadL HLV.out rfl _ rfl rfl ?_) | (with_reducible refine Agg.wpQuiet_eql rfl 27 27 _ _ rfl (pC y.1.1 y.1.2) (pC y.1.1 y.1.2) rfl rfl (true) (by kernel_rfl) HQ.out ?_)); simp only [Act.put, List.setIfInBounds_toArray, List.set_cons_succ, List.set_cons_zero]) | go_big_quiet_step (fail))
        refine wpQuiet_nil ?_
        intro _ hw'
        obtain ⟨x1, rfl⟩ := hw'
        go_wp2_with fail
        go_roundw
        case rel => exact ⟨k + 1, by omega, by go_num, Agg.belowThen HW.out (Nat.le_refl _) x1.h⟩
        case measure => simp [intOf]; omega
      · obtain ⟨y, hy⟩ : ∃ y, y = mkP 1 (k - b.length) := ⟨_, rfl⟩
        have hmn := fun w => markPath_off k b.length (by omega) (by omega) w
        obtain ⟨pa, hadp, hlda⟩ := elem_at (SliceOf.below HA.out HW.out) k (mkP 1 (k - b.length)) (by rw [List.getElem?_append_right (by omega)]; exact marksG_get _ _ _ _ (by omega))
        have hmn2 : ∀ w, Calls Tryz.prog 116 #[.int .i64 1, .int .i64 ((k : Int) - (b.length : Int))] w fun e w' => e = .returned (.agg (pC y.1.1 y.1.2)) ∧ Below w.heap.size w w' := by rw [hy]; exact hmn
        rw [← hy] at hlda
        have HMN := Lib.hid hmn2
        have HLA := Lib.hid hlda.1
        have hd1 : decide ((k : Int) < (b.length : Int)) = false := by simp; omega
        have hd3 : decide (b.length ≤ k) = true := by simp; omega
        have hq : ∀ w, (binOp .eql 27 (.agg (pC y.1.1 y.1.2)) (.agg (pC y.1.1 y.1.2))).run Tryz.prog w = .ok (.bool true) w := fun w => by rw [eql_path _ _ _ _ y.2 y.2]; simp
        have HQ := Lib.hid hq
        clear hlda hy hq hmn hmn2
        go_wp2_with fail
        try simp only [Act.put, List.setIfInBounds_toArray, List.set_cons_succ, List.set_cons_zero]
        refine Agg.wp_region_later_lit (by kernel_rfl) (by kernel_rfl) ?_
        repeat (first | go_big_quiet_skip | ((first | (with_reducible refine Agg.wpQuiet_loadL HLA.out rfl _ rfl rfl ?_) | (with_reducible refine Agg.wpQuiet_eql rfl 27 27 _ _ rfl (pC y.1.1 y.1.2) (pC y.1.1 y.1.2) rfl rfl (true) (by kernel_rfl) HQ.out ?_)); simp only [Act.put, List.setIfInBounds_toArray, List.set_cons_succ, List.set_cons_zero]) | go_big_quiet_step ((go_at_call 116; exact Agg.Calls.later (HMN.out _))))
        refine wpQuiet_nil ?_
        intro _ hw'
        obtain ⟨x1, rfl⟩ := hw'
        go_wp2_with fail
        go_roundw
        case rel => exact ⟨k + 1, by omega, by go_num, Agg.belowThen HW.out (Nat.le_refl _) x1.h⟩
        case measure => simp [intOf]; omega
    · obtain rfl : k = b.length + 12 := by omega
      go_wp2_with fail
      go_ret
      exact ⟨rfl, HW.out⟩
end Go.Proofs.YtpnolgliklmnmaaGreat
/-! spencekit.LentReply, KeptReply. -/
namespace Go.Proofs.YtpnolgliklmnmaaGreat
open Go.RowKit Pl Go.Agg
set_option maxRecDepth 100000 in
set_option maxHeartbeats 1000000 in
theorem lentRep_any (e0 g0 m0 : Int) (ph pn ch : List UInt8) (vb : Value) (bs : List P20) (hl : ph.length = 20) (hc : ch.length = 20) (hbs : bs.length ≤ 1048576) (w : World) (hb : ElemsAt w vb bs) :
    Calls Tryz.prog 21 #[.agg (rpG e0 ph pn ch g0 vb m0)] w fun e w' => ∃ ub, e = .returned (.agg (rpG e0 ph pn ch g0 ub m0)) ∧ Below w.heap.size w w' ∧ Lent E20 (marksG mkP 1 12) w.heap.size w' ub bs := by
  have HVB := Lib.hid hb
  clear hb
  go_enter Tryz.func21, Tryz.ntmps21
  go_wp2_with (first | (with_reducible refine Agg.wpList_box rfl 46 _ rfl (rpG e0 ph pn ch g0 vb m0) rfl ?_; intro g w1 hb1 hx1 hg1) | (with_reducible refine Agg.wpList_zero rfl 46 rfl (rpG 0 z20 [] z20 0 (.slice none 0 0) 0) rp_zero ?_; intro g2 w2 hb2 hx2 hg2) | (with_reducible refine Agg.wpList_loadL (RpG.of_blk (hb1.below hx2) hl hc).paths rfl _ rfl rfl ?_))
  have hw2 := Agg.belowThen hx1 (Nat.le_refl _) hx2
  have hlg := hb1.lt
  have hlg2 := hb2.lt
  have hsz1 := hx1.size
  refine (lentPaths_any _ bs hbs w2 (HVB.out.below hw2)).mono ?_
  rintro e w3 ⟨ub, rfl, hx3, hl3⟩
  have hw3 := Agg.belowThen hw2 (Nat.le_refl _) hx3
  obtain ⟨gu, cu, hu, hgu⟩ := hl3.form
  have hsz2 := hx2.size
  have hsz3 := hx3.size
  obtain ⟨w4, hrun, hb4, ho4⟩ := rpB_paths ((hb1.below hx2).below hx3) hl hc ub (by rw [hu]; rfl) (by rw [hu]; rfl)
  have hl4 := hl3.onlyB ho4 (fun b hb h => by have h : b = g := h; rw [hu] at hb; simp only [Value.ownBlock, Option.some.injEq] at hb; omega)
  have hb24 := (hb2.below hx3).only ho4 (fun h => by have h : g2 = g := h; omega)
  have hw4 : Below w.heap.size w w4 := hw3.trans (ho4.below (B := w.heap.size) (by omega) (fun i hi => by have hi : i = g := hi; omega))
  have HW4 := Lib.hid hw4
  have HL4 := Lib.hid hl4
  have HB4 := Lib.hid (RpG.of_blk hb4 hl hc)
  have hone := rp_one hl4.slice e0 g0 m0 ph pn ch
  have hlg24 := hb24.lt
  clear hl3 hl4 hu hb4 hx1 hx2 hx3 hw2 hw3 hw4
  go_wp2_with (first | (with_reducible refine Agg.wpList_store rfl rfl 44 _ _ rfl (.pointer (some ⟨g, 43, none⟩)) ub rfl rfl hrun ?_) | (with_reducible refine Agg.wpList_loadL HB4.out.all rfl _ rfl rfl ?_) | (with_reducible refine Agg.wpList_put rfl rfl 46 _ _ rfl g2 (rpG e0 ph pn ch g0 ub m0) (rpG 0 z20 [] z20 0 (.slice none 0 0) 0) rfl rfl hb24 (rp_info hl hc) (by rw [rpG_size hl hc, rpG_size z20_length z20_length]) hone ?_; intro w7 hb7 hx7 hz7 hk7))
  have ho7 : Only (· = g2) w4 w7 := ⟨hx7.os, hx7.tape, hx7.output, by omega, fun k _ hk => hk7 k hk⟩
  refine Agg.post_row rfl rfl hb7 rp_under rfl (rp_info hl hc) rfl ⟨_, rfl, HW4.out.trans (hx7.mono (by omega)), (HL4.out.onlyB ho7 ?_).lower (by omega)⟩
  intro b hb h
  have h : b = g2 := h
  obtain ⟨gu, cu, hu, hgu⟩ := HL4.out.form
  rw [hu] at hb
  simp only [Value.ownBlock, Option.some.injEq] at hb
  omega
set_option maxRecDepth 100000 in
set_option maxHeartbeats 1000000 in
theorem keptRep_any (e0 g0 m0 : Int) (ph pn ch : List UInt8) (ub vb : Value) (bs : List P20) (hl : ph.length = 20) (hc : ch.length = 20) (hbs : bs.length ≤ 1048576) (base : Nat) (w : World) (hu : Lent E20 (marksG mkP 1 12) base w ub bs) (hv : ElemsAt w vb bs) :
    Calls Tryz.prog 30 #[.agg (rpG e0 ph pn ch g0 ub m0), .agg (rpG e0 ph pn ch g0 vb m0)] w fun e w' => e = .returned (.bool true) ∧ Below w.heap.size w w' := by
  have hsame : ∀ W, Below w.heap.size w W → Calls Tryz.prog 28 #[.agg (rpG e0 ph pn ch g0 ub m0), .agg (rpG e0 ph pn ch g0 vb m0)] W fun e w' => e = .returned (.bool true) ∧ Below W.heap.size W w' := fun W hW => by
    have := sameRp_any e0 g0 m0 ph pn ch ub bs hl hc e0 g0 m0 ph pn ch vb bs hl hc hbs hbs W (hu.slice.below hW) (hv.below hW)
    rwa [(sameRp_eq _ _).2 rfl] at this
  have HSAME := Lib.hid hsame
  have hkb : ∀ W, Below w.heap.size w W → Calls Tryz.prog 75 #[ub, vb] W fun e w' => e = .returned (.bool true) ∧ Below W.heap.size W w' := fun W hW => keptPaths_any ub vb bs hbs base W (hu.below hW) (hv.below hW)
  have HKB := Lib.hid hkb
  clear hsame hkb hu hv
  go_enter Tryz.func30, Tryz.ntmps30
  go_wp2_with (first | (with_reducible refine Agg.wpList_box rfl 46 _ rfl (rpG e0 ph pn ch g0 ub m0) rfl ?_; intro g w1 hb hx1 hg) | (with_reducible refine Agg.wpList_box rfl 46 _ rfl (rpG e0 ph pn ch g0 vb m0) rfl ?_; intro g2 w2 hb2 hx2 hg2) | (with_reducible refine Agg.wpList_loadL (RpG.of_blk (hb.below hx2) hl hc).all rfl _ rfl rfl ?_) | (with_reducible refine Agg.wpList_loadL (RpG.of_blk hb2 hl hc).all rfl _ rfl rfl ?_))
  have hw2 := Agg.belowThen hx1 (Nat.le_refl _) hx2
  have HW2 := Lib.hid hw2
  have HB1 := Lib.hid (RpG.of_blk (hb.below hx2) hl hc)
  have HB2 := Lib.hid (RpG.of_blk hb2 hl hc)
  clear hb hb2 hx1 hx2 hg hg2 hw2
  refine (HSAME.out _ HW2.out).mono ?_
  rintro e w3 ⟨rfl, hx3⟩
  have hw3 := Agg.belowThen HW2.out (Nat.le_refl _) hx3
  have HB13 := Lib.hid (HB1.out.below hx3)
  have HB23 := Lib.hid (HB2.out.below hx3)
  go_wp2_with (first | (with_reducible refine Agg.wpList_loadL HB13.out.paths rfl _ rfl rfl ?_) | (with_reducible refine Agg.wpList_loadL HB23.out.paths rfl _ rfl rfl ?_))
  refine (HKB.out _ hw3).mono ?_
  rintro e w5 ⟨rfl, hx5⟩
  have hw5 := Agg.belowThen hw3 (Nat.le_refl _) hx5
  go_wp2_with fail
  go_ret
  exact ⟨rfl, hw5⟩
end Go.Proofs.YtpnolgliklmnmaaGreat
