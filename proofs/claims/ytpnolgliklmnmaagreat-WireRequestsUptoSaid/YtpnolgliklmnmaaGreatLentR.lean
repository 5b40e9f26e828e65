/- spencekit.LentRows, KeptRows. -/
import Derived.Test.YtpnolgliklmnmaaGreatGBH
import Derived.Test.YtpnolgliklmnmaaGreatGAG
namespace Go.Proofs.YtpnolgliklmnmaaGreat
open Go.RowKit Pl Go.Agg
theorem LentO.keepT {α : Type} {E : Elem Tryz.prog α} {M l : List α} {base : Nat} {w w' : World} {u : Value} (h : LentO E M base w u l) (hk : ∀ (g : Nat) (cur : Array Value) (fr : Nat × Nat), w.heap[g]? = some (Obj.cells cur E.ty fr) → w'.heap[g]? = some (Obj.cells cur E.ty fr)) : LentO E M base w' u l := by
  obtain ⟨g, cap, rfl, ho⟩ := h
  exact ⟨g, cap, rfl, ho.keepT hk⟩
theorem LentO.below {α : Type} {E : Elem Tryz.prog α} {M l : List α} {base : Nat} {w w' : World} {u : Value} (h : LentO E M base w u l) (hb : Below w.heap.size w w') : LentO E M base w' u l := h.keepT fun _ _ _ hg => keep' hb hg
theorem LentO.lower {α : Type} {E : Elem Tryz.prog α} {M l : List α} {base b' : Nat} {w : World} {u : Value} (h : LentO E M base w u l) (hb : b' ≤ base) : LentO E M b' w u l := by
  obtain ⟨g, cap, rfl, ho⟩ := h
  exact ⟨g, cap, rfl, ho.lower hb⟩
theorem sliceOf_prefix {α : Type} {E : Elem Tryz.prog α} {w : World} {p : Option Addr} {cap : Nat} {l M : List α} (h : SliceOf E w (.slice p (l.length + M.length) cap) (l ++ M)) : SliceOf E w (.slice p l.length cap) l := by
  rcases h with ⟨q, c, hv, hl⟩ | ⟨q, c, hv, hp, hc⟩
  · obtain ⟨rfl, _⟩ := List.append_eq_nil_iff.1 hl
    exact SliceOf.nil _ _ _
  · simp only [Value.slice.injEq] at hv
    obtain ⟨rfl, _, rfl⟩ := hv
    refine .inr ⟨_, _, rfl, hp, fun j u hj => hc j u ?_⟩
    rw [Elem.flat_append, List.getElem?_append_left (List.getElem?_eq_some_iff.1 hj).1]
    exact hj
/-- rows that are lent, each in a block of its own -/
structure RowsLent (base : Nat) (w : World) (us : List SV) (ls : List (List UInt8)) : Prop where
  len : us.length = ls.length
  row : ∀ (k : Nat) (s : SV) (l : List UInt8), us[k]? = some s → ls[k]? = some l → LentO EB (marks 1 12) base w s.1 l
section
variable {base : Nat} {w w' : World} {us : List SV} {ls : List (List UInt8)}
theorem RowsLent.below (h : RowsLent base w us ls) (hb : Below w.heap.size w w') : RowsLent base w' us ls := ⟨h.len, fun k s l h1 h2 => (h.row k s l h1 h2).below hb⟩
theorem RowsLent.pushed {B : Nat} {u : Value} (h : RowsLent base w us ls) (hp : Pushed EBB B w w' u) : RowsLent base w' us ls := ⟨h.len, fun k s l h1 h2 => (h.row k s l h1 h2).keepT fun g cur fr hg => hp.blk g _ _ _ (by decide) hg⟩
theorem RowsLent.push {s : SV} {l : List UInt8} (h : RowsLent base w us ls) (hs : LentO EB (marks 1 12) base w s.1 l) : RowsLent base w (us ++ [s]) (ls ++ [l]) := by
  refine ⟨by simp [h.len], fun k t m h1 h2 => ?_⟩
  have hl := h.len
  by_cases hk : k < us.length
  · rw [List.getElem?_append_left hk] at h1
    rw [List.getElem?_append_left (by omega)] at h2
    exact h.row k t m h1 h2
  · rw [List.getElem?_append_right (by omega)] at h1 h2
    by_cases hk0 : k - us.length = 0
    · rw [hk0] at h1
      rw [show k - ls.length = 0 by omega] at h2
      obtain rfl : s = t := by simpa using h1
      obtain rfl : l = m := by simpa using h2
      exact hs
    · rw [List.getElem?_eq_none (by simp; omega)] at h1; cases h1
theorem LentO.form {α : Type} {E : Elem Tryz.prog α} {M l : List α} {u : Value} (h : LentO E M base w u l) : ∃ p n c, u = .slice p n c := by
  obtain ⟨g, cap, rfl, _⟩ := h
  exact ⟨_, _, _, rfl⟩
theorem RowsLent.rows (h : RowsLent base w us ls) : RowsIn w us ls := ⟨h.len, fun k s l h1 h2 => by
  obtain ⟨g, cap, hv, hgb, hle, hs⟩ := (h.row k s l h1 h2).lent (by rw [marks_length]; omega)
  rw [hv]
  have := sliceOf_prefix hs
  exact this⟩
end
set_option maxRecDepth 100000 in
set_option maxHeartbeats 1000000 in
theorem lentRows_any (v : Value) (vs : List SV) (ls : List (List UInt8)) (hl : ls.length ≤ 1048576) (hll : ∀ l ∈ ls, l.length ≤ 1048576) (w : World) (he : BBAt w v vs) (hr : RowsIn w vs ls) :
    Calls Tryz.prog 120 #[v] w fun e w' => ∃ u us, e = .returned u ∧ Below w.heap.size w w' ∧ Own EBB w.heap.size w' u us ∧ RowsLent w.heap.size w' us ls := by
  have hlv := fun W => bb_len he W
  rw [hr.len] at hlv
  have HE := Lib.hid he
  have HR := Lib.hid hr
  clear he hr
  go_enter Tryz.func120, Tryz.ntmps120
  go_wp2_with fail
  go_loopw [3, 4] (fun out i wr => ∃ k us, k ≤ ls.length ∧ i = .int .i64 (k : Int) ∧ Own EBB w.heap.size wr out us ∧ RowsLent w.heap.size wr us (ls.take k) ∧ Below w.heap.size w wr) (fun _ i _ => ls.length - (intOf i).toNat)
  case atStart => exact ⟨0, [], by omega, rfl, Own.nil _ _ _, ⟨by simp, fun k s l h => by simp at h⟩, Below.refl _ _⟩
  case round =>
    obtain ⟨w1, rfl⟩ : ∃ w1 : World, w1 = wr := ⟨_, rfl⟩
    obtain ⟨k, us, hk, rfl, ho, hrl, hw⟩ := hrel
    have HO := Lib.hid ho
    have HRL := Lib.hid hrl
    have HW := Lib.hid hw
    clear ho hrl
    by_cases hlt : k < ls.length
    · obtain ⟨l, hlk⟩ : ∃ l, ls[k]? = some l := ⟨_, List.getElem?_eq_getElem hlt⟩
      obtain ⟨s, hsk⟩ : ∃ s, vs[k]? = some s := ⟨_, List.getElem?_eq_getElem (by rw [HR.out.len]; exact hlt)⟩
      have hl8 := hll l (List.mem_of_getElem? hlk)
      have HS := Lib.hid ((HR.out.row k s l hsk hlk).below hw)
      obtain ⟨q, hadr, hld⟩ := bb_at (HE.out.below hw) k s hsk
      have HLD := Lib.hid hld
      have HT := Lib.hid (show ls.take k ++ [l] = ls.take (k + 1) by rw [List.take_add_one, hlk]; rfl)
      have hul := HRL.out.len
      have h63 : us.length + 1 ≤ 1099511627776 / 8 := by simp at hul; omega
      clear hlk hsk hld hw
      go_wp2_with (first | (with_reducible refine Agg.wpList_loadL HLD.out rfl _ rfl rfl ?_))
      refine (lentBytes_own s.1 l hl8 w1 HS.out).mono ?_
      rintro e w2 ⟨u, rfl, hx2, hlo⟩
      obtain ⟨t, rfl⟩ : ∃ t : SV, u = t.1 := ⟨⟨u, hlo.form⟩, rfl⟩
      have hsz := HW.out.size
      have HO2 := Lib.hid (HO.out.below hx2)
      have HRL2 := Lib.hid ((HRL.out.below hx2).push (hlo.lower hsz))
      have HW2 := Lib.hid (Agg.belowThen HW.out (Nat.le_refl _) hx2)
      have hsz2 := HW2.out.size
      clear hlo hx2
      go_wp2_with (first | (refine Agg.wpList_push (E := EBB) (base := w.heap.size) rfl rfl 17 rfl _ rfl _ rfl t rfl (fun _ => rfl) (by simp) HO2.out h63 (by decide) hsz2 ?_; intro u5 v5 w5 ho5 hp5; have HO5 := Lib.hid ho5; have HRL5 := Lib.hid (HRL2.out.pushed hp5); have HW5 := Lib.hid (HW2.out.trans (hp5.below w.heap.size (Nat.le_refl _) hsz2)); clear ho5 hp5))
      go_roundw
      case rel => exact ⟨k + 1, us ++ [t], by omega, by go_num, HO5.out, by rw [← HT.out]; exact HRL5.out, HW5.out⟩
      case measure => simp [intOf]; omega
    · obtain rfl : k = ls.length := by omega
      have hrl := HRL.out
      rw [List.take_length] at hrl
      have HRT := Lib.hid hrl
      clear hrl
      go_wp2_with fail
      go_ret
      exact ⟨_, us, rfl, HW.out, HO.out, HRT.out⟩
set_option maxRecDepth 100000 in
set_option maxHeartbeats 1000000 in
theorem keptRows_any (u v : Value) (us vs : List SV) (ls : List (List UInt8)) (hl : ls.length ≤ 1048576) (hll : ∀ l ∈ ls, l.length ≤ 1048576) (base : Nat) (w : World) (hu : BBAt w u us) (hul : ∀ W, Below w.heap.size w W → RowsLent base W us ls) (hv : BBAt w v vs) (hr : RowsIn w vs ls) :
    Calls Tryz.prog 123 #[u, v] w fun e w' => e = .returned (.bool true) ∧ Below w.heap.size w w' := by
  have hlu := fun W => bb_len hu W
  have hlv := fun W => bb_len hv W
  rw [hr.len] at hlv
  rw [(hul w (Below.refl _ _)).len] at hlu
  have HU := Lib.hid hu
  have HUL := Lib.hid hul
  have HV := Lib.hid hv
  have HR := Lib.hid hr
  have hne : ((ls.length : Int) != (ls.length : Int)) = false := by simp
  clear hu hul hv hr
  go_enter Tryz.func123, Tryz.ntmps123
  go_wp2_with fail
  go_loopw [5] (fun i wr => ∃ k : Nat, k ≤ ls.length ∧ i = .int .i64 (k : Int) ∧ Below w.heap.size w wr) (fun i _ => ls.length - (intOf i).toNat)
  case atStart => exact ⟨0, by omega, rfl, Below.refl _ _⟩
  case round =>
    obtain ⟨w1, rfl⟩ : ∃ w1 : World, w1 = wr := ⟨_, rfl⟩
    obtain ⟨k, hk, rfl, hw⟩ := hrel
    by_cases hlt : k < ls.length
    · obtain ⟨l, hlk⟩ : ∃ l, ls[k]? = some l := ⟨_, List.getElem?_eq_getElem hlt⟩
      obtain ⟨s, hsk⟩ : ∃ s, vs[k]? = some s := ⟨_, List.getElem?_eq_getElem (by rw [HR.out.len]; exact hlt)⟩
      obtain ⟨t, htk⟩ : ∃ s, us[k]? = some s := ⟨_, List.getElem?_eq_getElem (by rw [(HUL.out w (Below.refl _ _)).len]; exact hlt)⟩
      have hl8 := hll l (List.mem_of_getElem? hlk)
      obtain ⟨p, hadr, hld⟩ := bb_at (HU.out.below hw) k t htk
      obtain ⟨q, hadq, hlq⟩ := bb_at (HV.out.below hw) k s hsk
      have HLX := Lib.hid hld
      have HLY := Lib.hid hlq
      have HKB := Lib.hid (fun z : Later w1 => keptBytes_any t.1 s.1 l hl8 base z.w (((HUL.out z.w (Agg.belowThen hw (Nat.le_refl _) z.h)).row k t l htk hlk).lent (by rw [marks_length]; omega)) (((HR.out.row k s l hsk hlk).below hw).below z.h))
      clear hlk hsk htk hld hlq
      go_wp2_with fail
      try simp only [Act.put, List.setIfInBounds_toArray, List.set_cons_succ, List.set_cons_zero]
      refine Agg.wp_region_later_lit (by kernel_rfl) (by kernel_rfl) ?_
      repeat (first | go_big_quiet_skip | ((first | (with_reducible refine Agg.wpQuiet_loadL HLX.out rfl _ rfl rfl ?_) | (with_reducible refine Agg.wpQuiet_loadL HLY.out rfl _ rfl rfl ?_)); simp only [Act.put, List.setIfInBounds_toArray, List.set_cons_succ, List.set_cons_zero]) | go_big_quiet_step ((go_at_call 19; exact Agg.Calls.later (HKB.out _))))
      refine wpQuiet_nil ?_
      intro _ hw'
      obtain ⟨x1, rfl⟩ := hw'
      go_wp2_with fail
      go_roundw
      case rel => exact ⟨k + 1, by omega, by go_num, Agg.belowThen hw (Nat.le_refl _) x1.h⟩
      case measure => simp [intOf]; omega
    · obtain rfl : k = ls.length := by omega
      go_wp2_with fail
      go_ret
      exact ⟨rfl, hw⟩
end Go.Proofs.YtpnolgliklmnmaaGreat
