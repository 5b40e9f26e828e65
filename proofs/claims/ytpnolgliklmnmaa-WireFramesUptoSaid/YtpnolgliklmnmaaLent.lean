/- spencekit.LentBytes. -/
import Derived.Test.YtpnolgliklmnmaaMark
namespace Go.Proofs.Ytpnolgliklmnmaa
open Go.RowKit Pl Go.Agg
/-- a list with marks behind it, in its spare room -/
def Lent {α : Type} (E : Elem Try.prog α) (M : List α) (base : Nat) (w : World) (u : Value) (l : List α) : Prop :=
  ∃ g cap, u = .slice (some ⟨g, 0, none⟩) l.length cap ∧ base ≤ g ∧ l.length + M.length ≤ cap ∧ SliceOf E w (.slice (some ⟨g, 0, none⟩) (l.length + M.length) cap) (l ++ M)
/-- .. in a block of its own -/
def LentO {α : Type} (E : Elem Try.prog α) (M : List α) (base : Nat) (w : World) (u : Value) (l : List α) : Prop :=
  ∃ g cap, u = .slice (some ⟨g, 0, none⟩) l.length cap ∧ Own E base w (.slice (some ⟨g, 0, none⟩) (l.length + M.length) cap) (l ++ M)
theorem LentO.lent {α : Type} {E : Elem Try.prog α} {M l : List α} {base : Nat} {w : World} {u : Value} (h : LentO E M base w u l) (_hM : 0 < M.length) : Lent E M base w u l := by
  obtain ⟨g, cap, rfl, ho⟩ := h
  have hs := ho.slice
  obtain ⟨_, ⟨h, _⟩ | ⟨g', cap', cur, hv, hgb, hcur, hle, _⟩⟩ := ho
  · cases h
  · injection hv with h1 h2 h3
    injection h1 with h1
    injection h1 with h1
    subst h1 h3
    exact ⟨g, cap, rfl, hgb, by rw [← List.length_append]; exact hle, hs⟩
theorem LentO.of_own {α : Type} {E : Elem Try.prog α} {M l : List α} {base : Nat} {w : World} {v : Value} (h : Own E base w v (l ++ M)) (hM : 0 < M.length) : ∃ g cap, v = .slice (some ⟨g, 0, none⟩) (l.length + M.length) cap ∧ l.length + M.length ≤ cap ∧ LentO E M base w (.slice (some ⟨g, 0, none⟩) l.length cap) l := by
  have ho := h
  obtain ⟨hfl, ⟨rfl, h0⟩ | ⟨g, cap, cur, rfl, hgb, hcur, hle, _⟩⟩ := h
  · rw [List.length_append] at h0; omega
  · rw [List.length_append] at hle ho ⊢
    exact ⟨g, cap, rfl, hle, g, cap, rfl, ho⟩
theorem Lent.of_own {α : Type} {E : Elem Try.prog α} {M l : List α} {base : Nat} {w : World} {v : Value} (h : Own E base w v (l ++ M)) (hM : 0 < M.length) : ∃ g cap, v = .slice (some ⟨g, 0, none⟩) (l.length + M.length) cap ∧ l.length + M.length ≤ cap ∧ Lent E M base w (.slice (some ⟨g, 0, none⟩) l.length cap) l := by
  have hs := h.slice
  obtain ⟨hfl, ⟨rfl, h0⟩ | ⟨g, cap, cur, rfl, hgb, hcur, hle, _⟩⟩ := h
  · rw [List.length_append] at h0; omega
  · rw [List.length_append] at hs hle ⊢
    exact ⟨g, cap, rfl, hle, g, cap, rfl, hgb, hle, hs⟩
set_option maxRecDepth 100000 in
set_option maxHeartbeats 1000000 in
theorem lentBytes_own (v : Value) (b : List UInt8) (hb : b.length ≤ 1048576) (w : World) (he : BytesAt w v b) :
    Calls Try.prog 10 #[v] w fun e w' => ∃ u, e = .returned u ∧ Below w.heap.size w w' ∧ LentO EB (marks 1 12) w.heap.size w' u b := by
  have hlv := fun W => bytes_len he W
  have HE := Lib.hid he
  clear he
  have hc : b.length + 12 ≤ 1099511627776 / 8 := by omega
  go_enter Try.func10, Try.ntmps10
  go_wp2_with (first | (refine Agg.wpList_make0 (base := w.heap.size) EB rfl .i64 .i64 _ (b.length + 12) rfl rfl hc (by decide) (Nat.le_refl _) ?_; intro v1 w1 ho1 hx1) | (at_builtin; refine Agg.walk_stop ?_))
  refine ⟨?_, trivial⟩
  have h63 : ([] : List UInt8).length + b.length ≤ 1099511627776 / 8 := by simp; omega
  refine Agg.wpList_appendS (E := EB) rfl _ _ rfl v rfl rfl b ho1 (SliceOf.below HE.out hx1) h63 (by decide) hx1.size ?_
  intro v2 w2 ho2 hp2 _
  rw [List.nil_append] at ho2
  have hx2 := hx1.trans (hp2.below w.heap.size (Nat.le_refl _) hx1.size)
  simp only [Act.put, List.setIfInBounds_toArray, List.set_cons_succ, List.set_cons_zero]
  clear ho1 hp2 hx1
  go_wp2_with fail
  go_loopw [3, 4] (fun out i wr => ∃ k : Nat, k ≤ 12 ∧ i = .int .i64 k ∧ Own EB w.heap.size wr out (b ++ marks 1 k) ∧ Below w.heap.size w wr) (fun _ i _ => 12 - (intOf i).toNat)
  case atStart => exact ⟨0, by omega, rfl, by simpa [marks] using ho2, hx2⟩
  case round =>
    clear ho2 hx2
    obtain ⟨w3, rfl⟩ : ∃ w3 : World, w3 = wr := ⟨_, rfl⟩
    obtain ⟨k, hk, rfl, ho, hw⟩ := hrel
    have HO := Lib.hid ho
    have HW := Lib.hid hw
    clear ho hw
    by_cases hlt : k < 12
    · have h63 : (b ++ marks 1 k).length + 1 ≤ 1099511627776 / 8 := by rw [List.length_append, marks_length]; omega
      have hsz := HW.out.size
      go_wp2_with fail
      refine (markByte_any 1 k (by omega) (by omega) _).mono ?_
      rintro e w4 ⟨rfl, rfl⟩
      go_wp2_with (first | (refine Agg.wpList_push (E := EB) (base := w.heap.size) rfl rfl 19 rfl _ rfl _ rfl (mkB 1 k) rfl (fun _ => rfl) (by simp) HO.out h63 (by decide) hsz ?_; intro u5 v5 w5 ho5 hp5))
      rw [List.append_assoc, ← marks_succ] at ho5
      go_wp2_with fail
      go_roundw
      case rel => exact ⟨k + 1, by omega, by go_num, ho5, HW.out.trans (hp5.below w.heap.size (Nat.le_refl _) hsz)⟩
      case measure => simp [intOf]; omega
    · obtain rfl : k = 12 := by omega
      obtain ⟨g, cap, rfl, hcap, hlent⟩ := LentO.of_own HO.out (by rw [marks_length]; omega)
      rw [marks_length] at hcap
      have hcap2 : b.length ≤ cap := by omega
      have HLT := Lib.hid hlent
      clear hlent
      go_wp2_with fail
      go_ret
      exact ⟨_, rfl, HW.out, HLT.out⟩
theorem lentBytes_any (v : Value) (b : List UInt8) (hb : b.length ≤ 1048576) (w : World) (he : BytesAt w v b) :
    Calls Try.prog 10 #[v] w fun e w' => ∃ u, e = .returned u ∧ Below w.heap.size w w' ∧ Lent EB (marks 1 12) w.heap.size w' u b :=
  (lentBytes_own v b hb w he).mono fun _ _ ⟨u, he, hb, hl⟩ => ⟨u, he, hb, hl.lent (by rw [marks_length]; omega)⟩
end Go.Proofs.Ytpnolgliklmnmaa
