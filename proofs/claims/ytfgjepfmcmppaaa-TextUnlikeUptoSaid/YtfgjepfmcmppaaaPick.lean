/- The least path above the last one: the plain law of spenceref03.Sorted. -/
import Derived.Test.YtfgjepfmcmppaaaRising
namespace Go.Proofs.Ytfgjepfmcmppaaa
open Pl
def above (out : List P20) (x : P20) : Bool := match out.getLast? with
  | none => true
  | some y => lt20 y x
def nb (out : List P20) (b : Option P20) (x : P20) : Option P20 :=
  if (above out x && (match b with | none => true | some y => lt20 x y)) = true then some x else b
def pick (out l : List P20) : Option P20 := l.foldl (nb out) none
theorem pick_nil (out : List P20) : pick out [] = none := rfl
theorem pick_snoc (out l : List P20) (x : P20) : pick out (l ++ [x]) = nb out (pick out l) x := by simp [pick, List.foldl_append]
theorem list_snoc {p : List P20 → Prop} (h0 : p []) (h1 : ∀ l x, p l → p (l ++ [x])) (l : List P20) : p l := by
  rw [← List.reverse_reverse l]
  induction l.reverse with
  | nil => exact h0
  | cons x r ih => rw [List.reverse_cons]; exact h1 _ _ ih
theorem nb_no (out : List P20) (b : Option P20) (x : P20) (h : above out x = false) : nb out b x = b := by simp [nb, h]
theorem nb_first (out : List P20) (x : P20) (h : above out x = true) : nb out none x = some x := by simp [nb, h]
theorem nb_less (out : List P20) (b x : P20) (h : above out x = true) (h2 : lt20 x b = true) : nb out (some b) x = some x := by simp [nb, h, h2]
theorem nb_more (out : List P20) (b x : P20) (h2 : lt20 x b = false) : nb out (some b) x = some b := by simp [nb, h2]
theorem pick_spec (out l : List P20) : (pick out l = none → ∀ x ∈ l, above out x = false) ∧ (∀ b, pick out l = some b → b ∈ l ∧ above out b = true ∧ ∀ x ∈ l, above out x = true → lt20 x b = false) := by
  refine list_snoc (p := fun l => (pick out l = none → ∀ x ∈ l, above out x = false) ∧ (∀ b, pick out l = some b → b ∈ l ∧ above out b = true ∧ ∀ x ∈ l, above out x = true → lt20 x b = false)) ?_ ?_ l
  · exact ⟨fun _ x hx => by simp at hx, fun b h => by simp [pick_nil] at h⟩
  · intro l x ⟨ih1, ih2⟩
    rw [pick_snoc]
    cases ha : above out x with
    | false =>
      rw [nb_no _ _ _ ha]
      refine ⟨fun h y hy => ?_, fun b h => ?_⟩
      · rcases List.mem_append.1 hy with hy | hy
        · exact ih1 h y hy
        · obtain rfl : y = x := by simpa using hy
          exact ha
      · obtain ⟨h1, h2, h3⟩ := ih2 b h
        refine ⟨List.mem_append_left _ h1, h2, fun y hy hya => ?_⟩
        rcases List.mem_append.1 hy with hy | hy
        · exact h3 y hy hya
        · obtain rfl : y = x := by simpa using hy
          rw [ha] at hya; cases hya
    | true =>
      cases hp : pick out l with
      | none =>
        rw [nb_first _ _ ha]
        refine ⟨fun h => by simp at h, fun b h => ?_⟩
        obtain rfl : x = b := by simpa using h
        refine ⟨by simp, ha, fun y hy hya => ?_⟩
        rcases List.mem_append.1 hy with hy | hy
        · have := ih1 hp y hy
          rw [this] at hya; cases hya
        · obtain rfl : y = x := by simpa using hy
          exact lt20_irrefl _
      | some c =>
        obtain ⟨h1, h2, h3⟩ := ih2 c hp
        cases hl : lt20 x c with
        | true =>
          rw [nb_less _ _ _ ha hl]
          refine ⟨fun h => by simp at h, fun b h => ?_⟩
          obtain rfl : x = b := by simpa using h
          refine ⟨by simp, ha, fun y hy hya => ?_⟩
          rcases List.mem_append.1 hy with hy | hy
          · cases hc : lt20 y x with
            | false => rfl
            | true =>
              have := lt20_trans _ _ _ hc hl
              rw [h3 y hy hya] at this; cases this
          · obtain rfl : y = x := by simpa using hy
            exact lt20_irrefl _
        | false =>
          rw [nb_more _ _ _ hl]
          refine ⟨fun h => by simp at h, fun b h => ?_⟩
          obtain rfl : c = b := by simpa using h
          refine ⟨List.mem_append_left _ h1, h2, fun y hy hya => ?_⟩
          rcases List.mem_append.1 hy with hy | hy
          · exact h3 y hy hya
          · obtain rfl : y = x := by simpa using hy
            exact hl
/-- what holds of the paths told so far -/
structure Told (l D : List P20) : Prop where
  rise : Rising D
  sub : ∀ x ∈ D, x ∈ l
  rest : ∀ y ∈ l, y ∈ D ∨ above D y = true
theorem Told.start (l : List P20) : Told l [] := ⟨List.Pairwise.nil, fun _ h => by simp at h, fun _ _ => .inr rfl⟩
theorem rising_last {D : List P20} {y x : P20} (h : Rising (D ++ [y])) (hx : x ∈ D) : lt20 x y = true := by
  rw [Rising, List.pairwise_append] at h
  exact h.2.2 x hx y (by simp)
theorem above_snoc (D : List P20) (y x : P20) : above (D ++ [y]) x = lt20 y x := by simp [above]
theorem above_all {D : List P20} (h : Rising D) {b : P20} (ha : above D b = true) : ∀ x ∈ D, lt20 x b = true := by
  intro x hx
  refine list_snoc (p := fun D => Rising D → above D b = true → x ∈ D → lt20 x b = true) ?_ ?_ D h ha hx
  · intro _ _ h; simp at h
  · intro D y _ h ha hx
    rw [above_snoc] at ha
    rcases List.mem_append.1 hx with hx | hx
    · exact lt20_trans _ _ _ (rising_last h hx) ha
    · obtain rfl : x = y := by simpa using hx
      exact ha
theorem Told.next {l D : List P20} (h : Told l D) {b : P20} (hp : pick D l = some b) : Told l (D ++ [b]) := by
  obtain ⟨h1, h2, h3⟩ := (pick_spec D l).2 b hp
  refine ⟨?_, ?_, ?_⟩
  · rw [Rising, List.pairwise_append]
    exact ⟨h.rise, by simp, fun x hx y hy => by obtain rfl : y = b := (by simpa using hy); exact above_all h.rise h2 x hx⟩
  · intro x hx
    rcases List.mem_append.1 hx with hx | hx
    · exact h.sub x hx
    · obtain rfl : x = b := by simpa using hx
      exact h1
  · intro y hy
    rcases h.rest y hy with hd | ha
    · exact .inl (List.mem_append_left _ hd)
    · have hl := h3 y hy ha
      by_cases e : y = b
      · exact .inl (by simp [e])
      · exact .inr (by rw [above_snoc]; exact lt20_total _ _ e hl)
theorem Told.done {l D : List P20} (h : Told l D) (hp : pick D l = none) (x : P20) : x ∈ D ↔ x ∈ l := by
  refine ⟨h.sub x, fun hx => ?_⟩
  rcases h.rest x hx with hd | ha
  · exact hd
  · rw [(pick_spec D l).1 hp x hx] at ha; cases ha
theorem length_le_of_sub : ∀ (D l : List P20), D.Nodup → (∀ x ∈ D, x ∈ l) → D.length ≤ l.length
  | [], _, _, _ => by simp
  | x :: D, l, hn, hs => by
    rw [List.nodup_cons] at hn
    have hx := hs x (by simp)
    have ih := length_le_of_sub D (l.erase x) hn.2 (fun y hy => (List.mem_erase_of_ne (fun (e : y = x) => hn.1 (by rw [← e]; exact hy))).2 (hs y (by simp [hy])))
    rw [List.length_erase_of_mem hx] at ih
    have := List.length_pos_of_mem hx
    simp only [List.length_cons]; omega
theorem Told.length {l D : List P20} (h : Told l D) : D.length ≤ l.length := by
  refine length_le_of_sub D l ?_ h.sub
  refine List.Pairwise.imp ?_ h.rise
  intro a b hab e
  subst e
  rw [lt20_irrefl] at hab; cases hab
/-- the least so far, as it lies in the block -/
def bC : Option P20 → Array Value
  | none => pC z20 []
  | some b => pC b.1.1 b.1.2
end Go.Proofs.Ytfgjepfmcmppaaa
