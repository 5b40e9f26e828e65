/- The nodes of a tree with their ways as bytes, in the walk's order. No program in sight. (Several texts in one.) -/
import Derived.Test.YtfiadgdinhmgbaaDoorHAR
import Derived.Test.YtfiadgdinhmgbaaDoorHAI
/-! TreeWays' law: the ways of a right tree. No program in sight. -/
namespace Go.Tr
def wysT (t : T) : List (List UInt8) := (walk [] t).map fun x => joinB x.1
theorem wysT_length (t : T) : (wysT t).length = count t := by rw [wysT, List.length_map, walk_length]
theorem wysT_ways {t : T} (h : right t = true) : ways [] t = wysT t := ways_walk t [] (right_ok h) (by simp)
theorem walk_at {t : T} {i : Nat} {x : N × T} (h : right t = true) (hx : (walk [] t)[i]? = some x) : (wysT t)[i]? = some (joinB x.1) ∧ (∀ n ∈ x.1, Pl.isName n = true) ∧ find t x.1 = some x.2 ∧ fdE t (joinB x.1) = 0 ∧ fdT t (joinB x.1) = x.2 := by
 have hm := List.mem_of_getElem? hx
 have hn := walk_names t [] (right_ok h) (by simp) x hm
 obtain ⟨ns, e, hf, _⟩ := walk_find t [] (right_ok h) x hm
 rw [List.nil_append] at e
 subst e
 obtain ⟨g1, g2⟩ := fdE_of h (wayN_join x.1 hn) hf
 exact ⟨by rw [wysT, List.getElem?_map, hx]; rfl, hn, hf, g1, g2⟩
theorem wysT_nodup {t : T} (h : right t = true) : (wysT t).Nodup := by
 have hp := walk_nodup t [] (right_ok h)
 rw [wysT, List.nodup_iff_pairwise_ne, List.pairwise_map]
 rw [List.nodup_iff_pairwise_ne, List.pairwise_map] at hp
 refine hp.imp_of_mem ?_
 intro a b ha hb hne e
 exact hne (joinB_inj (walk_names t [] (right_ok h) (by simp) a ha) (walk_names t [] (right_ok h) (by simp) b hb) e)
theorem wysT_next {t : T} (h : right t = true) {i : Nat} {a b : List UInt8} (ha : (wysT t)[i]? = some a) (hb : (wysT t)[i + 1]? = some b) : b ≠ a := by
 intro e
 subst e
 have := (List.getElem?_inj (by have := (List.getElem?_eq_some_iff.1 ha).1; omega) (wysT_nodup h)).1 (ha.trans hb.symm)
 omega
theorem wysT_size {t : T} (h : right t = true) : ((wysT t).map fun s => (fdT t s).bytes.length).sum = size t := by
 rw [← walk_size t [], wysT, List.map_map]
 congr 1
 apply List.map_congr_left
 intro x hx
 obtain ⟨i, hi⟩ := List.getElem?_of_mem hx
 obtain ⟨_, _, _, _, e⟩ := walk_at h hi
 simp only [Function.comp, e]
theorem wysT_below {t : T} (h : right t = true) {s way : List UInt8} (hs : s ∈ wysT t) (hw : way ∈ wysT t) (h0 : way ≠ []) (hb : begins s way = true) (hne : s ≠ way) : way.length + 1 ≤ s.length ∧ fdE (fdT t way) (s.drop (way.length + 1)) = 0 ∧ fdT (fdT t way) (s.drop (way.length + 1)) = fdT t s := by
 obtain ⟨x, hx, rfl⟩ := List.mem_map.1 hs
 obtain ⟨y, hy, rfl⟩ := List.mem_map.1 hw
 obtain ⟨i, hi⟩ := List.getElem?_of_mem hx
 obtain ⟨j, hj⟩ := List.getElem?_of_mem hy
 obtain ⟨_, hn, hf, _, e1⟩ := walk_at h hi
 obtain ⟨_, hn', hf', _, e2⟩ := walk_at h hj
 obtain ⟨ms, e⟩ := (begins_iff hn hn').1 hb
 have hy0 : y.1 ≠ [] := fun e => h0 (by rw [e]; rfl)
 have hms : ms ≠ [] := by
  intro e3
  rw [e3, List.append_nil] at e
  exact hne (by rw [e])
 have ej := below_join hy0 hms
 rw [e] at ej
 have hd : (joinB x.1).drop ((joinB y.1).length + 1) = joinB ms := by
  rw [ej, show joinB y.1 ++ (47 :: joinB ms) = (joinB y.1 ++ [47]) ++ joinB ms by simp, List.drop_left' (by simp)]
 have hmn : ∀ n ∈ ms, Pl.isName n = true := fun n hm => hn n (by rw [← e]; simp [hm])
 have hfb := find_below hf' (by rw [e]; exact hf)
 rw [hd, e2, e1]
 obtain ⟨g1, g2⟩ := fdE_of (find_right h hf') (wayN_join ms hmn) hfb
 refine ⟨?_, g1, g2⟩
 have := congrArg List.length ej
 simp at this
 omega
end Go.Tr
/-! The nodes of a tree with their ways as bytes, in the walk's order. No program in sight. -/
namespace Go.Tr
mutual
def walkB (s : List UInt8) : T → List (List UInt8 × T)
 | .mk k b l => (s, .mk k b l) :: walkBL s l
def walkBL (s : List UInt8) : List K → List (List UInt8 × T)
 | [] => []
 | (n, t) :: l => walkB (under s n) t ++ walkBL s l
end
mutual
theorem walkB_ways : ∀ (t : T) (s : List UInt8), (walkB s t).map (·.1) = ways s t
 | .mk k b l, s => by simp only [walkB, ways, List.map_cons, walkBL_ways l s]
theorem walkBL_ways : ∀ (l : List K) (s : List UInt8), (walkBL s l).map (·.1) = waysL s l
 | [], s => rfl
 | (n, t) :: l, s => by simp only [walkBL, waysL, List.map_append, walkB_ways t, walkBL_ways l s]
end
mutual
theorem walkB_nodes : ∀ (t : T) (s : List UInt8) (ws : N), (walkB s t).map (·.2) = (walk ws t).map (·.2)
 | .mk k b l, s, ws => by simp only [walkB, walk, List.map_cons, walkBL_nodes l s ws]
theorem walkBL_nodes : ∀ (l : List K) (s : List UInt8) (ws : N), (walkBL s l).map (·.2) = (walkL ws l).map (·.2)
 | [], s, ws => rfl
 | (n, t) :: l, s, ws => by simp only [walkBL, walkL, List.map_append, walkB_nodes t (under s n) (ws ++ [n]), walkBL_nodes l s ws]
end
theorem walkB_length (t : T) (s : List UInt8) : (walkB s t).length = count t := by
 rw [← ways_length t s, ← walkB_ways t s, List.length_map]
theorem walkBL_length (l : List K) (s : List UInt8) : (walkBL s l).length = countL l := by
 rw [← waysL_length l s, ← walkBL_ways l s, List.length_map]
theorem walkBL_snoc {l : List K} {q : Nat} {z : K} (h : l[q]? = some z) (s : List UInt8) : walkBL s (l.drop q) = walkB (under s z.1) z.2 ++ walkBL s (l.drop (q + 1)) := by
 obtain ⟨hlt, he⟩ := List.getElem?_eq_some_iff.1 h
 rw [List.drop_eq_getElem_cons hlt, he]
 obtain ⟨n, t⟩ := z
 rfl
theorem under_length (s n : List UInt8) : (under s n).length ≤ s.length + 1 + n.length := by
 unfold under
 split
 ·omega
 ·simp; omega
theorem name_len {n : List UInt8} (h : Pl.isName n = true) : n.length ≤ 24 := by
 simp only [Pl.isName, Bool.and_eq_true, decide_eq_true_eq] at h
 exact h.1.2
mutual
theorem walkB_len : ∀ (t : T) (s : List UInt8), ok t = true → ∀ z ∈ walkB s t, z.1.length ≤ s.length + 30 * deep t
 | .mk k b l, s, h, z, hz => by
  have ha : alone (.mk k b l) = true := by simp only [ok, Bool.and_eq_true] at h; exact h.1
  have hn : ∀ x ∈ l, Pl.isName x.1 = true := by
   rcases alone_cases ha with ⟨_, _, _, hn⟩ | ⟨_, _, _, _, rfl⟩
   ·exact named_all _ _ hn
   ·intro x hx; cases hx
  have hk := kids_ok h
  simp only [walkB, List.mem_cons] at hz
  simp only [deep]
  rcases hz with rfl | hz
  ·show s.length ≤ _; omega
  ·have := walkBL_len l s hk hn z hz; omega
theorem walkBL_len : ∀ (l : List K) (s : List UInt8), okL l = true → (∀ x ∈ l, Pl.isName x.1 = true) → ∀ z ∈ walkBL s l, z.1.length ≤ s.length + 25 + 30 * deepL l
 | [], _, _, _, z, hz => by cases hz
 | (n, t) :: l, s, h, hn, z, hz => by
  simp only [okL, Bool.and_eq_true] at h
  simp only [walkBL, List.mem_append] at hz
  have h1 := name_len (hn (n, t) (by simp))
  have h1 : n.length ≤ 24 := h1
  have h2 := under_length s n
  have h3 := Nat.le_max_left (deep t) (deepL l)
  have h4 := Nat.le_max_right (deep t) (deepL l)
  simp only [deepL]
  rcases hz with hz | hz
  ·have := walkB_len t (under s n) h.1 z hz; omega
  ·have := walkBL_len l s h.2 (fun x hx => hn x (by simp [hx])) z hz; omega
end
theorem wysT_len {t : T} (h : right t = true) {s : List UInt8} (hs : s ∈ wysT t) : s.length ≤ 240 := by
 rw [← wysT_ways h, ← walkB_ways] at hs
 obtain ⟨z, hz, rfl⟩ := List.mem_map.1 hs
 have h1 := walkB_len t [] (right_ok h) z hz
 have h2 := right_deep h
 simp only [List.length_nil] at h1
 omega
theorem wysT_mem {t : T} (h : right t = true) {s : List UInt8} (hs : s ∈ wysT t ++ [[]]) : ∃ x ws, fdE t s = 0 ∧ fdT t s = x ∧ find t ws = some x ∧ s.length ≤ 240 ∧ s ∈ wysT t := by
 have h0 : ([] : List UInt8) ∈ wysT t := by
  obtain ⟨k, b, l⟩ := t
  simp [wysT, walk, joinB]
 have hs' : s ∈ wysT t := by
  rcases List.mem_append.1 hs with hs | hs
  ·exact hs
  ·rw [List.mem_singleton.1 hs]; exact h0
 obtain ⟨y, hy, rfl⟩ := List.mem_map.1 (show s ∈ (walk [] t).map fun x => joinB x.1 from hs')
 obtain ⟨i, hi⟩ := List.mem_iff_getElem?.1 hy
 obtain ⟨_, _, h1, h2, h3⟩ := walk_at h hi
 exact ⟨y.2, y.1, h2, h3, h1, wysT_len h hs', hs'⟩
end Go.Tr
