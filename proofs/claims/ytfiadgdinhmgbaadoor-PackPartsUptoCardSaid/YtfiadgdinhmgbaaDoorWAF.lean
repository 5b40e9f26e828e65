/- '[]byte(s)' and 'string(b)' (Several texts in one.) -/
import Derived.Test.YtfiadgdinhmgbaaDoorWAE
import Derived.Test.YtfiadgdinhmgbaaDoorWAA
import Derived.Great.BuildSlice
import Derived.Maps.AppendAt
import Derived.Deep.AppendLies
import Derived.Deep.Slices
import Derived.Laws.MakeOwn
import Derived.Test.YtfiadgdinhmgbaaDoorChecked
import Derived.Lib.ConvBytes
import Derived.Laws.IdiomStrings
import Derived.Laws.BytesArg
/-! A right tree, of which a node is taken, is right. No program in sight. -/
namespace Go.Tr
theorem named_iff : ∀ (l : List K) (b : Option (List UInt8)), named b l = true ↔ (∀ x ∈ l, Pl.isName x.1 = true) ∧ (l.Pairwise fun x y => Op.bytesLess x.1 y.1 = true) ∧ ∀ c, b = some c → ∀ x ∈ l, Op.bytesLess c x.1 = true
  | [], b => by simp [named]
  | (n, t) :: l, b => by
    simp only [named, Bool.and_eq_true, named_iff l (some n), List.mem_cons, forall_eq_or_imp, List.pairwise_cons, Option.some.injEq, forall_eq']
    constructor
    · rintro ⟨⟨h1, h2⟩, h3, h4, h5⟩
      refine ⟨⟨h1, h3⟩, ⟨fun x hx => h5 x hx, h4⟩, ?_⟩
      rintro c rfl
      exact ⟨h2, fun x hx => bytesLess_trans _ _ _ h2 (h5 x hx)⟩
    · rintro ⟨⟨h1, h3⟩, ⟨h5, h4⟩, h6⟩
      refine ⟨⟨h1, ?_⟩, h3, h4, fun x hx => h5 x hx⟩
      cases b with
      | none => rfl
      | some c => exact (h6 c rfl).1
theorem named_sub {l m : List K} (h : named none l = true) (hs : m.map (·.1) |>.Sublist (l.map (·.1))) : named none m = true := by
  rw [named_iff] at h ⊢
  obtain ⟨h1, h2, _⟩ := h
  have h3 : (l.map (·.1)).Pairwise fun x y => Op.bytesLess x y = true := List.pairwise_map.2 h2
  refine ⟨fun x hx => ?_, List.pairwise_map.1 (h3.sublist hs), fun c e => by cases e⟩
  have := hs.subset (List.mem_map_of_mem (f := (·.1)) hx)
  obtain ⟨y, hy, e⟩ := List.mem_map.1 this
  rw [← e]
  exact h1 y hy
theorem okL_iff (l : List K) : okL l = true ↔ ∀ x ∈ l, ok x.2 = true := by
  induction l with
  | nil => simp [okL]
  | cons x l ih => obtain ⟨n, t⟩ := x; simp only [okL, Bool.and_eq_true, ih, List.mem_cons, forall_eq_or_imp]
theorem countL_turn {l : List K} {n : List UInt8} {f : T → T} (h : ∀ x ∈ l, count (f x.2) ≤ count x.2) : countL (turnK l n f) ≤ countL l := by
  induction l with
  | nil => simp [turnK]
  | cons x l ih =>
    obtain ⟨m, t⟩ := x
    have h1 := h (m, t) (by simp)
    have h2 := ih (fun x hx => h x (by simp [hx]))
    simp only [turnK, List.map_cons] at h2 ⊢
    split
    · simp only [countL] at h1 ⊢; omega
    · simp only [countL]; omega
theorem deepL_turn {l : List K} {n : List UInt8} {f : T → T} (h : ∀ x ∈ l, deep (f x.2) ≤ deep x.2) : deepL (turnK l n f) ≤ deepL l := by
  induction l with
  | nil => simp [turnK]
  | cons x l ih =>
    obtain ⟨m, t⟩ := x
    have h1 := h (m, t) (by simp)
    have h2 := ih (fun x hx => h x (by simp [hx]))
    simp only [turnK, List.map_cons] at h2 ⊢
    split
    · simp only [deepL] at h1 ⊢; omega
    · simp only [deepL]; omega
theorem countL_takeK (l : List K) (n : List UInt8) : countL (takeK l n) ≤ countL l := by
  induction l with
  | nil => simp [takeK]
  | cons x l ih =>
    obtain ⟨m, t⟩ := x
    simp only [takeK, List.filter_cons] at ih ⊢
    split
    · simp only [countL]; omega
    · simp only [countL]; omega
theorem deepL_takeK (l : List K) (n : List UInt8) : deepL (takeK l n) ≤ deepL l := by
  induction l with
  | nil => simp [takeK]
  | cons x l ih =>
    obtain ⟨m, t⟩ := x
    simp only [takeK, List.filter_cons] at ih ⊢
    split
    · simp only [deepL]; omega
    · simp only [deepL]; omega
theorem turnK_names (l : List K) (n : List UInt8) (f : T → T) : (turnK l n f).map (·.1) = l.map (·.1) := by
  simp only [turnK, List.map_map]
  refine List.map_congr_left fun x _ => ?_
  simp only [Function.comp]
  split <;> simp_all
/-- a node stays alone right with kids whose names are some of its own -/
theorem alone_sub {k : Int} {b : List UInt8} {l m : List K} (h : alone (.mk k b l) = true) (hs : (m.map (·.1)).Sublist (l.map (·.1))) : alone (.mk k b m) = true := by
  have hlen : m.length ≤ l.length := by have := hs.length_le; simpa using this
  simp only [alone, Bool.or_eq_true, Bool.and_eq_true, decide_eq_true_eq, List.isEmpty_iff] at h ⊢
  rcases h with (⟨⟨h1, h2⟩, h3⟩ | ⟨⟨⟨h1, h2⟩, h4⟩, h3⟩) | ⟨⟨⟨h1, h2⟩, h3⟩, h4⟩
  · subst h3
    exact .inl (.inl ⟨⟨h1, h2⟩, List.length_eq_zero_iff.1 (by simpa using hlen)⟩)
  · subst h3
    exact .inl (.inr ⟨⟨⟨h1, h2⟩, h4⟩, List.length_eq_zero_iff.1 (by simpa using hlen)⟩)
  · exact .inr ⟨⟨⟨h1, h2⟩, by omega⟩, named_sub h4 hs⟩
theorem take_ok : ∀ (ns : N) (t : T), ok t = true → ok (take t ns) = true ∧ count (take t ns) ≤ count t ∧ deep (take t ns) ≤ deep t
  | [], t, h => ⟨h, Nat.le_refl _, Nat.le_refl _⟩
  | [n], .mk k b l, h => by
    have h2 := kids_ok h
    simp only [ok, Bool.and_eq_true] at h
    rw [show (T.mk k b l).kids = l from rfl, okL_iff] at h2
    refine ⟨?_, ?_, ?_⟩
    · show ok (.mk k b (takeK l n)) = true
      simp only [ok, Bool.and_eq_true]
      refine ⟨alone_sub h.1 (List.Sublist.map _ List.filter_sublist), ?_⟩
      rw [okL_iff]
      exact fun x hx => h2 x (List.mem_filter.1 hx).1
    · show count (.mk k b (takeK l n)) ≤ _
      have := countL_takeK l n
      simp only [count]; omega
    · show deep (.mk k b (takeK l n)) ≤ _
      have := deepL_takeK l n
      simp only [deep]; omega
  | n :: m :: ns, .mk k b l, h => by
    have h2 := kids_ok h
    simp only [ok, Bool.and_eq_true] at h
    rw [show (T.mk k b l).kids = l from rfl, okL_iff] at h2
    have ih : ∀ x ∈ l, ok (take x.2 (m :: ns)) = true ∧ count (take x.2 (m :: ns)) ≤ count x.2 ∧ deep (take x.2 (m :: ns)) ≤ deep x.2 := fun x hx => take_ok (m :: ns) x.2 (h2 x hx)
    refine ⟨?_, ?_, ?_⟩
    · show ok (.mk k b (turnK l n fun y => take y (m :: ns))) = true
      simp only [ok, Bool.and_eq_true]
      refine ⟨alone_sub h.1 (by rw [turnK_names]; exact List.Sublist.refl _), ?_⟩
      rw [okL_iff]
      intro x hx
      obtain ⟨y, hy, e⟩ := List.mem_map.1 hx
      rw [← e]
      split
      · exact (ih y hy).1
      · exact h2 y hy
    · show count (.mk k b (turnK l n fun y => take y (m :: ns))) ≤ _
      have := countL_turn (l := l) (n := n) (f := fun y => take y (m :: ns)) (fun x hx => (ih x hx).2.1)
      simp only [count]; omega
    · show deep (.mk k b (turnK l n fun y => take y (m :: ns))) ≤ _
      have := deepL_turn (l := l) (n := n) (f := fun y => take y (m :: ns)) (fun x hx => (ih x hx).2.2)
      simp only [deep]; omega
theorem take_right {t : T} (ns : N) (h : right t = true) : right (take t ns) = true := by
  simp only [right, lookB, Bool.and_eq_true, decide_eq_true_eq] at h ⊢
  obtain ⟨h1, h2, h3⟩ := take_ok ns t h.1.1
  exact ⟨⟨h1, by omega⟩, by omega⟩
end Go.Tr
/-! Ways below a way. No program in sight. -/
namespace Go.Tr
theorem splitB_slash : ∀ (a s : List UInt8), splitB (a ++ (47 :: s)) = splitB a ++ splitB s
  | [], s => by simp [splitB]
  | c :: a, s => by
    have ih := splitB_slash a s
    by_cases hc : c = 47
    · subst hc
      simp only [List.cons_append, splitB, if_true, ih, List.cons_append]
    · simp only [List.cons_append, splitB, if_neg hc, ih]
      cases h : splitB a with
      | nil => exact absurd h (splitB_ne a)
      | cons x l => simp
/-- a way that begins with another one and a '/': its names are those of that one, and some more -/
theorem join_below {ns ws : N} {s : List UInt8} (hn : ∀ n ∈ ns, Pl.isName n = true) (hw : ∀ n ∈ ws, Pl.isName n = true) (hw0 : ws ≠ []) (h : joinB ns = joinB ws ++ (47 :: s)) : ∃ ms, ns = ws ++ ms ∧ ms ≠ [] ∧ joinB ms = s := by
  have hn0 : ns ≠ [] := by
    rintro rfl
    simp [joinB] at h
  have h1 := split_join ns hn0 (fun n h => name_slash (hn n h))
  have h2 := split_join ws hw0 (fun n h => name_slash (hw n h))
  rw [h, splitB_slash, h2] at h1
  exact ⟨splitB s, h1.symm, splitB_ne s, join_split s⟩
theorem below_join {ws ms : N} (hw : ws ≠ []) (hm : ms ≠ []) : joinB (ws ++ ms) = joinB ws ++ (47 :: joinB ms) := joinB_append ws ms hw hm
/-- what is found below a way is found within what is found there -/
theorem find_below {t x y : T} {ws ms : N} (hx : find t ws = some x) (hy : find t (ws ++ ms) = some y) : find x ms = some y := by
  rw [find_append, hx] at hy
  exact hy
/-- a way begins another one, as the law asks it: just if its names do -/
def begins (way w : List UInt8) : Bool := decide (w = []) || decide (way = w) || (decide (w.length < way.length) && decide (way.take (w.length + 1) = w ++ [47]))
theorem begins_iff {ns ws : N} (hn : ∀ n ∈ ns, Pl.isName n = true) (hw : ∀ n ∈ ws, Pl.isName n = true) : begins (joinB ns) (joinB ws) = true ↔ ws <+: ns := by
  simp only [begins, Bool.or_eq_true, Bool.and_eq_true, decide_eq_true_eq]
  constructor
  · rintro ((h | h) | ⟨_, h⟩)
    · have : ws = [] := by
        cases hws : ws with
        | nil => rfl
        | cons w l => exact absurd h (by rw [hws]; exact joinB_ne _ (by simp) (fun n hm => name_ne (hw n (by rw [hws]; exact hm))))
      subst this
      exact List.nil_prefix
    · rw [joinB_inj hn hw h]
      exact List.prefix_refl _
    · cases hws : ws with
      | nil => exact List.nil_prefix
      | cons w l =>
        rw [← hws]
        have h3 : joinB ns = joinB ws ++ (47 :: (joinB ns).drop ((joinB ws).length + 1)) := by
          conv => lhs; rw [← List.take_append_drop ((joinB ws).length + 1) (joinB ns), h]
          simp
        obtain ⟨ms, e, _, _⟩ := join_below hn hw (by rw [hws]; simp) h3
        exact ⟨ms, e.symm⟩
  · rintro ⟨ms, rfl⟩
    cases hws : ws with
    | nil => exact .inl (.inl rfl)
    | cons w l =>
      rw [← hws]
      cases hms : ms with
      | nil => exact .inl (.inr (by simp))
      | cons m k =>
        rw [← hms]
        have h1 := below_join (ws := ws) (ms := ms) (by rw [hws]; simp) (by rw [hms]; simp)
        refine .inr ⟨?_, ?_⟩
        · rw [h1]; simp
        · rw [h1, List.take_append, List.take_of_length_le (by omega)]
          simp
end Go.Tr
/-! Find, Put and Take as chapter 8 asks; TreePuts' law. No program in sight. -/
namespace Go.Tr
def zTree : T := .mk 0 [] []
/-- tree.Find: the error, the tree -/
def fdE (t : T) (s : List UInt8) : Nat := if right t then (match wayN s with | none => 4 | some ws => if (find t ws).isSome then 0 else 5) else 2
def fdT (t : T) (s : List UInt8) : T := if fdE t s = 0 then (find t ((wayN s).getD [])).getD zTree else zTree
/-- tree.Put -/
def ptE (t : T) (s : List UInt8) (x : T) : Nat := if right t && right x then (match wayN s with | none => 4 | some ws => match put t x (ws.take 1000) with | none => 6 | some p => if right p then 0 else 3) else 2
def ptT (t : T) (s : List UInt8) (x : T) : T := if ptE t s x = 0 then (put t x (((wayN s).getD []).take 1000)).getD zTree else zTree
/-- tree.Take -/
def tkE (t : T) (s : List UInt8) : Nat := if fdE t s ≠ 0 then fdE t s else if s = [] then 5 else 0
def tkT (t : T) (s : List UInt8) : T := if tkE t s = 0 then take t ((wayN s).getD []) else zTree
theorem fdE_zero {t : T} {s : List UInt8} (h : fdE t s = 0) : right t = true ∧ ∃ ws, wayN s = some ws ∧ find t ws = some (fdT t s) := by
  have h0 := h
  unfold fdE at h
  split at h
  · next hr =>
    refine ⟨hr, ?_⟩
    split at h
    · cases h
    · next ws hw =>
      split at h
      · next hs =>
        obtain ⟨x, hx⟩ := Option.isSome_iff_exists.1 hs
        refine ⟨ws, hw, ?_⟩
        rw [fdT, if_pos h0, hw, Option.getD_some, hx, Option.getD_some]
      · cases h
  · cases h
theorem fdE_of {t x : T} {s : List UInt8} {ws : N} (hr : right t = true) (hw : wayN s = some ws) (hf : find t ws = some x) : fdE t s = 0 ∧ fdT t s = x := by
  have e : fdE t s = 0 := by simp [fdE, hr, hw, hf]
  exact ⟨e, by rw [fdT, if_pos e, hw, Option.getD_some, hf, Option.getD_some]⟩
theorem fdE_none {t : T} {s : List UInt8} {ws : N} (hr : right t = true) (hw : wayN s = some ws) (hf : find t ws = none) : fdE t s = 5 := by simp [fdE, hr, hw, hf]
theorem right_ok {t : T} (h : right t = true) : ok t = true := by
  simp only [right, lookB, Bool.and_eq_true] at h
  exact h.1.1
theorem right_deep {t : T} (h : right t = true) : deep t ≤ 8 := by
  simp only [right, lookB, Bool.and_eq_true, decide_eq_true_eq] at h
  omega
theorem ptE_zero {t x : T} {s : List UInt8} (h : ptE t s x = 0) : right t = true ∧ right x = true ∧ right (ptT t s x) = true ∧ ∃ ws, wayN s = some ws ∧ put t x ws = some (ptT t s x) ∧ find (ptT t s x) ws = some x := by
  have h0 := h
  unfold ptE at h
  split at h
  · next hr =>
    simp only [Bool.and_eq_true] at hr
    split at h
    · cases h
    · next ws hw =>
      split at h
      · cases h
      · next p hp =>
        split at h
        · next hpr =>
          have e : ptT t s x = p := by rw [ptT, if_pos h0, hw, Option.getD_some, hp, Option.getD_some]
          rw [e]
          have hf := find_put _ _ _ _ (right_ok hr.1) hp
          have hd := (find_ok _ _ _ (right_ok hpr) hf).2.2
          have hd8 := right_deep hpr
          have hx := deep_pos x
          rw [List.length_take] at hd
          have ht : ws.take 1000 = ws := List.take_of_length_le (by omega)
          rw [ht] at hp hf
          exact ⟨hr.1, hr.2, hpr, ws, hw, hp, hf⟩
        · cases h
  · cases h
theorem ptT_not {t x : T} {s : List UInt8} (h : ptE t s x ≠ 0) : ptT t s x = zTree := by rw [ptT, if_neg h]
/-- a way's name stands apart from another's -/
theorem apart_iff {ns ws : N} (hn : ∀ n ∈ ns, Pl.isName n = true) (hw : ∀ n ∈ ws, Pl.isName n = true) : (begins (joinB ns) (joinB ws) = false ∧ begins (joinB ws) (joinB ns) = false) ↔ ¬ ws <+: ns ∧ ¬ ns <+: ws := by
  rw [← Bool.not_eq_true, ← Bool.not_eq_true, begins_iff hn hw, begins_iff hw hn]
/-- TreePuts: what is put is found there; all else stays -/
theorem puts {t x : T} {s : List UInt8} (h : ptE t s x = 0) : fdE (ptT t s x) s = 0 ∧ fdT (ptT t s x) s = x ∧ ∀ m, begins m s = false → begins s m = false → fdE (ptT t s x) m = fdE t m ∧ fdT (ptT t s x) m = fdT t m := by
  obtain ⟨h1, h2, h3, ws, hw, hp, hf⟩ := ptE_zero h
  obtain ⟨e, hn, _⟩ := wayN_some hw
  obtain ⟨g1, g2⟩ := fdE_of h3 hw hf
  refine ⟨g1, g2, fun m hm1 hm2 => ?_⟩
  have key : ∀ ms, wayN m = some ms → find (ptT t s x) ms = find t ms := by
    intro ms hms
    obtain ⟨e', hn', _⟩ := wayN_some hms
    have := (apart_iff hn' hn).1 (by rw [e, e']; exact ⟨hm1, hm2⟩)
    exact find_put_else ws ms t x _ (right_ok h1) hp this.1 this.2
  have e1 : fdE (ptT t s x) m = fdE t m := by
    unfold fdE
    rw [if_pos h3, if_pos h1]
    cases hms : wayN m with
    | none => rfl
    | some ms => simp only [key ms hms]
  refine ⟨e1, ?_⟩
  unfold fdT
  rw [e1]
  cases hms : wayN m with
  | none => simp [fdE, hms, h1]
  | some ms => simp only [Option.getD_some, key ms hms]
/-- TreePuts: what is taken is not found; all else stays -/
theorem takes {t : T} {s : List UInt8} (h : tkE t s = 0) : right (tkT t s) = true ∧ fdE (tkT t s) s = 5 ∧ ∀ m, begins m s = false → begins s m = false → fdE (tkT t s) m = fdE t m ∧ fdT (tkT t s) m = fdT t m := by
  have h0 := h
  unfold tkE at h
  split at h
  · next hne => exact absurd h hne
  · next hz =>
    split at h
    · cases h
    · next hs =>
      have hz : fdE t s = 0 := by simpa using hz
      obtain ⟨h1, ws, hw, hf⟩ := fdE_zero hz
      obtain ⟨e, hn, hnil⟩ := wayN_some hw
      have hws : ws ≠ [] := fun e => hs (hnil.2 e)
      have et : tkT t s = take t ws := by rw [tkT, if_pos h0, hw, Option.getD_some]
      rw [et]
      have hr := take_right ws h1
      have hnone := find_take ws [] t hws
      rw [List.append_nil] at hnone
      refine ⟨hr, fdE_none hr hw hnone, fun m hm1 hm2 => ?_⟩
      have key : ∀ ms, wayN m = some ms → find (take t ws) ms = find t ms := by
        intro ms hms
        obtain ⟨e', hn', _⟩ := wayN_some hms
        have := (apart_iff hn' hn).1 (by rw [e, e']; exact ⟨hm1, hm2⟩)
        exact find_take_else ws ms t hws this.1 this.2
      have e1 : fdE (take t ws) m = fdE t m := by
        unfold fdE
        rw [if_pos hr, if_pos h1]
        cases hms : wayN m with
        | none => rfl
        | some ms => simp only [key ms hms]
      refine ⟨e1, ?_⟩
      unfold fdT
      rw [e1]
      cases hms : wayN m with
      | none => simp [fdE, hms, h1]
      | some ms => simp only [Option.getD_some, key ms hms]
end Go.Tr
/-! TreeWays' law: the ways of a right tree. No program in sight. -/
namespace Go.Tr
/-- the ways of a right tree's nodes -/
def wysT (t : T) : List (List UInt8) := (walk [] t).map fun x => joinB x.1
theorem wysT_length (t : T) : (wysT t).length = count t := by rw [wysT, List.length_map, walk_length]
theorem wysT_ways {t : T} (h : right t = true) : ways [] t = wysT t := ways_walk t [] (right_ok h) (by simp)
theorem walk_at {t : T} {i : Nat} {x : N × T} (h : right t = true) (hx : (walk [] t)[i]? = some x) : (wysT t)[i]? = some (joinB x.1) ∧ (∀ n ∈ x.1, Pl.isName n = true) ∧ find t x.1 = some x.2 ∧ fdE t (joinB x.1) = 0 ∧ fdT t (joinB x.1) = x.2 := by
  have hm := List.mem_of_getElem? hx
  have hn := walk_names t [] (right_ok h) (by simp) x hm
  obtain ⟨ns, e, hf, _⟩ := walk_find t [] (right_ok h) x hm
  rw [List.nil_append] at e
  subst e
  obtain ⟨g1, g2⟩ := fdE_of h (wayN_join x.1 hn) hf
  exact ⟨by rw [wysT, List.getElem?_map, hx]; rfl, hn, hf, g1, g2⟩
theorem wysT_nodup {t : T} (h : right t = true) : (wysT t).Nodup := by
  have hp := walk_nodup t [] (right_ok h)
  rw [wysT, List.nodup_iff_pairwise_ne, List.pairwise_map]
  rw [List.nodup_iff_pairwise_ne, List.pairwise_map] at hp
  refine hp.imp_of_mem ?_
  intro a b ha hb hne e
  exact hne (joinB_inj (walk_names t [] (right_ok h) (by simp) a ha) (walk_names t [] (right_ok h) (by simp) b hb) e)
/-- no way twice, one behind the other -/
theorem wysT_next {t : T} (h : right t = true) {i : Nat} {a b : List UInt8} (ha : (wysT t)[i]? = some a) (hb : (wysT t)[i + 1]? = some b) : b ≠ a := by
  intro e
  subst e
  have := (List.getElem?_inj (by have := (List.getElem?_eq_some_iff.1 ha).1; omega) (wysT_nodup h)).1 (ha.trans hb.symm)
  omega
/-- the bytes of all of them -/
theorem wysT_size {t : T} (h : right t = true) : ((wysT t).map fun s => (fdT t s).bytes.length).sum = size t := by
  rw [← walk_size t [], wysT, List.map_map]
  congr 1
  apply List.map_congr_left
  intro x hx
  obtain ⟨i, hi⟩ := List.getElem?_of_mem hx
  obtain ⟨_, _, _, _, e⟩ := walk_at h hi
  simp only [Function.comp, e]
/-- what is found below a way is found within what is found there -/
theorem wysT_below {t : T} (h : right t = true) {s way : List UInt8} (hs : s ∈ wysT t) (hw : way ∈ wysT t) (h0 : way ≠ []) (hb : begins s way = true) (hne : s ≠ way) : way.length + 1 ≤ s.length ∧ fdE (fdT t way) (s.drop (way.length + 1)) = 0 ∧ fdT (fdT t way) (s.drop (way.length + 1)) = fdT t s := by
  obtain ⟨x, hx, rfl⟩ := List.mem_map.1 hs
  obtain ⟨y, hy, rfl⟩ := List.mem_map.1 hw
  obtain ⟨i, hi⟩ := List.getElem?_of_mem hx
  obtain ⟨j, hj⟩ := List.getElem?_of_mem hy
  obtain ⟨_, hn, hf, _, e1⟩ := walk_at h hi
  obtain ⟨_, hn', hf', _, e2⟩ := walk_at h hj
  obtain ⟨ms, e⟩ := (begins_iff hn hn').1 hb
  have hy0 : y.1 ≠ [] := fun e => h0 (by rw [e]; rfl)
  have hms : ms ≠ [] := by
    intro e3
    rw [e3, List.append_nil] at e
    exact hne (by rw [e])
  have ej := below_join hy0 hms
  rw [e] at ej
  have hd : (joinB x.1).drop ((joinB y.1).length + 1) = joinB ms := by
    rw [ej, show joinB y.1 ++ (47 :: joinB ms) = (joinB y.1 ++ [47]) ++ joinB ms by simp, List.drop_left' (by simp)]
  have hmn : ∀ n ∈ ms, Pl.isName n = true := fun n hm => hn n (by rw [← e]; simp [hm])
  have hfb := find_below hf' (by rw [e]; exact hf)
  rw [hd, e2, e1]
  obtain ⟨g1, g2⟩ := fdE_of (find_right h hf') (wayN_join ms hmn) hfb
  refine ⟨?_, g1, g2⟩
  have := congrArg List.length ej
  simp at this
  omega
end Go.Tr
/-! Slices of whatever elements, over any program: what they hold, one of them, append, make. -/
namespace Go.Agg
open Go.RowKit
structure Elem (P : Program) (α : Type) where
  ty : TypeId
  st : TypeId
  n : Nat
  bytes : Nat
  val : α → Value
  zero : Value
  pos : 0 < n
  small : n ≤ 1000
  size : ∀ a, (val a).cells.size = n
  one : ∀ a, ∀ v ∈ (val a).cells.toList, v.oneCell' = true
  zsize : zero.cells.size = n
  slice : P.underlying st = some (.slice ty)
  info : ∃ i, P.info? ty = some i ∧ i.zero = some zero ∧ i.size = n ∧ i.bytes = bytes
  load : ∀ (w : World) (p : Addr) (a : α), p.block < w.heap.size → (∀ j v, (val a).cells[j]? = some v → w.cell? (p.add j) = some v) → LoadsL P w ty (some p) (val a)
section
variable {P : Program} {α : Type} (E : Elem P α)
def Elem.cs (a : α) : List Value := (E.val a).cells.toList
theorem Elem.cs_length (a : α) : (E.cs a).length = E.n := by rw [Elem.cs, Array.length_toList]; exact E.size a
def Elem.flat (l : List α) : List Value := l.flatMap E.cs
theorem Elem.flat_length (l : List α) : (E.flat l).length = l.length * E.n := by
  induction l with
  | nil => simp [Elem.flat]
  | cons a l ih => simp only [Elem.flat, List.flatMap_cons, List.length_append, E.cs_length, List.length_cons, Nat.succ_mul] at ih ⊢; omega
theorem Elem.flat_append (a b : List α) : E.flat (a ++ b) = E.flat a ++ E.flat b := by simp [Elem.flat]
theorem Elem.flat_one (a : α) : E.flat [a] = E.cs a := by simp [Elem.flat]
theorem Elem.flat_get : ∀ (l : List α) (k : Nat) (a : α) (i : Nat) (v : Value), l[k]? = some a → (E.val a).cells[i]? = some v → (E.flat l)[k * E.n + i]? = some v
  | [], k, a, i, v, h, _ => by simp at h
  | b :: l, 0, a, i, v, h, hv => by
    obtain rfl : b = a := by simpa using h
    have hlt : i < (E.cs b).length := by rw [E.cs_length]; have := (Array.getElem?_eq_some_iff.1 hv).1; rw [E.size b] at this; omega
    rw [Elem.flat, List.flatMap_cons, Nat.zero_mul, Nat.zero_add, List.getElem?_append_left hlt]
    simpa [Elem.cs] using hv
  | b :: l, k + 1, a, i, v, h, hv => by
    have ih := Elem.flat_get l k a i v (by simpa using h) hv
    rw [Elem.flat, List.flatMap_cons, List.getElem?_append_right (by rw [E.cs_length, Nat.succ_mul]; omega), E.cs_length, show (k + 1) * E.n + i - E.n = k * E.n + i by rw [Nat.succ_mul]; omega]
    exact ih
theorem Elem.flat_all : ∀ (l : List α) (j : Nat) (u : Value), (E.flat l)[j]? = some u → ∃ k a i, l[k]? = some a ∧ (E.val a).cells[i]? = some u ∧ j = k * E.n + i
  | [], j, u, h => by simp [Elem.flat] at h
  | a :: l, j, u, h => by
    rw [Elem.flat, List.flatMap_cons] at h
    by_cases hj : j < E.n
    · rw [List.getElem?_append_left (by rw [E.cs_length]; exact hj)] at h
      exact ⟨0, a, j, rfl, by simpa [Elem.cs] using h, by simp⟩
    · rw [List.getElem?_append_right (by rw [E.cs_length]; omega), E.cs_length] at h
      obtain ⟨k, b, i, h1, h2, h3⟩ := Elem.flat_all l (j - E.n) u h
      exact ⟨k + 1, b, i, by simpa using h1, h2, by rw [Nat.succ_mul]; omega⟩
theorem Elem.flat_one' (l : List α) : ∀ u ∈ E.flat l, u.oneCell' = true := by
  intro u hu
  obtain ⟨a, _, h⟩ := List.mem_flatMap.1 hu
  exact E.one a u h
/-- a slice of these -/
def SliceOf (w : World) (v : Value) (l : List α) : Prop :=
  (∃ p c, v = .slice p 0 c ∧ l = []) ∨ ∃ p cap, v = .slice (some p) l.length cap ∧ p.block < w.heap.size ∧ ∀ j u, (E.flat l)[j]? = some u → w.cell? (p.add j) = some u
variable {E} {w w' : World} {v : Value} {l : List α}
theorem SliceOf.nil (w : World) (p : Option Addr) (c : Nat) : SliceOf E w (.slice p 0 c) [] := .inl ⟨p, c, rfl, rfl⟩
theorem SliceOf.belowAt {B : Nat} (h : SliceOf E w v l) (hb : Below B w w') (hp : ∀ p n c, v = .slice (some p) n c → p.block < B) : SliceOf E w' v l := by
  rcases h with h | ⟨p, cap, rfl, hp', h⟩
  · exact .inl h
  · have := hp p _ _ rfl
    exact .inr ⟨p, cap, rfl, Nat.lt_of_lt_of_le hp' hb.size, fun j u hj => (hb.cell (p := p.add j) (by rw [add_block]; exact this)).trans (h j u hj)⟩
theorem SliceOf.below (h : SliceOf E w v l) (hb : Below w.heap.size w w') : SliceOf E w' v l := by
  rcases h with h | ⟨p, cap, rfl, hp, h⟩
  · exact .inl h
  · exact .inr ⟨p, cap, rfl, Nat.lt_of_lt_of_le hp hb.size, fun j u hj => (hb.cell (p := p.add j) (by rw [add_block]; exact hp)).trans (h j u hj)⟩
theorem SliceOf.len (h : SliceOf E w v l) (W : World) : (Builtin.len_ #[E.st] 3 #[v]).run P W = .ok (.int .i64 (l.length : Int)) W := by
  rcases h with ⟨a, c, rfl, rfl⟩ | ⟨p, cap, rfl, _, _⟩ <;> simp [Builtin.len_, run_underlying E.slice, goInt]
theorem SliceOf.form (h : SliceOf E w v l) : ∃ p c, v = .slice p l.length c := by
  rcases h with ⟨a, c, rfl, rfl⟩ | ⟨p, cap, rfl, _, _⟩
  · exact ⟨a, c, rfl⟩
  · exact ⟨_, cap, rfl⟩
theorem run_sizeOf_elem (W : World) : (Go.sizeOf E.ty).run P W = .ok E.n W := by
  obtain ⟨i, hi, _, hs, _⟩ := E.info
  simp [Go.sizeOf, typeInfo, hi, hs]
/-- one of them -/
theorem SliceOf.at_ (h : SliceOf E w v l) (k : Nat) (a : α) (hk : l[k]? = some a) :
    ∃ p : Addr, (∀ W, (Instr.indexAt E.st v (.int .i64 (k : Int))).run P W = .ok (.pointer (some p)) W) ∧ p.block < w.heap.size ∧ (∀ j u, (E.val a).cells[j]? = some u → w.cell? (p.add j) = some u) ∧ LoadsL P w E.ty (some p) (E.val a) := by
  have hlt := (List.getElem?_eq_some_iff.1 hk).1
  rcases h with ⟨p, c, rfl, rfl⟩ | ⟨p, cap, rfl, hp, h⟩
  · simp at hlt
  · have hc : ∀ j u, (E.val a).cells[j]? = some u → w.cell? ((p.add (k * E.n)).add j) = some u := fun j u hj => by
      rw [add_add]
      exact h _ _ (E.flat_get l k a j u hk hj)
    refine ⟨p.add (k * E.n), fun W => ?_, by rw [add_block]; exact hp, hc, E.load w _ a (by rw [add_block]; exact hp) hc⟩
    have hel : P.elem E.st = E.ty := by simp [Program.elem, E.slice]
    rw [run_indexAt_slice W E.st p l.length cap .i64 (k : Int) (by rw [hel]; exact E.slice), if_pos (by omega), hel, run_sizeOf_elem]
    simp [Result.andThen]
/-- a slice of the call's own -/
def Own (E : Elem P α) (base : Nat) (w : World) (v : Value) (l : List α) : Prop := w.ownsRow base E.ty E.n v l.length (E.flat l)
variable {base : Nat}
theorem Own.nil (E : Elem P α) (base : Nat) (w : World) : Own E base w (.slice none 0 0) [] := ⟨by simp [Elem.flat], .inl ⟨rfl, rfl⟩⟩
theorem Own.slice (h : Own E base w v l) : SliceOf E w v l := by
  obtain ⟨_, ⟨rfl, h0⟩ | ⟨g, cap, cur, rfl, hgb, hcur, hle, _, _, htk⟩⟩ := h
  · exact .inl ⟨_, _, rfl, List.length_eq_zero_iff.1 h0⟩
  · refine .inr ⟨_, cap, rfl, heap_lt hcur, fun j u hj => ?_⟩
    rw [add_plain, Nat.zero_add, cell_of_row _ _ _ _ _ _ hcur]
    rw [← htk, List.getElem?_take] at hj
    split at hj
    · simpa using hj
    · cases hj
theorem Own.keep (h : Own E base w v l) (hk : ∀ (g : Nat) (cur : Array Value) (t : TypeId) (fr : Nat × Nat), base ≤ g → w.heap[g]? = some (Obj.cells cur t fr) → w'.heap[g]? = some (Obj.cells cur t fr)) : Own E base w' v l := by
  obtain ⟨h1, h2⟩ := h
  refine ⟨h1, ?_⟩
  rcases h2 with h2 | ⟨g, cap, cur, e1, e2, e3, e4⟩
  · exact .inl h2
  · exact .inr ⟨g, cap, cur, e1, e2, hk _ _ _ _ e2 e3, e4⟩
theorem Own.below (h : Own E base w v l) (hb : Below w.heap.size w w') : Own E base w' v l := h.keep fun _ _ _ _ _ hg => keep' hb hg
theorem Own.lower {b' : Nat} (h : Own E base w v l) (hb : b' ≤ base) : Own E b' w v l := by
  obtain ⟨h1, h2 | ⟨g, cap, cur, e1, e2, e3, e4⟩⟩ := h
  · exact ⟨h1, .inl h2⟩
  · exact ⟨h1, .inr ⟨g, cap, cur, e1, Nat.le_trans hb e2, e3, e4⟩⟩
theorem Own.block (h : Own E base w v l) : ∀ k, v.ownBlock = some k → base ≤ k ∧ ∃ cur, w.heap[k]? = some (.cells cur E.ty (0, 0)) := by
  obtain ⟨_, ⟨rfl, h0⟩ | ⟨g, cap, cur, rfl, hg, hc, _⟩⟩ := h
  · intro k hk; simp [Value.ownBlock] at hk
  · intro k hk
    obtain rfl : g = k := by simpa [Value.ownBlock] using hk
    exact ⟨hg, cur, hc⟩
def lenOf : Value → Nat | .slice _ n _ => n | _ => 0
theorem SliceOf.lenOf (h : SliceOf E w v l) : lenOf v = l.length := by
  obtain ⟨p, c, rfl⟩ := h.form
  rfl
/-- what a push leaves -/
structure Pushed (E : Elem P α) (base : Nat) (w w' : World) (v : Value) : Prop where
  below : ∀ B, B ≤ base → B ≤ w.heap.size → Below B w w'
  other : ∀ (g : Nat), g < w.heap.size → some g ≠ v.ownBlock → w'.heap[g]? = w.heap[g]?
  blk : ∀ (g : Nat) (t : TypeId) (cs : Array Value) (fr : Nat × Nat), t ≠ E.ty → w.heap[g]? = some (Obj.cells cs t fr) → w'.heap[g]? = some (Obj.cells cs t fr)
  map : ∀ (g : Nat) (es : Array MapEntry) (c : Nat), w.heap[g]? = some (Obj.map es c) → w'.heap[g]? = some (Obj.map es c)
  size : w.heap.size ≤ w'.heap.size
theorem pushed_of {w w' : World} {v : Value} {l : List α} (h : Own E base w v l) (hg : w.grownBy w' v.ownBlock) : Pushed E base w w' v where
  below := fun B hB hs => (Below.refl B w).grown hg hs fun k hk => Nat.le_trans hB (h.block k hk).1
  other := fun g hlt hne => hg.block g hlt hne
  blk := fun g t cs fr hne hb => (hg.block g (heap_lt hb) (fun e => by
    obtain ⟨_, cur, hc⟩ := h.block g e.symm
    rw [hb] at hc
    injection hc with hc
    injection hc with _ ht
    exact hne ht)).trans hb
  map := fun g es c hb => (hg.block g (heap_lt hb) (fun e => by
    obtain ⟨_, cur, hc⟩ := h.block g e.symm
    rw [hb] at hc
    injection hc with hc
    cases hc)).trans hb
  size := hg.size
/-- append, the row of the call's own -/
theorem run_append (hown : Own E base w v l) (x : Value) (m : List α) (hx : SliceOf E w x m) (h63 : l.length + m.length ≤ 1099511627776 / 8) (hby : E.bytes ≤ 1000) (hbase : base ≤ w.heap.size) (ty : TypeId) :
    ∃ v' w', (Builtin.append_ #[E.st, E.st] ty #[v, x]).run P w = .ok v' w' ∧ Own E base w' v' (l ++ m) ∧ w.grownBy w' v.ownBlock ∧ (v'.ownBlock = v.ownBlock ∨ v'.ownBlock = some w.heap.size) ∧ (v' = .slice none 0 0 ↔ v = .slice none 0 0 ∧ (m = [] )) := by
  obtain ⟨i, hi, hz, hs, hb⟩ := E.info
  have hmul : (l.length + m.length) * E.bytes ≤ 140737488355328 := Nat.le_trans (Nat.mul_le_mul h63 hby) (by omega)
  have hmax : l.length + m.length ≤ maxLen := by simp only [maxLen]; omega
  obtain ⟨p, c, rfl⟩ := hx.form
  cases p with
  | none =>
    have hm : m = [] := by
      rcases hx with ⟨_, _, _, h⟩ | ⟨p, cap, e, _⟩
      · exact h
      · injection e with e; cases e
    subst hm
    refine ⟨v, w, ?_, by simpa using hown, ⟨rfl, rfl, rfl, Nat.le_refl _, fun _ _ _ => rfl⟩, .inl rfl, by simp⟩
    obtain ⟨_, ⟨rfl, _⟩ | ⟨g, cap, cur, rfl, _, _, hnc, _⟩⟩ := hown
    · simp [Builtin.append_, run_underlying E.slice, sizeOf, typeInfo, hi, Builtin.lenOf, Builtin.firstCells]
    · simp [Builtin.append_, run_underlying E.slice, sizeOf, typeInfo, hi, Builtin.lenOf, Builtin.firstCells, hnc, storeCells]
  | some p =>
    have hcells : ∀ j u, (E.flat m)[j]? = some u → w.cell? (p.add j) = some u := by
      rcases hx with ⟨_, _, _, rfl⟩ | ⟨q, cap, e, _, h⟩
      · intro j u hj; simp [Elem.flat] at hj
      · injection e with e
        injection e with e
        subst e
        exact h
    obtain ⟨v', w', hrun, h2, h3, h4, h5⟩ := run_append_own_at (P := P) w base E.st ty E.ty i E.zero E.n E.bytes E.slice hi hz hs hb E.zsize E.pos v l.length (E.flat l) hown p m.length c (E.flat m) (E.flat_length m) hcells (E.flat_one' m) hmax hmul hbase
    refine ⟨v', w', hrun, ?_, h3, h5, ?_⟩
    · unfold Own
      rw [List.length_append, E.flat_append]
      exact h2
    · rw [h4, List.length_eq_zero_iff]
/-- a slice literal of one -/
theorem run_slice_one (a : α) (w : World) : (Instr.buildSlice E.st 1 #[(0, E.val a)]).run P w = .ok (.slice (some ⟨w.heap.size, 0, none⟩) 1 1) (w.alloc (.cells (E.val a).cells E.ty)) := by
  obtain ⟨i, hi, hz, hs, hb⟩ := E.info
  have hpos := E.pos
  have hsm := E.small
  refine run_buildSlice w E.st E.ty 1 _ (E.val a).cells i E.zero E.slice hi hz (by omega) (by omega) ?_
  rw [hs]
  show Instr.fill _ _ [(0, E.val a)] = _
  rw [fill_cons (off := 0) (size := E.n) (by simp) (E.size a) (by simp), fill_nil]
  congr 1
  apply Array.ext'
  have := E.size a
  simp [splice, this]
theorem slice_of_block {g : Nat} {a : α} (h : Blk w g E.ty (E.val a).cells) : SliceOf E w (.slice (some ⟨g, 0, none⟩) 1 1) [a] :=
  .inr ⟨_, 1, rfl, h.lt, fun j u hj => by rw [E.flat_one, Elem.cs] at hj; rw [add_plain, Nat.zero_add, h.cell]; simpa using hj⟩
section
variable {ops : Array Oper} {rest : List Oper} {o o2 : Oper} {a : Act} {Q : Exit → Act → World → Prop}
/-- 'append(s, x)' of one element: the literal, and the append -/
theorem wpList_push (hg : o.guard = none) (hg2 : o2.guard = none) (d : Tmp) (hd : o.dst = some d) (y : Operand) (ho : o.op = .buildSlice E.st 1 #[(0, y)]) (s : Operand)
    (ho2 : o2.op = .call { callee := .builtin .append, args := #[s, .tmp d], argTypes := #[E.st, E.st] }) (x : α) (hy : a.eval y = E.val x) (hs : ∀ p, (a.put o.dst p).eval s = v) (hsz : d < a.tmps.size)
    (hown : Own E base w v l) (h63 : l.length + 1 ≤ 1099511627776 / 8) (hby : E.bytes ≤ 1000) (hbase : base ≤ w.heap.size)
    (h : ∀ u v' w', Own E base w' v' (l ++ [x]) → Pushed E base w w' v → wpList P ops Q rest ((a.put o.dst u).put o2.dst v') w') : wpList P ops Q (o :: o2 :: rest) a w := by
  refine wpList_val hg (v := .slice (some ⟨w.heap.size, 0, none⟩) 1 1) (w' := w.alloc (.cells (E.val x).cells E.ty)) (by simp [execOp, ho, hy, run_slice_one]) ?_
  have hb1 : Below w.heap.size w (w.alloc (.cells (E.val x).cells E.ty)) := (Below.refl _ _).alloc (Nat.le_refl _) _
  have hown1 := hown.below hb1
  obtain ⟨v', w', hrun, h2, h3, _, _⟩ := run_append (ty := o2.type) hown1 _ [x] (slice_of_block (Blk.new w E.ty (E.val x).cells)) (by simpa using h63) hby (Nat.le_trans hbase hb1.size)
  have hp := pushed_of hown1 h3
  have hpu : Pushed E base w w' v := {
    below := fun B hB hs => (hb1.mono hs).trans (hp.below B hB (Nat.le_trans hs hb1.size))
    other := fun g hlt hne => (hp.other g (Nat.lt_of_lt_of_le hlt hb1.size) hne).trans (hb1.block g hlt)
    blk := fun g t cs fr hne hb => hp.blk g t cs fr hne (keep' hb1 hb)
    map := fun g es c hb => hp.map g es c (keep' hb1 hb)
    size := Nat.le_trans hb1.size hp.size }
  refine wpList_val hg2 (v := v') (w' := w') ?_ (h _ v' w' h2 hpu)
  have e2 : (a.put o.dst (.slice (some ⟨w.heap.size, 0, none⟩) 1 1)).eval (.tmp d) = .slice (some ⟨w.heap.size, 0, none⟩) 1 1 := by rw [hd]; simp [Act.put, Act.eval, hsz]
  simp [execOp, ho2, resolve, invoke, builtin, hs, e2, hrun]
/-- 'append(s, x...)' -/
theorem wpList_appendS (hg : o.guard = none) (s x : Operand) (ho : o.op = .call { callee := .builtin .append, args := #[s, x], argTypes := #[E.st, E.st] }) (vx : Value) (hs : a.eval s = v) (hx : a.eval x = vx) (m : List α)
    (hown : Own E base w v l) (hm : SliceOf E w vx m) (h63 : l.length + m.length ≤ 1099511627776 / 8) (hby : E.bytes ≤ 1000) (hbase : base ≤ w.heap.size)
    (h : ∀ v' w', Own E base w' v' (l ++ m) → Pushed E base w w' v → (v' = .slice none 0 0 ↔ v = .slice none 0 0 ∧ m = []) → wpList P ops Q rest (a.put o.dst v') w') : wpList P ops Q (o :: rest) a w := by
  obtain ⟨v', w', hrun, h2, h3, _, h5⟩ := run_append (ty := o.type) hown _ m hm h63 hby hbase
  refine wpList_val hg (v := v') (w' := w') ?_ (h v' w' h2 (pushed_of hown h3) h5)
  simp [execOp, ho, resolve, invoke, builtin, hs, hx, hrun]
/-- '[]T{}' -/
theorem wpList_slice0 (E : Elem P α) (hg : o.guard = none) (ho : o.op = .buildSlice E.st 0 #[]) (hbase : base ≤ w.heap.size)
    (h : ∀ v' w', Own E base w' v' [] → Below w.heap.size w w' → v' ≠ .slice none 0 0 → wpList P ops Q rest (a.put o.dst v') w') : wpList P ops Q (o :: rest) a w := by
  refine wpList_val hg (v := .slice (some ⟨w.heap.size, 0, none⟩) 0 0) (w' := w.alloc (.cells #[] E.ty)) ?_ (h _ _ ?_ ((Below.refl _ _).alloc (Nat.le_refl _) _) (by simp))
  · simp [execOp, ho, Instr.buildSlice, run_underlying E.slice, run_sizeOf_elem, newRow, Instr.fill]
    rw [show Array.range 0 = #[] by simp, Array.map_empty]
  · exact ⟨by simp [Elem.flat], .inr ⟨_, 0, #[], rfl, hbase, heap_alloc_new w _, Nat.le_refl _, Nat.zero_le _, by simp, by simp [Elem.flat]⟩⟩
/-- 'make([]T, 0, c)' -/
theorem wpList_make0 (E : Elem P α) (hg : o.guard = none) (kl kc : IntKind) (x : Operand) (c : Nat) (ho : o.op = .makeSlice E.st (.const (.int kl 0)) x) (hx : a.eval x = .int kc (c : Int)) (hc : c ≤ 1099511627776 / 8) (hby : E.bytes ≤ 1000) (hbase : base ≤ w.heap.size)
    (h : ∀ v' w', Own E base w' v' [] → Below w.heap.size w w' → wpList P ops Q rest (a.put o.dst v') w') : wpList P ops Q (o :: rest) a w := by
  obtain ⟨i, hi, hz, hs, hb⟩ := E.info
  have hmul : i.bytes * c ≤ 281474976710656 := by
    rw [hb]
    exact Nat.le_trans (Nat.mul_le_mul hby hc) (by omega)
  have hmi : (i.bytes : Int) * (c : Int) ≤ 281474976710656 := by
    have h5 : ((i.bytes * c : Nat) : Int) ≤ 281474976710656 := by omega
    rwa [Int.natCast_mul] at h5
  have hr := run_make (P := P) w E.st E.ty i E.zero E.slice hi hz kl kc 0 (c : Int) (by omega) (by omega) hmi (by omega)
  simp only [Int.toNat_natCast, Int.toNat_zero] at hr
  refine wpList_val hg (v := .slice (some ⟨w.heap.size, 0, none⟩) 0 c) (w' := w.alloc (.cells (madeCells E.zero.cells (c * i.size)) E.ty)) ?_ (h _ _ ?_ ((Below.refl _ _).alloc (Nat.le_refl _) _))
  · have he : a.eval (.const (.int kl 0)) = .int kl 0 := rfl
    simp [execOp, ho, hx, he, hr]
  · refine ⟨by simp [Elem.flat], .inr ⟨_, c, _, rfl, hbase, heap_alloc_new w _, Nat.zero_le _, by simp only [maxLen]; omega, ?_, by simp [Elem.flat]⟩⟩
    rw [hs]; simp [madeCells]
/-- a slice literal of two -/
theorem run_slice_two (x y : α) (w : World) : (Instr.buildSlice E.st 2 #[(0, E.val x), (1, E.val y)]).run P w = .ok (.slice (some ⟨w.heap.size, 0, none⟩) 2 2) (w.alloc (.cells ((E.val x).cells ++ (E.val y).cells) E.ty)) := by
  obtain ⟨i, hi, hz, hs, hb⟩ := E.info
  have hpos := E.pos
  have hsm := E.small
  have hsx := E.size x
  have hsy := E.size y
  refine run_buildSlice w E.st E.ty 2 _ ((E.val x).cells ++ (E.val y).cells) i E.zero E.slice hi hz (by omega) (by omega) ?_
  rw [hs]
  show Instr.fill _ _ [(0, E.val x), (1, E.val y)] = _
  rw [fill_cons (off := 0) (size := E.n) (by simp) hsx (by simp; omega), fill_cons (off := E.n) (size := E.n) (by simp) hsy (by rw [splice_size _ _ _ (by simp; omega)]; simp; omega), fill_nil]
  congr 1
  apply Array.ext'
  have hlx : (E.val x).cells.toList.length = E.n := by rw [Array.length_toList]; exact hsx
  simp only [splice, Nat.zero_add, hsx, hsy, List.take_zero, List.nil_append, Array.toList_append]
  rw [List.take_append_of_le_length (by omega), List.take_of_length_le (by omega), List.drop_append, List.drop_eq_nil_of_le (by omega : (E.val x).cells.toList.length ≤ E.n + E.n), List.nil_append, List.drop_eq_nil_of_le (by simp; omega), List.append_nil]
theorem slice_of_block2 {g : Nat} {x y : α} (h : Blk w g E.ty ((E.val x).cells ++ (E.val y).cells)) : SliceOf E w (.slice (some ⟨g, 0, none⟩) 2 2) [x, y] :=
  .inr ⟨_, 2, rfl, h.lt, fun j u hj => by
    have e : E.flat [x, y] = ((E.val x).cells ++ (E.val y).cells).toList := by simp [Elem.flat, Elem.cs]
    rw [e] at hj
    rw [add_plain, Nat.zero_add, h.cell, ← Array.getElem?_toList]; exact hj⟩
/-- 'append(s, x, y)' -/
theorem wpList_push2 (hg : o.guard = none) (hg2 : o2.guard = none) (d : Tmp) (hd : o.dst = some d) (x y : Operand) (ho : o.op = .buildSlice E.st 2 #[(0, x), (1, y)]) (s : Operand)
    (ho2 : o2.op = .call { callee := .builtin .append, args := #[s, .tmp d], argTypes := #[E.st, E.st] }) (vx vy : α) (hx : a.eval x = E.val vx) (hy : a.eval y = E.val vy) (hs : ∀ p, (a.put o.dst p).eval s = v) (hsz : d < a.tmps.size)
    (hown : Own E base w v l) (h63 : l.length + 2 ≤ 1099511627776 / 8) (hby : E.bytes ≤ 1000) (hbase : base ≤ w.heap.size)
    (h : ∀ u v' w', Own E base w' v' (l ++ [vx, vy]) → Pushed E base w w' v → wpList P ops Q rest ((a.put o.dst u).put o2.dst v') w') : wpList P ops Q (o :: o2 :: rest) a w := by
  refine wpList_val hg (v := .slice (some ⟨w.heap.size, 0, none⟩) 2 2) (w' := w.alloc (.cells ((E.val vx).cells ++ (E.val vy).cells) E.ty)) (by simp [execOp, ho, hx, hy, run_slice_two]) ?_
  have hb1 : Below w.heap.size w (w.alloc (.cells ((E.val vx).cells ++ (E.val vy).cells) E.ty)) := (Below.refl _ _).alloc (Nat.le_refl _) _
  have hown1 := hown.below hb1
  obtain ⟨v', w', hrun, h2, h3, _, _⟩ := run_append (ty := o2.type) hown1 _ [vx, vy] (slice_of_block2 (Blk.new w E.ty _)) (by simpa using h63) hby (Nat.le_trans hbase hb1.size)
  have hp := pushed_of hown1 h3
  have hpu : Pushed E base w w' v := {
    below := fun B hB hs => (hb1.mono hs).trans (hp.below B hB (Nat.le_trans hs hb1.size))
    other := fun g hlt hne => (hp.other g (Nat.lt_of_lt_of_le hlt hb1.size) hne).trans (hb1.block g hlt)
    blk := fun g t cs fr hne hb => hp.blk g t cs fr hne (keep' hb1 hb)
    map := fun g es c hb => hp.map g es c (keep' hb1 hb)
    size := Nat.le_trans hb1.size hp.size }
  refine wpList_val hg2 (v := v') (w' := w') ?_ (h _ v' w' h2 hpu)
  have e2 : (a.put o.dst (.slice (some ⟨w.heap.size, 0, none⟩) 2 2)).eval (.tmp d) = .slice (some ⟨w.heap.size, 0, none⟩) 2 2 := by rw [hd]; simp [Act.put, Act.eval, hsz]
  simp [execOp, ho2, resolve, invoke, builtin, hs, e2, hrun]
/-- an append at a step of a region that draws its order -/
theorem step_appendS {K : Act → World → Prop} {F : Prop} (hg : o.guard = none) (s x : Operand) (ho : o.op = .call { callee := .builtin .append, args := #[s, x], argTypes := #[E.st, E.st] }) (vx : Value) (hs : a.eval s = v) (hx : a.eval x = vx) (m : List α)
    (hown : Own E base w v l) (hm : SliceOf E w vx m) (h63 : l.length + m.length ≤ 1099511627776 / 8) (hby : E.bytes ≤ 1000) (hbase : base ≤ w.heap.size)
    (h : ∀ v' w', Own E base w' v' (l ++ m) → Pushed E base w w' v → K (a.put o.dst v') w') : if Region.wanted o (yielded ops a.tmps) = true then o.wp P a w K Q else F := by
  rw [if_pos (by simp [Region.wanted, hg])]
  obtain ⟨v', w', hrun, h2, h3, _, _⟩ := run_append (ty := o.type) hown _ m hm h63 hby hbase
  unfold Oper.wp
  have : (execOp a.eval o).run P w = .ok (.value v') w' := by simp [execOp, ho, resolve, invoke, builtin, hs, hx, hrun]
  rw [this]
  exact h v' w' h2 (pushed_of hown h3)
/-- '[]T{x}' -/
theorem wpList_slice1 (hg : o.guard = none) (y : Operand) (ho : o.op = .buildSlice E.st 1 #[(0, y)]) (x : α) (hy : a.eval y = E.val x) (hbase : base ≤ w.heap.size)
    (h : ∀ v' w', Own E base w' v' [x] → Below w.heap.size w w' → wpList P ops Q rest (a.put o.dst v') w') : wpList P ops Q (o :: rest) a w := by
  refine wpList_val hg (v := .slice (some ⟨w.heap.size, 0, none⟩) 1 1) (w' := w.alloc (.cells (E.val x).cells E.ty)) (by simp [execOp, ho, hy, run_slice_one]) (h _ _ ?_ ((Below.refl _ _).alloc (Nat.le_refl _) _))
  have hs := E.size x
  refine ⟨by rw [E.flat_one, E.cs_length]; simp, .inr ⟨_, 1, _, rfl, hbase, heap_alloc_new w _, Nat.le_refl _, by simp [maxLen], by rw [hs]; simp, ?_⟩⟩
  rw [E.flat_one, Elem.cs, List.take_of_length_le (by rw [Array.length_toList, hs]; simp)]
/-- '[]T{x, y}' -/
theorem wpList_slice2 (hg : o.guard = none) (x y : Operand) (ho : o.op = .buildSlice E.st 2 #[(0, x), (1, y)]) (vx vy : α) (hx : a.eval x = E.val vx) (hy : a.eval y = E.val vy)
    (h : ∀ v' w', SliceOf E w' v' [vx, vy] → Below w.heap.size w w' → wpList P ops Q rest (a.put o.dst v') w') : wpList P ops Q (o :: rest) a w :=
  wpList_val hg (v := .slice (some ⟨w.heap.size, 0, none⟩) 2 2) (w' := w.alloc (.cells ((E.val vx).cells ++ (E.val vy).cells) E.ty)) (by simp [execOp, ho, hx, hy, run_slice_two])
    (h _ _ (slice_of_block2 (Blk.new w E.ty _)) ((Below.refl _ _).alloc (Nat.le_refl _) _))
end
end
end Go.Agg
/-! (of general use) base.Letters: the letters of any hash. -/
namespace Go.Proofs.YtfiadgdinhmgbaaDoor
open Go.RowKit Pl
/-- a hash's cells -/
def hC (h : List UInt8) : Array Value := (Lib.byteCells h).toArray
theorem hC_size (h : List UInt8) : (hC h).size = h.length := by simp [hC, Lib.byteCells]
theorem or_disjoint (a x m : Nat) (ha : a < 2 ^ m) (hx : x < 256) (hm : m < 5) : bits .or .u32 (a : Int) ((x : Int) % 4294967296 * 2 ^ m % 4294967296) = ((a + 2 ^ m * x : Nat) : Int) := by
  have h5 : 2 ^ m ≤ 2 ^ 4 := Nat.pow_le_pow_right (by omega) (by omega)
  have hp : 2 ^ m * x ≤ 2 ^ 4 * 255 := Nat.mul_le_mul h5 (by omega)
  have e : ((x : Int) % 4294967296 * 2 ^ m % 4294967296) = ((2 ^ m * x : Nat) : Int) := by
    rw [Int.emod_eq_of_lt (a := (x : Int)) (by omega) (by omega)]
    have : (x : Int) * 2 ^ m = ((2 ^ m * x : Nat) : Int) := by push_cast; exact Int.mul_comm _ _
    rw [this, Int.emod_eq_of_lt (by omega) (by omega)]
  rw [e, u32_or_nat _ _ (by omega) (by omega), Nat.or_comm, ← Nat.two_pow_add_eq_or_of_lt ha, Nat.add_comm]
theorem or_held (h : List UInt8) (k : Nat) (hl : h.length = 20) (hk : k < 20) :
    bits .or .u32 ((heldTo h k (8 * k / 5) : Nat) : Int) (((h[k]?.getD 0).toNat : Int) % 4294967296 * 2 ^ (8 * k - 5 * (8 * k / 5)) % 4294967296) = ((heldTo h (k + 1) (8 * k / 5) : Nat) : Int) := by
  rw [or_disjoint _ _ _ (heldTo_lt h k _ (by omega) (by omega)) (UInt8.toNat_lt _) (by omega), heldTo_byte h k _ (by omega) (by omega)]
  simp [List.getElem?_eq_getElem (show k < h.length by omega)]
/-- the lowest five bits, under a name -/
def lo5 (a : Nat) : Nat := a % 32
theorem lo5_lt (a : Nat) : lo5 a < 32 := Nat.mod_lt _ (by omega)
theorem and31 (a : Nat) (ha : a < 4294967296) : bits .and .u32 (a : Int) 31 = ((lo5 a : Nat) : Int) := by
  rw [show (31 : Int) = ((31 : Nat) : Int) from rfl, u32_and_nat a 31 ha (by omega), Nat.and_two_pow_sub_one_eq_mod a 5]; rfl
theorem letter_at (kd : IntKind) (n : Nat) (hn : n < 32) (w : World) :
    (Instr.index 9 (.string ⟨#[48, 49, 50, 51, 52, 53, 54, 55, 56, 57, 97, 98, 99, 100, 102, 103, 104, 105, 106, 107, 108, 109, 110, 112, 113, 114, 115, 118, 119, 120, 121, 122]⟩) (.int kd (n : Int))).run Tryd.prog w = .ok (.int .u8 ((letter n).toNat : Int)) w := by
  refine Agg.run_index_str (s := alpha) w Tryd.underlying9 ?_
  simp [letter, List.getD, List.getElem?_eq_getElem (show n < alpha.length from hn)]
/-- a new Builder, beyond B -/
theorem fresh_builder {T e : TypeId} {B : Nat} (w : World) (b : Nat) (hb : b = w.heap.size) (hB : B ≤ w.heap.size) : Lib.IsBuilderF T e B b [] (w.alloc (.cells #[.pointer none, .slice none 0 0] T)) := by
  subst hb
  refine .inl ⟨hB, .slice none 0 0, ?_, ?_, by simp [Value.ownBlock]⟩
  · exact heap_alloc_new _ _
  · exact World.ownsRowF_of (World.ownsRow_nil _ _ _ _)
end Go.Proofs.YtfiadgdinhmgbaaDoor
/-! (of general use) Bytes and texts as elements. -/
namespace Go.Proofs.YtfiadgdinhmgbaaDoor
open Go.RowKit Pl Go.Agg
theorem info_of {P : Program} {ty : TypeId} {z : Value} {n b : Nat} (hz : (P.info? ty).map (·.zero) = some (some z)) (hs : (P.info? ty).map (·.size) = some n) (hb : (P.info? ty).map (·.bytes) = some b) :
    ∃ i, P.info? ty = some i ∧ i.zero = some z ∧ i.size = n ∧ i.bytes = b := by
  cases hi : P.info? ty with
  | none => rw [hi] at hz; cases hz
  | some i =>
    rw [hi] at hz hs hb
    exact ⟨i, rfl, Option.some.inj hz, Option.some.inj hs, Option.some.inj hb⟩
theorem one_of {cs : Array Value} (h : cs.all (·.oneCell') = true) (v : Value) (hv : v ∈ cs.toList) : v.oneCell' = true := by
  rw [Array.all_eq_true_iff_forall_mem] at h
  exact h v (by simpa using hv)
/-- bytes -/
def EB : Elem Tryd.prog UInt8 where
  ty := 5
  st := 23
  n := 1
  bytes := 1
  val := fun c => .int .u8 (c.toNat : Int)
  zero := .int .u8 0
  pos := by omega
  small := by omega
  size := fun x => rfl
  one := fun x v hv => by
    obtain rfl : v = .int .u8 (x.toNat : Int) := by simpa [Value.cells] using hv
    rfl
  zsize := rfl
  slice := by kernel_rfl
  info := info_of (by kernel_rfl) (by kernel_rfl) (by kernel_rfl)
  load := fun w a x hp h => LoadsL.of_cell (by have := h 0 _ rfl; rwa [show a.add 0 = a from rfl] at this) Tryd.underlying5 rfl
abbrev BytesAt (w : World) (v : Value) (l : List UInt8) : Prop := SliceOf EB w v l
theorem bytes_len {w : World} {v : Value} {l : List UInt8} (h : BytesAt w v l) (W : World) : (Builtin.len_ #[23] 3 #[v]).run Tryd.prog W = .ok (.int .i64 (l.length : Int)) W := h.len W
theorem str_len' (s : List UInt8) (w : World) : (Builtin.len_ #[9] 3 #[.string ⟨s.toArray⟩]).run Tryd.prog w = .ok (.int .i64 (s.length : Int)) w := by
  rw [run_len_string w 9 3 _ Tryd.underlying9, Agg.bytes_size]; rfl
theorem byte_at {w : World} {v : Value} {l : List UInt8} (h : BytesAt w v l) (k : Nat) (x : UInt8) (hx : l[k]? = some x) :
    ∃ p : Addr, (∀ W, (Instr.indexAt 23 v (.int .i64 (k : Int))).run Tryd.prog W = .ok (.pointer (some p)) W) ∧ LoadsL Tryd.prog w 5 (some p) (.int .u8 (x.toNat : Int)) := by
  obtain ⟨p, h1, _, _, h4⟩ := h.at_ k x hx
  exact ⟨p, h1, h4⟩
end Go.Proofs.YtfiadgdinhmgbaaDoor
/-! '[]byte(s)' and 'string(b)' -/
namespace Go.Proofs.YtfiadgdinhmgbaaDoor
open Go.RowKit Pl Go.Agg
theorem bytes_below (w : World) (e : TypeId) (s : ByteArray) : Below w.heap.size w (Lib.bytesWorld w e s) :=
  ⟨rfl, rfl, rfl, by rw [Lib.bytesWorld_size]; omega, fun k hk => Lib.bytesWorld_at_old w e s k hk⟩
/-- a new row of bytes, as '[]byte(s)' makes it -/
def NewBytes (w w' : World) (v : Value) (s : List UInt8) : Prop :=
  ∃ cap fr, v = .slice (some ⟨w.heap.size, 0, none⟩) s.length cap ∧ s.length ≤ cap ∧ w'.heap[w.heap.size]? = some (.cells ((Lib.byteCells s).toArray ++ Array.replicate (cap - s.length) (.int .u8 0)) 5 fr) ∧ (fr.1 = cap ∧ fr.2 = cap + 1)
theorem NewBytes.slice {w w' : World} {v : Value} {s : List UInt8} (h : NewBytes w w' v s) : BytesAt w' v s := by
  obtain ⟨cap, fr, rfl, hc, hb, _⟩ := h
  refine .inr ⟨_, cap, rfl, Agg.heap_lt hb, fun j u hj => ?_⟩
  rw [add_plain, Nat.zero_add, cell_of_row _ _ _ _ _ _ hb]
  obtain ⟨k, a, i, h1, h2, rfl⟩ := Elem.flat_all EB s j u hj
  have hi : i = 0 := by have := (Array.getElem?_eq_some_iff.1 h2).1; have e : (EB.val a).cells.size = 1 := rfl; omega
  subst hi
  have hk := (List.getElem?_eq_some_iff.1 h1).1
  have hn : EB.n = 1 := rfl
  rw [hn, Nat.mul_one, Nat.add_zero, Array.getElem?_append_left (by simpa [Lib.byteCells] using hk)]
  have e2 : u = .int .u8 (a.toNat : Int) := by
    have : (EB.val a).cells[0]? = some (.int .u8 (a.toNat : Int)) := rfl
    rw [this] at h2
    exact (Option.some.inj h2).symm
  simp [Lib.byteCells, h1, e2]
theorem run_toBytes (w : World) (s : List UInt8) : ∃ v w', (convert 9 23 (.string ⟨s.toArray⟩)).run Tryd.prog w = .ok v w' ∧ NewBytes w w' v s ∧ Below w.heap.size w w' := by
  refine ⟨_, _, Lib.run_convert_string_bytes w 9 23 5 ⟨s.toArray⟩ Tryd.underlying9 (by kernel_rfl) Tryd.underlying5, ?_, bytes_below _ _ _⟩
  have hsz : (⟨s.toArray⟩ : ByteArray).size = s.length := Agg.bytes_size s
  have hge := grownCap_ge w s.length 0 5
  refine ⟨grownCap w s.length 0 5, (grownCap w s.length 0 5, grownCap w s.length 0 5 + 1), by rw [hsz], hge, ?_, rfl, rfl⟩
  rw [Lib.bytesWorld_at_new]
  have e : Lib.bytesCells w 5 ⟨s.toArray⟩ = (Lib.byteCells s).toArray ++ Array.replicate (grownCap w s.length 0 5 - s.length) (.int .u8 0) := by
    simp [Lib.bytesCells, hsz, Lib.byteCells]
  have e2 : ((Lib.byteCells s).toArray ++ Array.replicate (grownCap w s.length 0 5 - s.length) (Value.int .u8 0)).size = grownCap w s.length 0 5 := by
    simp [Lib.byteCells]; omega
  rw [e, e2]
theorem run_toStr {w : World} {v : Value} {s : List UInt8} (h : BytesAt w v s) : (convert 23 9 v).run Tryd.prog w = .ok (.string ⟨s.toArray⟩) w := by
  rcases h with ⟨p, c, rfl, rfl⟩ | ⟨p, cap, rfl, hp, h⟩
  · cases p with
    | none => exact run_convert_bytes_nil w 23 5 (by kernel_rfl) Tryd.underlying5 0 c 9 Tryd.underlying9
    | some p => exact run_convert_bytes_back w 23 9 5 p c [] (by kernel_rfl) Tryd.underlying5 Tryd.underlying9 (fun j hj => by simp at hj)
  · refine run_convert_bytes_back w 23 9 5 p cap s (by kernel_rfl) Tryd.underlying5 Tryd.underlying9 fun j hj => ?_
    have := h (j * 1 + 0) (.int .u8 (s[j].toNat : Int)) (EB.flat_get s j s[j] 0 _ (List.getElem?_eq_getElem hj) rfl)
    rwa [Nat.mul_one, Nat.add_zero] at this
section
variable {ops : Array Oper} {rest : List Oper} {o : Oper} {a : Act} {w : World} {Q : Exit → Act → World → Prop}
theorem wpList_toBytes (s : List UInt8) (x : Operand) (ho : o.op = .convert 9 23 x) (hw : Region.wanted o (yielded ops a.tmps) = true) (hx : a.eval x = .string ⟨s.toArray⟩)
    (h : ∀ v' w', NewBytes w w' v' s → Below w.heap.size w w' → wpList Tryd.prog ops Q rest (a.put o.dst v') w') : wpList Tryd.prog ops Q (o :: rest) a w := by
  obtain ⟨v', w', hr, h1, h2⟩ := run_toBytes w s
  refine wpList_valw hw ?_ (h v' w' h1 h2)
  simp [execOp, ho, hx, hr]
theorem wpList_toStr {v : Value} {s : List UInt8} (hs : BytesAt w v s) (x : Operand) (ho : o.op = .convert 23 9 x) (hw : Region.wanted o (yielded ops a.tmps) = true) (hx : a.eval x = v)
    (h : wpList Tryd.prog ops Q rest (a.put o.dst (.string ⟨s.toArray⟩)) w) : wpList Tryd.prog ops Q (o :: rest) a w := by
  subst hx
  refine wpList_valw hw ?_ h
  simp [execOp, ho, run_toStr hs]
end
end Go.Proofs.YtfiadgdinhmgbaaDoor
