/- real.Right of any built. (Several texts in one.) -/
import Derived.Test.YtniibcgomnjfgaaQAA
import Derived.Test.YtniibcgomnjfgaaQAE
import Derived.Test.YtniibcgomnjfgaaQAB
/-! A map grown one by one (plain law): whatever lies at a place first stays; in another order, where no two unlike ones have one place, it is the same. -/
namespace Go.Gr
section
variable {α κ : Type}
/-- a strict order of places -/
structure Ord (lt : κ → κ → Bool) : Prop where
  irrefl : ∀ a, lt a a = false
  trans : ∀ a b c, lt a b = true → lt b c = true → lt a c = true
  total : ∀ a b, a ≠ b → lt a b = false → lt b a = true
theorem Ord.asymm {lt : κ → κ → Bool} (h : Ord lt) {a b : κ} (h1 : lt a b = true) : lt b a = false := by
  cases h2 : lt b a with
  | false => rfl
  | true => have := h.trans _ _ _ h1 h2; rw [h.irrefl] at this; cases this
variable (key : α → κ) (lt : κ → κ → Bool) (right : α → Bool)
/-- rising by their places -/
def Up (l : List α) : Prop := l.Pairwise fun a b => lt (key a) (key b) = true
/-- a map, as the code tells it -/
def MapP (l : List α) : Prop := ∀ (i : Nat) x, l[i]? = some x → right x = true ∧ ∀ (j : Nat) y, i = j + 1 → l[j]? = some y → lt (key y) (key x) = true
variable {key lt right}
theorem up_unique (hO : Ord lt) : ∀ (a b : List α), Up key lt a → Up key lt b → (∀ x, x ∈ a ↔ x ∈ b) → a = b
  | [], [], _, _, _ => rfl
  | [], y :: b, _, _, h => absurd ((h y).2 (by simp)) (by simp)
  | x :: a, [], _, _, h => absurd ((h x).1 (by simp)) (by simp)
  | x :: a, y :: b, ha, hb, h => by
    rw [Up, List.pairwise_cons] at ha hb
    have hxy : x = y := by
      rcases List.mem_cons.1 ((h x).1 (by simp)) with e | hx
      · exact e
      · rcases List.mem_cons.1 ((h y).2 (by simp)) with e | hy
        · exact e.symm
        · have h1 := hb.1 x hx
          have h2 := ha.1 y hy
          rw [hO.asymm h1] at h2; cases h2
    subst hxy
    congr 1
    refine up_unique hO a b ha.2 hb.2 fun z => ?_
    have hz := h z
    simp only [List.mem_cons] at hz
    constructor
    · intro hza
      rcases hz.1 (.inr hza) with e | hzb
      · subst e
        have := ha.1 z hza
        rw [hO.irrefl] at this; cases this
      · exact hzb
    · intro hzb
      rcases hz.2 (.inr hzb) with e | hza
      · subst e
        have := hb.1 z hzb
        rw [hO.irrefl] at this; cases this
      · exact hza
theorem up_key (hO : Ord lt) : ∀ (a : List α), Up key lt a → ∀ x ∈ a, ∀ y ∈ a, key x = key y → x = y
  | [], _, x, hx, _, _, _ => by simp at hx
  | z :: a, h, x, hx, y, hy, e => by
    rw [Up, List.pairwise_cons] at h
    rcases List.mem_cons.1 hx with rfl | hx'
    · rcases List.mem_cons.1 hy with rfl | hy'
      · rfl
      · have := h.1 y hy'; rw [e, hO.irrefl] at this; cases this
    · rcases List.mem_cons.1 hy with rfl | hy'
      · have := h.1 x hx'; rw [e, hO.irrefl] at this; cases this
      · exact up_key hO a h.2 x hx' y hy' e
theorem up_insert {l : List α} {k : Nat} {x : α} (hl : Up key lt l) (h1 : ∀ y ∈ l.take k, lt (key y) (key x) = true) (h2 : ∀ y ∈ l.drop k, lt (key x) (key y) = true) : Up key lt (l.take k ++ x :: l.drop k) := by
  have hl' : Up key lt (l.take k ++ l.drop k) := by rw [List.take_append_drop]; exact hl
  rw [Up, List.pairwise_append] at hl' ⊢
  refine ⟨hl'.1, List.pairwise_cons.2 ⟨h2, hl'.2.1⟩, fun a ha b hb => ?_⟩
  rcases List.mem_cons.1 hb with rfl | hb'
  · exact h1 a ha
  · exact hl'.2.2 a ha b hb'
theorem mem_insert {l : List α} {k : Nat} {x z : α} : z ∈ l.take k ++ x :: l.drop k ↔ z = x ∨ z ∈ l := by
  rw [List.mem_append, List.mem_cons]
  constructor
  · rintro (h | h | h)
    · exact .inr (List.mem_of_mem_take h)
    · exact .inl h
    · exact .inr (List.mem_of_mem_drop h)
  · rintro (h | h)
    · exact .inr (.inl h)
    · rw [← List.take_append_drop k l, List.mem_append] at h
      exact h.elim .inl fun h => .inr (.inr h)
theorem mapP_iff (hO : Ord lt) (l : List α) : MapP key lt right l ↔ (∀ x ∈ l, right x = true) ∧ Up key lt l := by
  constructor
  · intro h
    refine ⟨fun x hx => ?_, ?_⟩
    · obtain ⟨i, hi, rfl⟩ := List.getElem_of_mem hx
      exact (h i l[i] (List.getElem?_eq_getElem hi)).1
    · rw [Up, List.pairwise_iff_getElem]
      intro i j hi hj hij
      obtain ⟨d, rfl⟩ : ∃ d, j = i + 1 + d := ⟨j - (i + 1), by omega⟩
      clear hij
      induction d with
      | zero => exact (h (i + 1) _ (List.getElem?_eq_getElem hj)).2 i l[i] rfl (List.getElem?_eq_getElem hi)
      | succ d ih =>
        have hj' : i + 1 + d < l.length := by omega
        exact hO.trans _ _ _ (ih hj') ((h (i + 1 + d + 1) _ (List.getElem?_eq_getElem (by omega))).2 (i + 1 + d) _ rfl (List.getElem?_eq_getElem hj'))
  · rintro ⟨h1, h2⟩ i x hx
    refine ⟨h1 x (List.mem_of_getElem? hx), fun j y hij hy => ?_⟩
    subst hij
    obtain ⟨hi, rfl⟩ := List.getElem?_eq_some_iff.1 hx
    obtain ⟨hj, rfl⟩ := List.getElem?_eq_some_iff.1 hy
    exact List.pairwise_iff_getElem.1 h2 j (j + 1) hj hi (by omega)
variable (key lt right)
/-- what was grown of some -/
structure Grown (p out : List α) (clean : Bool) : Prop where
  up : Up key lt out
  ok : ∀ y ∈ out, right y = true
  first : ∀ y ∈ out, ∃ i : Nat, p[i]? = some y ∧ ∀ (j : Nat) z, j < i → p[j]? = some z → right z = true → key z ≠ key y
  has : ∀ x ∈ p, right x = true → ∃ y ∈ out, key y = key x
  clean : clean = true ↔ ∀ x ∈ p, right x = true → x ∈ out
variable {key lt right}
theorem Grown.nil : Grown key lt right [] [] true where
  up := List.Pairwise.nil
  ok := by simp
  first := by simp
  has := by simp
  clean := by simp
theorem Grown.map (hO : Ord lt) {p out : List α} {c : Bool} (h : Grown key lt right p out c) : MapP key lt right out := (mapP_iff hO out).2 ⟨h.ok, h.up⟩
theorem Grown.skip {p out : List α} {c : Bool} {x : α} (h : Grown key lt right p out c) (hx : right x = false) : Grown key lt right (p ++ [x]) out c where
  up := h.up
  ok := h.ok
  first := fun y hy => by
    obtain ⟨i, hi, hf⟩ := h.first y hy
    have hlt := (List.getElem?_eq_some_iff.1 hi).1
    exact ⟨i, by rw [List.getElem?_append_left hlt]; exact hi, fun j z hj hz => hf j z hj (by rwa [List.getElem?_append_left (by omega)] at hz)⟩
  has := fun z hz hr => by
    rcases List.mem_append.1 hz with hz | hz
    · exact h.has z hz hr
    · rw [List.mem_singleton.1 hz, hx] at hr; cases hr
  clean := by
    rw [h.clean]
    constructor
    · intro hc z hz hr
      rcases List.mem_append.1 hz with hz | hz
      · exact hc z hz hr
      · rw [List.mem_singleton.1 hz, hx] at hr; cases hr
    · exact fun hc z hz hr => hc z (List.mem_append_left _ hz) hr
theorem Grown.add (hO : Ord lt) {p out : List α} {c : Bool} {x : α} {k : Nat} (h : Grown key lt right p out c) (hx : right x = true)
    (h1 : ∀ y ∈ out.take k, lt (key y) (key x) = true) (h2 : ∀ y ∈ out.drop k, lt (key x) (key y) = true) : Grown key lt right (p ++ [x]) (out.take k ++ x :: out.drop k) c := by
  have hno : ∀ y ∈ out, key y ≠ key x := fun y hy e => by
    rw [← List.take_append_drop k out, List.mem_append] at hy
    rcases hy with hy | hy
    · have := h1 y hy; rw [e, hO.irrefl] at this; cases this
    · have := h2 y hy; rw [e, hO.irrefl] at this; cases this
  refine ⟨up_insert h.up h1 h2, ?_, ?_, ?_, ?_⟩
  · intro y hy
    rcases mem_insert.1 hy with rfl | hy
    · exact hx
    · exact h.ok y hy
  · intro y hy
    rcases mem_insert.1 hy with rfl | hy
    · refine ⟨p.length, by simp, fun j z hj hz hr e => ?_⟩
      rw [List.getElem?_append_left hj] at hz
      obtain ⟨u, hu, he⟩ := h.has z (List.mem_of_getElem? hz) hr
      exact hno u hu (he.trans e)
    · obtain ⟨i, hi, hf⟩ := h.first y hy
      have hlt := (List.getElem?_eq_some_iff.1 hi).1
      exact ⟨i, by rw [List.getElem?_append_left hlt]; exact hi, fun j z hj hz => hf j z hj (by rwa [List.getElem?_append_left (by omega)] at hz)⟩
  · intro z hz hr
    rcases List.mem_append.1 hz with hz | hz
    · obtain ⟨u, hu, he⟩ := h.has z hz hr
      exact ⟨u, mem_insert.2 (.inr hu), he⟩
    · rw [List.mem_singleton.1 hz]
      exact ⟨x, mem_insert.2 (.inl rfl), rfl⟩
  · rw [h.clean]
    constructor
    · intro hc z hz hr
      rcases List.mem_append.1 hz with hz | hz
      · exact mem_insert.2 (.inr (hc z hz hr))
      · exact mem_insert.2 (.inl (List.mem_singleton.1 hz))
    · intro hc z hz hr
      rcases mem_insert.1 (hc z (List.mem_append_left _ hz) hr) with e | hm
      · subst e
        obtain ⟨u, hu, he⟩ := h.has z hz hr
        exact absurd he (hno u hu)
      · exact hm
theorem Grown.again {p out : List α} {c : Bool} {x : α} (h : Grown key lt right p out c) (hx : x ∈ out) : Grown key lt right (p ++ [x]) out c where
  up := h.up
  ok := h.ok
  first := fun y hy => by
    obtain ⟨i, hi, hf⟩ := h.first y hy
    have hlt := (List.getElem?_eq_some_iff.1 hi).1
    exact ⟨i, by rw [List.getElem?_append_left hlt]; exact hi, fun j z hj hz => hf j z hj (by rwa [List.getElem?_append_left (by omega)] at hz)⟩
  has := fun z hz hr => by
    rcases List.mem_append.1 hz with hz | hz
    · exact h.has z hz hr
    · rw [List.mem_singleton.1 hz]; exact ⟨x, hx, rfl⟩
  clean := by
    rw [h.clean]
    constructor
    · intro hc z hz hr
      rcases List.mem_append.1 hz with hz | hz
      · exact hc z hz hr
      · rw [List.mem_singleton.1 hz]; exact hx
    · exact fun hc z hz hr => hc z (List.mem_append_left _ hz) hr
theorem Grown.other (hO : Ord lt) {p out : List α} {c : Bool} {x y : α} (h : Grown key lt right p out c) (hr : right x = true) (hy : y ∈ out) (he : key y = key x) (hne : y ≠ x) : Grown key lt right (p ++ [x]) out false where
  up := h.up
  ok := h.ok
  first := fun y hy => by
    obtain ⟨i, hi, hf⟩ := h.first y hy
    have hlt := (List.getElem?_eq_some_iff.1 hi).1
    exact ⟨i, by rw [List.getElem?_append_left hlt]; exact hi, fun j z hj hz => hf j z hj (by rwa [List.getElem?_append_left (by omega)] at hz)⟩
  has := fun z hz hr => by
    rcases List.mem_append.1 hz with hz | hz
    · exact h.has z hz hr
    · rw [List.mem_singleton.1 hz]; exact ⟨y, hy, he⟩
  clean := by
    constructor
    · intro e; cases e
    · intro hc
      have := hc x (by simp) hr
      exact absurd (up_key hO out h.up y hy x this he) hne
/-- how many lie at a place -/
def many [DecidableEq κ] (key : α → κ) (a : List α) (k : κ) : Nat := a.countP fun y => decide (key y = k)
theorem many_one [DecidableEq κ] (hO : Ord lt) : ∀ {a : List α}, Up key lt a → ∀ {y : α}, y ∈ a → many key a (key y) = 1
  | [], _, y, hy => by simp at hy
  | z :: a, h, y, hy => by
    have h' := h
    rw [Up, List.pairwise_cons] at h
    unfold many
    rw [List.countP_cons]
    by_cases e : key z = key y
    · have h0 : a.countP (fun u => decide (key u = key y)) = 0 := by
        rw [List.countP_eq_zero]
        intro u hu hd
        have := h.1 u hu
        rw [e, of_decide_eq_true hd, hO.irrefl] at this; cases this
      simp [h0, e]
    · rcases List.mem_cons.1 hy with rfl | hy'
      · exact absurd rfl e
      · have := many_one hO h.2 hy'
        unfold many at this
        simp [this, e]
theorem Grown.one [DecidableEq κ] (hO : Ord lt) {p out : List α} {c : Bool} (h : Grown key lt right p out c) {x : α} (hx : x ∈ p) (hr : right x = true) : many key out (key x) = 1 := by
  obtain ⟨y, hy, he⟩ := h.has x hx hr
  rw [← he]; exact many_one hO h.up hy
theorem Grown.is_first {p out : List α} {c : Bool} (h : Grown key lt right p out c) {i : Nat} {x y : α} (hi : p[i]? = some x) (hr : right x = true)
    (hf : ∀ (j : Nat) z, j < i → p[j]? = some z → right z = true → key z ≠ key x) (hy : y ∈ out) (he : key y = key x) : y = x := by
  obtain ⟨k, hk, hkf⟩ := h.first y hy
  rcases Nat.lt_trichotomy k i with hlt | rfl | hlt
  · exact absurd he (hf k y hlt hk (h.ok y hy))
  · rw [hk] at hi; exact Option.some.inj hi
  · exact absurd he.symm (hkf i x hlt hi hr)
theorem Grown.turned (hO : Ord lt) {p q a b : List α} {c d : Bool} (h : Grown key lt right p a c) (g : Grown key lt right q b d) (hm : ∀ x, x ∈ p ↔ x ∈ q) : c = d ∧ (c = true → a = b) := by
  have aux : ∀ {p q a b : List α} {c d : Bool}, Grown key lt right p a c → Grown key lt right q b d → (∀ x, x ∈ p ↔ x ∈ q) → c = true → d = true := by
    intro p q a b c d h g hm hc
    rw [g.clean]
    intro x hx hr
    obtain ⟨y, hy, he⟩ := g.has x hx hr
    have hxa := h.clean.1 hc x ((hm x).2 hx) hr
    obtain ⟨i, hi, _⟩ := g.first y hy
    have hya := h.clean.1 hc y ((hm y).2 (List.mem_of_getElem? hi)) (g.ok y hy)
    rw [← up_key hO a h.up y hya x hxa he]; exact hy
  refine ⟨?_, fun hc => ?_⟩
  · cases c with
    | true => exact (aux h g hm rfl).symm
    | false =>
      cases d with
      | false => rfl
      | true => have := aux g h (fun x => (hm x).symm) rfl; cases this
  · have hd := aux h g hm hc
    refine up_unique hO a b h.up g.up fun x => ⟨fun hx => ?_, fun hx => ?_⟩
    · obtain ⟨i, hi, _⟩ := h.first x hx
      exact g.clean.1 hd x ((hm x).1 (List.mem_of_getElem? hi)) (h.ok x hx)
    · obtain ⟨i, hi, _⟩ := g.first x hx
      exact h.clean.1 hc x ((hm x).2 (List.mem_of_getElem? hi)) (g.ok x hx)
end
end Go.Gr
/-! The places of builts: their order. -/
namespace Go.Proofs.Ytniibcgomnjfgaa
open Pl
open Go.Lib (compareBytes)
/-- a place: class, key, principal -/
abbrev Pla : Type := H20 × H20 × Int
instance : DecidableEq Pla := inferInstance
def plOf (x : Bu) : Pla := (x.cl, x.ky, x.by_)
def cmpI (a b : Int) : Int := if a < b then -1 else if b < a then 1 else 0
def or3 (a b c : Int) : Int := if a ≠ 0 then a else if b ≠ 0 then b else c
def cmpPl (a b : Pla) : Int := or3 (compareBytes a.1.1 b.1.1) (compareBytes a.2.1.1 b.2.1.1) (cmpI a.2.2 b.2.2)
def ltPl (a b : Pla) : Bool := Op.bytesLess a.1.1 b.1.1 || (decide (a.1 = b.1) && (Op.bytesLess a.2.1.1 b.2.1.1 || (decide (a.2.1 = b.2.1) && decide (a.2.2 < b.2.2))))
theorem cb_cases (x y : H20) : (compareBytes x.1 y.1 = -1 ∧ Op.bytesLess x.1 y.1 = true ∧ x ≠ y ∧ Op.bytesLess y.1 x.1 = false) ∨ (compareBytes x.1 y.1 = 1 ∧ Op.bytesLess y.1 x.1 = true ∧ x ≠ y ∧ Op.bytesLess x.1 y.1 = false) ∨ (compareBytes x.1 y.1 = 0 ∧ x = y) := by
  rw [compare_cases]
  by_cases e : x = y
  · subst e; simp [bytesLess_irrefl]
  · have hne : x.1 ≠ y.1 := fun h => e (Subtype.ext h)
    cases h : Op.bytesLess x.1 y.1 with
    | true => exact .inl ⟨by simp, rfl, e, bytesLess_asymm _ _ h⟩
    | false =>
      have := bytesLess_total _ _ hne h
      exact .inr (.inl ⟨by simp [this], this, e, rfl⟩)
theorem cmpPl_eq (a b : Pla) : cmpPl a b = if ltPl a b then -1 else if ltPl b a then 1 else 0 := by
  obtain ⟨a1, a2, a3⟩ := a
  obtain ⟨b1, b2, b3⟩ := b
  unfold cmpPl ltPl or3
  simp only
  rcases cb_cases a1 b1 with ⟨h1, h2, h3, h4⟩ | ⟨h1, h2, h3, h4⟩ | ⟨h1, rfl⟩
  · simp [h1, h2]
  · simp [h1, h2, h4, h3]
  · rcases cb_cases a2 b2 with ⟨g1, g2, g3, g4⟩ | ⟨g1, g2, g3, g4⟩ | ⟨g1, rfl⟩
    · simp [h1, g1, g2, bytesLess_irrefl]
    · simp [h1, g1, g2, g4, g3, bytesLess_irrefl]
    · simp [h1, g1, bytesLess_irrefl, cmpI]
theorem ltPl_irrefl (a : Pla) : ltPl a a = false := by simp [ltPl, bytesLess_irrefl]
theorem ltPl_total (a b : Pla) (hne : a ≠ b) (h : ltPl a b = false) : ltPl b a = true := by
  obtain ⟨a1, a2, a3⟩ := a
  obtain ⟨b1, b2, b3⟩ := b
  unfold ltPl at *
  simp only at *
  rcases cb_cases a1 b1 with ⟨h1, h2, h3, h4⟩ | ⟨h1, h2, h3, h4⟩ | ⟨h1, rfl⟩
  · simp [h2] at h
  · simp [h2]
  · rcases cb_cases a2 b2 with ⟨g1, g2, g3, g4⟩ | ⟨g1, g2, g3, g4⟩ | ⟨g1, rfl⟩
    · simp [g2] at h
    · simp [g2]
    · simp [bytesLess_irrefl] at h ⊢
      have : a3 ≠ b3 := fun e => hne (by rw [e])
      omega
theorem ltPl_trans (a b c : Pla) (h1 : ltPl a b = true) (h2 : ltPl b c = true) : ltPl a c = true := by
  obtain ⟨a1, a2, a3⟩ := a
  obtain ⟨b1, b2, b3⟩ := b
  obtain ⟨c1, c2, c3⟩ := c
  unfold ltPl at *
  simp only [Bool.or_eq_true, Bool.and_eq_true, decide_eq_true_eq] at *
  rcases h1 with h1 | ⟨rfl, h1⟩
  · rcases h2 with h2 | ⟨rfl, _⟩
    · exact .inl (bytesLess_trans _ _ _ h1 h2)
    · exact .inl h1
  · rcases h2 with h2 | ⟨rfl, h2⟩
    · exact .inl h2
    · refine .inr ⟨rfl, ?_⟩
      rcases h1 with h1 | ⟨rfl, h1⟩
      · rcases h2 with h2 | ⟨rfl, _⟩
        · exact .inl (bytesLess_trans _ _ _ h1 h2)
        · exact .inl h1
      · rcases h2 with h2 | ⟨rfl, h2⟩
        · exact .inl h2
        · exact .inr ⟨rfl, by omega⟩
theorem ltPl_ord : Gr.Ord ltPl := ⟨ltPl_irrefl, ltPl_trans, ltPl_total⟩
theorem cmpPl_neg (a b : Pla) : decide (cmpPl a b < 0) = ltPl a b := by
  rw [cmpPl_eq]
  cases h : ltPl a b with
  | true => simp
  | false => by_cases h2 : ltPl b a = true <;> simp [h2]
theorem cmpPl_zero (a b : Pla) : (cmpPl a b == 0) = decide (a = b) := by
  rw [cmpPl_eq]
  by_cases e : a = b
  · subst e; simp [ltPl_irrefl]
  · cases h : ltPl a b with
    | true => simp [e]
    | false => simp [ltPl_total a b e h, e]
/-- whether a built is right -/
def insB (l : List Md) : Bool := decide (l.map (·.1)).Nodup && l.all fun m => isName m.2.1.2
def rightBu (x : Bu) : Bool := isName x.pa.1.2 && (decide (1 ≤ x.by_) && (decide (x.by_ ≤ 16) && (decide (x.ins.length ≤ 8) && insB x.ins)))
theorem insB_snoc (l : List Md) (m : Md) : insB (l ++ [m]) = (insB l && (!decide (m.1 ∈ l.map (·.1)) && isName m.2.1.2)) := by
  unfold insB
  rw [Bool.eq_iff_iff]
  simp only [List.map_append, List.map_cons, List.map_nil, Bool.and_eq_true, decide_eq_true_eq, List.all_append, List.all_cons, List.all_nil, Bool.and_true, Bool.not_eq_true', decide_eq_false_iff_not, List.nodup_append, List.nodup_cons, List.not_mem_nil, not_false_iff, List.nodup_nil, and_true, List.mem_singleton]
  constructor
  · rintro ⟨⟨h1, _, h2⟩, h3, h4⟩
    exact ⟨⟨h1, h3⟩, fun h => h2 _ h _ rfl rfl, h4⟩
  · rintro ⟨⟨h1, h3⟩, h2, h4⟩
    exact ⟨⟨h1, trivial, fun a ha b hb e => h2 (by rw [← hb, ← e]; exact ha)⟩, h3, h4⟩
theorem insB_false {l : List Md} {k : Nat} (h : insB (l.take k) = false) : insB l = false := by
  cases hl : insB l with
  | false => rfl
  | true =>
    unfold insB at *
    simp only [Bool.and_eq_true, decide_eq_true_eq] at hl
    have h1 : ((l.take k).map (·.1)).Nodup := by rw [← List.take_append_drop k l, List.map_append, List.nodup_append] at hl; exact hl.1.1
    have h2 : (l.take k).all (fun m => isName m.2.1.2) = true := by
      rw [List.all_eq_true] at *
      exact fun x hx => hl.2 x (List.mem_of_mem_take hx)
    rw [h2] at h
    simp only [Bool.and_true, decide_eq_false_iff_not] at h
    exact absurd h1 h
end Go.Proofs.Ytniibcgomnjfgaa
/-! A hash as a map's key. -/
namespace Go.Proofs.Ytniibcgomnjfgaa
open Go.RowKit Pl Go.Mp Go.Agg Go.Instr
def hV (h : H20) : Value := .agg (hC h.1)
theorem bits_hash (n : Nat) (h : H20) : sameBits (n + 1) (hV h) (hV h) = true := by
  unfold hV sameBits
  simp only [beq_self_eq_true, Bool.true_and]
  refine bits_all n _ fun v hv => ?_
  simp only [hC, Lib.byteCells, List.mem_map] at hv
  obtain ⟨c, _, rfl⟩ := hv
  unfold sameBits; simp
set_option maxRecDepth 100000 in
theorem hash_key : KeyEq Try.prog 30 hV where
  check := fun e h w => check_hash e 9998 h.1 h.2 w
  desc := ⟨_, Try.underlying30, .inr ⟨fun a b => rfl, fun a b w => by
    have h := eql_hash a.1 b.1 a.2 b.2 w
    rw [run_eql_struct] at h
    unfold Op.equal Op.maxDepth
    generalize hr : (Op.equalIn 10000 30 (.agg (hC a.1)) (.agg (hC b.1))).run Try.prog w = r at h
    unfold hV
    rw [hr]
    cases r with
    | ok x w' =>
      simp [Result.andThen] at h
      obtain ⟨rfl, rfl⟩ := h
      congr 1
      rw [Bool.eq_iff_iff]
      simp [Subtype.ext_iff]
    | halt x w' => simp [Result.andThen] at h⟩⟩
  bits := fun p => bits_hash 9999 p
end Go.Proofs.Ytniibcgomnjfgaa
/-! Maps that a call makes: a look-up that does not ask whether it is there; what a new key leaves. -/
namespace Go.Mp
open Go.RowKit Go.Instr
section
variable {P : Program} {α β : Type} [DecidableEq α]
/-- what a look-up yields -/
def mval {β : Type} (ν : β → Value) (z : Value) : Option β → Value | some v => ν v | none => z
/-- 'v := m[k]' -/
theorem run_lookup0 {t K E : TypeId} {w : World} {b : Nat} {κ : α → Value} {ν : β → Value} {m : List (α × β)} {z : Value} (ht : P.underlying t = some (.map K E)) (hK : KeyEq P K κ) (hz : ∀ w, (zeroValue E).run P w = .ok z w)
    (h : MapIs w b κ ν m) (a : α) :
    (lookup t (.map (some b)) (κ a) false).run P w = .ok (mval ν z (mget m a)) w := by
  obtain ⟨es, c, hb, he⟩ := h
  unfold lookup
  rw [Sem.run_bind, run_underlying ht w]
  simp only [Result.andThen, Sem.run_bind, getObj, Sem.run, hb, Sem.run_pure, hK.check, findKey_eq hK a m es.toList w he]
  have hg := place_get m a 0
  cases hp : place m a 0 with
  | none =>
    rw [hp] at hg
    simp [← hg, hz, mval]
  | some x =>
    rw [hp] at hg
    simp [← hg, mval]
theorem mput_new' (m : List (α × β)) (x : α) (v : β) (h : mget m x = none) : mput m x v = m ++ [(x, v)] := by
  induction m with
  | nil => rfl
  | cons p r ih =>
    by_cases e : x = p.1
    · simp [mget, e] at h
    · have h' : mget r x = none := by simpa [mget, e] using h
      simp [mput, e, ih h']
theorem mget_none (m : List (α × β)) (x : α) (h : ¬ x ∈ m.map (·.1)) : mget m x = none := by
  unfold mget
  rw [List.find?_eq_none.2]
  · rfl
  · intro y hy
    simp only [decide_eq_true_eq]
    rintro rfl
    exact h (List.mem_map.2 ⟨y, hy, rfl⟩)
theorem mget_some (m : List (α × β)) (x : α) (v : β) (h : x ∈ m.map (·.1)) (hv : ∀ p ∈ m, p.2 = v) : mget m x = some v := by
  unfold mget
  cases hf : m.find? (fun p => decide (x = p.1)) with
  | some y => simp only [Option.map_some]; rw [hv y (List.mem_of_find?_eq_some hf)]
  | none =>
    rw [List.find?_eq_none] at hf
    obtain ⟨y, hy, rfl⟩ := List.mem_map.1 h
    exact absurd (hf y hy) (by simp)
variable {ops : Array Oper} {rest : List Oper} {o : Oper} {a : Act} {w : World} {Q : Exit → Act → World → Prop}
theorem wpList_lookup0 (hg : o.guard = none) (mo xo : Operand) (t K E : TypeId) (hop : o.op = Op.lookup t mo xo false) (ht : P.underlying t = some (.map K E)) {κ : α → Value} {ν : β → Value} {z : Value}
    (hK : KeyEq P K κ) (hz : ∀ w, (zeroValue E).run P w = .ok z w) {b : Nat} {m : List (α × β)} (hm : a.eval mo = .map (some b)) (h : MapIs w b κ ν m) (x : α) (hx : a.eval xo = κ x) (r : Value) (hr : mval ν z (mget m x) = r)
    (hk : wpList P ops Q rest (a.put o.dst r) w) : wpList P ops Q (o :: rest) a w := by
  refine wpList_plain hg fun K' hK' => ?_
  unfold Oper.wp
  simp [execOp, hop, hm, hx, run_lookup0 ht hK hz h x, Result.andThen, hr]
  exact hK' _ _ hk
omit [DecidableEq α] in
/-- 'make(map[K]V)', 'map[K]V{}' -/
theorem wpList_makeMap (κ : α → Value) (ν : β → Value) (hg : o.guard = none) (t : TypeId) (hop : o.op = Op.makeMap t none)
    (h : ∀ g w', MapIs w' g κ ν [] → Below w.heap.size w w' → w.heap.size ≤ g → wpList P ops Q rest (a.put o.dst (.map (some g))) w') : wpList P ops Q (o :: rest) a w := by
  refine wpList_plain hg fun K' hK' => ?_
  unfold Oper.wp
  simp [execOp, hop, run_makeMap, Result.andThen]
  exact hK' _ _ (h _ _ (MapIs.empty w κ ν) ((Below.refl _ _).alloc (Nat.le_refl _) _) (Nat.le_refl _))
end
end Go.Mp
/-! real.Right of any built. -/
namespace Go.Proofs.Ytniibcgomnjfgaa
open Go.RowKit Pl Go.Agg Go.Mp
def nI : Int → Value := fun n => .int .i64 n
theorem zeroI (w : World) : (zeroValue 3).run Try.prog w = .ok (.int .i64 0) w := by kernel_rfl
def seenM (l : List Md) : List (H20 × Int) := l.map fun m => (m.1, 1)
theorem seenM_keys (l : List Md) : (seenM l).map (·.1) = l.map (·.1) := by simp [seenM]
theorem seen_hit {l : List Md} {c : H20} (h : c ∈ l.map (·.1)) : mval nI (.int .i64 0) (mget (seenM l) c) = .int .i64 1 := by
  rw [mget_some (seenM l) c 1 (by rw [seenM_keys]; exact h) (by intro p hp; obtain ⟨m, _, rfl⟩ := List.mem_map.1 hp; rfl)]
  rfl
theorem seen_miss {l : List Md} {c : H20} (h : ¬ c ∈ l.map (·.1)) : mval nI (.int .i64 0) (mget (seenM l) c) = .int .i64 0 := by
  rw [mget_none (seenM l) c (by rw [seenM_keys]; exact h)]; rfl
set_option maxRecDepth 100000 in
set_option maxHeartbeats 4000000 in
theorem buRight_any (x : BuV) (w : World) (hi : InsAt w x) :
    Calls Try.prog 9 #[.agg (bC x)] w fun e w' => e = .returned (.bool (rightBu x.1)) ∧ Below w.heap.size w w' := by
  have HE := Lib.hid (show MdsAt w (ivV x.2) x.1.ins from hi)
  have hlv := fun W => mds_len (w := w) (l := x.1.ins) hi W
  obtain ⟨a1, ha1⟩ : ∃ b, isName x.1.pa.1.2 = b := ⟨_, rfl⟩
  have HNM := Lib.hid (fun W => (show Calls Try.prog 24 #[.string ⟨x.1.pa.1.2.toArray⟩] W fun e w' => e = .returned (.bool a1) ∧ Below W.heap.size W w' by have := name_any x.1.pa.1.2 W; rwa [ha1] at this))
  have HR := Lib.hid (show rightBu x.1 = (a1 && (decide (1 ≤ x.1.by_) && (decide (x.1.by_ ≤ 16) && (decide (x.1.ins.length ≤ 8) && insB x.1.ins)))) by unfold rightBu; rw [ha1])
  clear hi ha1
  go_enter Try.func9, Try.ntmps9
  go_wp2_with (first | (with_reducible refine wpList_box rfl 35 _ rfl (bC x) rfl ?_; intro g w1 hb1 hx1 hg1; have HL := Lib.hid (BuG.of_blk hb1); have HX := Lib.hid hx1; clear hb1 hx1 hg1) | (with_reducible refine wpList_loadL HL.out.pname rfl _ rfl rfl ?_))
  refine (HNM.out _).mono ?_
  rintro e w2 ⟨rfl, hx2⟩
  have HL := Lib.hid (HL.out.below hx2)
  have HX := Lib.hid (Agg.belowThen HX.out (Nat.le_refl _) hx2)
  clear hx2
  cases a1 with
  | false =>
    go_wp2_with fail
    go_ret
    exact ⟨ret_bool (by rw [HR.out]; rfl), HX.out⟩
  | true =>
  by_cases h1 : x.1.by_ < 1
  · go_wp2_with (first | (with_reducible refine wpList_loadL HL.out.by_ rfl _ rfl rfl ?_))
    go_ret
    exact ⟨ret_bool (by rw [HR.out]; simp; omega), HX.out⟩
  by_cases h2 : 16 < x.1.by_
  · go_wp2_with (first | (with_reducible refine wpList_loadL HL.out.by_ rfl _ rfl rfl ?_))
    go_ret
    exact ⟨ret_bool (by rw [HR.out]; simp; omega), HX.out⟩
  by_cases h3 : 8 < (x.1.ins.length : Int)
  · go_wp2_with (first | (with_reducible refine wpList_loadL HL.out.by_ rfl _ rfl rfl ?_) | (with_reducible refine wpList_loadL HL.out.ins rfl _ rfl rfl ?_))
    go_ret
    exact ⟨ret_bool (by rw [HR.out]; simp; omega), HX.out⟩
  have HR := Lib.hid (show rightBu x.1 = insB x.1.ins by rw [HR.out]; simp [show (1 : Int) ≤ x.1.by_ by omega, show x.1.by_ ≤ 16 by omega, show x.1.ins.length ≤ 8 by omega])
  have hd1 : decide (x.1.by_ < 1) = false := by simp; omega
  have hd2 : decide (16 < x.1.by_) = false := by simp; omega
  have hd3 : decide (8 < (x.1.ins.length : Int)) = false := by simp; omega
  clear h1 h2
  go_wp2_with (first | (with_reducible refine wpList_loadL HL.out.by_ rfl _ rfl rfl ?_) | (with_reducible refine wpList_loadL HL.out.ins rfl _ rfl rfl ?_) | (with_reducible refine wpList_makeMap hV nI rfl 63 rfl ?_; intro gm w3 hm3 hx3 hg3; have HM := Lib.hid hm3; have HL3 := Lib.hid (HL.out.below hx3); have HX3 := Lib.hid (Agg.belowThen HX.out (Nat.le_refl _) hx3); have HE3 := Lib.hid (SliceOf.below (HE.out.below HX.out) hx3); have HG := Lib.hid (Nat.le_trans HX.out.size hg3); clear hm3 hx3 hg3) | (with_reducible refine wpList_loadL HL3.out.ins rfl _ rfl rfl ?_))
  go_loopw [31] (fun i wr => ∃ k : Nat, k ≤ x.1.ins.length ∧ i = .int .i64 k ∧ MapIs wr gm hV nI (seenM (x.1.ins.take k)) ∧ insB (x.1.ins.take k) = true ∧ Below w.heap.size w wr) (fun i _ => x.1.ins.length - (intOf i).toNat)
  case atStart => exact ⟨0, by omega, rfl, HM.out, rfl, HX3.out⟩
  case round =>
    clear HM
    obtain ⟨wr1, rfl⟩ : ∃ y : World, y = wr := ⟨_, rfl⟩
    obtain ⟨k, hk, rfl, hm, hin, hw⟩ := hrel
    have HM := Lib.hid hm
    have HI := Lib.hid hin
    have HW := Lib.hid hw
    clear hm hin hw
    by_cases hlt : k < x.1.ins.length
    · have hd : decide ((k : Int) < (x.1.ins.length : Int)) = true := by simp; omega
      obtain ⟨m, hmk⟩ : ∃ m, x.1.ins[k]? = some m := ⟨_, List.getElem?_eq_getElem hlt⟩
      obtain ⟨q, hadr, hq⟩ := mds_at (HE.out.below HW.out) k m hmk
      have HQ := Lib.hid hq
      have HK := Lib.hid (show x.1.ins.take (k + 1) = x.1.ins.take k ++ [m] by rw [List.take_add_one, hmk]; rfl)
      clear hq hmk
      by_cases hin : m.1 ∈ (x.1.ins.take k).map (·.1)
      · have HIN := Lib.hid hin
        have hfl : insB x.1.ins = false := insB_false (k := k + 1) (by rw [HK.out, insB_snoc, decide_eq_true hin]; simp)
        clear hin
        go_wp2_with (first | (with_reducible refine wpList_loadL HQ.out.all rfl _ rfl rfl ?_) | (refine wpList_new rfl rfl rfl 55 5 34 rfl rfl rfl (by decide) (mC zM) (mC m) mC_zero (by rw [mC_size, mC_size]) (mC_info m) (mC_one m) rfl (by simp [Act.put]) ?_; intro g5 w5 hb5 hx5 hg5; have HG5 := Lib.hid (MdG.of_blk hb5); have HM5 := Lib.hid (HM.out.keep (hx5.block _ HM.out.lt)); have HW5 := Lib.hid (Agg.belowThen HW.out (Nat.le_refl _) hx5); clear hb5 hx5 hg5) | (with_reducible refine wpList_loadL HG5.out.cls rfl _ rfl rfl ?_) | (at_lookup; refine Mp.wpList_lookup0 rfl _ _ 63 30 3 rfl Try.underlying63 hash_key zeroI rfl HM5.out m.1 rfl _ (seen_hit HIN.out) ?_))
        go_ret
        exact ⟨ret_bool (by rw [HR.out]; exact hfl.symm), HW5.out⟩
      · have HIN := Lib.hid hin
        clear hin
        go_wp2_with (first | (with_reducible refine wpList_loadL HQ.out.all rfl _ rfl rfl ?_) | (refine wpList_new rfl rfl rfl 55 5 34 rfl rfl rfl (by decide) (mC zM) (mC m) mC_zero (by rw [mC_size, mC_size]) (mC_info m) (mC_one m) rfl (by simp [Act.put]) ?_; intro g5 w5 hb5 hx5 hg5; have HG5 := Lib.hid (MdG.of_blk hb5); have HM5 := Lib.hid (HM.out.keep (hx5.block _ HM.out.lt)); have HW5 := Lib.hid (Agg.belowThen HW.out (Nat.le_refl _) hx5); clear hb5 hx5 hg5) | (with_reducible refine wpList_loadL HG5.out.cls rfl _ rfl rfl ?_) | (at_lookup; refine Mp.wpList_lookup0 rfl _ _ 63 30 3 rfl Try.underlying63 hash_key zeroI rfl HM5.out m.1 rfl _ (seen_miss HIN.out) ?_) | (with_reducible refine wpList_loadL HG5.out.pname rfl _ rfl rfl ?_))
        refine (name_any m.2.1.2 _).mono ?_
        rintro e w6 ⟨rfl, hx6⟩
        have HM6 := Lib.hid (HM5.out.keep (hx6.block _ HM5.out.lt))
        have HW6 := Lib.hid (Agg.belowThen HW5.out (Nat.le_refl _) hx6)
        have HG6 := Lib.hid (HG5.out.below hx6)
        clear hx6
        cases hnm : isName m.2.1.2 with
        | false =>
          have hfl : insB x.1.ins = false := insB_false (k := k + 1) (by rw [HK.out, insB_snoc, hnm]; simp)
          go_wp2_with fail
          go_ret
          exact ⟨ret_bool (by rw [HR.out]; exact hfl.symm), HW6.out⟩
        | true =>
          have HNN := Lib.hid hnm
          clear hnm
          go_wp2_with (first | (with_reducible refine wpList_loadL HG6.out.cls rfl _ rfl rfl ?_) | (refine Mp.wpList_mapUpdate rfl rfl _ _ _ 63 30 3 rfl Try.underlying63 hash_key rfl HM6.out m.1 rfl (1 : Int) rfl ?_; intro w7 hm7 hb7; have HM7 := Lib.hid hm7; have HW7 := Lib.hid (hb7.below HW6.out HG.out); clear hm7 hb7))
          go_roundw
          case rel =>
            refine ⟨k + 1, by omega, by go_num, ?_, by rw [HK.out, insB_snoc, HI.out, HNN.out, decide_eq_false HIN.out]; rfl, HW7.out⟩
            have := HM7.out
            rw [mput_new' _ _ _ (mget_none _ _ (by rw [seenM_keys]; exact HIN.out))] at this
            rw [HK.out]
            simpa [seenM] using this
          case measure => simp [intOf]; omega
    · obtain rfl : k = x.1.ins.length := by omega
      rw [List.take_length] at HI
      go_wp2_with fail
      go_ret
      exact ⟨ret_bool (by rw [HR.out]; exact HI.out.symm), HW.out⟩
end Go.Proofs.Ytniibcgomnjfgaa
