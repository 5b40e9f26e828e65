/- Steps of a walk that keep the world abstract, over any program: loads that stay, new blocks, stores into them. (Several texts in one.) -/
import Derived.Test.YtgekpghjlhcpkaaCAA
import GoSem.Instr.MapUpdate
import Derived.Stop.BytesEq
import Derived.Great.FillDense
import Derived.StillTailTactics
/-! Maps that a call makes, over any program and any key: what a map's block holds, its look-up and its store. -/
namespace Go.Mp
open Go.RowKit Go.Instr
section
variable {P : Program} {α β : Type} [DecidableEq α]
/-- a map's block holds these keys and values, in the order in which they came -/
def MapIs (w : World) (b : Nat) (κ : α → Value) (ν : β → Value) (m : List (α × β)) : Prop :=
  ∃ es clock, w.heap[b]? = some (.map es clock) ∧ es.toList.map (fun e => (e.key, e.val)) = m.map (fun p => (κ p.1, ν p.2))
/-- what a key's type must be -/
structure KeyEq (P : Program) (K : TypeId) (κ : α → Value) : Prop where
  check : ∀ empty a w, (checkKey empty 10000 K (κ a)).run P w = .ok () w
  desc : ∃ d, P.underlying K = some d ∧ ((∀ a b, sameNow d (κ a) (κ b) = some (decide (a = b))) ∨ ((∀ a b, sameNow d (κ a) (κ b) = none) ∧ ∀ a b w, (Op.equal K (κ a) (κ b)).run P w = .ok (decide (a = b)) w))
  bits : ∀ a, sameBits 10000 (κ a) (κ a) = true
def mget (m : List (α × β)) (a : α) : Option β := (m.find? (fun p => decide (a = p.1))).map (·.2)
def mput (m : List (α × β)) (a : α) (v : β) : List (α × β) := match m with
  | [] => [(a, v)]
  | p :: r => if a = p.1 then (a, v) :: r else p :: mput r a v
theorem mget_mput (m : List (α × β)) (a c : α) (v : β) : mget (mput m a v) c = if c = a then some v else mget m c := by
  induction m with
  | nil => by_cases h : c = a <;> simp [mput, mget, h]
  | cons p r ih =>
    unfold mput
    by_cases h : a = p.1
    · rw [if_pos h]
      by_cases h2 : c = a
      · simp [mget, h2]
      · have : ¬ c = p.1 := fun e => h2 (e.trans h.symm)
        simp [mget, h2, this]
    · rw [if_neg h]
      by_cases h2 : c = p.1
      · have h3 : ¬ c = a := fun e => h (e.symm.trans h2)
        have h4 : ¬ p.1 = a := fun e => h e.symm
        simp [mget, h2, h4]
      · simp only [mget, List.find?_cons, h2, decide_false] at ih ⊢
        exact ih
def pairs (es : List MapEntry) : List (Value × Value) := es.map (fun e => (e.key, e.val))
/-- the place of a key among entries -/
def place (m : List (α × β)) (a : α) (i : Nat) : Option (Nat × β) := match m with
  | [] => none
  | p :: r => if a = p.1 then some (i, p.2) else place r a (i + 1)
theorem findNow_eq {d : TypeDesc} {κ : α → Value} {ν : β → Value} (h : ∀ a b, sameNow d (κ a) (κ b) = some (decide (a = b))) (a : α) :
    ∀ (m : List (α × β)) (es : List MapEntry) (i : Nat), es.map (fun e => (e.key, e.val)) = m.map (fun p => (κ p.1, ν p.2)) →
      findNow d (κ a) es i = some ((place m a i).map fun x => (x.1, ν x.2))
  | [], [], i, _ => rfl
  | [], e :: es, i, he => by simp at he
  | p :: m, [], i, he => by simp at he
  | p :: m, e :: es, i, he => by
    simp only [List.map_cons, List.cons.injEq, Prod.mk.injEq] at he
    obtain ⟨⟨hk, hv⟩, hr⟩ := he
    unfold findNow place
    rw [hk, h a p.1]
    by_cases e' : a = p.1
    · simp [e', hv]
    · simp only [e', decide_false, if_false]
      exact findNow_eq h a m es (i + 1) hr
theorem findAsking_eq {K : TypeId} {κ : α → Value} {ν : β → Value} (h : ∀ a b w, (Op.equal K (κ a) (κ b)).run P w = .ok (decide (a = b)) w) (a : α) :
    ∀ (m : List (α × β)) (es : List MapEntry) (i : Nat) (w : World), es.map (fun e => (e.key, e.val)) = m.map (fun p => (κ p.1, ν p.2)) →
      (findAsking K (κ a) es i).run P w = .ok ((place m a i).map fun x => (x.1, ν x.2)) w
  | [], [], i, w, _ => rfl
  | [], e :: es, i, w, he => by simp at he
  | p :: m, [], i, w, he => by simp at he
  | p :: m, e :: es, i, w, he => by
    simp only [List.map_cons, List.cons.injEq, Prod.mk.injEq] at he
    obtain ⟨⟨hk, hv⟩, hr⟩ := he
    unfold findAsking place
    rw [Sem.run_bind, hk, h a p.1 w]
    by_cases e' : a = p.1
    · simp [e', hv, Result.andThen, Sem.run_pure]
    · simp only [e', decide_false, if_false, Result.andThen, Bool.false_eq_true]
      exact findAsking_eq h a m es (i + 1) w hr
theorem findKey_eq {K : TypeId} {κ : α → Value} {ν : β → Value} (hK : KeyEq P K κ) (a : α) (m : List (α × β)) (es : List MapEntry) (w : World) (he : es.map (fun e => (e.key, e.val)) = m.map (fun p => (κ p.1, ν p.2))) :
    (findKey K (κ a) es).run P w = .ok ((place m a 0).map fun x => (x.1, ν x.2)) w := by
  obtain ⟨d, hd, h⟩ := hK.desc
  unfold findKey
  rw [Sem.run_bind, run_underlying hd w]
  simp only [Result.andThen]
  rcases h with h | ⟨h1, h2⟩
  · rw [findNow_eq h a m es 0 he]
    rfl
  · cases hn : findNow d (κ a) es 0 with
    | none => exact findAsking_eq h2 a m es 0 w he
    | some r =>
      -- only where there is no entry
      cases es with
      | nil => cases m with
        | nil => simp [findNow] at hn; subst hn; rfl
        | cons p m => simp at he
      | cons e es => cases m with
        | nil => simp at he
        | cons p m =>
          simp only [List.map_cons, List.cons.injEq, Prod.mk.injEq] at he
          simp [findNow, he.1.1, h1 a p.1] at hn
theorem place_get (m : List (α × β)) (a : α) (i : Nat) : (place m a i).map (·.2) = mget m a := by
  induction m generalizing i with
  | nil => rfl
  | cons p r ih =>
    unfold place
    by_cases e : a = p.1
    · simp [mget, e]
    · rw [if_neg e, ih]; simp [mget, e]
/-- the world with another map in block b -/
def setMap (w : World) (b : Nat) (es : Array MapEntry) (c : Nat) : World := { w with heap := w.heap.setIfInBounds b (.map es c) }
theorem setMap_same {w : World} {b : Nat} {es : Array MapEntry} {c : Nat} (h : b < w.heap.size) : (setMap w b es c).heap[b]? = some (.map es c) := by simp [setMap, h]
theorem setMap_other {w : World} {b k : Nat} {es : Array MapEntry} {c : Nat} (h : k ≠ b) : (setMap w b es c).heap[k]? = w.heap[k]? := by simp [setMap, Ne.symm h]
theorem setMap_size {w : World} {b : Nat} {es : Array MapEntry} {c : Nat} : (setMap w b es c).heap.size = w.heap.size := by simp [setMap]
theorem below_setMap {B b : Nat} {a w : World} {es : Array MapEntry} {c : Nat} (h : Below B a w) (hb : B ≤ b) : Below B a (setMap w b es c) :=
  h.trans ⟨rfl, rfl, rfl, by rw [setMap_size]; exact Nat.le_refl _, fun k hk => setMap_other (by omega)⟩
/-- w' is w but for block b -/
def ButMap (b : Nat) (w w' : World) : Prop := ∃ es c, w' = setMap w b es c
theorem ButMap.other {b k : Nat} {w w' : World} (h : ButMap b w w') (hk : k ≠ b) : w'.heap[k]? = w.heap[k]? := by obtain ⟨es, c, rfl⟩ := h; exact setMap_other hk
theorem ButMap.size {b : Nat} {w w' : World} (h : ButMap b w w') : w'.heap.size = w.heap.size := by obtain ⟨es, c, rfl⟩ := h; exact setMap_size
theorem ButMap.below {B b : Nat} {a w w' : World} (h : ButMap b w w') (hw : Below B a w) (hb : B ≤ b) : Below B a w' := by obtain ⟨es, c, rfl⟩ := h; exact below_setMap hw hb
omit [DecidableEq α] in
theorem MapIs.empty (w : World) (κ : α → Value) (ν : β → Value) : MapIs (w.alloc (.map #[] 0)) w.heap.size κ ν [] := ⟨#[], 0, heap_alloc_new _ _, rfl⟩
omit [DecidableEq α] in
theorem MapIs.keep {w w' : World} {b : Nat} {κ : α → Value} {ν : β → Value} {m : List (α × β)} (h : MapIs w b κ ν m) (hk : w'.heap[b]? = w.heap[b]?) : MapIs w' b κ ν m := by
  obtain ⟨es, c, hb, he⟩ := h
  exact ⟨es, c, hk.trans hb, he⟩
omit [DecidableEq α] in
theorem MapIs.lt {w : World} {b : Nat} {κ : α → Value} {ν : β → Value} {m : List (α × β)} (h : MapIs w b κ ν m) : b < w.heap.size := by
  obtain ⟨es, c, hb, _⟩ := h; exact Agg.heap_lt hb
/-- 'v, ok := m[k]' -/
theorem run_lookup_ok {t K E : TypeId} {w : World} {b : Nat} {κ : α → Value} {ν : β → Value} {m : List (α × β)} {z : Value} (ht : P.underlying t = some (.map K E)) (hK : KeyEq P K κ) (hz : ∀ w, (zeroValue E).run P w = .ok z w)
    (h : MapIs w b κ ν m) (a : α) :
    (lookup t (.map (some b)) (κ a) true).run P w = .ok (.tuple #[(match mget m a with | some v => ν v | none => z), .bool (mget m a).isSome]) w := by
  obtain ⟨es, c, hb, he⟩ := h
  unfold lookup
  rw [Sem.run_bind, run_underlying ht w]
  simp only [Result.andThen, Sem.run_bind, getObj, Sem.run, hb, Sem.run_pure, hK.check, findKey_eq hK a m es.toList w he]
  have hg := place_get m a 0
  cases hp : place m a 0 with
  | none =>
    rw [hp] at hg
    simp [← hg, hz, Result.andThen]
  | some x =>
    rw [hp] at hg
    simp [← hg]
theorem place_mput (m : List (α × β)) (a : α) (v : β) (κ : α → Value) (ν : β → Value) : ∀ (es : List MapEntry) (i : Nat), es.map (fun e => (e.key, e.val)) = m.map (fun p => (κ p.1, ν p.2)) →
    (∀ j x, place m a i = some (j, x) → i ≤ j ∧ ∃ e, es[j - i]? = some e ∧ e.key = κ a ∧ (es.modify (j - i) (fun e => { e with key := κ a, val := ν v })).map (fun e => (e.key, e.val)) = (mput m a v).map (fun p => (κ p.1, ν p.2))) ∧
    (place m a i = none → (mput m a v) = m ++ [(a, v)]) := by
  induction m with
  | nil => intro es i he; exact ⟨fun j x h => by simp [place] at h, fun _ => rfl⟩
  | cons p r ih =>
    intro es i he
    cases es with
    | nil => simp at he
    | cons e es =>
      simp only [List.map_cons, List.cons.injEq, Prod.mk.injEq] at he
      obtain ⟨⟨hk, hv⟩, hr⟩ := he
      obtain ⟨h1, h2⟩ := ih es (i + 1) hr
      unfold place mput
      by_cases e' : a = p.1
      · simp only [e', if_true]
        refine ⟨fun j x h => ?_, fun h => by simp at h⟩
        simp only [Option.some.injEq, Prod.mk.injEq] at h
        obtain ⟨rfl, rfl⟩ := h
        exact ⟨Nat.le_refl _, e, by simp, by rw [hk], by simp [hr]⟩
      · simp only [e', if_false]
        refine ⟨fun j x h => ?_, fun h => by rw [h2 h]; rfl⟩
        obtain ⟨hle, e2, h3, h4, h5⟩ := h1 j x h
        refine ⟨by omega, e2, ?_, h4, ?_⟩
        · rw [show j - i = (j - (i + 1)) + 1 by omega]; exact h3
        · rw [show j - i = (j - (i + 1)) + 1 by omega]; simp [hk, hv, h5]
/-- 'm[k] = v' -/
theorem run_mapUpdate {t K E : TypeId} {w : World} {b : Nat} {κ : α → Value} {ν : β → Value} {m : List (α × β)} (ht : P.underlying t = some (.map K E)) (hK : KeyEq P K κ)
    (h : MapIs w b κ ν m) (a : α) (v : β) :
    ∃ w', (mapUpdate t (.map (some b)) (κ a) (ν v)).run P w = .ok () w' ∧ MapIs w' b κ ν (mput m a v) ∧ ButMap b w w' := by
  obtain ⟨es, c, hb, he⟩ := h
  have hlt := Agg.heap_lt hb
  obtain ⟨h1, h2⟩ := place_mput m a v κ ν es.toList 0 he
  cases hp : place m a 0 with
  | none =>
    refine ⟨setMap w b (es.push { key := κ a, val := ν v, born := c }) (c + 1), ?_, ⟨_, _, setMap_same hlt, ?_⟩, _, _, rfl⟩
    · unfold mapUpdate
      rw [Sem.run_bind, run_underlying ht w]
      simp only [Result.andThen, Sem.run_bind, getObj, Sem.run, hb, hK.check, findKey_eq hK a m es.toList w he, hp]
      simp [setObj, Sem.run, hb, setMap]
    · rw [h2 hp]; simp [he]
  | some x =>
    obtain ⟨_, e, h3, h4, h5⟩ := h1 x.1 x.2 hp
    simp only [Nat.sub_zero] at h3 h5
    refine ⟨setMap w b (es.modify x.1 fun e => { e with key := κ a, val := ν v }) c, ?_, ⟨_, _, setMap_same hlt, ?_⟩, _, _, rfl⟩
    · unfold mapUpdate
      rw [Sem.run_bind, run_underlying ht w]
      simp only [Result.andThen, Sem.run_bind, getObj, Sem.run, hb, hK.check, findKey_eq hK a m es.toList w he, hp]
      have h3' : es[x.1]? = some e := by simpa using h3
      simp [setObj, Sem.run, hb, setMap, h3', h4, keyThatStays, hK.bits]
    · rw [Array.toList_modify]; exact h5
/-! At a list of operations. -/
variable {ops : Array Oper} {rest : List Oper} {o : Oper} {a : Act} {w : World} {Q : Exit → Act → World → Prop}
theorem wpList_lookup_ok (hg : o.guard = none) (mo xo : Operand) (t K E : TypeId) (hop : o.op = Op.lookup t mo xo true) (ht : P.underlying t = some (.map K E)) {κ : α → Value} {ν : β → Value} {z : Value}
    (hK : KeyEq P K κ) (hz : ∀ w, (zeroValue E).run P w = .ok z w) {b : Nat} {m : List (α × β)} (hm : a.eval mo = .map (some b)) (h : MapIs w b κ ν m) (x : α) (hx : a.eval xo = κ x)
    (hk : wpList P ops Q rest (a.put o.dst (.tuple #[(match mget m x with | some v => ν v | none => z), .bool (mget m x).isSome])) w) : wpList P ops Q (o :: rest) a w := by
  refine wpList_plain hg fun K' hK' => ?_
  unfold Oper.wp
  simp [execOp, hop, hm, hx, run_lookup_ok ht hK hz h x, Result.andThen]
  exact hK' _ _ hk
theorem wpList_lookup_hit (hg : o.guard = none) (mo xo : Operand) (t K E : TypeId) (hop : o.op = Op.lookup t mo xo true) (ht : P.underlying t = some (.map K E)) {κ : α → Value} {ν : β → Value} {z : Value}
    (hK : KeyEq P K κ) (hz : ∀ w, (zeroValue E).run P w = .ok z w) {b : Nat} {m : List (α × β)} (hm : a.eval mo = .map (some b)) (h : MapIs w b κ ν m) (x : α) (hx : a.eval xo = κ x) (v : β) (hv : mget m x = some v)
    (hk : wpList P ops Q rest (a.put o.dst (.tuple #[ν v, .bool true])) w) : wpList P ops Q (o :: rest) a w :=
  wpList_lookup_ok hg mo xo t K E hop ht hK hz hm h x hx (by rw [hv]; exact hk)
theorem wpList_lookup_miss (hg : o.guard = none) (mo xo : Operand) (t K E : TypeId) (hop : o.op = Op.lookup t mo xo true) (ht : P.underlying t = some (.map K E)) {κ : α → Value} {ν : β → Value} {z : Value}
    (hK : KeyEq P K κ) (hz : ∀ w, (zeroValue E).run P w = .ok z w) {b : Nat} {m : List (α × β)} (hm : a.eval mo = .map (some b)) (h : MapIs w b κ ν m) (x : α) (hx : a.eval xo = κ x) (hv : mget m x = none)
    (hk : wpList P ops Q rest (a.put o.dst (.tuple #[z, .bool false])) w) : wpList P ops Q (o :: rest) a w :=
  wpList_lookup_ok hg mo xo t K E hop ht hK hz hm h x hx (by rw [hv]; exact hk)
theorem wpList_mapUpdate (hg : o.guard = none) (hd : o.dst = none) (mo xo vo : Operand) (t K E : TypeId) (hop : o.op = Op.mapUpdate t mo xo vo) (ht : P.underlying t = some (.map K E)) {κ : α → Value} {ν : β → Value}
    (hK : KeyEq P K κ) {b : Nat} {m : List (α × β)} (hm : a.eval mo = .map (some b)) (h : MapIs w b κ ν m) (x : α) (hx : a.eval xo = κ x) (v : β) (hv : a.eval vo = ν v)
    (hk : ∀ w', MapIs w' b κ ν (mput m x v) → ButMap b w w' → wpList P ops Q rest a w') : wpList P ops Q (o :: rest) a w := by
  refine wpList_plain hg fun K' hK' => ?_
  obtain ⟨w', hr, h1, h2⟩ := run_mapUpdate ht hK h x v
  unfold Oper.wp
  simp [execOp, hop, hm, hx, hv, hr, Result.andThen]
  rw [Oper.upon_skip, hd]
  exact hK' _ _ (hk w' h1 h2)
/-- integer keys -/
theorem int_key {K : TypeId} {k : IntKind} (h : P.underlying K = some (.int k)) : KeyEq P K (fun n : Int => .int k n) where
  check := fun empty a w => by
    unfold checkKey
    rw [Sem.run_bind, run_underlying h w]
    simp [Result.andThen]
  desc := ⟨_, h, .inl fun a b => by simp [sameNow]; rw [Bool.eq_iff_iff]; simp⟩
  bits := fun a => by simp [sameBits]
end
end Go.Mp
/-! (of general use) base.values and base.Hash: the hash of letters. -/
namespace Go.Proofs.Ytgekpghjlhcpkaa
open Go.RowKit Pl Go.Mp
/-- a range over a text in block b, in whatever world -/
theorem nextAt_low (w : World) (b : Nat) (s : List UInt8) (k : Nat) (ty : TypeId) (hb : w.heap[b]? = some (.stringIter ⟨s.toArray⟩ k)) (hk : k < s.length) (ha : s[k].toNat < 128) :
    (Instr.next (.pointer (some ⟨b, 0, none⟩)) true ty).run Try.prog w = .ok (.tuple #[.bool true, .int .i64 (k : Int), .int .i32 (s[k].toNat : Int)]) (w.iterAt b ⟨s.toArray⟩ (k + 1)) := by
  have hs : k < (⟨s.toArray⟩ : ByteArray).size := by rw [Agg.bytes_size]; exact hk
  have he : (⟨s.toArray⟩ : ByteArray)[k]'hs = s[k] := by simp [ByteArray.getElem_eq_getElem_data]
  have := Lib.run_next_ascii_at (P := Try.prog) w b ⟨s.toArray⟩ k ty hb hs (by rw [he]; exact ha)
  rw [he] at this
  exact this
theorem nextAt_high (w : World) (b : Nat) (s : List UInt8) (k : Nat) (ty : TypeId) (hb : w.heap[b]? = some (.stringIter ⟨s.toArray⟩ k)) (hk : k < s.length) (ha : 128 ≤ s[k].toNat) :
    ∃ (r : Int) (k' : Nat), 128 ≤ r ∧ r ≤ 2147483647 ∧ k < k' ∧ (Instr.next (.pointer (some ⟨b, 0, none⟩)) true ty).run Try.prog w = .ok (.tuple #[.bool true, .int .i64 (k : Int), .int .i32 r]) (w.iterAt b ⟨s.toArray⟩ k') := by
  have hs : k < (⟨s.toArray⟩ : ByteArray).size := by rw [Agg.bytes_size]; exact hk
  have he : (⟨s.toArray⟩ : ByteArray)[k]'hs = s[k] := by simp [ByteArray.getElem_eq_getElem_data]
  obtain ⟨h1, h2⟩ := decode_high ⟨s.toArray⟩ k hs (by rw [he]; exact ha)
  have h3 := decode_le ⟨s.toArray⟩ k
  exact ⟨_, _, by omega, by omega, by omega, Lib.run_next_any_at (P := Try.prog) w b ⟨s.toArray⟩ k ty hb hs⟩
theorem nextAt_end (w : World) (b : Nat) (s : List UInt8) (ty : TypeId) (hb : w.heap[b]? = some (.stringIter ⟨s.toArray⟩ s.length)) :
    (Instr.next (.pointer (some ⟨b, 0, none⟩)) true ty).run Try.prog w = .ok (.tuple #[.bool false]) w :=
  Lib.run_next_end_at (P := Try.prog) w b ⟨s.toArray⟩ s.length ty hb (by rw [Agg.bytes_size]; omega)
/-- runes, numbers as values -/
def rK (n : Int) : Value := .int .i32 n
def nV (n : Nat) : Value := .int .u32 (n : Int)
def vals (k : Nat) : List (Int × Nat) := (List.range k).map fun i => (((letter i).toNat : Int), i)
theorem vals_step : ∀ k, k < 32 → mput (vals k) ((letter k).toNat : Int) k = vals (k + 1) := by decide +kernel
theorem vals_get : ∀ n : Nat, n < 256 → mget (vals 32) (n : Int) = val (UInt8.ofNat n) := by decide +kernel
theorem vals_high (r : Int) (h : 128 ≤ r) : mget (vals 32) r = none := by
  have hk : ∀ p ∈ vals 32, p.1 < 128 := by decide +kernel
  simp only [mget, Option.map_eq_none_iff, List.find?_eq_none, decide_eq_true_eq]
  intro p hp e
  have := hk p hp
  omega
theorem keyR : KeyEq Try.prog 21 rK := int_key Try.underlying21
/-- twenty noughts -/
def z20 : List UInt8 := List.replicate 20 0
theorem z20_zero : (Try.prog.info? 45).map (·.zero) = some (some (.agg (hC z20))) := by kernel_rfl
theorem z20_length : z20.length = 20 := rfl
theorem hC_info (h : List UInt8) (hl : h.length = 20) : (Try.prog.info? 45).map (·.size) = some (hC h).size := by rw [hC_size, hl]; kernel_rfl
theorem hC_one (h : List UInt8) : (hC h).all (·.oneCell') = true := by simp [hC, Lib.byteCells, Value.oneCell']
/-- what base.Hash answers -/
def hashH (s : List UInt8) : List UInt8 := (Pl.hash s).getD z20
def hashE (s : List UInt8) : Int := if (Pl.hash s).isSome then 0 else 4
theorem val_low {c : UInt8} {n : Nat} (h : val c = some n) : c.toNat < 128 := by
  have h1 : ∀ n, n < 32 → (letter n).toNat < 128 := by decide
  have := h1 n (val_lt h)
  rwa [letter_val h] at this
theorem mapM_take {s : List UInt8} (k : Nat) (hk : k < s.length) {l : List Nat} {n : Nat} (hl : (s.take k).mapM val = some l) (hn : val s[k] = some n) : (s.take (k + 1)).mapM val = some (l ++ [n]) := by
  rw [List.take_succ_eq_append_getElem hk, List.mapM_append, hl]
  simp [hn]
theorem mapM_none {s : List UInt8} (k : Nat) (hk : k < s.length) (hn : val s[k] = none) : s.mapM val = none := by
  have : s = s.take k ++ s[k] :: s.drop (k + 1) := by simp
  rw [this, List.mapM_append, List.mapM_cons]
  simp [hn]
theorem zero99 (w : World) : (zeroValue 137).run Try.prog w = .ok (.int .u32 0) w := by kernel_rfl
theorem hC_get (h : List UInt8) (i : Nat) (hi : i < h.length) : (hC h)[i]? = some (.int .u8 (h[i].toNat : Int)) := by simp [hC, Lib.byteCells, hi]
theorem hC_set (h : List UInt8) (i : Nat) (c : UInt8) : (hC h).setIfInBounds i (.int .u8 (c.toNat : Int)) = hC (h.set i c) := by
  apply Array.ext'
  simp [hC, Lib.byteCells, List.map_set]
theorem build_zero (w : World) : (Instr.build 45 #[]).run Try.prog w = .ok (.agg (hC z20)) w := by kernel_rfl
theorem or_disjoint8 (a x m : Nat) (ha : a < 2 ^ m) (hx : x < 32) (hm : m < 8) : bits .or .u32 (a : Int) ((x : Int) * 2 ^ m % 4294967296) = ((a + 2 ^ m * x : Nat) : Int) := by
  have h5 : 2 ^ m ≤ 2 ^ 7 := Nat.pow_le_pow_right (by omega) (by omega)
  have hp : 2 ^ m * x ≤ 2 ^ 7 * 31 := Nat.mul_le_mul h5 (by omega)
  have e : ((x : Int) * 2 ^ m % 4294967296) = ((2 ^ m * x : Nat) : Int) := by
    have : (x : Int) * 2 ^ m = ((2 ^ m * x : Nat) : Int) := by push_cast; exact Int.mul_comm _ _
    rw [this, Int.emod_eq_of_lt (by omega) (by omega)]
  rw [e, u32_or_nat _ _ (by omega) (by omega), Nat.or_comm, ← Nat.two_pow_add_eq_or_of_lt ha, Nat.add_comm]
/-- what lies behind k letters -/
def HashIs (B M I : Nat) (s : List UInt8) (k : Nat) (l : List Nat) (w0 wr : World) : Prop :=
  k ≤ 32 ∧ (s.take k).mapM val = some l ∧ wr.heap[I]? = some (.stringIter ⟨s.toArray⟩ k) ∧ MapIs wr M rK nV (vals 32) ∧ wr.heap[B]? = some (.cells (hC (hashTo (lnum l) k)) 45 (0, 0)) ∧ Below B w0 wr
end Go.Proofs.Ytgekpghjlhcpkaa
/-! (of general use) Path: a path's text (base and spenceref03). -/
namespace Go.Proofs.Ytgekpghjlhcpkaa
open Go.RowKit Pl Go.Mp Go.Agg
/-- a path's cells -/
def pC (h n : List UInt8) : Array Value := hC h ++ #[.string ⟨n.toArray⟩]
theorem pC_size (h n : List UInt8) : (pC h n).size = h.length + 1 := by simp [pC, hC_size]
theorem pC_name (h n : List UInt8) (hl : h.length = 20) : (pC h n)[20]? = some (.string ⟨n.toArray⟩) := by
  rw [pC, Array.getElem?_append, if_neg (by rw [hC_size]; omega), hC_size, hl]; rfl
theorem pC_hash (h n : List UInt8) (j : Nat) (v : Value) (hv : (hC h)[j]? = some v) : (pC h n)[0 + j]? = some v := by
  have hlt : j < (hC h).size := (Array.getElem?_eq_some_iff.1 hv).1
  rw [Nat.zero_add, pC, Array.getElem?_append, if_pos hlt]; exact hv
theorem isName_le {n : List UInt8} (h : isName n = true) : n.length ≤ 24 := by
  simp only [isName, Bool.and_eq_true, decide_eq_true_eq] at h
  exact h.1.2
/-- a path's text, or none; the error -/
def pathS (h n : List UInt8) : List UInt8 := if isName n then letters h ++ 45 :: n else []
def pathE (n : List UInt8) : Int := if isName n then 0 else 2
theorem ret_pair {a b : ByteArray} {k : IntKind} {x y : Int} (h : a = b) (h2 : x = y) : Ending.returned (.tuple #[.string a, .int k x]) = .returned (.tuple #[.string b, .int k y]) := by rw [h, h2]
theorem text_eq (h n : List UInt8) (hn : isName n = true) : ({ data := (letters h).toArray } : ByteArray) ++ { data := #[45] } ++ { data := n.toArray } = ⟨(pathS h n).toArray⟩ := by
  have : ({ data := #[45] } : ByteArray) = ⟨[45].toArray⟩ := rfl
  rw [this, Agg.bytes_append, Agg.bytes_append, pathS, if_pos hn]
  simp
end Go.Proofs.Ytgekpghjlhcpkaa
/-! (of general use) Parse: a text's path (base and spenceref03). -/
namespace Go.Agg
open Go.RowKit
section
variable {P : Program} {ops : Array Oper} {rest : List Oper} {o : Oper} {a : Act} {w : World} {Q : Exit → Act → World → Prop}
/-- a value of several cells stored into the midst of a block -/
theorem wpList_set_sub (hg : o.guard = none) (hd : o.dst = none) (ty : TypeId) (x y : Operand) (ho : o.op = .store ty x y) (g off : Nat) (cells new : Array Value) (hx : a.eval x = .pointer (some ⟨g, off, none⟩)) (hy : a.eval y = .agg cells)
    (t : TypeId) (old : Array Value) (hb : w.heap[g]? = some (.cells old t (0, 0))) (hi : (P.info? ty).map (·.size) = some cells.size) (hle : off + cells.size ≤ old.size) (h1 : cells.all (·.oneCell') = true)
    (hnew : (old.toList.take off ++ cells.toList ++ old.toList.drop (off + cells.size)).toArray = new)
    (h : wpList P ops Q rest a (w.setRow g new)) : wpList P ops Q (o :: rest) a w := by
  refine wpList_skp hg hd ?_ h
  have hr := run_storeCells_at (P := P) g off t cells.toList 0 old w hb (by simp; omega) (fun v hv => (Array.all_eq_true_iff_forall_mem.1 h1) v (by simpa using hv))
  simp only [Nat.add_zero, Array.length_toList] at hr
  rw [hnew] at hr
  cases hq : P.info? ty with
  | none => simp [hq] at hi
  | some i =>
    have hs : cells.size = i.size := by simp [hq] at hi; omega
    simp [execOp, ho, hx, hy, Instr.storeAt, Instr.sureAddr, storeVar, sizeOf, typeInfo, hq, Value.cells, hs, hr]
end
end Go.Agg
namespace Go.Proofs.Ytgekpghjlhcpkaa
open Go.RowKit Pl Go.Mp Go.Agg
def parseH (s : List UInt8) : List UInt8 := ((parse s).map (·.1)).getD z20
def parseN (s : List UInt8) : List UInt8 := ((parse s).map (·.2)).getD []
def parseE (s : List UInt8) : Int := if (parse s).isSome then 0 else 4
theorem pC_zero : (Try.prog.info? 47).map (·.zero) = some (some (.agg (pC z20 []))) := by kernel_rfl
theorem pC_info (h n : List UInt8) (hl : h.length = 20) : (Try.prog.info? 47).map (·.size) = some (pC h n).size := by rw [pC_size, hl]; kernel_rfl
theorem pC_one (h n : List UInt8) : (pC h n).all (·.oneCell') = true := by simp [pC, hC, Lib.byteCells, Value.oneCell']
theorem pC_under : Try.prog.underlying 47 = some (.struct (Try.prog.fieldsOf 47)) := by kernel_rfl
theorem sixteen (s : List UInt8) (hs : s.length < 4294967281) : (⟨s.toArray⟩ : ByteArray).size < 4294967281 := by rw [Agg.bytes_size]; exact hs
theorem pC_setHash (h h' n : List UInt8) (hl : h.length = 20) (hl' : h'.length = 20) : ((pC h n).toList.take 0 ++ (hC h').toList ++ (pC h n).toList.drop (0 + (hC h').size)).toArray = pC h' n := by
  apply Array.ext'
  simp [pC, hC, Lib.byteCells, hl, hl']
theorem pC_setName (h n n' : List UInt8) (hl : h.length = 20) : (pC h n).setIfInBounds 20 (.string ⟨n'.toArray⟩) = pC h n' := by
  apply Array.ext'
  simp [pC, hC, Lib.byteCells, hl]
theorem hashH_length (s : List UInt8) : (hashH s).length = 20 := by
  unfold hashH
  cases h : Pl.hash s with
  | none => rfl
  | some x => exact hash_length h
theorem cut_le (c : UInt8) (s : List UInt8) : (cut1 c s).2.1.length ≤ s.length := by
  induction s with
  | nil => simp [cut1]
  | cons b l ih => unfold cut1; split <;> simp <;> omega
end Go.Proofs.Ytgekpghjlhcpkaa
/-! '==' of hashes and of paths. -/
namespace Go.Proofs.Ytgekpghjlhcpkaa
open Go.RowKit Pl Go.Agg
set_option maxRecDepth 100000 in
theorem eqlIn_hash (d : Nat) (h h' : List UInt8) (hl : h.length = 20) (hl' : h'.length = 20) (w : World) : (Op.equalIn (d + 2) 45 (.agg (hC h)) (.agg (hC h'))).run Try.prog w = .ok (h == h') w :=
  run_equalIn_bytes w d 45 5 20 Try.underlying45 rfl (fun w => by kernel_rfl) h h' hl hl'
theorem eql_hash (h h' : List UInt8) (hl : h.length = 20) (hl' : h'.length = 20) (w : World) : (binOp .eql 45 (.agg (hC h)) (.agg (hC h'))).run Try.prog w = .ok (.bool (h == h')) w := by
  rw [run_eql_struct, eqlIn_hash 9998 h h' hl hl' w]; rfl
theorem path_fields : (Try.prog.fieldsOf 47).toList.map (fun f => (f.name, f.type, f.offset)) = [("Hash", 45, 0), ("Name", 9, 20)] := by kernel_rfl
theorem isAgg_hash (w : World) : (isAgg 45).run Try.prog w = .ok true w := by kernel_rfl
theorem isAgg_name (w : World) : (isAgg 9).run Try.prog w = .ok false w := by kernel_rfl
theorem size_hash (w : World) : (sizeOf 45).run Try.prog w = .ok 20 w := by kernel_rfl
theorem part_hash (h n : List UInt8) (hl : h.length = 20) (w : World) : (Go.part 45 (pC h n) 0).run Try.prog w = .ok (.agg (hC h)) w := by
  unfold Go.part
  simp only [Sem.run_bind, isAgg_hash, Result.andThen_ok, if_true, size_hash, Sem.run_pure]
  congr 2
  simp [pC, hC_size, hl]
theorem part_name (h n : List UInt8) (hl : h.length = 20) (w : World) : (Go.part 9 (pC h n) 20).run Try.prog w = .ok (.string ⟨n.toArray⟩) w := by
  unfold Go.part
  simp only [Sem.run_bind, isAgg_name, Result.andThen_ok, Bool.false_eq_true, if_false, pC_name h n hl, Sem.run_pure]
theorem eql_path (h n h' n' : List UInt8) (hl : h.length = 20) (hl' : h'.length = 20) (w : World) : (binOp .eql 47 (.agg (pC h n)) (.agg (pC h' n'))).run Try.prog w = .ok (.bool (h == h' && n == n')) w := by
  rw [run_eql_struct, run_equalIn_struct w 9999 47 _ _ pC_under (by kernel_rfl)]
  have hf := path_fields
  generalize (Try.prog.fieldsOf 47).toList = fs at hf ⊢
  cases fs with
  | nil => exact absurd hf (by simp)
  | cons f1 fs =>
  cases fs with
  | nil => exact absurd hf (by simp)
  | cons f2 fs =>
  cases fs with
  | cons f3 fs => exact absurd hf (by simp)
  | nil =>
    simp only [List.map_cons, List.map_nil, List.cons.injEq, Prod.mk.injEq, and_true] at hf
    obtain ⟨⟨a1, a2, a3⟩, b1, b2, b3⟩ := hf
    simp only [Op.eqFields, a1, a2, a3, b1, b2, b3, Sem.run_bind, Sem.run_ite, part_hash _ _ hl, part_hash _ _ hl', part_name _ _ hl, part_name _ _ hl', Result.andThen_ok, eqlIn_hash 9997 _ _ hl hl', run_equalIn_string w 9998 9 _ _ Try.underlying9, Agg.bytes_toList]
    cases h == h' <;> cases n == n' <;> simp
end Go.Proofs.Ytgekpghjlhcpkaa
/-! Struct literals of parts of several cells, over any program. -/
namespace Go.Agg
open Go.RowKit
/-- cells laid over others, from a place on -/
def splice (C : Array Value) (off : Nat) (cs : Array Value) : Array Value := (C.toList.take off ++ cs.toList ++ C.toList.drop (off + cs.size)).toArray
theorem splice_size (C : Array Value) (off : Nat) (cs : Array Value) (h : off + cs.size ≤ C.size) : (splice C off cs).size = C.size := by
  simp [splice]; omega
theorem fill_cons {place : Nat → Option (Nat × Nat)} {C : Array Value} {i off size : Nat} {v : Value} {rest : List (Nat × Value)} (hp : place i = some (off, size)) (hs : v.cells.size = size) (hle : off + size ≤ C.size) :
    Instr.fill place C ((i, v) :: rest) = Instr.fill place (splice C off v.cells) rest := by
  subst hs
  rw [Instr.fill]
  simp only [hp]
  rw [if_neg (by simp; omega)]
  congr 1
  obtain ⟨h1, h2⟩ := Great.foldl_set off v.cells.toList 0 C
  apply Array.ext_getElem?
  intro k
  have e : Array.foldl (fun (cs : Array Value) (x : Value × Nat) => cs.setIfInBounds (off + x.2) x.1) C v.cells.zipIdx = (v.cells.toList.zipIdx 0).foldl (fun cs (x : Value × Nat) => cs.setIfInBounds (off + x.2) x.1) C := by
    rw [← Array.foldl_toList, Array.toList_zipIdx]
  refine (congrArg (fun (x : Array Value) => x[k]?) e).trans ?_
  rw [h2 k]
  simp only [splice, Nat.add_zero, List.getElem?_toArray, Array.length_toList]
  have hC : C.toList.length = C.size := Array.length_toList
  by_cases hk : k < off
  · rw [if_neg (by omega), List.append_assoc, List.getElem?_append_left (by simp; omega), List.getElem?_take, if_pos hk]; simp
  · by_cases hk2 : k < off + v.cells.size
    · rw [if_pos ⟨by omega, hk2, by omega⟩, List.getElem?_append_left (by simp; omega), List.getElem?_append_right (by simp; omega)]
      simp [show min off C.size = off by omega]
    · rw [if_neg (by omega), List.getElem?_append_right (by simp; omega), List.getElem?_drop]
      simp [show min off C.size = off by omega]
      congr 1; omega
theorem fill_nil {place : Nat → Option (Nat × Nat)} {C : Array Value} : Instr.fill place C [] = some C := rfl
/-- a drawn region that ends in a write: an operation whose answer is known -/
theorem wpStill_load {P : Program} {w : World} {ops : Array Oper} {rest : List Oper} {o : Oper} {a : Act} {Q : Act → Prop} (hw : Region.wanted o (yielded ops a.tmps) = true) (ty : TypeId) (x : Operand) (ho : o.op = .load ty x) (p : Value) (hx : a.eval x = p) (v : Value)
    (hrun : (Instr.loadAt ty p).run P w = .ok v w) (h : wpStill P ops w Q rest (a.put o.dst v)) : wpStill P ops w Q (o :: rest) a := by
  refine wpStill_step fun K hK => ?_
  rw [if_pos hw]
  unfold Oper.still
  simp only [execOp, ho, hx, hrun, Sem.run_bind, Sem.run_pure, Result.andThen]
  exact ⟨rfl, hK _ h⟩
theorem wpStill_build {P : Program} {w : World} {ops : Array Oper} {rest : List Oper} {o : Oper} {a : Act} {Q : Act → Prop} (hw : Region.wanted o (yielded ops a.tmps) = true) (ty : TypeId) (ps : Array (Nat × Operand)) (ho : o.op = .build ty ps) (v : Value)
    (qs : Array (Nat × Value)) (hq : (ps.map fun p => (p.1, a.eval p.2)) = qs) (hrun : (Instr.build ty qs).run P w = .ok v w) (h : wpStill P ops w Q rest (a.put o.dst v)) : wpStill P ops w Q (o :: rest) a := by
  subst hq
  refine wpStill_step fun K hK => ?_
  rw [if_pos hw]
  unfold Oper.still
  simp only [execOp, ho, hrun, Sem.run_bind, Sem.run_pure, Result.andThen]
  exact ⟨rfl, hK _ h⟩
theorem wpList_build {P : Program} {ops : Array Oper} {rest : List Oper} {o : Oper} {a : Act} {w : World} {Q : Exit → Act → World → Prop} (hg : o.guard = none) (ty : TypeId) (ps : Array (Nat × Operand)) (ho : o.op = .build ty ps) (v : Value)
    (qs : Array (Nat × Value)) (hq : (ps.map fun p => (p.1, a.eval p.2)) = qs) (hrun : (Instr.build ty qs).run P w = .ok v w) (h : wpList P ops Q rest (a.put o.dst v) w) : wpList P ops Q (o :: rest) a w := by
  subst hq
  refine wpList_val hg ?_ h
  simp only [execOp, ho, hrun, Sem.run_bind, Sem.run_pure, Result.andThen]
/-- one call after another -/
theorem belowThen {B : Nat} {a b c : World} (h : Below B a b) (hB : B ≤ a.heap.size) (k : Below b.heap.size b c) : Below B a c := h.trans (k.mono (Nat.le_trans hB h.size))
/-- an operation whose answer is known in each world of the class -/
theorem wpQuiet_val {P : Program} {ops : Array Oper} {rest : List Oper} {o : Oper} {a : Act} {C : World → Prop} {Q : Act → Prop} (hw : Region.wanted o (yielded ops a.tmps) = true) (v : Value)
    (hrun : ∀ w, C w → (execOp a.eval o).run P w = .ok (.value v) w) (h : wpQuiet P ops C Q rest (a.put o.dst v)) : wpQuiet P ops C Q (o :: rest) a := by
  refine wpQuiet_step fun K hK => ?_
  rw [if_pos hw]
  refine ⟨v, fun w hC => ?_, hK _ h⟩
  unfold Oper.quietAt
  simp [hrun w hC, Oper.quietUpon]
/-- '==' of two values of several cells -/
theorem wpQuiet_eql {P : Program} {ops : Array Oper} {rest : List Oper} {o : Oper} {a : Act} {C : World → Prop} {Q : Act → Prop} (hw : Region.wanted o (yielded ops a.tmps) = true) (t u : TypeId) (x y : Operand) (ho : o.op = .binOp .eql t x y u)
    (xs ys : Array Value) (hx : a.eval x = .agg xs) (hy : a.eval y = .agg ys) (b : Bool) (hg : P.eqGuardType P.depth t = false) (hrun : ∀ w, (binOp .eql t (.agg xs) (.agg ys)).run P w = .ok (.bool b) w)
    (h : wpQuiet P ops C Q rest (a.put o.dst (.bool b))) : wpQuiet P ops C Q (o :: rest) a := by
  refine wpQuiet_val hw _ (fun w _ => ?_) h
  simp [execOp, ho, hx, hy, hrun, run_eqGuard_agg w .eql t x y xs ys hg]
/-- struct literals of two parts, of one, in a drawn region -/
theorem wpQuiet_build2 {P : Program} {ops : Array Oper} {rest : List Oper} {o : Oper} {a : Act} {C : World → Prop} {Q : Act → Prop} (ty : TypeId) (i : Nat) (x : Operand) (j : Nat) (y : Operand) (ho : o.op = .build ty #[(i, x), (j, y)]) (hw : Region.wanted o (yielded ops a.tmps) = true)
    (vx vy : Value) (hx : a.eval x = vx) (hy : a.eval y = vy) (v : Value) (hrun : ∀ w, (Instr.build ty #[(i, vx), (j, vy)]).run P w = .ok v w) (h : wpQuiet P ops C Q rest (a.put o.dst v)) : wpQuiet P ops C Q (o :: rest) a := by
  subst hx hy
  refine wpQuiet_val hw _ (fun w _ => ?_) h
  simp [execOp, ho, hrun]
theorem wpQuiet_build1 {P : Program} {ops : Array Oper} {rest : List Oper} {o : Oper} {a : Act} {C : World → Prop} {Q : Act → Prop} (ty : TypeId) (i : Nat) (x : Operand) (ho : o.op = .build ty #[(i, x)]) (hw : Region.wanted o (yielded ops a.tmps) = true)
    (vx : Value) (hx : a.eval x = vx) (v : Value) (hrun : ∀ w, (Instr.build ty #[(i, vx)]).run P w = .ok v w) (h : wpQuiet P ops C Q rest (a.put o.dst v)) : wpQuiet P ops C Q (o :: rest) a := by
  subst hx
  refine wpQuiet_val hw _ (fun w _ => ?_) h
  simp [execOp, ho, hrun]
theorem wpQuiet_build0 {P : Program} {ops : Array Oper} {rest : List Oper} {o : Oper} {a : Act} {C : World → Prop} {Q : Act → Prop} (ty : TypeId) (ho : o.op = .build ty #[]) (hw : Region.wanted o (yielded ops a.tmps) = true)
    (v : Value) (hrun : ∀ w, (Instr.build ty #[]).run P w = .ok v w) (h : wpQuiet P ops C Q rest (a.put o.dst v)) : wpQuiet P ops C Q (o :: rest) a := by
  refine wpQuiet_val hw _ (fun w _ => ?_) h
  simp [execOp, ho, hrun]
theorem slice_from {P : Program} (w : World) {t : TypeId} (ht : P.underlying t = some .string) (s : List UInt8) (k : IntKind) (i : Nat) (hi : i ≤ s.length) :
    (Instr.slice t (.string ⟨s.toArray⟩) (some (.int k (i : Int))) none none).run P w = .ok (.string ⟨(s.drop i).toArray⟩) w := by
  rw [run_slice_string_from_if w t _ k i ht, if_pos (by rw [bytes_size]; omega), bytes_extract, bytes_size]
  simp
theorem slice_to {P : Program} (w : World) {t : TypeId} (ht : P.underlying t = some .string) (s : List UInt8) (k : IntKind) (i : Nat) (hi : i ≤ s.length) :
    (Instr.slice t (.string ⟨s.toArray⟩) none (some (.int k (i : Int))) none).run P w = .ok (.string ⟨(s.take i).toArray⟩) w := by
  rw [run_slice_string_to_if w t _ k i ht, if_pos (by rw [bytes_size]; omega), bytes_extract]
  simp
end Go.Agg
/-! Guarded operations in a region that keeps its order: struct literals. -/
namespace Go.Agg
open Go.RowKit
section
variable {P : Program} {ops : Array Oper} {rest : List Oper} {o : Oper} {a : Act} {w : World} {Q : Exit → Act → World → Prop}
theorem wpList_valw (hw : Region.wanted o (yielded ops a.tmps) = true) {v : Value} {w' : World} (hrun : (execOp a.eval o).run P w = .ok (.value v) w') (h : wpList P ops Q rest (a.put o.dst v) w') : wpList P ops Q (o :: rest) a w := by
  unfold wpList
  rw [if_pos hw]
  left
  unfold Oper.wp
  rw [hrun]
  exact h
theorem wpList_build2 (ty : TypeId) (i : Nat) (x : Operand) (j : Nat) (y : Operand) (ho : o.op = .build ty #[(i, x), (j, y)]) (hw : Region.wanted o (yielded ops a.tmps) = true)
    (vx vy : Value) (hx : a.eval x = vx) (hy : a.eval y = vy) (v : Value) (hrun : ∀ w, (Instr.build ty #[(i, vx), (j, vy)]).run P w = .ok v w) (h : wpList P ops Q rest (a.put o.dst v) w) : wpList P ops Q (o :: rest) a w := by
  subst hx hy
  refine wpList_valw hw ?_ h
  simp [execOp, ho, hrun]
theorem wpList_build1 (ty : TypeId) (i : Nat) (x : Operand) (ho : o.op = .build ty #[(i, x)]) (hw : Region.wanted o (yielded ops a.tmps) = true)
    (vx : Value) (hx : a.eval x = vx) (v : Value) (hrun : ∀ w, (Instr.build ty #[(i, vx)]).run P w = .ok v w) (h : wpList P ops Q rest (a.put o.dst v) w) : wpList P ops Q (o :: rest) a w := by
  subst hx
  refine wpList_valw hw ?_ h
  simp [execOp, ho, hrun]
theorem wpList_build0 (ty : TypeId) (ho : o.op = .build ty #[]) (hw : Region.wanted o (yielded ops a.tmps) = true)
    (v : Value) (hrun : ∀ w, (Instr.build ty #[]).run P w = .ok v w) (h : wpList P ops Q rest (a.put o.dst v) w) : wpList P ops Q (o :: rest) a w := by
  refine wpList_valw hw ?_ h
  simp [execOp, ho, hrun]
theorem wpList_loadw (ty : TypeId) (x : Operand) (ho : o.op = .load ty x) (hw : Region.wanted o (yielded ops a.tmps) = true) (p : Value) (hx : a.eval x = p) (v : Value) (hrun : (Instr.loadAt ty p).run P w = .ok v w) (h : wpList P ops Q rest (a.put o.dst v) w) : wpList P ops Q (o :: rest) a w := by
  refine wpList_valw hw ?_ h
  simp [execOp, ho, hx, hrun]
/-- '==' and '!=' of two values of several cells -/
theorem run_eqw (op : BinOp) (hop : op = .eql ∨ op = .neq) (t u : TypeId) (x y : Operand) (ho : o.op = .binOp op t x y u) (xs ys : Array Value) (hx : a.eval x = .agg xs) (hy : a.eval y = .agg ys) (b : Bool) (hg : P.eqGuardType P.depth t = false)
    (hrun : ∀ w, (binOp op t (.agg xs) (.agg ys)).run P w = .ok (.bool b) w) (w : World) : (execOp a.eval o).run P w = .ok (.value (.bool b)) w := by
  rcases hop with rfl | rfl <;> simp [execOp, ho, hx, hy, hrun, run_eqGuard_agg w _ t x y xs ys hg]
theorem wpList_neqw (t u : TypeId) (x y : Operand) (ho : o.op = .binOp .neq t x y u) (hw : Region.wanted o (yielded ops a.tmps) = true) (xs ys : Array Value) (hx : a.eval x = .agg xs) (hy : a.eval y = .agg ys) (b : Bool) (hg : P.eqGuardType P.depth t = false)
    (hrun : ∀ w, (binOp .neq t (.agg xs) (.agg ys)).run P w = .ok (.bool b) w) (h : wpList P ops Q rest (a.put o.dst (.bool b)) w) : wpList P ops Q (o :: rest) a w :=
  wpList_valw hw (run_eqw .neq (.inr rfl) t u x y ho xs ys hx hy b hg hrun w) h
theorem wpQuiet_neq {C : World → Prop} {Q : Act → Prop} (t u : TypeId) (x y : Operand) (ho : o.op = .binOp .neq t x y u) (hw : Region.wanted o (yielded ops a.tmps) = true) (xs ys : Array Value) (hx : a.eval x = .agg xs) (hy : a.eval y = .agg ys) (b : Bool) (hg : P.eqGuardType P.depth t = false)
    (hrun : ∀ w, (binOp .neq t (.agg xs) (.agg ys)).run P w = .ok (.bool b) w) (h : wpQuiet P ops C Q rest (a.put o.dst (.bool b))) : wpQuiet P ops C Q (o :: rest) a :=
  wpQuiet_val hw _ (fun w _ => run_eqw .neq (.inr rfl) t u x y ho xs ys hx hy b hg hrun w) h
theorem wpList_eqlw (t u : TypeId) (x y : Operand) (ho : o.op = .binOp .eql t x y u) (hw : Region.wanted o (yielded ops a.tmps) = true) (xs ys : Array Value) (hx : a.eval x = .agg xs) (hy : a.eval y = .agg ys) (b : Bool) (hg : P.eqGuardType P.depth t = false)
    (hrun : ∀ w, (binOp .eql t (.agg xs) (.agg ys)).run P w = .ok (.bool b) w) (h : wpList P ops Q rest (a.put o.dst (.bool b)) w) : wpList P ops Q (o :: rest) a w :=
  wpList_valw hw (run_eqw .eql (.inl rfl) t u x y ho xs ys hx hy b hg hrun w) h
theorem wpList_buildSlice1 (ty : TypeId) (len i : Nat) (x : Operand) (ho : o.op = .buildSlice ty len #[(i, x)]) (hw : Region.wanted o (yielded ops a.tmps) = true)
    (vx : Value) (hx : a.eval x = vx) (v : Value) (w' : World) (hrun : (Instr.buildSlice ty len #[(i, vx)]).run P w = .ok v w') (h : wpList P ops Q rest (a.put o.dst v) w') : wpList P ops Q (o :: rest) a w := by
  subst hx
  refine wpList_valw hw ?_ h
  simp [execOp, ho, hrun]
end
end Go.Agg
/-! Steps of a walk that keep the world abstract, over any program: loads that stay, new blocks, stores into them. -/
namespace Go.Agg
open Go.RowKit
variable {P : Program}
def Later.push {W : World} (x : Later W) (y : Later x.w) : Later W := ⟨y.w, belowThen x.h (Nat.le_refl _) y.h⟩
/-- what lies there, in each later world -/
def LoadsL (P : Program) (W : World) (ty : TypeId) (p : Option Addr) (v : Value) : Prop := ∀ y : Later W, (Instr.loadAt ty (.pointer p)).run P y.w = .ok v y.w
theorem LoadsL.now {W : World} {ty : TypeId} {p : Option Addr} {v : Value} (h : LoadsL P W ty p v) : (Instr.loadAt ty (.pointer p)).run P W = .ok v W := h (Later.mk' W)
theorem LoadsL.below {W W' : World} {ty : TypeId} {p : Option Addr} {v : Value} (h : LoadsL P W ty p v) (hb : Below W.heap.size W W') : LoadsL P W' ty p v := fun y => h ⟨y.w, belowThen hb (Nat.le_refl _) y.h⟩
theorem add_plain (g off j : Nat) : (⟨g, off, none⟩ : Addr).add j = ⟨g, off + j, none⟩ := by unfold Addr.add; split <;> simp_all
theorem add_block (a : Addr) (j : Nat) : (a.add j).block = a.block := by unfold Addr.add; split <;> rfl
theorem add_add (a : Addr) (i j : Nat) : (a.add i).add j = a.add (i + j) := by
  unfold Addr.add
  by_cases hi : i = 0 <;> by_cases hj : j = 0 <;> simp [hi, hj, Nat.add_assoc]
theorem LoadsL.of_cells {w : World} {a : Addr} {ty : TypeId} {cs : Array Value} {d : TypeDesc} (hg : a.block < w.heap.size) (h : ∀ j v, cs[j]? = some v → w.cell? (a.add j) = some v)
    (hu : P.underlying ty = some d) (hd : (match d with | .struct _ | .array _ _ => true | _ => false) = true) (hi : (P.info? ty).map (·.size) = some cs.size) : LoadsL P w ty (some a) (.agg cs) := fun y => by
  have hl : (loadCells a cs.toList.length).run P y.w = .ok cs.toList.toArray y.w :=
    run_loadCells_list (P := P) y.w a cs.toList (fun j v hv => (y.h.cell (p := a.add j) (by rw [add_block]; exact hg)).trans (h j v (by simpa using hv)))
  cases hq : P.info? ty with
  | none => simp [hq] at hi
  | some i =>
    have hs : i.size = cs.size := by simpa [hq] using hi
    have hagg : (isAgg ty).run P y.w = .ok true y.w := by
      unfold isAgg
      rw [Sem.run_bind, run_underlying hu y.w]
      cases d <;> simp_all
    simp only [Array.length_toList, Array.toArray_toList] at hl
    simp [Instr.loadAt, Instr.sureAddr, loadVar, Sem.run_bind, hagg, sizeOf, typeInfo, hq, hs, hl]
theorem LoadsL.of_cell {w : World} {a : Addr} {ty : TypeId} {v : Value} {d : TypeDesc} (h : w.cell? a = some v) (hu : P.underlying ty = some d) (hd : (match d with | .struct _ | .array _ _ => true | _ => false) = false) :
    LoadsL P w ty (some a) v := fun y => by
  have hc := y.cell h
  have hagg : (isAgg ty).run P y.w = .ok false y.w := by
    unfold isAgg
    rw [Sem.run_bind, run_underlying hu y.w]
    cases d <;> simp_all
  simp [Instr.loadAt, Instr.sureAddr, loadVar, Sem.run_bind, hagg, go_sem, hc]
/-- a block, whole -/
def Blk (w : World) (g : Nat) (t : TypeId) (cs : Array Value) : Prop := w.heap[g]? = some (.cells cs t (0, 0))
section
variable {w w' : World} {g : Nat} {t : TypeId} {cs : Array Value}
theorem Blk.lt (h : Blk w g t cs) : g < w.heap.size := heap_lt h
theorem Blk.cell (h : Blk w g t cs) (i : Nat) : w.cell? ⟨g, i, none⟩ = cs[i]? := cell_of_row w g i cs t (0, 0) h
theorem Blk.below (h : Blk w g t cs) (hb : Below w.heap.size w w') : Blk w' g t cs := keep' hb h
theorem Blk.belowAt {B : Nat} (h : Blk w g t cs) (hb : Below B w w') (hg : g < B) : Blk w' g t cs := keep hb h hg
theorem Blk.loads (h : Blk w g t cs) {ty : TypeId} {d : TypeDesc} (hu : P.underlying ty = some d) (hd : (match d with | .struct _ | .array _ _ => true | _ => false) = true) (hi : (P.info? ty).map (·.size) = some cs.size) :
    LoadsL P w ty (some ⟨g, 0, none⟩) (.agg cs) :=
  LoadsL.of_cells h.lt (fun j v hj => by rw [add_plain, h.cell, Nat.zero_add]; exact hj) hu hd hi
theorem Blk.sub (h : Blk w g t cs) {ty : TypeId} {d : TypeDesc} (off : Nat) (ds : Array Value) (hsub : ∀ j v, ds[j]? = some v → cs[off + j]? = some v) (hu : P.underlying ty = some d) (hd : (match d with | .struct _ | .array _ _ => true | _ => false) = true) (hi : (P.info? ty).map (·.size) = some ds.size) :
    LoadsL P w ty (some ⟨g, off, none⟩) (.agg ds) :=
  LoadsL.of_cells h.lt (fun j v hj => by rw [add_plain, h.cell]; exact hsub j v hj) hu hd hi
theorem Blk.one (h : Blk w g t cs) {ty : TypeId} {d : TypeDesc} (off : Nat) {v : Value} (hv : cs[off]? = some v) (hu : P.underlying ty = some d) (hd : (match d with | .struct _ | .array _ _ => true | _ => false) = false) :
    LoadsL P w ty (some ⟨g, off, none⟩) v := LoadsL.of_cell (by rw [h.cell]; exact hv) hu hd
theorem Blk.new (w : World) (t : TypeId) (cs : Array Value) : Blk (w.alloc (.cells cs t)) w.heap.size t cs := heap_alloc_new w _
end
/-! at a list of operations -/
section
variable {ops : Array Oper} {rest : List Oper} {o : Oper} {a : Act} {w : World} {Q : Exit → Act → World → Prop}
theorem wpList_loadL {ty : TypeId} {p : Option Addr} {v : Value} (h : LoadsL P w ty p v) (hw : Region.wanted o (yielded ops a.tmps) = true) (x : Operand) (ho : o.op = .load ty x) (hx : a.eval x = .pointer p) (hk : wpList P ops Q rest (a.put o.dst v) w) : wpList P ops Q (o :: rest) a w :=
  wpList_loadw ty x ho hw _ hx v h.now hk
theorem wpQuiet_loadL {W : World} {Q : Act → Prop} {ty : TypeId} {p : Option Addr} {v : Value} (h : LoadsL P W ty p v) (hw : Region.wanted o (yielded ops a.tmps) = true) (x : Operand) (ho : o.op = .load ty x) (hx : a.eval x = .pointer p)
    (hk : wpQuiet P ops (fun w' => ∃ x : Later W, w' = x.w) Q rest (a.put o.dst v)) : wpQuiet P ops (fun w' => ∃ x : Later W, w' = x.w) Q (o :: rest) a :=
  wpQuiet_load hw ty x ho _ hx v (later_all h) hk
/-- the walk stops here -/
theorem walk_stop {p : Prop} (h : p ∧ True) : p := h.1
/-- a new variable, zero -/
theorem wpList_zero (hg : o.guard = none) (ty : TypeId) (ho : o.op = .alloc ty) (cs : Array Value) (hz : (P.info? ty).map (·.zero) = some (some (.agg cs)))
    (h : ∀ g w', Blk w' g ty cs → Below w.heap.size w w' → w.heap.size ≤ g → wpList P ops Q rest (a.put o.dst (.pointer (some ⟨g, 0, none⟩))) w') : wpList P ops Q (o :: rest) a w :=
  wpList_alloc_row hg ty ho cs hz (h _ _ (Blk.new _ _ _) ((Below.refl _ _).alloc (Nat.le_refl _) _) (Nat.le_refl _))
/-- a new variable that holds a value of several cells -/
theorem wpList_box (hg : o.guard = none) (ty : TypeId) (x : Operand) (ho : o.op = .box ty x) (cs : Array Value) (hx : a.eval x = .agg cs)
    (h : ∀ g w', Blk w' g ty cs → Below w.heap.size w w' → w.heap.size ≤ g → wpList P ops Q rest (a.put o.dst (.pointer (some ⟨g, 0, none⟩))) w') : wpList P ops Q (o :: rest) a w := by
  refine wpList_val hg ?_ (h _ _ (Blk.new w ty cs) ((Below.refl _ _).alloc (Nat.le_refl _) _) (Nat.le_refl _))
  simp [execOp, ho, hx, Instr.box, newVar, newRow, Value.cells]
/-- .. made and stored -/
theorem wpList_new {o2 : Oper} (hg : o.guard = none) (hg2 : o2.guard = none) (hd2 : o2.dst = none) (ty : TypeId) (d k : Tmp) (ho : o.op = .alloc ty) (hd : o.dst = some d) (ho2 : o2.op = .store ty (.tmp d) (.tmp k)) (hkd : Nat.beq d k = false) (z cs : Array Value)
    (hz : (P.info? ty).map (·.zero) = some (some (.agg z))) (hzs : z.size = cs.size) (hi : (P.info? ty).map (·.size) = some cs.size) (h1 : cs.all (·.oneCell') = true)
    (hy : a.eval (.tmp k) = .agg cs) (hsz : d < a.tmps.size)
    (h : ∀ g w', Blk w' g ty cs → Below w.heap.size w w' → w.heap.size ≤ g → wpList P ops Q rest (a.put o.dst (.pointer (some ⟨g, 0, none⟩))) w') : wpList P ops Q (o :: o2 :: rest) a w := by
  refine wpList_alloc_row hg ty ho z hz ?_
  have hb := heap_alloc_new w (.cells z ty)
  have hne : d ≠ k := Nat.ne_of_beq_eq_false hkd
  refine wpList_set_row hg2 hd2 ty _ _ ho2 w.heap.size cs ?_ ?_ ty z hb hi hzs h1 ?_
  · rw [hd]
    simp [Act.put, Act.eval, hsz]
  · rw [hd, ← hy]
    simp [Act.put, Act.eval, hne]
  · exact h _ _ (setRow_heap _ _ _ _ _ _ hb) (below_setRow ((Below.refl _ _).alloc (Nat.le_refl _) _) (Nat.le_refl _)) (Nat.le_refl _)
/-- a whole value stored into a block of the call's own -/
theorem wpList_put (hg : o.guard = none) (hd : o.dst = none) (ty : TypeId) (x y : Operand) (ho : o.op = .store ty x y) (g : Nat) (cs old : Array Value) (hx : a.eval x = .pointer (some ⟨g, 0, none⟩)) (hy : a.eval y = .agg cs)
    (hb : Blk w g ty old) (hi : (P.info? ty).map (·.size) = some cs.size) (hold : old.size = cs.size) (h1 : cs.all (·.oneCell') = true)
    (h : ∀ w', Blk w' g ty cs → Below g w w' → w'.heap.size = w.heap.size → (∀ k, k ≠ g → w'.heap[k]? = w.heap[k]?) → wpList P ops Q rest a w') : wpList P ops Q (o :: rest) a w := by
  refine wpList_set_row hg hd ty x y ho g cs hx hy ty old hb hi hold h1 ?_
  exact h _ (setRow_heap _ _ _ _ _ _ hb) (below_setRow (Below.refl _ _) (Nat.le_refl _)) (by simp) (fun k hk => setRow_other w g k cs hk)
end
end Go.Agg
