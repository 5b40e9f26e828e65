/- base.values and base.Hash: the hash of letters. (Several texts in one.) -/
import Derived.Test.YtpnolgliklmnmaaGreatQAA
import GoSem.Instr.MapUpdate
import Derived.Test.YtpnolgliklmnmaaGreatQAG
import Derived.Test.YtpnolgliklmnmaaGreatQAC
import Derived.Test.YtpnolgliklmnmaaGreatShelf
/-! Maps that a call makes, over any program and any key: what a map's block holds, its look-up and its store. -/
namespace Go.Mp
open Go.RowKit Go.Instr
section
variable {P : Program} {α β : Type} [DecidableEq α]
/-- a map's block holds these keys and values, in the order in which they came -/
def MapIs (w : World) (b : Nat) (κ : α → Value) (ν : β → Value) (m : List (α × β)) : Prop :=
  ∃ es clock, w.heap[b]? = some (.map es clock) ∧ es.toList.map (fun e => (e.key, e.val)) = m.map (fun p => (κ p.1, ν p.2))
/-- what a key's type must be -/
structure KeyEq (P : Program) (K : TypeId) (κ : α → Value) : Prop where
  check : ∀ empty a w, (checkKey empty 10000 K (κ a)).run P w = .ok () w
  desc : ∃ d, P.underlying K = some d ∧ ((∀ a b, sameNow d (κ a) (κ b) = some (decide (a = b))) ∨ ((∀ a b, sameNow d (κ a) (κ b) = none) ∧ ∀ a b w, (Op.equal K (κ a) (κ b)).run P w = .ok (decide (a = b)) w))
  bits : ∀ a, sameBits 10000 (κ a) (κ a) = true
def mget (m : List (α × β)) (a : α) : Option β := (m.find? (fun p => decide (a = p.1))).map (·.2)
def mput (m : List (α × β)) (a : α) (v : β) : List (α × β) := match m with
  | [] => [(a, v)]
  | p :: r => if a = p.1 then (a, v) :: r else p :: mput r a v
theorem mget_mput (m : List (α × β)) (a c : α) (v : β) : mget (mput m a v) c = if c = a then some v else mget m c := by
  induction m with
  | nil => by_cases h : c = a <;> simp [mput, mget, h]
  | cons p r ih =>
    unfold mput
    by_cases h : a = p.1
    · rw [if_pos h]
      by_cases h2 : c = a
      · simp [mget, h2]
      · have : ¬ c = p.1 := fun e => h2 (e.trans h.symm)
        simp [mget, h2, this]
    · rw [if_neg h]
      by_cases h2 : c = p.1
      · have h3 : ¬ c = a := fun e => h (e.symm.trans h2)
        have h4 : ¬ p.1 = a := fun e => h e.symm
        simp [mget, h2, h4]
      · simp only [mget, List.find?_cons, h2, decide_false] at ih ⊢
        exact ih
def pairs (es : List MapEntry) : List (Value × Value) := es.map (fun e => (e.key, e.val))
/-- the place of a key among entries -/
def place (m : List (α × β)) (a : α) (i : Nat) : Option (Nat × β) := match m with
  | [] => none
  | p :: r => if a = p.1 then some (i, p.2) else place r a (i + 1)
theorem findNow_eq {d : TypeDesc} {κ : α → Value} {ν : β → Value} (h : ∀ a b, sameNow d (κ a) (κ b) = some (decide (a = b))) (a : α) :
    ∀ (m : List (α × β)) (es : List MapEntry) (i : Nat), es.map (fun e => (e.key, e.val)) = m.map (fun p => (κ p.1, ν p.2)) →
      findNow d (κ a) es i = some ((place m a i).map fun x => (x.1, ν x.2))
  | [], [], i, _ => rfl
  | [], e :: es, i, he => by simp at he
  | p :: m, [], i, he => by simp at he
  | p :: m, e :: es, i, he => by
    simp only [List.map_cons, List.cons.injEq, Prod.mk.injEq] at he
    obtain ⟨⟨hk, hv⟩, hr⟩ := he
    unfold findNow place
    rw [hk, h a p.1]
    by_cases e' : a = p.1
    · simp [e', hv]
    · simp only [e', decide_false, if_false]
      exact findNow_eq h a m es (i + 1) hr
theorem findAsking_eq {K : TypeId} {κ : α → Value} {ν : β → Value} (h : ∀ a b w, (Op.equal K (κ a) (κ b)).run P w = .ok (decide (a = b)) w) (a : α) :
    ∀ (m : List (α × β)) (es : List MapEntry) (i : Nat) (w : World), es.map (fun e => (e.key, e.val)) = m.map (fun p => (κ p.1, ν p.2)) →
      (findAsking K (κ a) es i).run P w = .ok ((place m a i).map fun x => (x.1, ν x.2)) w
  | [], [], i, w, _ => rfl
  | [], e :: es, i, w, he => by simp at he
  | p :: m, [], i, w, he => by simp at he
  | p :: m, e :: es, i, w, he => by
    simp only [List.map_cons, List.cons.injEq, Prod.mk.injEq] at he
    obtain ⟨⟨hk, hv⟩, hr⟩ := he
    unfold findAsking place
    rw [Sem.run_bind, hk, h a p.1 w]
    by_cases e' : a = p.1
    · simp [e', hv, Result.andThen, Sem.run_pure]
    · simp only [e', decide_false, if_false, Result.andThen, Bool.false_eq_true]
      exact findAsking_eq h a m es (i + 1) w hr
theorem findKey_eq {K : TypeId} {κ : α → Value} {ν : β → Value} (hK : KeyEq P K κ) (a : α) (m : List (α × β)) (es : List MapEntry) (w : World) (he : es.map (fun e => (e.key, e.val)) = m.map (fun p => (κ p.1, ν p.2))) :
    (findKey K (κ a) es).run P w = .ok ((place m a 0).map fun x => (x.1, ν x.2)) w := by
  obtain ⟨d, hd, h⟩ := hK.desc
  unfold findKey
  rw [Sem.run_bind, run_underlying hd w]
  simp only [Result.andThen]
  rcases h with h | ⟨h1, h2⟩
  · rw [findNow_eq h a m es 0 he]
    rfl
  · cases hn : findNow d (κ a) es 0 with
    | none => exact findAsking_eq h2 a m es 0 w he
    | some r =>
      -- only where there is no entry
      cases es with
      | nil => cases m with
        | nil => simp [findNow] at hn; subst hn; rfl
        | cons p m => simp at he
      | cons e es => cases m with
        | nil => simp at he
        | cons p m =>
          simp only [List.map_cons, List.cons.injEq, Prod.mk.injEq] at he
          simp [findNow, he.1.1, h1 a p.1] at hn
theorem place_get (m : List (α × β)) (a : α) (i : Nat) : (place m a i).map (·.2) = mget m a := by
  induction m generalizing i with
  | nil => rfl
  | cons p r ih =>
    unfold place
    by_cases e : a = p.1
    · simp [mget, e]
    · rw [if_neg e, ih]; simp [mget, e]
/-- the world with another map in block b -/
def setMap (w : World) (b : Nat) (es : Array MapEntry) (c : Nat) : World := { w with heap := w.heap.setIfInBounds b (.map es c) }
theorem setMap_same {w : World} {b : Nat} {es : Array MapEntry} {c : Nat} (h : b < w.heap.size) : (setMap w b es c).heap[b]? = some (.map es c) := by simp [setMap, h]
theorem setMap_other {w : World} {b k : Nat} {es : Array MapEntry} {c : Nat} (h : k ≠ b) : (setMap w b es c).heap[k]? = w.heap[k]? := by simp [setMap, Ne.symm h]
theorem setMap_size {w : World} {b : Nat} {es : Array MapEntry} {c : Nat} : (setMap w b es c).heap.size = w.heap.size := by simp [setMap]
theorem below_setMap {B b : Nat} {a w : World} {es : Array MapEntry} {c : Nat} (h : Below B a w) (hb : B ≤ b) : Below B a (setMap w b es c) :=
  h.trans ⟨rfl, rfl, rfl, by rw [setMap_size]; exact Nat.le_refl _, fun k hk => setMap_other (by omega)⟩
/-- w' is w but for block b -/
def ButMap (b : Nat) (w w' : World) : Prop := ∃ es c, w' = setMap w b es c
theorem ButMap.other {b k : Nat} {w w' : World} (h : ButMap b w w') (hk : k ≠ b) : w'.heap[k]? = w.heap[k]? := by obtain ⟨es, c, rfl⟩ := h; exact setMap_other hk
theorem ButMap.size {b : Nat} {w w' : World} (h : ButMap b w w') : w'.heap.size = w.heap.size := by obtain ⟨es, c, rfl⟩ := h; exact setMap_size
theorem ButMap.below {B b : Nat} {a w w' : World} (h : ButMap b w w') (hw : Below B a w) (hb : B ≤ b) : Below B a w' := by obtain ⟨es, c, rfl⟩ := h; exact below_setMap hw hb
omit [DecidableEq α] in
theorem MapIs.empty (w : World) (κ : α → Value) (ν : β → Value) : MapIs (w.alloc (.map #[] 0)) w.heap.size κ ν [] := ⟨#[], 0, heap_alloc_new _ _, rfl⟩
omit [DecidableEq α] in
theorem MapIs.keep {w w' : World} {b : Nat} {κ : α → Value} {ν : β → Value} {m : List (α × β)} (h : MapIs w b κ ν m) (hk : w'.heap[b]? = w.heap[b]?) : MapIs w' b κ ν m := by
  obtain ⟨es, c, hb, he⟩ := h
  exact ⟨es, c, hk.trans hb, he⟩
omit [DecidableEq α] in
theorem MapIs.lt {w : World} {b : Nat} {κ : α → Value} {ν : β → Value} {m : List (α × β)} (h : MapIs w b κ ν m) : b < w.heap.size := by
  obtain ⟨es, c, hb, _⟩ := h; exact Agg.heap_lt hb
/-- 'v, ok := m[k]' -/
theorem run_lookup_ok {t K E : TypeId} {w : World} {b : Nat} {κ : α → Value} {ν : β → Value} {m : List (α × β)} {z : Value} (ht : P.underlying t = some (.map K E)) (hK : KeyEq P K κ) (hz : ∀ w, (zeroValue E).run P w = .ok z w)
    (h : MapIs w b κ ν m) (a : α) :
    (lookup t (.map (some b)) (κ a) true).run P w = .ok (.tuple #[(match mget m a with | some v => ν v | none => z), .bool (mget m a).isSome]) w := by
  obtain ⟨es, c, hb, he⟩ := h
  unfold lookup
  rw [Sem.run_bind, run_underlying ht w]
  simp only [Result.andThen, Sem.run_bind, getObj, Sem.run, hb, Sem.run_pure, hK.check, findKey_eq hK a m es.toList w he]
  have hg := place_get m a 0
  cases hp : place m a 0 with
  | none =>
    rw [hp] at hg
    simp [← hg, hz, Result.andThen]
  | some x =>
    rw [hp] at hg
    simp [← hg]
theorem place_mput (m : List (α × β)) (a : α) (v : β) (κ : α → Value) (ν : β → Value) : ∀ (es : List MapEntry) (i : Nat), es.map (fun e => (e.key, e.val)) = m.map (fun p => (κ p.1, ν p.2)) →
    (∀ j x, place m a i = some (j, x) → i ≤ j ∧ ∃ e, es[j - i]? = some e ∧ e.key = κ a ∧ (es.modify (j - i) (fun e => { e with key := κ a, val := ν v })).map (fun e => (e.key, e.val)) = (mput m a v).map (fun p => (κ p.1, ν p.2))) ∧
    (place m a i = none → (mput m a v) = m ++ [(a, v)]) := by
  induction m with
  | nil => intro es i he; exact ⟨fun j x h => by simp [place] at h, fun _ => rfl⟩
  | cons p r ih =>
    intro es i he
    cases es with
    | nil => simp at he
    | cons e es =>
      simp only [List.map_cons, List.cons.injEq, Prod.mk.injEq] at he
      obtain ⟨⟨hk, hv⟩, hr⟩ := he
      obtain ⟨h1, h2⟩ := ih es (i + 1) hr
      unfold place mput
      by_cases e' : a = p.1
      · simp only [e', if_true]
        refine ⟨fun j x h => ?_, fun h => by simp at h⟩
        simp only [Option.some.injEq, Prod.mk.injEq] at h
        obtain ⟨rfl, rfl⟩ := h
        exact ⟨Nat.le_refl _, e, by simp, by rw [hk], by simp [hr]⟩
      · simp only [e', if_false]
        refine ⟨fun j x h => ?_, fun h => by rw [h2 h]; rfl⟩
        obtain ⟨hle, e2, h3, h4, h5⟩ := h1 j x h
        refine ⟨by omega, e2, ?_, h4, ?_⟩
        · rw [show j - i = (j - (i + 1)) + 1 by omega]; exact h3
        · rw [show j - i = (j - (i + 1)) + 1 by omega]; simp [hk, hv, h5]
/-- 'm[k] = v' -/
theorem run_mapUpdate {t K E : TypeId} {w : World} {b : Nat} {κ : α → Value} {ν : β → Value} {m : List (α × β)} (ht : P.underlying t = some (.map K E)) (hK : KeyEq P K κ)
    (h : MapIs w b κ ν m) (a : α) (v : β) :
    ∃ w', (mapUpdate t (.map (some b)) (κ a) (ν v)).run P w = .ok () w' ∧ MapIs w' b κ ν (mput m a v) ∧ ButMap b w w' := by
  obtain ⟨es, c, hb, he⟩ := h
  have hlt := Agg.heap_lt hb
  obtain ⟨h1, h2⟩ := place_mput m a v κ ν es.toList 0 he
  cases hp : place m a 0 with
  | none =>
    refine ⟨setMap w b (es.push { key := κ a, val := ν v, born := c }) (c + 1), ?_, ⟨_, _, setMap_same hlt, ?_⟩, _, _, rfl⟩
    · unfold mapUpdate
      rw [Sem.run_bind, run_underlying ht w]
      simp only [Result.andThen, Sem.run_bind, getObj, Sem.run, hb, hK.check, findKey_eq hK a m es.toList w he, hp]
      simp [setObj, Sem.run, hb, setMap]
    · rw [h2 hp]; simp [he]
  | some x =>
    obtain ⟨_, e, h3, h4, h5⟩ := h1 x.1 x.2 hp
    simp only [Nat.sub_zero] at h3 h5
    refine ⟨setMap w b (es.modify x.1 fun e => { e with key := κ a, val := ν v }) c, ?_, ⟨_, _, setMap_same hlt, ?_⟩, _, _, rfl⟩
    · unfold mapUpdate
      rw [Sem.run_bind, run_underlying ht w]
      simp only [Result.andThen, Sem.run_bind, getObj, Sem.run, hb, hK.check, findKey_eq hK a m es.toList w he, hp]
      have h3' : es[x.1]? = some e := by simpa using h3
      simp [setObj, Sem.run, hb, setMap, h3', h4, keyThatStays, hK.bits]
    · rw [Array.toList_modify]; exact h5
/-! At a list of operations. -/
variable {ops : Array Oper} {rest : List Oper} {o : Oper} {a : Act} {w : World} {Q : Exit → Act → World → Prop}
theorem wpList_lookup_ok (hg : o.guard = none) (mo xo : Operand) (t K E : TypeId) (hop : o.op = Op.lookup t mo xo true) (ht : P.underlying t = some (.map K E)) {κ : α → Value} {ν : β → Value} {z : Value}
    (hK : KeyEq P K κ) (hz : ∀ w, (zeroValue E).run P w = .ok z w) {b : Nat} {m : List (α × β)} (hm : a.eval mo = .map (some b)) (h : MapIs w b κ ν m) (x : α) (hx : a.eval xo = κ x)
    (hk : wpList P ops Q rest (a.put o.dst (.tuple #[(match mget m x with | some v => ν v | none => z), .bool (mget m x).isSome])) w) : wpList P ops Q (o :: rest) a w := by
  refine wpList_plain hg fun K' hK' => ?_
  unfold Oper.wp
  simp [execOp, hop, hm, hx, run_lookup_ok ht hK hz h x, Result.andThen]
  exact hK' _ _ hk
theorem wpList_lookup_hit (hg : o.guard = none) (mo xo : Operand) (t K E : TypeId) (hop : o.op = Op.lookup t mo xo true) (ht : P.underlying t = some (.map K E)) {κ : α → Value} {ν : β → Value} {z : Value}
    (hK : KeyEq P K κ) (hz : ∀ w, (zeroValue E).run P w = .ok z w) {b : Nat} {m : List (α × β)} (hm : a.eval mo = .map (some b)) (h : MapIs w b κ ν m) (x : α) (hx : a.eval xo = κ x) (v : β) (hv : mget m x = some v)
    (hk : wpList P ops Q rest (a.put o.dst (.tuple #[ν v, .bool true])) w) : wpList P ops Q (o :: rest) a w :=
  wpList_lookup_ok hg mo xo t K E hop ht hK hz hm h x hx (by rw [hv]; exact hk)
theorem wpList_lookup_miss (hg : o.guard = none) (mo xo : Operand) (t K E : TypeId) (hop : o.op = Op.lookup t mo xo true) (ht : P.underlying t = some (.map K E)) {κ : α → Value} {ν : β → Value} {z : Value}
    (hK : KeyEq P K κ) (hz : ∀ w, (zeroValue E).run P w = .ok z w) {b : Nat} {m : List (α × β)} (hm : a.eval mo = .map (some b)) (h : MapIs w b κ ν m) (x : α) (hx : a.eval xo = κ x) (hv : mget m x = none)
    (hk : wpList P ops Q rest (a.put o.dst (.tuple #[z, .bool false])) w) : wpList P ops Q (o :: rest) a w :=
  wpList_lookup_ok hg mo xo t K E hop ht hK hz hm h x hx (by rw [hv]; exact hk)
theorem wpList_mapUpdate (hg : o.guard = none) (hd : o.dst = none) (mo xo vo : Operand) (t K E : TypeId) (hop : o.op = Op.mapUpdate t mo xo vo) (ht : P.underlying t = some (.map K E)) {κ : α → Value} {ν : β → Value}
    (hK : KeyEq P K κ) {b : Nat} {m : List (α × β)} (hm : a.eval mo = .map (some b)) (h : MapIs w b κ ν m) (x : α) (hx : a.eval xo = κ x) (v : β) (hv : a.eval vo = ν v)
    (hk : ∀ w', MapIs w' b κ ν (mput m x v) → ButMap b w w' → wpList P ops Q rest a w') : wpList P ops Q (o :: rest) a w := by
  refine wpList_plain hg fun K' hK' => ?_
  obtain ⟨w', hr, h1, h2⟩ := run_mapUpdate ht hK h x v
  unfold Oper.wp
  simp [execOp, hop, hm, hx, hv, hr, Result.andThen]
  rw [Oper.upon_skip, hd]
  exact hK' _ _ (hk w' h1 h2)
/-- integer keys -/
theorem int_key {K : TypeId} {k : IntKind} (h : P.underlying K = some (.int k)) : KeyEq P K (fun n : Int => .int k n) where
  check := fun empty a w => by
    unfold checkKey
    rw [Sem.run_bind, run_underlying h w]
    simp [Result.andThen]
  desc := ⟨_, h, .inl fun a b => by simp [sameNow]; rw [Bool.eq_iff_iff]; simp⟩
  bits := fun a => by simp [sameBits]
end
end Go.Mp
/-! (of general use) base.values and base.Hash: the hash of letters. -/
namespace Go.Proofs.YtpnolgliklmnmaaGreat
open Go.RowKit Pl Go.Mp
/-- a range over a text in block b, in whatever world -/
theorem nextAt_low (w : World) (b : Nat) (s : List UInt8) (k : Nat) (ty : TypeId) (hb : w.heap[b]? = some (.stringIter ⟨s.toArray⟩ k)) (hk : k < s.length) (ha : s[k].toNat < 128) :
    (Instr.next (.pointer (some ⟨b, 0, none⟩)) true ty).run Tryz.prog w = .ok (.tuple #[.bool true, .int .i64 (k : Int), .int .i32 (s[k].toNat : Int)]) (w.iterAt b ⟨s.toArray⟩ (k + 1)) := by
  have hs : k < (⟨s.toArray⟩ : ByteArray).size := by rw [Agg.bytes_size]; exact hk
  have he : (⟨s.toArray⟩ : ByteArray)[k]'hs = s[k] := by simp [ByteArray.getElem_eq_getElem_data]
  have := Lib.run_next_ascii_at (P := Tryz.prog) w b ⟨s.toArray⟩ k ty hb hs (by rw [he]; exact ha)
  rw [he] at this
  exact this
theorem nextAt_high (w : World) (b : Nat) (s : List UInt8) (k : Nat) (ty : TypeId) (hb : w.heap[b]? = some (.stringIter ⟨s.toArray⟩ k)) (hk : k < s.length) (ha : 128 ≤ s[k].toNat) :
    ∃ (r : Int) (k' : Nat), 128 ≤ r ∧ r ≤ 2147483647 ∧ k < k' ∧ (Instr.next (.pointer (some ⟨b, 0, none⟩)) true ty).run Tryz.prog w = .ok (.tuple #[.bool true, .int .i64 (k : Int), .int .i32 r]) (w.iterAt b ⟨s.toArray⟩ k') := by
  have hs : k < (⟨s.toArray⟩ : ByteArray).size := by rw [Agg.bytes_size]; exact hk
  have he : (⟨s.toArray⟩ : ByteArray)[k]'hs = s[k] := by simp [ByteArray.getElem_eq_getElem_data]
  obtain ⟨h1, h2⟩ := decode_high ⟨s.toArray⟩ k hs (by rw [he]; exact ha)
  have h3 := decode_le ⟨s.toArray⟩ k
  exact ⟨_, _, by omega, by omega, by omega, Lib.run_next_any_at (P := Tryz.prog) w b ⟨s.toArray⟩ k ty hb hs⟩
theorem nextAt_end (w : World) (b : Nat) (s : List UInt8) (ty : TypeId) (hb : w.heap[b]? = some (.stringIter ⟨s.toArray⟩ s.length)) :
    (Instr.next (.pointer (some ⟨b, 0, none⟩)) true ty).run Tryz.prog w = .ok (.tuple #[.bool false]) w :=
  Lib.run_next_end_at (P := Tryz.prog) w b ⟨s.toArray⟩ s.length ty hb (by rw [Agg.bytes_size]; omega)
/-- runes, numbers as values -/
def rK (n : Int) : Value := .int .i32 n
def nV (n : Nat) : Value := .int .u32 (n : Int)
def vals (k : Nat) : List (Int × Nat) := (List.range k).map fun i => (((letter i).toNat : Int), i)
theorem vals_step : ∀ k, k < 32 → mput (vals k) ((letter k).toNat : Int) k = vals (k + 1) := by decide +kernel
theorem vals_get : ∀ n : Nat, n < 256 → mget (vals 32) (n : Int) = val (UInt8.ofNat n) := by decide +kernel
theorem vals_high (r : Int) (h : 128 ≤ r) : mget (vals 32) r = none := by
  have hk : ∀ p ∈ vals 32, p.1 < 128 := by decide +kernel
  simp only [mget, Option.map_eq_none_iff, List.find?_eq_none, decide_eq_true_eq]
  intro p hp e
  have := hk p hp
  omega
theorem keyR : KeyEq Tryz.prog 21 rK := int_key Tryz.underlying21
/-- twenty noughts -/
def z20 : List UInt8 := List.replicate 20 0
theorem z20_zero : (Tryz.prog.info? 25).map (·.zero) = some (some (.agg (hC z20))) := by kernel_rfl
theorem z20_length : z20.length = 20 := rfl
theorem hC_info (h : List UInt8) (hl : h.length = 20) : (Tryz.prog.info? 25).map (·.size) = some (hC h).size := by rw [hC_size, hl]; kernel_rfl
theorem hC_one (h : List UInt8) : (hC h).all (·.oneCell') = true := by simp [hC, Lib.byteCells, Value.oneCell']
/-- what base.Hash answers -/
def hashH (s : List UInt8) : List UInt8 := (Pl.hash s).getD z20
def hashE (s : List UInt8) : Int := if (Pl.hash s).isSome then 0 else 4
theorem val_low {c : UInt8} {n : Nat} (h : val c = some n) : c.toNat < 128 := by
  have h1 : ∀ n, n < 32 → (letter n).toNat < 128 := by decide
  have := h1 n (val_lt h)
  rwa [letter_val h] at this
theorem mapM_take {s : List UInt8} (k : Nat) (hk : k < s.length) {l : List Nat} {n : Nat} (hl : (s.take k).mapM val = some l) (hn : val s[k] = some n) : (s.take (k + 1)).mapM val = some (l ++ [n]) := by
  rw [List.take_succ_eq_append_getElem hk, List.mapM_append, hl]
  simp [hn]
theorem mapM_none {s : List UInt8} (k : Nat) (hk : k < s.length) (hn : val s[k] = none) : s.mapM val = none := by
  have : s = s.take k ++ s[k] :: s.drop (k + 1) := by simp
  rw [this, List.mapM_append, List.mapM_cons]
  simp [hn]
theorem zero99 (w : World) : (zeroValue 182).run Tryz.prog w = .ok (.int .u32 0) w := by kernel_rfl
theorem hC_get (h : List UInt8) (i : Nat) (hi : i < h.length) : (hC h)[i]? = some (.int .u8 (h[i].toNat : Int)) := by simp [hC, Lib.byteCells, hi]
theorem hC_set (h : List UInt8) (i : Nat) (c : UInt8) : (hC h).setIfInBounds i (.int .u8 (c.toNat : Int)) = hC (h.set i c) := by
  apply Array.ext'
  simp [hC, Lib.byteCells, List.map_set]
theorem build_zero (w : World) : (Instr.build 25 #[]).run Tryz.prog w = .ok (.agg (hC z20)) w := by kernel_rfl
theorem or_disjoint8 (a x m : Nat) (ha : a < 2 ^ m) (hx : x < 32) (hm : m < 8) : bits .or .u32 (a : Int) ((x : Int) * 2 ^ m % 4294967296) = ((a + 2 ^ m * x : Nat) : Int) := by
  have h5 : 2 ^ m ≤ 2 ^ 7 := Nat.pow_le_pow_right (by omega) (by omega)
  have hp : 2 ^ m * x ≤ 2 ^ 7 * 31 := Nat.mul_le_mul h5 (by omega)
  have e : ((x : Int) * 2 ^ m % 4294967296) = ((2 ^ m * x : Nat) : Int) := by
    have : (x : Int) * 2 ^ m = ((2 ^ m * x : Nat) : Int) := by push_cast; exact Int.mul_comm _ _
    rw [this, Int.emod_eq_of_lt (by omega) (by omega)]
  rw [e, u32_or_nat _ _ (by omega) (by omega), Nat.or_comm, ← Nat.two_pow_add_eq_or_of_lt ha, Nat.add_comm]
/-- what lies behind k letters -/
def HashIs (B M I : Nat) (s : List UInt8) (k : Nat) (l : List Nat) (w0 wr : World) : Prop :=
  k ≤ 32 ∧ (s.take k).mapM val = some l ∧ wr.heap[I]? = some (.stringIter ⟨s.toArray⟩ k) ∧ MapIs wr M rK nV (vals 32) ∧ wr.heap[B]? = some (.cells (hC (hashTo (lnum l) k)) 25 (0, 0)) ∧ Below B w0 wr
end Go.Proofs.YtpnolgliklmnmaaGreat
/-! (of general use) Path: a path's text (base and spenceref03). -/
namespace Go.Proofs.YtpnolgliklmnmaaGreat
open Go.RowKit Pl Go.Mp Go.Agg
/-- a path's cells -/
def pC (h n : List UInt8) : Array Value := hC h ++ #[.string ⟨n.toArray⟩]
theorem pC_size (h n : List UInt8) : (pC h n).size = h.length + 1 := by simp [pC, hC_size]
theorem pC_name (h n : List UInt8) (hl : h.length = 20) : (pC h n)[20]? = some (.string ⟨n.toArray⟩) := by
  rw [pC, Array.getElem?_append, if_neg (by rw [hC_size]; omega), hC_size, hl]; rfl
theorem pC_hash (h n : List UInt8) (j : Nat) (v : Value) (hv : (hC h)[j]? = some v) : (pC h n)[0 + j]? = some v := by
  have hlt : j < (hC h).size := (Array.getElem?_eq_some_iff.1 hv).1
  rw [Nat.zero_add, pC, Array.getElem?_append, if_pos hlt]; exact hv
theorem isName_le {n : List UInt8} (h : isName n = true) : n.length ≤ 24 := by
  simp only [isName, Bool.and_eq_true, decide_eq_true_eq] at h
  exact h.1.2
/-- a path's text, or none; the error -/
def pathS (h n : List UInt8) : List UInt8 := if isName n then letters h ++ 45 :: n else []
def pathE (n : List UInt8) : Int := if isName n then 0 else 2
theorem ret_pair {a b : ByteArray} {k : IntKind} {x y : Int} (h : a = b) (h2 : x = y) : Ending.returned (.tuple #[.string a, .int k x]) = .returned (.tuple #[.string b, .int k y]) := by rw [h, h2]
theorem text_eq (h n : List UInt8) (hn : isName n = true) : ({ data := (letters h).toArray } : ByteArray) ++ { data := #[45] } ++ { data := n.toArray } = ⟨(pathS h n).toArray⟩ := by
  have : ({ data := #[45] } : ByteArray) = ⟨[45].toArray⟩ := rfl
  rw [this, Agg.bytes_append, Agg.bytes_append, pathS, if_pos hn]
  simp
end Go.Proofs.YtpnolgliklmnmaaGreat
/-! (of general use) Parse: a text's path (base and spenceref03). -/
namespace Go.Agg
open Go.RowKit
section
variable {P : Program} {ops : Array Oper} {rest : List Oper} {o : Oper} {a : Act} {w : World} {Q : Exit → Act → World → Prop}
/-- a value of several cells stored into the midst of a block -/
theorem wpList_set_sub (hg : o.guard = none) (hd : o.dst = none) (ty : TypeId) (x y : Operand) (ho : o.op = .store ty x y) (g off : Nat) (cells new : Array Value) (hx : a.eval x = .pointer (some ⟨g, off, none⟩)) (hy : a.eval y = .agg cells)
    (t : TypeId) (old : Array Value) (hb : w.heap[g]? = some (.cells old t (0, 0))) (hi : (P.info? ty).map (·.size) = some cells.size) (hle : off + cells.size ≤ old.size) (h1 : cells.all (·.oneCell') = true)
    (hnew : (old.toList.take off ++ cells.toList ++ old.toList.drop (off + cells.size)).toArray = new)
    (h : wpList P ops Q rest a (w.setRow g new)) : wpList P ops Q (o :: rest) a w := by
  refine wpList_skp hg hd ?_ h
  have hr := run_storeCells_at (P := P) g off t cells.toList 0 old w hb (by simp; omega) (fun v hv => (Array.all_eq_true_iff_forall_mem.1 h1) v (by simpa using hv))
  simp only [Nat.add_zero, Array.length_toList] at hr
  rw [hnew] at hr
  cases hq : P.info? ty with
  | none => simp [hq] at hi
  | some i =>
    have hs : cells.size = i.size := by simp [hq] at hi; omega
    simp [execOp, ho, hx, hy, Instr.storeAt, Instr.sureAddr, storeVar, sizeOf, typeInfo, hq, Value.cells, hs, hr]
end
end Go.Agg
namespace Go.Proofs.YtpnolgliklmnmaaGreat
open Go.RowKit Pl Go.Mp Go.Agg
def parseH (s : List UInt8) : List UInt8 := ((parse s).map (·.1)).getD z20
def parseN (s : List UInt8) : List UInt8 := ((parse s).map (·.2)).getD []
def parseE (s : List UInt8) : Int := if (parse s).isSome then 0 else 4
theorem pC_zero : (Tryz.prog.info? 27).map (·.zero) = some (some (.agg (pC z20 []))) := by kernel_rfl
theorem pC_info (h n : List UInt8) (hl : h.length = 20) : (Tryz.prog.info? 27).map (·.size) = some (pC h n).size := by rw [pC_size, hl]; kernel_rfl
theorem pC_one (h n : List UInt8) : (pC h n).all (·.oneCell') = true := by simp [pC, hC, Lib.byteCells, Value.oneCell']
theorem pC_under : Tryz.prog.underlying 27 = some (.struct (Tryz.prog.fieldsOf 27)) := by kernel_rfl
theorem sixteen (s : List UInt8) (hs : s.length < 4294967281) : (⟨s.toArray⟩ : ByteArray).size < 4294967281 := by rw [Agg.bytes_size]; exact hs
theorem pC_setHash (h h' n : List UInt8) (hl : h.length = 20) (hl' : h'.length = 20) : ((pC h n).toList.take 0 ++ (hC h').toList ++ (pC h n).toList.drop (0 + (hC h').size)).toArray = pC h' n := by
  apply Array.ext'
  simp [pC, hC, Lib.byteCells, hl, hl']
theorem pC_setName (h n n' : List UInt8) (hl : h.length = 20) : (pC h n).setIfInBounds 20 (.string ⟨n'.toArray⟩) = pC h n' := by
  apply Array.ext'
  simp [pC, hC, Lib.byteCells, hl]
theorem hashH_length (s : List UInt8) : (hashH s).length = 20 := by
  unfold hashH
  cases h : Pl.hash s with
  | none => rfl
  | some x => exact hash_length h
theorem cut_le (c : UInt8) (s : List UInt8) : (cut1 c s).2.1.length ≤ s.length := by
  induction s with
  | nil => simp [cut1]
  | cons b l ih => unfold cut1; split <;> simp <;> omega
end Go.Proofs.YtpnolgliklmnmaaGreat
/-! base.Letters: the letters of any hash. -/
namespace Go.Proofs.YtpnolgliklmnmaaGreat
open Go.RowKit Pl
set_option maxHeartbeats 400000 in
theorem letters_any (h : List UInt8) (hl : h.length = 20) (w : World) :
    Calls Tryz.prog 124 #[.agg (hC h)] w fun e w' => e = .returned (.string ⟨(letters h).toArray⟩) ∧ Below w.heap.size w w' := by
  have HL := Lib.hid hl
  have hix := fun k hk w => hC_at h k hl hk w
  clear hl
  go_enter Tryz.func124, Tryz.ntmps124
  go_wp2_with (first | (with_reducible refine wpList_load_row rfl 25 _ rfl w.heap.size rfl 25 (hC h) (0, 0) (.array 20 5) ?hg Tryz.underlying25 rfl ?hs ?_))
  case hg => exact heap_alloc2_old _ _ _
  case hs => rw [hC_size, HL.out]; kernel_rfl
  go_wp2_with fail
  go_loopw [4, 5, 9] (fun c m i wr => ∃ k : Nat, k ≤ 20 ∧ i = .int .i64 k ∧ c = .int .u32 (heldTo h k (8 * k / 5) : Nat) ∧ m = .int .u32 ((8 * k - 5 * (8 * k / 5) : Nat) : Int) ∧
      Lib.IsBuilderF 247 5 (w.heap.size) (w.heap.size + 1) (Lib.byteCells (outTo h k (8 * k / 5))) wr ∧ Below w.heap.size w wr)
    (fun _ _ i _ => 20 - (intOf i).toNat)
  case atStart =>
    refine ⟨0, by omega, rfl, by simp [heldTo, numTo_zero], rfl, ?_, ((Below.refl _ _).alloc (Nat.le_refl _) _).alloc (by simp) _⟩
    exact fresh_builder (w.alloc (.cells (hC h) 25)) (w.heap.size + 1) (by simp) (by simp)
  case round =>
    obtain ⟨k, hk, rfl, rfl, rfl, hB, hw⟩ := hrel
    by_cases hlt : k < 20
    · have hd : decide ((k : Int) < 20) = true := by simp; omega
      go_wp2_with fail
      rw [or_held h k HL.out hlt]
      have hmm : 8 * k - 5 * (8 * k / 5) < 5 := by omega
      go_loopw [4, 5] (fun c m wr => ∃ j : Nat, 5 * j ≤ 8 * (k + 1) ∧ 8 * (k + 1) < 5 * j + 14 ∧ c = .int .u32 (heldTo h (k + 1) j : Nat) ∧ m = .int .u32 ((8 * (k + 1) - 5 * j : Nat) : Int) ∧
        Lib.IsBuilderF 247 5 (w.heap.size) (w.heap.size + 1) (Lib.byteCells (outTo h (k + 1) j)) wr ∧ Below w.heap.size w wr)
        (fun _ m _ => (intOf m).toNat)
      case atStart => exact ⟨8 * k / 5, by omega, by omega, rfl, by rw [show 8 * (k + 1) - 5 * (8 * k / 5) = 8 * k - 5 * (8 * k / 5) + 8 by omega]; go_num, by rw [outTo_byte h k _ (by rw [HL.out]; exact hlt) (by omega)]; exact hB, hw⟩
      case round =>
        obtain ⟨j, hj, hj2, rfl, rfl, hB, hw⟩ := hrel
        by_cases hge : 5 ≤ 8 * (k + 1) - 5 * j
        · have hlt2 : heldTo h (k + 1) j < 4294967296 := by
            have h1 := heldTo_lt h (k + 1) j (by rw [HL.out]; omega) hj
            have h2 : 2 ^ (8 * (k + 1) - 5 * j) ≤ 2 ^ 13 := Nat.pow_le_pow_right (by omega) (by omega)
            omega
          have e31 := and31 _ hlt2
          have hla := letter_at .u32 (lo5 (heldTo h (k + 1) j)) (lo5_lt _)
          go_wp2_with fail
          refine (Tryz.Builder_WriteByte_k _ _ _ _ _ hB (by simp only [Lib.byteCells, List.length_map, outTo_length]; omega) hw.size).mono ?_
          rintro e w' ⟨rfl, hB', hw', _⟩
          have hB2 : Lib.IsBuilderF 247 5 w.heap.size (w.heap.size + 1) (Lib.byteCells (outTo h (k + 1) (j + 1))) w' := by
            rw [outTo_letter]
            have := hB'
            simp only [Lib.byteCells, List.map_append, List.map_cons, List.map_nil] at this ⊢
            exact .inr this
          clear hB'
          go_wp2_with fail
          go_roundw
          case rel => exact ⟨j + 1, by omega, by omega, by rw [heldTo_letter]; go_num, by rw [show 8 * (k + 1) - 5 * (j + 1) = 8 * (k + 1) - 5 * j - 5 by omega]; go_num, hB2, hw.trans hw'⟩
          case measure => simp [intOf]; omega
        · go_wp2_with fail
          go_roundw
          case rel =>
            have hj : j = 8 * (k + 1) / 5 := by omega
            subst hj
            exact ⟨k + 1, by omega, by go_num, rfl, rfl, hB, hw⟩
          case measure => simp [intOf]; omega
    · obtain rfl : k = 20 := by omega
      go_wp2_with fail
      refine (Tryz.Builder_String_any_k _ _ _ _ hB hw.size).mono ?_
      rintro e w' ⟨rfl, hB', hw', _⟩
      go_wp2_with fail
      go_ret
      exact ⟨by rw [outTo_end h HL.out]; rfl, hw.trans hw'⟩
end Go.Proofs.YtpnolgliklmnmaaGreat
/-! base.values and base.Hash: the hash of letters. -/
namespace Go.Proofs.YtpnolgliklmnmaaGreat
open Go.RowKit Pl Go.Mp
set_option maxRecDepth 100000 in
set_option maxHeartbeats 400000 in
theorem values_any (w : World) :
    Calls Tryz.prog 157 #[] w fun e w' => e = .returned (.map (some w.heap.size)) ∧ MapIs w' w.heap.size rK nV (vals 32) ∧ Below w.heap.size w w' := by
  have hmm := @run_makeMap Tryz.prog
  have hlt : ∀ k, k < 32 → (letter k).toNat < 128 := by decide
  go_enter Tryz.func157, Tryz.ntmps157
  go_wp2_with fail
  clear hmm
  go_loopw [2] (fun _ wr => ∃ k : Nat, k ≤ 32 ∧ wr.heap[w.heap.size + 1]? = some (.stringIter ⟨alpha.toArray⟩ k) ∧ MapIs wr w.heap.size rK nV (vals k) ∧ Below w.heap.size w wr)
    (fun _ wr => 32 - wr.iterPos (w.heap.size + 1))
  case atStart => exact ⟨0, by omega, heap_alloc2_new w _ _, ⟨#[], 0, heap_alloc2_old w _ _, rfl⟩, ((Below.refl _ w).alloc (Nat.le_refl _) _).alloc (by simp) _⟩
  case round =>
    obtain ⟨k, hk, hit, hm, hw⟩ := hrel
    by_cases h32 : k < 32
    · have hal : alpha[k]'(by simpa [alpha] using h32) = letter k := by simp [letter, List.getD, List.getElem?_eq_getElem (show k < alpha.length by simpa [alpha] using h32)]
      have hn := nextAt_low wr _ alpha k 0 hit (by simpa [alpha] using h32) (by rw [hal]; exact hlt k h32)
      rw [hal] at hn
      clear hal
      have hm2 : MapIs (wr.iterAt (w.heap.size + 1) ⟨alpha.toArray⟩ (k + 1)) w.heap.size rK nV (vals k) := hm.keep (Lib.iterAt_other _ _ _ _ _ (by omega))
      have hit2 := Lib.iterAt_heap wr (w.heap.size + 1) ⟨alpha.toArray⟩ k (k + 1) hit
      have hw2 := Lib.below_iterAt hw (show w.heap.size ≤ w.heap.size + 1 by omega) ⟨alpha.toArray⟩ (k + 1)
      go_wp2_with (at_mapUpdate; refine Mp.wpList_mapUpdate rfl rfl _ _ _ 253 21 182 rfl Tryz.underlying253 keyR rfl hm2 ((letter k).toNat : Int) rfl k rfl ?_; intro w1 hm3 hb3)
      rw [vals_step k h32] at hm3
      have hit3 : w1.heap[w.heap.size + 1]? = some (.stringIter ⟨alpha.toArray⟩ (k + 1)) := (hb3.other (by omega)).trans hit2
      go_roundw
      case rel => exact ⟨k + 1, by omega, hit3, hm3, hb3.below hw2 (Nat.le_refl _)⟩
      case measure => simp [World.iterPos, hit, hit3]; omega
    · obtain rfl : k = 32 := by omega
      have hn := nextAt_end wr _ alpha 0 hit
      go_wp2_with fail
      go_ret
      exact ⟨rfl, hm, hw⟩
set_option maxRecDepth 100000 in
set_option maxHeartbeats 1000000 in
theorem hash_long (s : List UInt8) (hl : s.length ≠ 32) (w : World) :
    Calls Tryz.prog 127 #[.string ⟨s.toArray⟩] w fun e w' => e = .returned (.tuple #[.agg (hC z20), .int .i64 4]) ∧ Below w.heap.size w w' := by
  have hsz := Agg.bytes_size s
  have hlen : ∀ w, (Builtin.len_ #[9] 3 #[.string ⟨s.toArray⟩]).run Tryz.prog w = .ok (.int .i64 (s.length : Int)) w := fun w => by rw [run_len_string w 9 3 _ Tryz.underlying9, hsz]; rfl
  clear hsz
  have hd : ((s.length : Int) != 32) = true := by rw [bne_iff_ne]; omega
  have hb := heap_alloc_new w (.cells (hC z20) 25)
  go_enter Tryz.func127, Tryz.ntmps127
  go_wp2_with (first | (with_reducible refine Agg.wpList_alloc_row rfl 25 rfl (hC z20) z20_zero ?_) | (with_reducible refine wpList_load_row rfl 25 _ rfl w.heap.size rfl 25 (hC z20) (0, 0) (.array 20 5) hb Tryz.underlying25 rfl (hC_info _ z20_length) ?_) | (with_reducible refine Agg.wpList_set_row rfl rfl 25 _ _ rfl w.heap.size (hC z20) rfl rfl 25 (hC z20) hb (hC_info _ z20_length) rfl (hC_one _) ?_))
  exact Agg.post_row_tmp rfl rfl rfl (setRow_heap _ _ _ _ _ _ hb) Tryz.underlying25 rfl (hC_info _ z20_length) rfl ⟨rfl, Agg.below_setRow ((Below.refl _ _).alloc (Nat.le_refl _) _) (Nat.le_refl _)⟩
set_option maxRecDepth 100000 in
set_option maxHeartbeats 1000000 in
theorem hash_32 (s : List UInt8) (hl : s.length = 32) (w : World) :
    Calls Tryz.prog 127 #[.string ⟨s.toArray⟩] w fun e w' => e = .returned (.tuple #[.agg (hC (hashH s)), .int .i64 (hashE s)]) ∧ Below w.heap.size w w' := by
  have hsz := Agg.bytes_size s
  have hlen : ∀ w, (Builtin.len_ #[9] 3 #[.string ⟨s.toArray⟩]).run Tryz.prog w = .ok (.int .i64 32) w := fun w => by rw [run_len_string w 9 3 _ Tryz.underlying9, hsz, hl]; rfl
  clear hsz
  have HL := Lib.hid hl
  clear hl
  have hb := heap_alloc_new w (.cells (hC z20) 25)
  go_enter Tryz.func127, Tryz.ntmps127
  go_wp2_with (first | (with_reducible refine Agg.wpList_alloc_row rfl 25 rfl (hC z20) z20_zero ?_) | (go_at_call 157; refine (values_any _).mono ?_; rintro e w1 ⟨rfl, hm1, hw1⟩))
  rw [World.size_alloc] at hm1 hw1
  have hb1 := Agg.keep hw1 hb (by omega)
  have hsz1 : w.heap.size + 1 < w1.heap.size := hm1.lt
  clear hlen
  go_loopw [5, 6, 7] (fun c m a wr => ∃ k l, c = .int .u32 (heldB (lnum l) k : Nat) ∧ m = .int .u32 ((5 * k - 8 * (5 * k / 8) : Nat) : Int) ∧ a = .int .i64 ((5 * k / 8 : Nat) : Int) ∧ HashIs w.heap.size (w.heap.size + 1) w1.heap.size s k l w wr)
    (fun _ _ _ wr => 32 - wr.iterPos w1.heap.size)
  case atStart => exact ⟨0, [], rfl, rfl, rfl, by omega, rfl, heap_alloc_new _ _, hm1.keep (heap_alloc_old _ _ hsz1), (heap_alloc_old _ _ (by omega)).trans hb1, ((((Below.refl _ w).alloc (Nat.le_refl _) _).trans (hw1.mono (by omega)))).alloc (by omega) _⟩
  case round =>
    obtain ⟨k, l, rfl, rfl, rfl, hk, hl, hit, hm, hb, hw⟩ := hrel
    have hmm := hl
    have HLL := Lib.hid hl
    clear hl hmm
    by_cases hlt : k < 32
    · have hks : k < s.length := by rw [HL.out]; exact hlt
      by_cases hc : s[k].toNat < 128
      · have hn := nextAt_low wr _ s k 0 hit hks hc
        have hm2 : MapIs (wr.iterAt w1.heap.size ⟨s.toArray⟩ (k + 1)) (w.heap.size + 1) rK nV (vals 32) := hm.keep (Lib.iterAt_other _ _ _ _ _ (by omega))
        have hb2 : (wr.iterAt w1.heap.size ⟨s.toArray⟩ (k + 1)).heap[w.heap.size]? = some (.cells (hC (hashTo (lnum l) k)) 25 (0, 0)) := (Lib.iterAt_other _ _ _ _ _ (by omega)).trans hb
        have hit2 := Lib.iterAt_heap wr w1.heap.size ⟨s.toArray⟩ k (k + 1) hit
        have hw2 := Lib.below_iterAt hw (show w.heap.size ≤ w1.heap.size by omega) ⟨s.toArray⟩ (k + 1)
        have hget := vals_get s[k].toNat s[k].toNat_lt
        rw [UInt8.ofNat_toNat] at hget
        cases hv : val s[k] with
        | none =>
          rw [hv] at hget
          have hh : hashH s = z20 ∧ hashE s = 4 := by
            have : Pl.hash s = none := by unfold Pl.hash; rw [if_pos HL.out, mapM_none k hks hv]; rfl
            simp [hashH, hashE, this]
          have HH := Lib.hid hh
          clear hh
          go_wp2_with (first | (at_lookup; refine Mp.wpList_lookup_miss rfl _ _ 253 21 182 rfl Tryz.underlying253 keyR zero99 rfl hm2 (s[k].toNat : Int) rfl hget ?_) | (with_reducible refine Agg.wpList_build_zero rfl 25 rfl (.agg (hC z20)) build_zero ?_) | (with_reducible refine Agg.wpList_set_row rfl rfl 25 _ _ rfl w.heap.size (hC z20) rfl rfl 25 _ hb2 (hC_info _ z20_length) ?hsz (hC_one _) ?_))
          case hsz => rw [hC_size, hC_size, hashTo_length _ _ hk]; rfl
          exact Agg.post_row_tmp rfl rfl rfl (setRow_heap _ _ _ _ _ _ hb2) Tryz.underlying25 rfl (hC_info _ z20_length) rfl ⟨by rw [HH.out.1, HH.out.2]; rfl, Agg.below_setRow hw2 (Nat.le_refl _)⟩
        | some n =>
          rw [hv] at hget
          have hn32 := val_lt hv
          have hl2 := mapM_take k hks HLL.out hv
          obtain ⟨hls, hlb, hll⟩ := mapM_val HLL.out
          have hll' : l.length = k := by rw [hll, List.length_take, HL.out]; omega
          have hheld := heldB_lt (lnum l) k (by have := lnum_lt l hlb; rwa [hll'] at this)
          have eor := or_disjoint8 _ n _ hheld hn32 (by omega)
          have hXb : heldB (lnum l) k + 2 ^ (5 * k - 8 * (5 * k / 8)) * n < 4096 := by
            have h5 : 2 ^ (5 * k - 8 * (5 * k / 8)) ≤ 2 ^ 7 := Nat.pow_le_pow_right (by omega) (by omega)
            have hp : 2 ^ (5 * k - 8 * (5 * k / 8)) * n ≤ 2 ^ 7 * 31 := Nat.mul_le_mul h5 (by omega)
            omega
          have hstep := lnum_snoc l n
          rw [hll'] at hstep
          have HS := Lib.hid (And.intro hl2 hstep)
          obtain ⟨X, hX⟩ : ∃ X, X = heldB (lnum l) k + 2 ^ (5 * k - 8 * (5 * k / 8)) * n := ⟨_, rfl⟩
          rw [← hX] at eor hXb
          have HX := Lib.hid hX
          clear hX hl2 hstep hls hlb hll hll' hheld hv
          have hcell : (wr.iterAt w1.heap.size ⟨s.toArray⟩ (k + 1)).cell? ⟨w.heap.size, 5 * k / 8, none⟩ = some (.int .u8 (((hashTo (lnum l) k)[5 * k / 8]'(by rw [hashTo_length _ _ hk]; omega)).toNat : Int)) := by
            rw [cell_of_row _ _ _ _ _ _ hb2, hC_get _ _ (by rw [hashTo_length _ _ hk]; omega)]
          have hfr : (wr.iterAt w1.heap.size ⟨s.toArray⟩ (k + 1)).frozen? ⟨w.heap.size, 5 * k / 8, none⟩ = false := frozen_of_row _ _ _ _ _ hb2
          generalize hW : wr.iterAt w1.heap.size ⟨s.toArray⟩ (k + 1) = W2 at *
          clear hW
          have hsize : (hashTo (lnum l) k).length = 20 := hashTo_length _ _ hk
          have HZ := Lib.hid hsize
          clear hsize
          by_cases hby : 5 * (k + 1) / 8 = 5 * k / 8 + 1
          · have HB := hashTo_byte (lnum l) k n hlt hby
            rw [← HX.out, ← HS.out.2] at HB
            have HBB := Lib.hid HB
            clear HB
            have hb3 := heap_setCell_same W2 w.heap.size (5 * k / 8) _ _ (.int .u8 ((UInt8.ofNat X).toNat : Int)) hb2
            rw [hC_set, ← HBB.out.1] at hb3
            have e8 : ((UInt8.ofNat X).toNat : Int) = (X : Int) % 256 := by simp [UInt8.toNat_ofNat']
            rw [e8] at hb3
            have hit3 : (W2.setCell ⟨w.heap.size, 5 * k / 8, none⟩ (.int .u8 ((X : Int) % 256))).heap[w1.heap.size]? = some (.stringIter ⟨s.toArray⟩ (k + 1)) := (heap_setCell_other _ _ _ _ (by simp; omega)).trans hit2
            have hm3 : MapIs (W2.setCell ⟨w.heap.size, 5 * k / 8, none⟩ (.int .u8 ((X : Int) % 256))) (w.heap.size + 1) rK nV (vals 32) := hm2.keep (heap_setCell_other _ _ _ _ (by simp))
            have hw3 := hw2.setCell (p := ⟨w.heap.size, 5 * k / 8, none⟩) (Nat.le_refl _) (.int .u8 ((X : Int) % 256))
            clear e8
            go_wp2_with (at_lookup; refine Mp.wpList_lookup_hit rfl _ _ 253 21 182 rfl Tryz.underlying253 keyR zero99 rfl hm2 (s[k].toNat : Int) rfl n hget ?_; dsimp only [nV])
            go_roundw
            case rel => exact ⟨k + 1, l ++ [n], by rw [HBB.out.2]; go_num, by rw [hby, show 5 * (k + 1) - 8 * (5 * k / 8 + 1) = 5 * k - 8 * (5 * k / 8) + 5 - 8 by omega]; go_num, by rw [hby]; go_num, by omega, HS.out.1, hit3, hm3, hb3, hw3⟩
            case measure => simp [World.iterPos, hit, hit3]; omega
          · have hst : 5 * (k + 1) / 8 = 5 * k / 8 := by omega
            have HB := hashTo_stay (lnum l) k n hst
            rw [← HX.out, ← HS.out.2] at HB
            have HBB := Lib.hid HB
            clear HB
            have HST := Lib.hid hst
            clear hst
            go_wp2_with (at_lookup; refine Mp.wpList_lookup_hit rfl _ _ 253 21 182 rfl Tryz.underlying253 keyR zero99 rfl hm2 (s[k].toNat : Int) rfl n hget ?_; dsimp only [nV])
            go_roundw
            case rel => exact ⟨k + 1, l ++ [n], by rw [HBB.out.2], by rw [HST.out, show 5 * (k + 1) - 8 * (5 * k / 8) = 5 * k - 8 * (5 * k / 8) + 5 by omega]; go_num, by rw [HST.out]; go_num, by omega, HS.out.1, hit2, hm2, by rw [HBB.out.1]; exact hb2, hw2⟩
            case measure => simp [World.iterPos, hit, hit2]; omega
      · obtain ⟨r, k', hr, hr2, hk', hn⟩ := nextAt_high wr _ s k 0 hit hks (by omega)
        have hm2 : MapIs (wr.iterAt w1.heap.size ⟨s.toArray⟩ k') (w.heap.size + 1) rK nV (vals 32) := hm.keep (Lib.iterAt_other _ _ _ _ _ (by omega))
        have hb2 : (wr.iterAt w1.heap.size ⟨s.toArray⟩ k').heap[w.heap.size]? = some (.cells (hC (hashTo (lnum l) k)) 25 (0, 0)) := (Lib.iterAt_other _ _ _ _ _ (by omega)).trans hb
        have hw2 := Lib.below_iterAt hw (show w.heap.size ≤ w1.heap.size by omega) ⟨s.toArray⟩ k'
        have hget := vals_high r hr
        have hh : hashH s = z20 ∧ hashE s = 4 := by
          have hv : val s[k] = none := by
            cases hv : val s[k] with
            | none => rfl
            | some n => exact absurd (val_low hv) hc
          have : Pl.hash s = none := by unfold Pl.hash; rw [if_pos HL.out, mapM_none k hks hv]; rfl
          simp [hashH, hashE, this]
        have HH := Lib.hid hh
        clear hh
        go_wp2_with (first | (at_lookup; refine Mp.wpList_lookup_miss rfl _ _ 253 21 182 rfl Tryz.underlying253 keyR zero99 rfl hm2 r rfl hget ?_) | (with_reducible refine Agg.wpList_build_zero rfl 25 rfl (.agg (hC z20)) build_zero ?_) | (with_reducible refine Agg.wpList_set_row rfl rfl 25 _ _ rfl w.heap.size (hC z20) rfl rfl 25 _ hb2 (hC_info _ z20_length) ?hsz (hC_one _) ?_))
        case hsz => rw [hC_size, hC_size, hashTo_length _ _ hk]; rfl
        exact Agg.post_row_tmp rfl rfl rfl (setRow_heap _ _ _ _ _ _ hb2) Tryz.underlying25 rfl (hC_info _ z20_length) rfl ⟨by rw [HH.out.1, HH.out.2]; rfl, Agg.below_setRow hw2 (Nat.le_refl _)⟩
    · obtain rfl : k = 32 := by omega
      have hn := nextAt_end wr _ s 0 (by rw [HL.out]; exact hit)
      have hh : hashH s = hashTo (lnum l) 32 ∧ hashE s = 0 := by
        have h1 := HLL.out
        rw [List.take_of_length_le (by rw [HL.out]; omega)] at h1
        have : Pl.hash s = some (hashTo (lnum l) 32) := by unfold Pl.hash; rw [if_pos HL.out, h1, hashTo_32]; rfl
        simp [hashH, hashE, this]
      have HH := Lib.hid hh
      clear hh
      have hl20 := hashTo_length (lnum l) 32 (by omega)
      have HZ := Lib.hid hl20
      clear hl20
      go_wp2_with (first | (with_reducible refine wpList_load_row rfl 25 _ rfl w.heap.size rfl 25 _ (0, 0) (.array 20 5) hb Tryz.underlying25 rfl (hC_info _ HZ.out) ?_) | (with_reducible refine Agg.wpList_set_row rfl rfl 25 _ _ rfl w.heap.size _ rfl rfl 25 _ hb (hC_info _ HZ.out) rfl (hC_one _) ?_))
      exact Agg.post_row_tmp rfl rfl rfl (setRow_heap _ _ _ _ _ _ hb) Tryz.underlying25 rfl (hC_info _ HZ.out) rfl ⟨by rw [HH.out.1, HH.out.2]; rfl, Agg.below_setRow hw (Nat.le_refl _)⟩
end Go.Proofs.YtpnolgliklmnmaaGreat
