/- Maps that a call makes: a look-up that does not ask whether it is there; what a new key leaves. (Several texts in one.) -/
import Derived.Test.YtgekpghjlhcpkaaDAD
import Derived.Lib.Bytealg
import Derived.Lib.BytesEntry
import Derived.Test.YtgekpghjlhcpkaaDAA
import Derived.Test.YtgekpghjlhcpkaaDAC
/-! (of general use) base.order, base.Less, spenceref03.Less: how two paths stand. -/
namespace Go.Proofs.Ytgekpghjlhcpkaa
open Go.RowKit Pl Go.Agg
open Go.Lib (compareBytes)
/-- how two paths stand -/
def cmpP (h n h' n' : List UInt8) : Int := if h == h' then compareBytes n n' else compareBytes h h'
theorem run_compareBytes (w : World) (a b : List UInt8) (g off g' off' c c' : Nat) (ha : ∀ j x, a[j]? = some x → w.cell? ⟨g, off + j, none⟩ = some (.int .u8 (x.toNat : Int))) (hb : ∀ j x, b[j]? = some x → w.cell? ⟨g', off' + j, none⟩ = some (.int .u8 (x.toNat : Int))) :
    (Extern.BytealgCompare.compare #[.slice (some ⟨g, off, none⟩) a.length c, .slice (some ⟨g', off', none⟩) b.length c']).run Try.prog w = .ok (.int .i64 (compareBytes a b)) w := by
  change Sem.run Try.prog (do pure (goInt (Extern.BytealgCompare.cmp (← Extern.Bytes.bytesOf (.slice (some ⟨g, off, none⟩) a.length c)) (← Extern.Bytes.bytesOf (.slice (some ⟨g', off', none⟩) b.length c'))))) w = _
  have key : ∀ (l : List UInt8) (g off : Nat), (∀ j x, l[j]? = some x → w.cell? ⟨g, off + j, none⟩ = some (.int .u8 (x.toNat : Int))) → (Extern.Bytes.loadBytes ⟨g, off, none⟩ l.length .empty).run Try.prog w = .ok ⟨l.toArray⟩ w := fun l g off h => by
    have := Lib.run_loadBytesX (P := Try.prog) (w := w) (l.map fun c => (c.toNat : Int)) ⟨g, off, none⟩ .empty (fun j x hj => by
      rw [List.getElem?_map] at hj
      cases hl : l[j]? with
      | none => rw [hl] at hj; simp at hj
      | some c =>
        rw [hl] at hj
        obtain rfl := Option.some.inj hj
        have := h j c hl
        rw [Addr.add]
        split
        · rename_i h0; simpa [h0] using this
        · exact this)
    simp only [List.length_map] at this
    rw [this]
    have : Lib.bytesOf (l.map fun c => (c.toNat : Int)) = l := by
      simp [Lib.bytesOf, Function.comp_def]
    rw [this]; simp
  have h1 := key a g off ha
  have h2 := key b g' off' hb
  simp only [Extern.Bytes.bytesOf, Sem.run_bind, Sem.run_pure, Result.andThen, h1, h2]
  rw [Lib.cmp_eq]
  simp [goInt]
theorem compare_cases : ∀ (a b : List UInt8), compareBytes a b = if Op.bytesLess a b then -1 else if Op.bytesLess b a then 1 else 0
  | [], [] => rfl
  | [], _ :: _ => by simp [compareBytes, Op.bytesLess]
  | _ :: _, [] => by simp [compareBytes, Op.bytesLess]
  | x :: a, y :: b => by
    have ih := compare_cases a b
    unfold compareBytes Op.bytesLess
    by_cases h1 : x < y
    · simp [h1]
    · by_cases h2 : y < x
      · have : ¬ x = y := fun e => by subst e; exact h1 h2
        simp [h1, h2, this]
      · have : x = y := UInt8.le_antisymm (UInt8.not_lt.1 h2) (UInt8.not_lt.1 h1)
        subst this
        simp [h1, ih]
theorem bytesLess_asymm : ∀ (a b : List UInt8), Op.bytesLess a b = true → Op.bytesLess b a = false
  | [], [], h => by simp [Op.bytesLess] at h
  | [], _ :: _, _ => by simp [Op.bytesLess]
  | _ :: _, [], h => by simp [Op.bytesLess] at h
  | x :: a, y :: b, h => by
    simp only [Op.bytesLess, Bool.or_eq_true, Bool.and_eq_true, decide_eq_true_eq, beq_iff_eq] at h
    simp only [Op.bytesLess, Bool.or_eq_false_iff, decide_eq_false_iff_not, Bool.and_eq_false_iff, beq_eq_false_iff_ne]
    rcases h with h | ⟨rfl, h⟩
    · exact ⟨fun h' => absurd (UInt8.lt_trans h h') (UInt8.lt_irrefl _), .inl (fun e => by subst e; exact UInt8.lt_irrefl _ h)⟩
    · exact ⟨UInt8.lt_irrefl _, .inr (bytesLess_asymm a b h)⟩
theorem bytesLess_irrefl (a : List UInt8) : Op.bytesLess a a = false := by
  cases h : Op.bytesLess a a with
  | false => rfl
  | true => exact absurd (bytesLess_asymm a a h) (by rw [h]; simp)
theorem bytesLess_total : ∀ (a b : List UInt8), a ≠ b → Op.bytesLess a b = false → Op.bytesLess b a = true
  | [], [], h, _ => absurd rfl h
  | [], _ :: _, _, h => by simp [Op.bytesLess] at h
  | _ :: _, [], _, _ => by simp [Op.bytesLess]
  | x :: a, y :: b, hne, h => by
    simp only [Op.bytesLess, Bool.or_eq_false_iff, decide_eq_false_iff_not, Bool.and_eq_false_iff, beq_eq_false_iff_ne] at h
    simp only [Op.bytesLess, Bool.or_eq_true, Bool.and_eq_true, decide_eq_true_eq, beq_iff_eq]
    by_cases e : x = y
    · subst e
      refine .inr ⟨rfl, bytesLess_total a b (fun e => hne (by rw [e])) ?_⟩
      exact h.2.resolve_left (fun h' => h' rfl)
    · exact .inl (UInt8.lt_of_le_of_ne (UInt8.not_lt.1 h.1) (Ne.symm e))
theorem pC_byte (h n : List UInt8) (j : Nat) (x : UInt8) (hj : h[j]? = some x) : (pC h n)[j]? = some (.int .u8 (x.toNat : Int)) := by
  have hlt := (List.getElem?_eq_some_iff.1 hj).1
  have := pC_hash h n j (.int .u8 (x.toNat : Int)) (by rw [hC_get h j hlt]; rw [List.getElem?_eq_getElem hlt] at hj; rw [Option.some.inj hj])
  simpa using this
theorem slice_hash (g : Nat) (w : World) : (Instr.sliceAt 45 (.pointer (some ⟨g, 0, none⟩)) none none none).run Try.prog w = .ok (.slice (some ⟨g, 0, none⟩) 20 20) w := by kernel_rfl
end Go.Proofs.Ytgekpghjlhcpkaa
/-! A path as a map's key. -/
namespace Go.Proofs.Ytgekpghjlhcpkaa
open Go.RowKit Pl Go.Mp Go.Agg Go.Instr
theorem part_byte (h : List UInt8) (i : Nat) (hi : i < h.length) (w : World) : (Go.part 5 (hC h) i).run Try.prog w = .ok (.int .u8 (h[i].toNat : Int)) w := by
  unfold Go.part
  have : (isAgg 5).run Try.prog w = .ok false w := by kernel_rfl
  simp only [Sem.run_bind, this, Result.andThen_ok, Bool.false_eq_true, if_false, hC_get h i hi, Sem.run_pure]
theorem check_byte (e : Bool) (n : Nat) (k : Int) (w : World) : (checkKey e (n + 1) 5 (.int .u8 k)).run Try.prog w = .ok () w := by
  unfold checkKey
  rw [Sem.run_bind, run_underlying Try.underlying5 w]
  simp [Result.andThen]
theorem check_hash (e : Bool) (n : Nat) (h : List UInt8) (hl : h.length = 20) (w : World) : (checkKey e (n + 2) 45 (.agg (hC h))).run Try.prog w = .ok () w := by
  unfold checkKey
  rw [Sem.run_bind, run_underlying Try.underlying45 w]
  have hsz : ∀ w, (Go.sizeOf 5).run Try.prog w = .ok 1 w := fun w => by kernel_rfl
  simp only [Result.andThen_ok, Std.Legacy.Range.forIn_eq_forIn_range', Std.Legacy.Range.size, Nat.sub_zero, Nat.add_sub_cancel, Nat.div_one]
  have hall : ∀ i ∈ List.range' 0 20 1, i < h.length := fun i hi => by have := List.mem_range'_1.1 hi; omega
  generalize List.range' 0 20 1 = l at hall ⊢
  induction l with
  | nil => simp
  | cons i l ih =>
    simp only [List.forIn_cons, Sem.run_bind, hsz, Result.andThen_ok, Nat.mul_one, part_byte h i (hall i (by simp)), check_byte, Sem.run_pure]
    have := ih fun j hj => hall j (by simp [hj])
    simp only [Sem.run_bind, Sem.run_pure] at this ⊢
    exact this
theorem check_path (e : Bool) (n : Nat) (p : P20) (w : World) : (checkKey e (n + 3) 47 (pV p)).run Try.prog w = .ok () w := by
  unfold checkKey pV
  rw [Sem.run_bind, run_underlying pC_under w]
  simp only [Result.andThen_ok]
  rw [← Array.forIn_toList]
  have hf := path_fields
  generalize (Try.prog.fieldsOf 47).toList = fs at hf ⊢
  cases fs with
  | nil => exact absurd hf (by simp)
  | cons f1 fs =>
  cases fs with
  | nil => exact absurd hf (by simp)
  | cons f2 fs =>
  cases fs with
  | cons f3 fs => exact absurd hf (by simp)
  | nil =>
    simp only [List.map_cons, List.map_nil, List.cons.injEq, Prod.mk.injEq, and_true] at hf
    obtain ⟨⟨a1, a2, a3⟩, b1, b2, b3⟩ := hf
    have hstr : ∀ w, (checkKey e (n + 2) 9 (.string ⟨p.1.2.toArray⟩)).run Try.prog w = .ok () w := fun w => by
      unfold checkKey
      rw [Sem.run_bind, run_underlying Try.underlying9 w]
      simp [Result.andThen]
    simp [a1, a2, a3, b1, b2, b3, part_hash _ _ p.2, part_name _ _ p.2, check_hash e n _ p.2, hstr]
theorem bits_all (n : Nat) : ∀ (l : List Value), (∀ v ∈ l, sameBits n v v = true) → (l.zip l).all (fun (x, y) => sameBits n x y) = true
  | [], _ => rfl
  | v :: l, h => by
    simp only [List.zip_cons_cons, List.all_cons, Bool.and_eq_true]
    exact ⟨h v (by simp), bits_all n l fun u hu => h u (by simp [hu])⟩
theorem bits_path (n : Nat) (p : P20) : sameBits (n + 1) (pV p) (pV p) = true := by
  unfold pV sameBits
  simp only [beq_self_eq_true, Bool.true_and]
  refine bits_all n _ fun v hv => ?_
  simp only [pC, hC, Lib.byteCells, Array.toList_append, List.mem_append, List.mem_map] at hv
  rcases hv with ⟨c, _, rfl⟩ | hv
  · unfold sameBits; simp
  · obtain rfl : v = .string ⟨p.1.2.toArray⟩ := by simpa using hv
    unfold sameBits
    rw [beq_toListBytes]
    simp
set_option maxRecDepth 100000 in
theorem path_key : KeyEq Try.prog 47 pV where
  check := fun e p w => check_path e 9997 p w
  desc := ⟨_, pC_under, .inr ⟨fun a b => rfl, fun a b w => by
    have h := eql_path a.1.1 a.1.2 b.1.1 b.1.2 a.2 b.2 w
    rw [run_eql_struct] at h
    unfold Op.equal Op.maxDepth
    generalize hr : (Op.equalIn 10000 47 (.agg (pC a.1.1 a.1.2)) (.agg (pC b.1.1 b.1.2))).run Try.prog w = r at h
    unfold pV
    rw [hr]
    cases r with
    | ok x w' =>
      simp [Result.andThen] at h
      obtain ⟨rfl, rfl⟩ := h
      congr 1
      rw [Bool.eq_iff_iff]
      simp [Subtype.ext_iff, Prod.ext_iff]
    | halt x w' => simp [Result.andThen] at h⟩⟩
  bits := fun p => bits_path 9999 p
end Go.Proofs.Ytgekpghjlhcpkaa
/-! A hash as a map's key. -/
namespace Go.Proofs.Ytgekpghjlhcpkaa
open Go.RowKit Pl Go.Mp Go.Agg Go.Instr
def hV (h : H20) : Value := .agg (hC h.1)
theorem bits_hash (n : Nat) (h : H20) : sameBits (n + 1) (hV h) (hV h) = true := by
  unfold hV sameBits
  simp only [beq_self_eq_true, Bool.true_and]
  refine bits_all n _ fun v hv => ?_
  simp only [hC, Lib.byteCells, List.mem_map] at hv
  obtain ⟨c, _, rfl⟩ := hv
  unfold sameBits; simp
set_option maxRecDepth 100000 in
theorem hash_key : KeyEq Try.prog 45 hV where
  check := fun e h w => check_hash e 9998 h.1 h.2 w
  desc := ⟨_, Try.underlying45, .inr ⟨fun a b => rfl, fun a b w => by
    have h := eql_hash a.1 b.1 a.2 b.2 w
    rw [run_eql_struct] at h
    unfold Op.equal Op.maxDepth
    generalize hr : (Op.equalIn 10000 45 (.agg (hC a.1)) (.agg (hC b.1))).run Try.prog w = r at h
    unfold hV
    rw [hr]
    cases r with
    | ok x w' =>
      simp [Result.andThen] at h
      obtain ⟨rfl, rfl⟩ := h
      congr 1
      rw [Bool.eq_iff_iff]
      simp [Subtype.ext_iff]
    | halt x w' => simp [Result.andThen] at h⟩⟩
  bits := fun p => bits_hash 9999 p
end Go.Proofs.Ytgekpghjlhcpkaa
/-! Maps that a call makes: a look-up that does not ask whether it is there; what a new key leaves. -/
namespace Go.Mp
open Go.RowKit Go.Instr
section
variable {P : Program} {α β : Type} [DecidableEq α]
/-- what a look-up yields -/
def mval {β : Type} (ν : β → Value) (z : Value) : Option β → Value | some v => ν v | none => z
/-- 'v := m[k]' -/
theorem run_lookup0 {t K E : TypeId} {w : World} {b : Nat} {κ : α → Value} {ν : β → Value} {m : List (α × β)} {z : Value} (ht : P.underlying t = some (.map K E)) (hK : KeyEq P K κ) (hz : ∀ w, (zeroValue E).run P w = .ok z w)
    (h : MapIs w b κ ν m) (a : α) :
    (lookup t (.map (some b)) (κ a) false).run P w = .ok (mval ν z (mget m a)) w := by
  obtain ⟨es, c, hb, he⟩ := h
  unfold lookup
  rw [Sem.run_bind, run_underlying ht w]
  simp only [Result.andThen, Sem.run_bind, getObj, Sem.run, hb, Sem.run_pure, hK.check, findKey_eq hK a m es.toList w he]
  have hg := place_get m a 0
  cases hp : place m a 0 with
  | none =>
    rw [hp] at hg
    simp [← hg, hz, mval]
  | some x =>
    rw [hp] at hg
    simp [← hg, mval]
theorem mput_new' (m : List (α × β)) (x : α) (v : β) (h : mget m x = none) : mput m x v = m ++ [(x, v)] := by
  induction m with
  | nil => rfl
  | cons p r ih =>
    by_cases e : x = p.1
    · simp [mget, e] at h
    · have h' : mget r x = none := by simpa [mget, e] using h
      simp [mput, e, ih h']
theorem mget_none (m : List (α × β)) (x : α) (h : ¬ x ∈ m.map (·.1)) : mget m x = none := by
  unfold mget
  rw [List.find?_eq_none.2]
  · rfl
  · intro y hy
    simp only [decide_eq_true_eq]
    rintro rfl
    exact h (List.mem_map.2 ⟨y, hy, rfl⟩)
theorem mget_some (m : List (α × β)) (x : α) (v : β) (h : x ∈ m.map (·.1)) (hv : ∀ p ∈ m, p.2 = v) : mget m x = some v := by
  unfold mget
  cases hf : m.find? (fun p => decide (x = p.1)) with
  | some y => simp only [Option.map_some]; rw [hv y (List.mem_of_find?_eq_some hf)]
  | none =>
    rw [List.find?_eq_none] at hf
    obtain ⟨y, hy, rfl⟩ := List.mem_map.1 h
    exact absurd (hf y hy) (by simp)
variable {ops : Array Oper} {rest : List Oper} {o : Oper} {a : Act} {w : World} {Q : Exit → Act → World → Prop}
theorem wpList_lookup0 (hg : o.guard = none) (mo xo : Operand) (t K E : TypeId) (hop : o.op = Op.lookup t mo xo false) (ht : P.underlying t = some (.map K E)) {κ : α → Value} {ν : β → Value} {z : Value}
    (hK : KeyEq P K κ) (hz : ∀ w, (zeroValue E).run P w = .ok z w) {b : Nat} {m : List (α × β)} (hm : a.eval mo = .map (some b)) (h : MapIs w b κ ν m) (x : α) (hx : a.eval xo = κ x) (r : Value) (hr : mval ν z (mget m x) = r)
    (hk : wpList P ops Q rest (a.put o.dst r) w) : wpList P ops Q (o :: rest) a w := by
  refine wpList_plain hg fun K' hK' => ?_
  unfold Oper.wp
  simp [execOp, hop, hm, hx, run_lookup0 ht hK hz h x, Result.andThen, hr]
  exact hK' _ _ hk
omit [DecidableEq α] in
/-- 'make(map[K]V)', 'map[K]V{}' -/
theorem wpList_makeMap (κ : α → Value) (ν : β → Value) (hg : o.guard = none) (t : TypeId) (hop : o.op = Op.makeMap t none)
    (h : ∀ g w', MapIs w' g κ ν [] → Below w.heap.size w w' → w.heap.size ≤ g → wpList P ops Q rest (a.put o.dst (.map (some g))) w') : wpList P ops Q (o :: rest) a w := by
  refine wpList_plain hg fun K' hK' => ?_
  unfold Oper.wp
  simp [execOp, hop, run_makeMap, Result.andThen]
  exact hK' _ _ (h _ _ (MapIs.empty w κ ν) ((Below.refl _ _).alloc (Nat.le_refl _) _) (Nat.le_refl _))
end
end Go.Mp
