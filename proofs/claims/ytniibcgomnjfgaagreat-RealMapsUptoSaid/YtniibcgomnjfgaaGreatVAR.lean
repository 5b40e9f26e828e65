/- real.of and how two places stand. (Several texts in one.) -/
import Derived.Test.YtniibcgomnjfgaaGreatVAJ
import Derived.Test.YtniibcgomnjfgaaGreatVAQ
import Derived.Test.YtniibcgomnjfgaaGreatVAF
import Derived.Test.YtniibcgomnjfgaaGreatVAD
import Derived.Test.YtniibcgomnjfgaaGreatVAA
import Derived.Lib.Bytealg
/-! The places of builts: their order. -/
namespace Go.Proofs.YtniibcgomnjfgaaGreat
open Pl
open Go.Lib (compareBytes)
/-- a place: class, key, principal -/
abbrev Pla : Type := H20 × H20 × Int
instance : DecidableEq Pla := inferInstance
def plOf (x : Bu) : Pla := (x.cl, x.ky, x.by_)
def cmpI (a b : Int) : Int := if a < b then -1 else if b < a then 1 else 0
def or3 (a b c : Int) : Int := if a ≠ 0 then a else if b ≠ 0 then b else c
def cmpPl (a b : Pla) : Int := or3 (compareBytes a.1.1 b.1.1) (compareBytes a.2.1.1 b.2.1.1) (cmpI a.2.2 b.2.2)
def ltPl (a b : Pla) : Bool := Op.bytesLess a.1.1 b.1.1 || (decide (a.1 = b.1) && (Op.bytesLess a.2.1.1 b.2.1.1 || (decide (a.2.1 = b.2.1) && decide (a.2.2 < b.2.2))))
theorem cb_cases (x y : H20) : (compareBytes x.1 y.1 = -1 ∧ Op.bytesLess x.1 y.1 = true ∧ x ≠ y ∧ Op.bytesLess y.1 x.1 = false) ∨ (compareBytes x.1 y.1 = 1 ∧ Op.bytesLess y.1 x.1 = true ∧ x ≠ y ∧ Op.bytesLess x.1 y.1 = false) ∨ (compareBytes x.1 y.1 = 0 ∧ x = y) := by
  rw [compare_cases]
  by_cases e : x = y
  · subst e; simp [bytesLess_irrefl]
  · have hne : x.1 ≠ y.1 := fun h => e (Subtype.ext h)
    cases h : Op.bytesLess x.1 y.1 with
    | true => exact .inl ⟨by simp, rfl, e, bytesLess_asymm _ _ h⟩
    | false =>
      have := bytesLess_total _ _ hne h
      exact .inr (.inl ⟨by simp [this], this, e, rfl⟩)
theorem cmpPl_eq (a b : Pla) : cmpPl a b = if ltPl a b then -1 else if ltPl b a then 1 else 0 := by
  obtain ⟨a1, a2, a3⟩ := a
  obtain ⟨b1, b2, b3⟩ := b
  unfold cmpPl ltPl or3
  simp only
  rcases cb_cases a1 b1 with ⟨h1, h2, h3, h4⟩ | ⟨h1, h2, h3, h4⟩ | ⟨h1, rfl⟩
  · simp [h1, h2]
  · simp [h1, h2, h4, h3]
  · rcases cb_cases a2 b2 with ⟨g1, g2, g3, g4⟩ | ⟨g1, g2, g3, g4⟩ | ⟨g1, rfl⟩
    · simp [h1, g1, g2, bytesLess_irrefl]
    · simp [h1, g1, g2, g4, g3, bytesLess_irrefl]
    · simp [h1, g1, bytesLess_irrefl, cmpI]
theorem ltPl_irrefl (a : Pla) : ltPl a a = false := by simp [ltPl, bytesLess_irrefl]
theorem ltPl_total (a b : Pla) (hne : a ≠ b) (h : ltPl a b = false) : ltPl b a = true := by
  obtain ⟨a1, a2, a3⟩ := a
  obtain ⟨b1, b2, b3⟩ := b
  unfold ltPl at *
  simp only at *
  rcases cb_cases a1 b1 with ⟨h1, h2, h3, h4⟩ | ⟨h1, h2, h3, h4⟩ | ⟨h1, rfl⟩
  · simp [h2] at h
  · simp [h2]
  · rcases cb_cases a2 b2 with ⟨g1, g2, g3, g4⟩ | ⟨g1, g2, g3, g4⟩ | ⟨g1, rfl⟩
    · simp [g2] at h
    · simp [g2]
    · simp [bytesLess_irrefl] at h ⊢
      have : a3 ≠ b3 := fun e => hne (by rw [e])
      omega
theorem ltPl_trans (a b c : Pla) (h1 : ltPl a b = true) (h2 : ltPl b c = true) : ltPl a c = true := by
  obtain ⟨a1, a2, a3⟩ := a
  obtain ⟨b1, b2, b3⟩ := b
  obtain ⟨c1, c2, c3⟩ := c
  unfold ltPl at *
  simp only [Bool.or_eq_true, Bool.and_eq_true, decide_eq_true_eq] at *
  rcases h1 with h1 | ⟨rfl, h1⟩
  · rcases h2 with h2 | ⟨rfl, _⟩
    · exact .inl (bytesLess_trans _ _ _ h1 h2)
    · exact .inl h1
  · rcases h2 with h2 | ⟨rfl, h2⟩
    · exact .inl h2
    · refine .inr ⟨rfl, ?_⟩
      rcases h1 with h1 | ⟨rfl, h1⟩
      · rcases h2 with h2 | ⟨rfl, _⟩
        · exact .inl (bytesLess_trans _ _ _ h1 h2)
        · exact .inl h1
      · rcases h2 with h2 | ⟨rfl, h2⟩
        · exact .inl h2
        · exact .inr ⟨rfl, by omega⟩
theorem ltPl_ord : Gr.Ord ltPl := ⟨ltPl_irrefl, ltPl_trans, ltPl_total⟩
theorem cmpPl_neg (a b : Pla) : decide (cmpPl a b < 0) = ltPl a b := by
  rw [cmpPl_eq]
  cases h : ltPl a b with
  | true => simp
  | false => by_cases h2 : ltPl b a = true <;> simp [h2]
theorem cmpPl_zero (a b : Pla) : (cmpPl a b == 0) = decide (a = b) := by
  rw [cmpPl_eq]
  by_cases e : a = b
  · subst e; simp [ltPl_irrefl]
  · cases h : ltPl a b with
    | true => simp [e]
    | false => simp [ltPl_total a b e h, e]
/-- whether a built is right -/
def insB (l : List Md) : Bool := decide (l.map (·.1)).Nodup && l.all fun m => isName m.2.1.2
def rightBu (x : Bu) : Bool := isName x.pa.1.2 && (decide (1 ≤ x.by_) && (decide (x.by_ ≤ 16) && (decide (x.ins.length ≤ 8) && insB x.ins)))
theorem insB_snoc (l : List Md) (m : Md) : insB (l ++ [m]) = (insB l && (!decide (m.1 ∈ l.map (·.1)) && isName m.2.1.2)) := by
  unfold insB
  rw [Bool.eq_iff_iff]
  simp only [List.map_append, List.map_cons, List.map_nil, Bool.and_eq_true, decide_eq_true_eq, List.all_append, List.all_cons, List.all_nil, Bool.and_true, Bool.not_eq_true', decide_eq_false_iff_not, List.nodup_append, List.nodup_cons, List.not_mem_nil, not_false_iff, List.nodup_nil, and_true, List.mem_singleton]
  constructor
  · rintro ⟨⟨h1, _, h2⟩, h3, h4⟩
    exact ⟨⟨h1, h3⟩, fun h => h2 _ h _ rfl rfl, h4⟩
  · rintro ⟨⟨h1, h3⟩, h2, h4⟩
    exact ⟨⟨h1, trivial, fun a ha b hb e => h2 (by rw [← hb, ← e]; exact ha)⟩, h3, h4⟩
theorem insB_false {l : List Md} {k : Nat} (h : insB (l.take k) = false) : insB l = false := by
  cases hl : insB l with
  | false => rfl
  | true =>
    unfold insB at *
    simp only [Bool.and_eq_true, decide_eq_true_eq] at hl
    have h1 : ((l.take k).map (·.1)).Nodup := by rw [← List.take_append_drop k l, List.map_append, List.nodup_append] at hl; exact hl.1.1
    have h2 : (l.take k).all (fun m => isName m.2.1.2) = true := by
      rw [List.all_eq_true] at *
      exact fun x hx => hl.2 x (List.mem_of_mem_take hx)
    rw [h2] at h
    simp only [Bool.and_true, decide_eq_false_iff_not] at h
    exact absurd h1 h
end Go.Proofs.YtniibcgomnjfgaaGreat
/-! A hash as a map's key. -/
namespace Go.Proofs.YtniibcgomnjfgaaGreat
open Go.RowKit Pl Go.Mp Go.Agg Go.Instr
def hV (h : H20) : Value := .agg (hC h.1)
theorem bits_hash (n : Nat) (h : H20) : sameBits (n + 1) (hV h) (hV h) = true := by
  unfold hV sameBits
  simp only [beq_self_eq_true, Bool.true_and]
  refine bits_all n _ fun v hv => ?_
  simp only [hC, Lib.byteCells, List.mem_map] at hv
  obtain ⟨c, _, rfl⟩ := hv
  unfold sameBits; simp
set_option maxRecDepth 100000 in
theorem hash_key : KeyEq Tryz.prog 24 hV where
  check := fun e h w => check_hash e 9998 h.1 h.2 w
  desc := ⟨_, Tryz.underlying24, .inr ⟨fun a b => rfl, fun a b w => by
    have h := eql_hash a.1 b.1 a.2 b.2 w
    rw [run_eql_struct] at h
    unfold Op.equal Op.maxDepth
    generalize hr : (Op.equalIn 10000 24 (.agg (hC a.1)) (.agg (hC b.1))).run Tryz.prog w = r at h
    unfold hV
    rw [hr]
    cases r with
    | ok x w' =>
      simp [Result.andThen] at h
      obtain ⟨rfl, rfl⟩ := h
      congr 1
      rw [Bool.eq_iff_iff]
      simp [Subtype.ext_iff]
    | halt x w' => simp [Result.andThen] at h⟩⟩
  bits := fun p => bits_hash 9999 p
end Go.Proofs.YtniibcgomnjfgaaGreat
/-! Maps that a call makes: a look-up that does not ask whether it is there; what a new key leaves. -/
namespace Go.Mp
open Go.RowKit Go.Instr
section
variable {P : Program} {α β : Type} [DecidableEq α]
/-- what a look-up yields -/
def mval {β : Type} (ν : β → Value) (z : Value) : Option β → Value | some v => ν v | none => z
/-- 'v := m[k]' -/
theorem run_lookup0 {t K E : TypeId} {w : World} {b : Nat} {κ : α → Value} {ν : β → Value} {m : List (α × β)} {z : Value} (ht : P.underlying t = some (.map K E)) (hK : KeyEq P K κ) (hz : ∀ w, (zeroValue E).run P w = .ok z w)
    (h : MapIs w b κ ν m) (a : α) :
    (lookup t (.map (some b)) (κ a) false).run P w = .ok (mval ν z (mget m a)) w := by
  obtain ⟨es, c, hb, he⟩ := h
  unfold lookup
  rw [Sem.run_bind, run_underlying ht w]
  simp only [Result.andThen, Sem.run_bind, getObj, Sem.run, hb, Sem.run_pure, hK.check, findKey_eq hK a m es.toList w he]
  have hg := place_get m a 0
  cases hp : place m a 0 with
  | none =>
    rw [hp] at hg
    simp [← hg, hz, mval]
  | some x =>
    rw [hp] at hg
    simp [← hg, mval]
theorem mput_new' (m : List (α × β)) (x : α) (v : β) (h : mget m x = none) : mput m x v = m ++ [(x, v)] := by
  induction m with
  | nil => rfl
  | cons p r ih =>
    by_cases e : x = p.1
    · simp [mget, e] at h
    · have h' : mget r x = none := by simpa [mget, e] using h
      simp [mput, e, ih h']
theorem mget_none (m : List (α × β)) (x : α) (h : ¬ x ∈ m.map (·.1)) : mget m x = none := by
  unfold mget
  rw [List.find?_eq_none.2]
  · rfl
  · intro y hy
    simp only [decide_eq_true_eq]
    rintro rfl
    exact h (List.mem_map.2 ⟨y, hy, rfl⟩)
theorem mget_some (m : List (α × β)) (x : α) (v : β) (h : x ∈ m.map (·.1)) (hv : ∀ p ∈ m, p.2 = v) : mget m x = some v := by
  unfold mget
  cases hf : m.find? (fun p => decide (x = p.1)) with
  | some y => simp only [Option.map_some]; rw [hv y (List.mem_of_find?_eq_some hf)]
  | none =>
    rw [List.find?_eq_none] at hf
    obtain ⟨y, hy, rfl⟩ := List.mem_map.1 h
    exact absurd (hf y hy) (by simp)
variable {ops : Array Oper} {rest : List Oper} {o : Oper} {a : Act} {w : World} {Q : Exit → Act → World → Prop}
theorem wpList_lookup0 (hg : o.guard = none) (mo xo : Operand) (t K E : TypeId) (hop : o.op = Op.lookup t mo xo false) (ht : P.underlying t = some (.map K E)) {κ : α → Value} {ν : β → Value} {z : Value}
    (hK : KeyEq P K κ) (hz : ∀ w, (zeroValue E).run P w = .ok z w) {b : Nat} {m : List (α × β)} (hm : a.eval mo = .map (some b)) (h : MapIs w b κ ν m) (x : α) (hx : a.eval xo = κ x) (r : Value) (hr : mval ν z (mget m x) = r)
    (hk : wpList P ops Q rest (a.put o.dst r) w) : wpList P ops Q (o :: rest) a w := by
  refine wpList_plain hg fun K' hK' => ?_
  unfold Oper.wp
  simp [execOp, hop, hm, hx, run_lookup0 ht hK hz h x, Result.andThen, hr]
  exact hK' _ _ hk
omit [DecidableEq α] in
/-- 'make(map[K]V)', 'map[K]V{}' -/
theorem wpList_makeMap (κ : α → Value) (ν : β → Value) (hg : o.guard = none) (t : TypeId) (hop : o.op = Op.makeMap t none)
    (h : ∀ g w', MapIs w' g κ ν [] → Below w.heap.size w w' → w.heap.size ≤ g → wpList P ops Q rest (a.put o.dst (.map (some g))) w') : wpList P ops Q (o :: rest) a w := by
  refine wpList_plain hg fun K' hK' => ?_
  unfold Oper.wp
  simp [execOp, hop, run_makeMap, Result.andThen]
  exact hK' _ _ (h _ _ (MapIs.empty w κ ν) ((Below.refl _ _).alloc (Nat.le_refl _) _) (Nat.le_refl _))
end
end Go.Mp
/-! real.Right of any built. -/
namespace Go.Proofs.YtniibcgomnjfgaaGreat
open Go.RowKit Pl Go.Agg Go.Mp
def nI : Int → Value := fun n => .int .i64 n
theorem zeroI (w : World) : (zeroValue 3).run Tryz.prog w = .ok (.int .i64 0) w := by kernel_rfl
def seenM (l : List Md) : List (H20 × Int) := l.map fun m => (m.1, 1)
theorem seenM_keys (l : List Md) : (seenM l).map (·.1) = l.map (·.1) := by simp [seenM]
theorem seen_hit {l : List Md} {c : H20} (h : c ∈ l.map (·.1)) : mval nI (.int .i64 0) (mget (seenM l) c) = .int .i64 1 := by
  rw [mget_some (seenM l) c 1 (by rw [seenM_keys]; exact h) (by intro p hp; obtain ⟨m, _, rfl⟩ := List.mem_map.1 hp; rfl)]
  rfl
theorem seen_miss {l : List Md} {c : H20} (h : ¬ c ∈ l.map (·.1)) : mval nI (.int .i64 0) (mget (seenM l) c) = .int .i64 0 := by
  rw [mget_none (seenM l) c (by rw [seenM_keys]; exact h)]; rfl
set_option maxRecDepth 100000 in
set_option maxHeartbeats 4000000 in
theorem buRight_any (x : BuV) (w : World) (hi : InsAt w x) :
    Calls Tryz.prog 35 #[.agg (bC x)] w fun e w' => e = .returned (.bool (rightBu x.1)) ∧ Below w.heap.size w w' := by
  have HE := Lib.hid (show MdsAt w (ivV x.2) x.1.ins from hi)
  have hlv := fun W => mds_len (w := w) (l := x.1.ins) hi W
  obtain ⟨a1, ha1⟩ : ∃ b, isName x.1.pa.1.2 = b := ⟨_, rfl⟩
  have HNM := Lib.hid (fun W => (show Calls Tryz.prog 65 #[.string ⟨x.1.pa.1.2.toArray⟩] W fun e w' => e = .returned (.bool a1) ∧ Below W.heap.size W w' by have := name_any x.1.pa.1.2 W; rwa [ha1] at this))
  have HR := Lib.hid (show rightBu x.1 = (a1 && (decide (1 ≤ x.1.by_) && (decide (x.1.by_ ≤ 16) && (decide (x.1.ins.length ≤ 8) && insB x.1.ins)))) by unfold rightBu; rw [ha1])
  clear hi ha1
  go_enter Tryz.func35, Tryz.ntmps35
  go_wp2_with (first | (with_reducible refine wpList_box rfl 29 _ rfl (bC x) rfl ?_; intro g w1 hb1 hx1 hg1; have HL := Lib.hid (BuG.of_blk hb1); have HX := Lib.hid hx1; clear hb1 hx1 hg1) | (with_reducible refine wpList_loadL HL.out.pname rfl _ rfl rfl ?_))
  refine (HNM.out _).mono ?_
  rintro e w2 ⟨rfl, hx2⟩
  have HL := Lib.hid (HL.out.below hx2)
  have HX := Lib.hid (Agg.belowThen HX.out (Nat.le_refl _) hx2)
  clear hx2
  cases a1 with
  | false =>
    go_wp2_with fail
    go_ret
    exact ⟨ret_bool (by rw [HR.out]; rfl), HX.out⟩
  | true =>
  by_cases h1 : x.1.by_ < 1
  · go_wp2_with (first | (with_reducible refine wpList_loadL HL.out.by_ rfl _ rfl rfl ?_))
    go_ret
    exact ⟨ret_bool (by rw [HR.out]; simp; omega), HX.out⟩
  by_cases h2 : 16 < x.1.by_
  · go_wp2_with (first | (with_reducible refine wpList_loadL HL.out.by_ rfl _ rfl rfl ?_))
    go_ret
    exact ⟨ret_bool (by rw [HR.out]; simp; omega), HX.out⟩
  by_cases h3 : 8 < (x.1.ins.length : Int)
  · go_wp2_with (first | (with_reducible refine wpList_loadL HL.out.by_ rfl _ rfl rfl ?_) | (with_reducible refine wpList_loadL HL.out.ins rfl _ rfl rfl ?_))
    go_ret
    exact ⟨ret_bool (by rw [HR.out]; simp; omega), HX.out⟩
  have HR := Lib.hid (show rightBu x.1 = insB x.1.ins by rw [HR.out]; simp [show (1 : Int) ≤ x.1.by_ by omega, show x.1.by_ ≤ 16 by omega, show x.1.ins.length ≤ 8 by omega])
  have hd1 : decide (x.1.by_ < 1) = false := by simp; omega
  have hd2 : decide (16 < x.1.by_) = false := by simp; omega
  have hd3 : decide (8 < (x.1.ins.length : Int)) = false := by simp; omega
  clear h1 h2
  go_wp2_with (first | (with_reducible refine wpList_loadL HL.out.by_ rfl _ rfl rfl ?_) | (with_reducible refine wpList_loadL HL.out.ins rfl _ rfl rfl ?_) | (with_reducible refine wpList_makeMap hV nI rfl 117 rfl ?_; intro gm w3 hm3 hx3 hg3; have HM := Lib.hid hm3; have HL3 := Lib.hid (HL.out.below hx3); have HX3 := Lib.hid (Agg.belowThen HX.out (Nat.le_refl _) hx3); have HE3 := Lib.hid (SliceOf.below (HE.out.below HX.out) hx3); have HG := Lib.hid (Nat.le_trans HX.out.size hg3); clear hm3 hx3 hg3) | (with_reducible refine wpList_loadL HL3.out.ins rfl _ rfl rfl ?_))
  go_loopw [31] (fun i wr => ∃ k : Nat, k ≤ x.1.ins.length ∧ i = .int .i64 k ∧ MapIs wr gm hV nI (seenM (x.1.ins.take k)) ∧ insB (x.1.ins.take k) = true ∧ Below w.heap.size w wr) (fun i _ => x.1.ins.length - (intOf i).toNat)
  case atStart => exact ⟨0, by omega, rfl, HM.out, rfl, HX3.out⟩
  case round =>
    clear HM
    obtain ⟨wr1, rfl⟩ : ∃ y : World, y = wr := ⟨_, rfl⟩
    obtain ⟨k, hk, rfl, hm, hin, hw⟩ := hrel
    have HM := Lib.hid hm
    have HI := Lib.hid hin
    have HW := Lib.hid hw
    clear hm hin hw
    by_cases hlt : k < x.1.ins.length
    · have hd : decide ((k : Int) < (x.1.ins.length : Int)) = true := by simp; omega
      obtain ⟨m, hmk⟩ : ∃ m, x.1.ins[k]? = some m := ⟨_, List.getElem?_eq_getElem hlt⟩
      obtain ⟨q, hadr, hq⟩ := mds_at (HE.out.below HW.out) k m hmk
      have HQ := Lib.hid hq
      have HK := Lib.hid (show x.1.ins.take (k + 1) = x.1.ins.take k ++ [m] by rw [List.take_add_one, hmk]; rfl)
      clear hq hmk
      by_cases hin : m.1 ∈ (x.1.ins.take k).map (·.1)
      · have HIN := Lib.hid hin
        have hfl : insB x.1.ins = false := insB_false (k := k + 1) (by rw [HK.out, insB_snoc, decide_eq_true hin]; simp)
        clear hin
        go_wp2_with (first | (with_reducible refine wpList_loadL HQ.out.all rfl _ rfl rfl ?_) | (refine wpList_new rfl rfl rfl 54 5 34 rfl rfl rfl (by decide) (mC zM) (mC m) mC_zero (by rw [mC_size, mC_size]) (mC_info m) (mC_one m) rfl (by simp [Act.put]) ?_; intro g5 w5 hb5 hx5 hg5; have HG5 := Lib.hid (MdG.of_blk hb5); have HM5 := Lib.hid (HM.out.keep (hx5.block _ HM.out.lt)); have HW5 := Lib.hid (Agg.belowThen HW.out (Nat.le_refl _) hx5); clear hb5 hx5 hg5) | (with_reducible refine wpList_loadL HG5.out.cls rfl _ rfl rfl ?_) | (at_lookup; refine Mp.wpList_lookup0 rfl _ _ 117 24 3 rfl Tryz.underlying117 hash_key zeroI rfl HM5.out m.1 rfl _ (seen_hit HIN.out) ?_))
        go_ret
        exact ⟨ret_bool (by rw [HR.out]; exact hfl.symm), HW5.out⟩
      · have HIN := Lib.hid hin
        clear hin
        go_wp2_with (first | (with_reducible refine wpList_loadL HQ.out.all rfl _ rfl rfl ?_) | (refine wpList_new rfl rfl rfl 54 5 34 rfl rfl rfl (by decide) (mC zM) (mC m) mC_zero (by rw [mC_size, mC_size]) (mC_info m) (mC_one m) rfl (by simp [Act.put]) ?_; intro g5 w5 hb5 hx5 hg5; have HG5 := Lib.hid (MdG.of_blk hb5); have HM5 := Lib.hid (HM.out.keep (hx5.block _ HM.out.lt)); have HW5 := Lib.hid (Agg.belowThen HW.out (Nat.le_refl _) hx5); clear hb5 hx5 hg5) | (with_reducible refine wpList_loadL HG5.out.cls rfl _ rfl rfl ?_) | (at_lookup; refine Mp.wpList_lookup0 rfl _ _ 117 24 3 rfl Tryz.underlying117 hash_key zeroI rfl HM5.out m.1 rfl _ (seen_miss HIN.out) ?_) | (with_reducible refine wpList_loadL HG5.out.pname rfl _ rfl rfl ?_))
        refine (name_any m.2.1.2 _).mono ?_
        rintro e w6 ⟨rfl, hx6⟩
        have HM6 := Lib.hid (HM5.out.keep (hx6.block _ HM5.out.lt))
        have HW6 := Lib.hid (Agg.belowThen HW5.out (Nat.le_refl _) hx6)
        have HG6 := Lib.hid (HG5.out.below hx6)
        clear hx6
        cases hnm : isName m.2.1.2 with
        | false =>
          have hfl : insB x.1.ins = false := insB_false (k := k + 1) (by rw [HK.out, insB_snoc, hnm]; simp)
          go_wp2_with fail
          go_ret
          exact ⟨ret_bool (by rw [HR.out]; exact hfl.symm), HW6.out⟩
        | true =>
          have HNN := Lib.hid hnm
          clear hnm
          go_wp2_with (first | (with_reducible refine wpList_loadL HG6.out.cls rfl _ rfl rfl ?_) | (refine Mp.wpList_mapUpdate rfl rfl _ _ _ 117 24 3 rfl Tryz.underlying117 hash_key rfl HM6.out m.1 rfl (1 : Int) rfl ?_; intro w7 hm7 hb7; have HM7 := Lib.hid hm7; have HW7 := Lib.hid (hb7.below HW6.out HG.out); clear hm7 hb7))
          go_roundw
          case rel =>
            refine ⟨k + 1, by omega, by go_num, ?_, by rw [HK.out, insB_snoc, HI.out, HNN.out, decide_eq_false HIN.out]; rfl, HW7.out⟩
            have := HM7.out
            rw [mput_new' _ _ _ (mget_none _ _ (by rw [seenM_keys]; exact HIN.out))] at this
            rw [HK.out]
            simpa [seenM] using this
          case measure => simp [intOf]; omega
    · obtain rfl : k = x.1.ins.length := by omega
      rw [List.take_length] at HI
      go_wp2_with fail
      go_ret
      exact ⟨ret_bool (by rw [HR.out]; exact HI.out.symm), HW.out⟩
end Go.Proofs.YtniibcgomnjfgaaGreat
/-! real.of and how two places stand. -/
namespace Go.Proofs.YtniibcgomnjfgaaGreat
open Go.RowKit Pl Go.Agg
open Go.Lib (compareBytes)
/-- ints as elements -/
def EZ : Elem Tryz.prog Int where
  ty := 3
  st := 149
  n := 1
  bytes := 8
  val := fun c => .int .i64 c
  zero := .int .i64 0
  pos := by omega
  small := by omega
  size := fun x => rfl
  one := fun x v hv => by
    obtain rfl : v = .int .i64 x := by simpa [Value.cells] using hv
    rfl
  zsize := rfl
  slice := by kernel_rfl
  info := info_of (by kernel_rfl) (by kernel_rfl) (by kernel_rfl)
  load := fun w a x hp h => LoadsL.of_cell (by have := h 0 _ rfl; rwa [show a.add 0 = a from rfl] at this) Tryz.underlying3 rfl
theorem ints_lenZ {w : World} {v : Value} {l : List Int} (h : SliceOf EZ w v l) (W : World) : (Builtin.len_ #[149] 3 #[v]).run Tryz.prog W = .ok (.int .i64 (l.length : Int)) W := h.len W
theorem wpList_ints3 {ops : Array Oper} {rest : List Oper} {o : Oper} {a : Act} {w : World} {Q : Exit → Act → World → Prop} (hg : o.guard = none) (x y z : Operand) (ho : o.op = .buildSlice 149 3 #[(0, x), (1, y), (2, z)]) (p q r : Int) (hx : a.eval x = .int .i64 p) (hy : a.eval y = .int .i64 q) (hz : a.eval z = .int .i64 r)
    (h : ∀ v' w', SliceOf EZ w' v' [p, q, r] → Below w.heap.size w w' → wpList Tryz.prog ops Q rest (a.put o.dst v') w') : wpList Tryz.prog ops Q (o :: rest) a w := by
  have hb : (Instr.buildSlice 149 3 #[(0, .int .i64 p), (1, .int .i64 q), (2, .int .i64 r)]).run Tryz.prog w = .ok (.slice (some ⟨w.heap.size, 0, none⟩) 3 3) (w.alloc (.cells #[.int .i64 p, .int .i64 q, .int .i64 r] 3)) := by kernel_rfl
  have hB := Blk.new w 3 #[.int .i64 p, .int .i64 q, .int .i64 r]
  refine wpList_val hg (v := .slice (some ⟨w.heap.size, 0, none⟩) 3 3) (w' := w.alloc (.cells #[.int .i64 p, .int .i64 q, .int .i64 r] 3)) (by simp [execOp, ho, hx, hy, hz, hb]) (h _ _ (.inr ⟨_, 3, rfl, hB.lt, fun j u hj => ?_⟩) ((Below.refl _ _).alloc (Nat.le_refl _) _))
  have e : EZ.flat [p, q, r] = (#[.int .i64 p, .int .i64 q, .int .i64 r] : Array Value).toList := rfl
  rw [e] at hj
  rw [add_plain, Nat.zero_add, hB.cell, ← Array.getElem?_toList]; exact hj
def orL : List Int → Int | [] => 0 | a :: l => if a = 0 then orL l else a
theorem orL_zero : ∀ (l : List Int) (k : Nat), (∀ j, j < k → l[j]? = some 0) → orL l = orL (l.drop k)
  | _, 0, _ => rfl
  | [], k + 1, _ => rfl
  | a :: l, k + 1, h => by
    have h0 := h 0 (by omega)
    obtain rfl : a = 0 := by simpa using h0
    simp only [orL, if_true, List.drop_succ_cons]
    exact orL_zero l k fun j hj => by simpa using h (j + 1) (by omega)
theorem orL_three (a b c : Int) : orL [a, b, c] = or3 a b c := by
  unfold or3 orL orL orL orL
  by_cases ha : a = 0 <;> by_cases hb : b = 0 <;> by_cases hc : c = 0 <;> simp [ha, hb, hc]
set_option maxRecDepth 100000 in
set_option maxHeartbeats 1000000 in
theorem orInt_any (v : Value) (l : List Int) (w : World) (hn : l.length ≤ 1048576) (hs : SliceOf EZ w v l) :
    Calls Tryz.prog 66 #[v] w fun e w' => e = .returned (.int .i64 (orL l)) ∧ Below w.heap.size w w' := by
  have HS := Lib.hid hs
  have hlv := fun W => ints_lenZ hs W
  clear hs
  go_enter Tryz.func66, Tryz.ntmps66
  go_wp2_with fail
  go_loopw [8] (fun i wr => ∃ k : Nat, k ≤ l.length ∧ i = .int .i64 k ∧ (∀ j, j < k → l[j]? = some 0) ∧ Below w.heap.size w wr) (fun i _ => l.length - (intOf i).toNat)
  case atStart => exact ⟨0, by omega, rfl, fun j hj => absurd hj (by omega), Below.refl _ _⟩
  case round =>
    obtain ⟨wr1, rfl⟩ : ∃ y : World, y = wr := ⟨_, rfl⟩
    obtain ⟨k, hk, rfl, hz, hw⟩ := hrel
    have HZ := Lib.hid hz
    have HW := Lib.hid hw
    clear hz hw
    by_cases hlt : k < l.length
    · have hd : decide ((k : Int) < (l.length : Int)) = true := by simp; omega
      obtain ⟨m, hmk⟩ : ∃ m, l[k]? = some m := ⟨_, List.getElem?_eq_getElem hlt⟩
      obtain ⟨q, hadr, _, _, hq⟩ := (HS.out.below HW.out).at_ k m hmk
      have hadr : ∀ W, (Instr.indexAt 149 v (.int .i64 (k : Int))).run Tryz.prog W = .ok (.pointer (some q)) W := hadr
      have HQ := Lib.hid (show LoadsL Tryz.prog wr1 3 (some q) (.int .i64 m) from hq)
      have HK := Lib.hid hmk
      clear hq hmk
      by_cases hm : m = 0
      · subst hm
        go_wp2_with (first | (with_reducible refine wpList_loadL HQ.out rfl _ rfl rfl ?_))
        go_roundw
        case rel =>
          refine ⟨k + 1, by omega, by go_num, fun j hj => ?_, HW.out⟩
          by_cases e : j = k
          · subst e; exact HK.out
          · exact HZ.out j (by omega)
        case measure => simp [intOf]; omega
      · have hb : (m != 0) = true := by simp [hm]
        go_wp2_with (first | (with_reducible refine wpList_loadL HQ.out rfl _ rfl rfl ?_))
        go_ret
        refine ⟨?_, HW.out⟩
        rw [orL_zero l k HZ.out, List.drop_eq_getElem_cons hlt]
        have : l[k] = m := by have := HK.out; rw [List.getElem?_eq_getElem hlt] at this; exact Option.some.inj this
        simp [orL, this, hm]
    · obtain rfl : k = l.length := by omega
      go_wp2_with fail
      go_ret
      refine ⟨?_, HW.out⟩
      rw [orL_zero l l.length HZ.out]
      simp [orL]
theorem isNaNI_any (s : Int) (w : World) : Calls Tryz.prog 106 #[.int .i64 s] w fun e w' => e = .returned (.bool false) ∧ w = w' := by
  go_enter Tryz.func106, Tryz.ntmps106
  go_wp2
  all_goals go_ret
  all_goals simp
theorem cmpInt_any (a b : Int) (w : World) : Calls Tryz.prog 68 #[.int .i64 a, .int .i64 b] w fun e w' => e = .returned (.int .i64 (cmpI a b)) ∧ w = w' := by
  go_enter Tryz.func68, Tryz.ntmps68
  go_wp2_with fail
  refine (isNaNI_any a _).mono ?_
  rintro e w1 ⟨rfl, rfl⟩
  go_wp2_with fail
  refine (isNaNI_any b _).mono ?_
  rintro e w1 ⟨rfl, rfl⟩
  by_cases h1 : a < b
  · have h1d := decide_eq_true h1
    go_wp2_with fail
    go_ret
    exact ⟨by simp [cmpI, h1], rfl⟩
  · by_cases h2 : b < a
    · have h1d := decide_eq_false h1
      have h2d := decide_eq_true h2
      go_wp2_with fail
      go_ret
      exact ⟨by simp [cmpI, h1, h2], rfl⟩
    · have h1d := decide_eq_false h1
      have h2d := decide_eq_false h2
      go_wp2_with fail
      go_ret
      exact ⟨by unfold cmpI; rw [if_neg (by omega), if_neg (by omega)]; rfl, rfl⟩
/-- a place's cells -/
def plC (p : Pla) : Array Value := hC p.1.1 ++ (hC p.2.1.1 ++ #[.int .i64 p.2.2])
theorem plC_size (p : Pla) : (plC p).size = 41 := by simp [plC, hC_size, p.1.2, p.2.1.2]
theorem plC_one (p : Pla) : (plC p).all (·.oneCell') = true := by rw [plC, Array.all_append, Array.all_append, hC_one, hC_one]; simp [Value.oneCell']
theorem plC_cl (p : Pla) (j : Nat) (v : Value) (h : (hC p.1.1)[j]? = some v) : (plC p)[0 + j]? = some v := by
  have := (Array.getElem?_eq_some_iff.1 h).1
  rw [plC, Nat.zero_add, Array.getElem?_append_left this]; exact h
theorem plC_ky (p : Pla) (j : Nat) (v : Value) (h : (hC p.2.1.1)[j]? = some v) : (plC p)[20 + j]? = some v := by
  have := (Array.getElem?_eq_some_iff.1 h).1
  rw [plC, Array.getElem?_append_right (by rw [hC_size, p.1.2]; omega), hC_size, p.1.2, show 20 + j - 20 = j by omega, Array.getElem?_append_left this]; exact h
theorem plC_by (p : Pla) : (plC p)[40]? = some (.int .i64 p.2.2) := by
  rw [plC, Array.getElem?_append_right (by rw [hC_size, p.1.2]; omega), hC_size, p.1.2, Array.getElem?_append_right (by rw [hC_size, p.2.1.2]; omega), hC_size, p.2.1.2]; rfl
def zPl : Pla := (⟨z20, rfl⟩, ⟨z20, rfl⟩, 0)
theorem plC_zero : (Tryz.prog.info? 69).map (·.zero) = some (some (.agg (plC zPl))) := by kernel_rfl
theorem plC_info (p : Pla) : (Tryz.prog.info? 69).map (·.size) = some (plC p).size := by rw [plC_size]; kernel_rfl
theorem plC_under : Tryz.prog.underlying 69 = some (.struct (Tryz.prog.fieldsOf 69)) := by kernel_rfl
theorem plBuilt : ∀ parts, Tryz.prog.built 69 parts = Instr.fill (#[(0, 20), (20, 20), (40, 1)][·]?) (plC zPl) parts := fun _ => by kernel_rfl
theorem build_place (p : Pla) (w : World) : (Instr.build 69 #[(0, .agg (hC p.1.1)), (1, .agg (hC p.2.1.1)), (2, .int .i64 p.2.2)]).run Tryz.prog w = .ok (.agg (plC p)) w := by
  have h1 : (hC p.1.1).size = 20 := by rw [hC_size, p.1.2]
  have h2 : (hC p.2.1.1).size = 20 := by rw [hC_size, p.2.1.2]
  have hz : (plC zPl).size = 41 := plC_size _
  have hs1 : (Go.Agg.splice (plC zPl) 0 (hC p.1.1)).size = 41 := by rw [Go.Agg.splice_size _ _ _ (by omega), hz]
  have hs2 : (Go.Agg.splice (Go.Agg.splice (plC zPl) 0 (hC p.1.1)) 20 (hC p.2.1.1)).size = 41 := by rw [Go.Agg.splice_size _ _ _ (by omega), hs1]
  refine run_build w _ _ _ ?_
  rw [plBuilt]
  rw [fill_cons (off := 0) (size := 20) rfl (by simp only [Value.cells]; exact h1) (by omega)]
  rw [fill_cons (off := 20) (size := 20) rfl (by simp only [Value.cells]; exact h2) (by simp only [Value.cells]; omega)]
  rw [fill_cons (off := 40) (size := 1) rfl rfl (by simp only [Value.cells]; omega)]
  rw [fill_nil]
  refine congrArg some ?_
  clear hs1 hs2
  simp only [Value.cells]
  generalize plC zPl = Z at *
  apply Array.ext'
  have l1 : (hC p.1.1).toList.length = 20 := by rw [Array.length_toList]; exact h1
  have l2 : (hC p.2.1.1).toList.length = 20 := by rw [Array.length_toList]; exact h2
  have l3 : Z.toList.length = 41 := by rw [Array.length_toList]; exact hz
  simp [Go.Agg.splice, plC, List.take_append, List.drop_append, h1, h2, l1, l2, l3, List.take_of_length_le, List.drop_eq_nil_of_le]
/-- what lies in a box with a place -/
structure PlG (w : World) (b : Nat) (p : Pla) : Prop where
  blk : Blk w b 69 (plC p)
  all : LoadsL Tryz.prog w 69 (some ⟨b, 0, none⟩) (.agg (plC p))
  by_ : LoadsL Tryz.prog w 3 (some ⟨b, 40, none⟩) (.int .i64 p.2.2)
theorem PlG.of_blk {w : World} {b : Nat} {p : Pla} (h : Blk w b 69 (plC p)) : PlG w b p where
  blk := h
  all := h.loads plC_under rfl (plC_info p)
  by_ := h.one 40 (plC_by p) Tryz.underlying3 rfl
theorem PlG.below {w w' : World} {b : Nat} {p : Pla} (h : PlG w b p) (hb : Below w.heap.size w w') : PlG w' b p := ⟨h.blk.below hb, h.all.below hb, h.by_.below hb⟩
theorem hC_byte (h : List UInt8) (j : Nat) (x : UInt8) (hj : h[j]? = some x) : (hC h)[j]? = some (.int .u8 (x.toNat : Int)) := by
  have hlt := (List.getElem?_eq_some_iff.1 hj).1
  rw [hC_get h j hlt]; rw [List.getElem?_eq_getElem hlt] at hj; rw [Option.some.inj hj]
theorem PlG.byteC {w : World} {b : Nat} {p : Pla} (h : PlG w b p) (j : Nat) (x : UInt8) (hj : p.1.1[j]? = some x) : w.cell? ⟨b, 0 + j, none⟩ = some (.int .u8 (x.toNat : Int)) := by rw [h.blk.cell]; exact plC_cl p j _ (hC_byte _ j x hj)
theorem PlG.byteK {w : World} {b : Nat} {p : Pla} (h : PlG w b p) (j : Nat) (x : UInt8) (hj : p.2.1.1[j]? = some x) : w.cell? ⟨b, 20 + j, none⟩ = some (.int .u8 (x.toNat : Int)) := by rw [h.blk.cell]; exact plC_ky p j _ (hC_byte _ j x hj)
theorem slice_hash0 (g : Nat) (w : World) : (Instr.sliceAt 24 (.pointer (some ⟨g, 0, none⟩)) none none none).run Tryz.prog w = .ok (.slice (some ⟨g, 0, none⟩) 20 20) w := by kernel_rfl
theorem slice_hash20 (g : Nat) (w : World) : (Instr.sliceAt 24 (.pointer (some ⟨g, 20, none⟩)) none none none).run Tryz.prog w = .ok (.slice (some ⟨g, 20, none⟩) 20 20) w := by kernel_rfl
theorem hash_cmp {w : World} (a b : H20) (g off g' off' : Nat) (ha : ∀ j x, a.1[j]? = some x → w.cell? ⟨g, off + j, none⟩ = some (.int .u8 (x.toNat : Int))) (hb : ∀ j x, b.1[j]? = some x → w.cell? ⟨g', off' + j, none⟩ = some (.int .u8 (x.toNat : Int))) :
    Calls Tryz.prog 67 #[.slice (some ⟨g, off, none⟩) 20 20, .slice (some ⟨g', off', none⟩) 20 20] w fun e w' => e = .returned (.int .i64 (compareBytes a.1 b.1)) ∧ w = w' := by
  have := bytesCompare_any w a.1 b.1 g off g' off' 20 20 ha hb
  rwa [a.2, b.2] at this
set_option maxRecDepth 100000 in
set_option maxHeartbeats 4000000 in
theorem against_any (p q : Pla) (w : World) :
    Calls Tryz.prog 39 #[.agg (plC p), .agg (plC q)] w fun e w' => e = .returned (.int .i64 (cmpPl p q)) ∧ Below w.heap.size w w' := by
  go_enter Tryz.func39, Tryz.ntmps39
  go_wp2_with (first | (with_reducible refine wpList_box rfl 69 _ rfl (plC p) rfl ?_; intro g1 w1 hb1 hx1 hg1; have HP1 := Lib.hid (PlG.of_blk hb1); have HX1 := Lib.hid hx1; clear hb1 hx1 hg1) | (with_reducible refine wpList_box rfl 69 _ rfl (plC q) rfl ?_; intro g2 w2 hb2 hx2 hg2; have HQ2 := Lib.hid (PlG.of_blk hb2); have HP2 := Lib.hid (HP1.out.below hx2); have HX2 := Lib.hid (Agg.belowThen HX1.out (Nat.le_refl _) hx2); clear hb2 hx2 hg2))
  have hs0 := slice_hash0
  have hs20 := slice_hash20
  have HC := Lib.hid (fun x : Later w2 => hash_cmp p.1 q.1 g1 0 g2 0 (HP2.out.below x.h).byteC (HQ2.out.below x.h).byteC)
  have HK := Lib.hid (fun x : Later w2 => hash_cmp p.2.1 q.2.1 g1 20 g2 20 (HP2.out.below x.h).byteK (HQ2.out.below x.h).byteK)
  try simp only [List.append_eq, List.cons_append, List.nil_append]
  try simp only [Act.put, List.setIfInBounds_toArray, List.set_cons_succ, List.set_cons_zero]
  refine Agg.wp_region_row 15 (fun w' => ∃ x : Later w2, w' = x.w) (by kernel_rfl) (by kernel_rfl) ⟨⟨_, (Below.refl _ _).drew⟩, rfl⟩ ?_
  simp only [List.take_succ_cons, List.take_zero, List.drop_succ_cons, List.drop_zero]
  repeat (first | go_big_quiet_skip | ((first | (with_reducible refine Agg.wpQuiet_loadL HP2.out.by_ rfl _ rfl rfl ?_) | (with_reducible refine Agg.wpQuiet_loadL HQ2.out.by_ rfl _ rfl rfl ?_)); simp only [Act.put, List.setIfInBounds_toArray, List.set_cons_succ, List.set_cons_zero]) | go_big_quiet_step ((first | (go_at_call 67; exact Agg.Calls.later_same (HC.out _)) | (go_at_call 67; exact Agg.Calls.later_same (HK.out _)) | (go_at_call 68; exact Agg.Calls.later_same (cmpInt_any _ _ _)))))
  refine wpQuiet_nil ?_
  intro _ hw'
  obtain ⟨x1, rfl⟩ := hw'
  go_wp2_with (first | (refine wpList_ints3 rfl _ _ _ rfl _ _ _ rfl rfl rfl ?_; intro v8 w8 hs8 hx8; have HS8 := Lib.hid hs8; have HX8 := Lib.hid (Agg.belowThen (Agg.belowThen HX2.out (Nat.le_refl _) x1.h) (Nat.le_refl _) hx8); clear hs8 hx8))
  refine (orInt_any _ _ _ (by simp) HS8.out).mono ?_
  rintro e w9 ⟨rfl, hx9⟩
  go_wp2_with fail
  go_ret
  exact ⟨by rw [orL_three]; rfl, Agg.belowThen HX8.out (Nat.le_refl _) hx9⟩
set_option maxRecDepth 100000 in
set_option maxHeartbeats 4000000 in
theorem of_any (x : BuV) (w : World) :
    Calls Tryz.prog 37 #[.agg (bC x)] w fun e w' => e = .returned (.agg (plC (plOf x.1))) ∧ Below w.heap.size w w' := by
  go_enter Tryz.func37, Tryz.ntmps37
  go_wp2_with (first | (with_reducible refine wpList_box rfl 29 _ rfl (bC x) rfl ?_; intro g1 w1 hb1 hx1 hg1; have HL1 := Lib.hid (BuG.of_blk hb1); have HX1 := Lib.hid hx1; clear hb1 hx1 hg1) | (with_reducible refine wpList_zero rfl 69 rfl (plC zPl) plC_zero ?_; intro g2 w2 hb2 hx2 hg2; have HB2 := Lib.hid hb2; have HL2 := Lib.hid (HL1.out.below hx2); have HX2 := Lib.hid (Agg.belowThen HX1.out (Nat.le_refl _) hx2); have HG2 := Lib.hid (Nat.le_trans HX1.out.size hg2); clear hb2 hx2 hg2) | (with_reducible refine wpList_loadL HL2.out.cls rfl _ rfl rfl ?_) | (with_reducible refine wpList_loadL HL2.out.key rfl _ rfl rfl ?_) | (with_reducible refine wpList_loadL HL2.out.by_ rfl _ rfl rfl ?_) | (with_reducible refine Agg.wpList_build rfl 69 _ rfl (.agg (plC (x.1.cl, x.1.ky, x.1.by_))) #[(0, .agg (hC x.1.cl.1)), (1, .agg (hC x.1.ky.1)), (2, .int .i64 x.1.by_)] (by kernel_rfl) (build_place (x.1.cl, x.1.ky, x.1.by_) _) ?_) | (with_reducible refine wpList_put rfl rfl 69 _ _ rfl g2 (plC (x.1.cl, x.1.ky, x.1.by_)) (plC zPl) rfl rfl HB2.out (plC_info _) (by rw [plC_size, plC_size]) (plC_one _) ?_; intro w3 hb3 hx3 hs3 _; have HB3 := Lib.hid hb3; have HX3 := Lib.hid (HX2.out.trans (hx3.mono HG2.out)); clear hb3 hx3 hs3))
  exact post_row rfl rfl HB3.out plC_under rfl (plC_info _) rfl ⟨rfl, HX3.out⟩
end Go.Proofs.YtniibcgomnjfgaaGreat
