/- One cell of a block written. (Several texts in one.) -/
import Derived.Test.YtnlilmiakddlaaaBAF
import Derived.ArgAppend
import Derived.Laws.IdiomCopy
import Derived.Test.YtnlilmiakddlaaaBAA
/-! Derivations as text: the plain law. -/
namespace Go.Proofs.Ytnlilmiakddlaaa
open Pl Go.Agg
def zP : P20 := ⟨(z20, []), rfl⟩
def zH : H20 := ⟨z20, rfl⟩
/-- can an input be written, behind a name -/
def canNm (x : Nam) (b : List UInt8) : Bool := isName x.1 && Op.bytesLess b x.1 && (if x.2.2.2 then decide (x.2.1 = zP) else isName x.2.1.1.2 && decide (x.2.2.1 = zH))
def canAll : List UInt8 → List Nam → Bool
  | _, [] => true
  | b, x :: l => canNm x b && canAll x.1 l
def canDrv (d : Drv) : Bool := isName d.1 && decide (d.2.1.length ≤ 8) && decide (d.2.2.length ≤ 1000) && canAll [] d.2.1
/-- the last name -/
def behind (l : List Nam) : List UInt8 := match l.getLast? with | none => [] | some x => x.1
def lastOr (b : List UInt8) (l : List Nam) : List UInt8 := match l.getLast? with | none => b | some x => x.1
theorem canAll_append (b : List UInt8) (l m : List Nam) : canAll b (l ++ m) = (canAll b l && canAll (lastOr b l) m) := by
  induction l generalizing b with
  | nil => simp [canAll, lastOr]
  | cons x l ih =>
    have : lastOr b (x :: l) = lastOr x.1 l := by
      unfold lastOr
      cases l with
      | nil => rfl
      | cons y l => simp [List.getLast?_cons]
    simp only [List.cons_append, canAll, ih, this, Bool.and_assoc]
theorem lastOr_nil (l : List Nam) : lastOr [] l = behind l := rfl
theorem canAll_succ {l : List Nam} {k : Nat} {x : Nam} (h : l[k]? = some x) : canAll [] (l.take (k + 1)) = (canAll [] (l.take k) && canNm x (behind (l.take k))) := by
  rw [List.take_add_one, h, canAll_append, lastOr_nil]
  simp [canAll]
theorem behind_succ {l : List Nam} {k : Nat} {x : Nam} (h : l[k]? = some x) : behind (l.take (k + 1)) = x.1 := by
  rw [List.take_add_one, h]
  simp [behind]
theorem canAll_take {l : List Nam} {k : Nat} (h : canAll [] (l.take k) = false) : canAll [] l = false := by
  have := canAll_append [] (l.take k) (l.drop k)
  rw [List.take_append_drop, h, Bool.false_and] at this
  exact this
/-! digits -/
def hexd (n : Nat) : UInt8 := if n < 10 then UInt8.ofNat (48 + n) else UInt8.ofNat (87 + n)
def hex2 (c : UInt8) : List UInt8 := [hexd (c.toNat / 16), hexd (c.toNat % 16)]
def hexs (l : List UInt8) : List UInt8 := l.flatMap hex2
def digs16 (l : List UInt8) : List UInt8 := if l = [] then [45] else hexs l
theorem hexs_length (l : List UInt8) : (hexs l).length = 2 * l.length := by
  induction l with
  | nil => rfl
  | cons c l ih => simp only [hexs, List.flatMap_cons, List.length_append, hex2, List.length_cons, List.length_nil] at ih ⊢; omega
theorem hexs_append (a b : List UInt8) : hexs (a ++ b) = hexs a ++ hexs b := by simp [hexs]
theorem hexs_succ {l : List UInt8} {k : Nat} {c : UInt8} (h : l[k]? = some c) : hexs (l.take (k + 1)) = hexs (l.take k) ++ hex2 c := by
  rw [List.take_add_one, h, hexs_append]; simp [hexs]
theorem digs16_length (l : List UInt8) : (digs16 l).length ≤ 2 * l.length + 1 := by
  unfold digs16; split
  · simp
  · rw [hexs_length]; omega
/-! lines -/
def wDrv : List UInt8 := [100, 114, 118, 32]
def wClass : List UInt8 := [99, 108, 97, 115, 115, 32]
def wSrc : List UInt8 := [115, 114, 99, 32]
def wRun : List UInt8 := [114, 117, 110, 32]
def lineT (x : Nam) : List UInt8 := if x.2.2.2 then wClass ++ x.1 ++ [32] ++ letters x.2.2.1.1 else wSrc ++ x.1 ++ [32] ++ pathS x.2.1.1.1 x.2.1.1.2
def textD (d : Drv) : List UInt8 := wDrv ++ d.1 ++ [10] ++ d.2.1.flatMap (fun x => lineT x ++ [10]) ++ wRun ++ digs16 d.2.2 ++ [10]
def putE (d : Drv) : Nat := if canDrv d then (if (textD d).length ≤ 2000 then 0 else 3) else 2
def putB (d : Drv) : List UInt8 := if canDrv d then (if (textD d).length ≤ 2000 then textD d else []) else []
open Go.RowKit
theorem leq_not (a b : List UInt8) : (Op.bytesLess a b || a == b) = !Op.bytesLess b a := by
  by_cases e : a = b
  · subst e; simp [bytesLess_irrefl]
  · cases h : Op.bytesLess a b with
    | true => simp [bytesLess_asymm _ _ h]
    | false => simp [bytesLess_total _ _ e h, e]
/-! in memory -/
def DrvAt (w : World) (v : Value) (d : Drv) : Prop := ∃ vi vr, v = .agg #[.string ⟨d.1.toArray⟩, vi, vr] ∧ NamsAt w vi d.2.1 ∧ BytesAt w vr d.2.2
theorem DrvAt.below {w w' : World} {v : Value} {d : Drv} (h : DrvAt w v d) (hb : Below w.heap.size w w') : DrvAt w' v d := by
  obtain ⟨vi, vr, e, h1, h2⟩ := h
  exact ⟨vi, vr, e, h1.below hb, h2.below hb⟩
/-- what lies in a derivation's block -/
structure DrvL (w : World) (g : Nat) (n : List UInt8) (vi vr : Value) : Prop where
  all : LoadsL Try.prog w 25 (some ⟨g, 0, none⟩) (.agg #[.string ⟨n.toArray⟩, vi, vr])
  name : LoadsL Try.prog w 9 (some ⟨g, 0, none⟩) (.string ⟨n.toArray⟩)
  inp : LoadsL Try.prog w 22 (some ⟨g, 1, none⟩) vi
  rcp : LoadsL Try.prog w 23 (some ⟨g, 2, none⟩) vr
theorem DrvL.of_blk {w : World} {g : Nat} {n : List UInt8} {vi vr : Value} (h : Blk w g 25 #[.string ⟨n.toArray⟩, vi, vr]) : DrvL w g n vi vr where
  all := h.loads (by kernel_rfl : Try.prog.underlying 25 = some (.struct (Try.prog.fieldsOf 25))) rfl (by kernel_rfl)
  name := h.one 0 rfl Try.underlying9 rfl
  inp := h.one 1 rfl (by kernel_rfl : Try.prog.underlying 22 = some (.slice 44)) rfl
  rcp := h.one 2 rfl (by kernel_rfl : Try.prog.underlying 23 = some (.slice 5)) rfl
theorem DrvL.below {w w' : World} {g : Nat} {n : List UInt8} {vi vr : Value} (h : DrvL w g n vi vr) (hb : Below w.heap.size w w') : DrvL w' g n vi vr := ⟨h.all.below hb, h.name.below hb, h.inp.below hb, h.rcp.below hb⟩
/-- what lies in a named input's block -/
structure NamB (w : World) (g : Nat) (x : Nam) : Prop where
  all : LoadsL Try.prog w 44 (some ⟨g, 0, none⟩) (.agg (nmC x))
  name : LoadsL Try.prog w 9 (some ⟨g, 0, none⟩) (.string ⟨x.1.toArray⟩)
  is : LoadsL Try.prog w 4 (some ⟨g, 42, none⟩) (.bool x.2.2.2)
  src : LoadsL Try.prog w 40 (some ⟨g, 1, none⟩) (.agg (pC x.2.1.1.1 x.2.1.1.2))
  sname : LoadsL Try.prog w 9 (some ⟨g, 21, none⟩) (.string ⟨x.2.1.1.2.toArray⟩)
  cls : LoadsL Try.prog w 38 (some ⟨g, 22, none⟩) (.agg (hC x.2.2.1.1))
theorem NamB.of_blk {w : World} {g : Nat} {x : Nam} (h : Blk w g 44 (nmC x)) : NamB w g x :=
  ⟨(NamL.of_blk h).all, (NamL.of_blk h).name, (NamL.of_blk h).is, (NamL.of_blk h).src, (NamL.of_blk h).sname, (NamL.of_blk h).cls⟩
theorem NamB.below {w w' : World} {g : Nat} {x : Nam} (h : NamB w g x) (hb : Below w.heap.size w w') : NamB w' g x :=
  ⟨h.all.below hb, h.name.below hb, h.is.below hb, h.src.below hb, h.sname.below hb, h.cls.below hb⟩
theorem build_zP (w : World) : (Instr.build 40 #[]).run Try.prog w = .ok (.agg (pC zP.1.1 zP.1.2)) w := by kernel_rfl
theorem build_zH (w : World) : (Instr.build 38 #[]).run Try.prog w = .ok (.agg (hC zH.1)) w := by kernel_rfl
theorem beqH (x y : H20) : (x.1 == y.1) = decide (x = y) := by rw [Bool.eq_iff_iff]; simp [Subtype.ext_iff]
theorem eqlH (x y : H20) (w : World) : (binOp .eql 38 (.agg (hC x.1)) (.agg (hC y.1))).run Try.prog w = .ok (.bool (decide (x = y))) w := by rw [eql_hash _ _ x.2 y.2, beqH]
theorem neqH (x y : H20) (w : World) : (binOp .neq 38 (.agg (hC x.1)) (.agg (hC y.1))).run Try.prog w = .ok (.bool (!decide (x = y))) w := by
  rw [run_neq_struct, eqlIn_hash 9998 _ _ x.2 y.2, beqH]; rfl
theorem eqlP (x y : P20) (w : World) : (binOp .eql 40 (.agg (pC x.1.1 x.1.2)) (.agg (pC y.1.1 y.1.2))).run Try.prog w = .ok (.bool (decide (x = y))) w := by rw [run_eql_struct, eqlIn_path 9997]; rfl
theorem neqP (x y : P20) (w : World) : (binOp .neq 40 (.agg (pC x.1.1 x.1.2)) (.agg (pC y.1.1 y.1.2))).run Try.prog w = .ok (.bool (!decide (x = y))) w := by rw [run_neq_struct, eqlIn_path 9997]; rfl
end Go.Proofs.Ytnlilmiakddlaaa
/-! A text is of one derivation alone. -/
namespace Go.Proofs.Ytnlilmiakddlaaa
open Pl
theorem cut_at {a b x y : List UInt8} {s : UInt8} (ha : s ∉ a) (hb : s ∉ b) (h : a ++ s :: x = b ++ s :: y) : a = b ∧ x = y := by
  induction a generalizing b with
  | nil =>
    cases b with
    | nil => exact ⟨rfl, by simpa using h⟩
    | cons c b =>
      simp only [List.nil_append, List.cons_append, List.cons.injEq] at h
      exact absurd (h.1 ▸ List.mem_cons_self) hb
  | cons c a ih =>
    cases b with
    | nil =>
      simp only [List.nil_append, List.cons_append, List.cons.injEq] at h
      exact absurd (h.1.symm ▸ List.mem_cons_self) ha
    | cons e b =>
      simp only [List.cons_append, List.cons.injEq] at h
      obtain ⟨rfl, h⟩ := h
      obtain ⟨rfl, h2⟩ := ih (fun hm => ha (List.mem_cons_of_mem _ hm)) (fun hm => hb (List.mem_cons_of_mem _ hm)) h
      exact ⟨rfl, h2⟩
theorem sgn_not : ∀ n, n < 256 → sgn (UInt8.ofNat n) = true → UInt8.ofNat n ≠ 10 ∧ UInt8.ofNat n ≠ 32 := by decide +kernel
theorem sgn_ne {c : UInt8} (h : sgn c = true) : c ≠ 10 ∧ c ≠ 32 := by
  have := sgn_not c.toNat c.toNat_lt (by simpa using h)
  simpa using this
theorem name_all {s : List UInt8} (h : isName s = true) : ∀ c ∈ s, sgn c = true := by
  simp only [isName, Bool.and_eq_true] at h
  simpa using h.1.1.1
theorem name_no10 {s : List UInt8} (h : isName s = true) : (10 : UInt8) ∉ s := fun hm => (sgn_ne (name_all h _ hm)).1 rfl
theorem name_no32 {s : List UInt8} (h : isName s = true) : (32 : UInt8) ∉ s := fun hm => (sgn_ne (name_all h _ hm)).2 rfl
theorem letter_sgn : ∀ n, n < 32 → sgn (letter n) = true := by decide
theorem letters_sgn (h : List UInt8) : ∀ c ∈ letters h, sgn c = true := by
  intro c hc
  simp only [letters, List.mem_map] at hc
  obtain ⟨n, hn, rfl⟩ := hc
  exact letter_sgn n (digs_lt 32 32 _ (by omega) n hn)
theorem letters_no10 (h : List UInt8) : (10 : UInt8) ∉ letters h := fun hm => (sgn_ne (letters_sgn h _ hm)).1 rfl
theorem pathS_of' {h n : List UInt8} (hn : isName n = true) : pathS h n = letters h ++ 45 :: n := by rw [pathS, if_pos hn]
theorem pathS_no10 {h n : List UInt8} (hn : isName n = true) : (10 : UInt8) ∉ pathS h n := by
  rw [pathS_of' hn]
  intro hm
  rcases List.mem_append.1 hm with h1 | h1
  · exact letters_no10 h h1
  · rcases List.mem_cons.1 h1 with h2 | h2
    · exact absurd h2 (by decide)
    · exact name_no10 hn h2
theorem pathS_inj {p q : P20} (hp : isName p.1.2 = true) (hq : isName q.1.2 = true) (h : pathS p.1.1 p.1.2 = pathS q.1.1 q.1.2) : p = q := by
  rw [pathS_of' hp, pathS_of' hq] at h
  obtain ⟨h1, h2⟩ := List.append_inj h (by rw [letters_length, letters_length])
  exact Subtype.ext (Prod.ext (letters_inj p.2 q.2 h1) (by simpa using h2))
theorem hexd_inj : ∀ a, a < 16 → ∀ b, b < 16 → hexd a = hexd b → a = b := by decide +kernel
theorem hexd_ne : ∀ a, a < 16 → hexd a ≠ 45 := by decide
theorem hex2_inj {c d : UInt8} (h : hex2 c = hex2 d) : c = d := by
  simp only [hex2, List.cons.injEq, and_true] at h
  have hc := c.toNat_lt
  have hd := d.toNat_lt
  have h1 := hexd_inj _ (by omega) _ (by omega) h.1
  have h2 := hexd_inj _ (by omega) _ (by omega) h.2
  exact UInt8.toNat_inj.1 (by omega)
theorem hexs_inj : ∀ {a b : List UInt8}, hexs a = hexs b → a = b
  | [], [], _ => rfl
  | [], d :: b, h => by simp [hexs, hex2] at h
  | c :: a, [], h => by simp [hexs, hex2] at h
  | c :: a, d :: b, h => by
    have h' : hex2 c ++ hexs a = hex2 d ++ hexs b := h
    obtain ⟨h1, h2⟩ := List.append_inj h' rfl
    rw [hex2_inj h1, hexs_inj h2]
theorem digs16_inj {a b : List UInt8} (h : digs16 a = digs16 b) : a = b := by
  have key : ∀ {a : List UInt8}, a ≠ [] → hexs a ≠ [45] := by
    intro a ha e
    have := congrArg List.length e
    rw [hexs_length] at this
    simp at this; omega
  unfold digs16 at h
  by_cases h1 : a = [] <;> by_cases h2 : b = []
  · rw [h1, h2]
  · rw [if_pos h1, if_neg h2] at h; exact absurd h.symm (key h2)
  · rw [if_neg h1, if_pos h2] at h; exact absurd h (key h1)
  · rw [if_neg h1, if_neg h2] at h; exact hexs_inj h
theorem hexd_no10 : ∀ a, a < 16 → hexd a ≠ 10 := by decide
theorem digs16_no10 (a : List UInt8) : (10 : UInt8) ∉ digs16 a := by
  unfold digs16
  split
  · decide
  · intro hm
    simp only [hexs, List.mem_flatMap, hex2, List.mem_cons, List.not_mem_nil, or_false] at hm
    obtain ⟨c, _, h | h⟩ := hm
    · have := c.toNat_lt; exact hexd_no10 _ (by omega) h.symm
    · exact hexd_no10 _ (Nat.mod_lt _ (by omega)) h.symm
/-- what an input must be, whatever stands ahead -/
def okNm (x : Nam) : Prop := isName x.1 = true ∧ (if x.2.2.2 then x.2.1 = zP else isName x.2.1.1.2 = true ∧ x.2.2.1 = zH)
theorem okNm_of {x : Nam} {b : List UInt8} (h : canNm x b = true) : okNm x := by
  simp only [canNm, Bool.and_eq_true] at h
  refine ⟨h.1.1, ?_⟩
  have h2 := h.2
  cases hi : x.2.2.2 <;> rw [hi] at h2 <;> simpa using h2
theorem okNm_all {b : List UInt8} {l : List Nam} (h : canAll b l = true) : ∀ x ∈ l, okNm x := by
  induction l generalizing b with
  | nil => simp
  | cons y l ih =>
    simp only [canAll, Bool.and_eq_true] at h
    intro x hx
    rcases List.mem_cons.1 hx with rfl | hx
    · exact okNm_of h.1
    · exact ih h.2 x hx
def bodyT (l : List Nam) (r : List UInt8) : List UInt8 := l.flatMap (fun x => lineT x ++ [10]) ++ (wRun ++ (digs16 r ++ [10]))
theorem bodyT_cons (x : Nam) (l : List Nam) (r : List UInt8) : bodyT (x :: l) r = lineT x ++ 10 :: bodyT l r := by simp [bodyT]
theorem lineT_yes {x : Nam} (h : x.2.2.2 = true) : lineT x = 99 :: 108 :: 97 :: 115 :: 115 :: 32 :: (x.1 ++ 32 :: letters x.2.2.1.1) := by simp [lineT, h, wClass]
theorem lineT_no {x : Nam} (h : x.2.2.2 = false) : lineT x = 115 :: 114 :: 99 :: 32 :: (x.1 ++ 32 :: pathS x.2.1.1.1 x.2.1.1.2) := by simp [lineT, h, wSrc]
theorem bodyT_nil (r : List UInt8) : bodyT [] r = 114 :: 117 :: 110 :: 32 :: (digs16 r ++ 10 :: []) := by simp [bodyT, wRun]
theorem nam_ext {x y : Nam} (h1 : x.1 = y.1) (h2 : x.2.1 = y.2.1) (h3 : x.2.2.1 = y.2.2.1) (h4 : x.2.2.2 = y.2.2.2) : x = y := Prod.ext h1 (Prod.ext h2 (Prod.ext h3 h4))
theorem bodyT_inj : ∀ {l m : List Nam} {r s : List UInt8}, (∀ x ∈ l, okNm x) → (∀ x ∈ m, okNm x) → bodyT l r = bodyT m s → l = m ∧ r = s
  | [], [], r, s, _, _, h => by
    rw [bodyT_nil, bodyT_nil] at h
    simp only [List.cons.injEq, true_and] at h
    exact ⟨rfl, digs16_inj (cut_at (digs16_no10 r) (digs16_no10 s) h).1⟩
  | [], y :: m, r, s, _, hm, h => by
    rw [bodyT_nil, bodyT_cons] at h
    cases hi : y.2.2.2 with
    | true => rw [lineT_yes hi] at h; simp at h
    | false => rw [lineT_no hi] at h; simp at h
  | x :: l, [], r, s, hl, _, h => by
    rw [bodyT_nil, bodyT_cons] at h
    cases hi : x.2.2.2 with
    | true => rw [lineT_yes hi] at h; simp at h
    | false => rw [lineT_no hi] at h; simp at h
  | x :: l, y :: m, r, s, hl, hm, h => by
    rw [bodyT_cons, bodyT_cons] at h
    have ox := hl x (by simp)
    have oy := hm y (by simp)
    have ih := @bodyT_inj l m r s (fun z hz => hl z (by simp [hz])) (fun z hz => hm z (by simp [hz]))
    cases hi : x.2.2.2 with
    | true =>
      cases hj : y.2.2.2 with
      | false => rw [lineT_yes hi, lineT_no hj] at h; simp at h
      | true =>
        rw [lineT_yes hi, lineT_yes hj] at h
        simp only [List.cons_append, List.cons.injEq, true_and, List.append_assoc] at h
        obtain ⟨e1, h⟩ := cut_at (name_no32 ox.1) (name_no32 oy.1) h
        obtain ⟨e2, h⟩ := cut_at (letters_no10 _) (letters_no10 _) h
        obtain ⟨e3, e4⟩ := ih h
        have sx := ox.2
        have sy := oy.2
        rw [hi, if_pos rfl] at sx
        rw [hj, if_pos rfl] at sy
        refine ⟨?_, e4⟩
        rw [e3, nam_ext e1 (sx.trans sy.symm) (Subtype.ext (letters_inj x.2.2.1.2 y.2.2.1.2 e2)) (hi.trans hj.symm)]
    | false =>
      cases hj : y.2.2.2 with
      | true => rw [lineT_no hi, lineT_yes hj] at h; simp at h
      | false =>
        have sx := ox.2
        have sy := oy.2
        rw [hi, if_neg (by simp)] at sx
        rw [hj, if_neg (by simp)] at sy
        rw [lineT_no hi, lineT_no hj] at h
        simp only [List.cons_append, List.cons.injEq, true_and, List.append_assoc] at h
        obtain ⟨e1, h⟩ := cut_at (name_no32 ox.1) (name_no32 oy.1) h
        obtain ⟨e2, h⟩ := cut_at (pathS_no10 sx.1) (pathS_no10 sy.1) h
        obtain ⟨e3, e4⟩ := ih h
        refine ⟨?_, e4⟩
        rw [e3, nam_ext e1 (pathS_inj sx.1 sy.1 e2) (sx.2.trans sy.2.symm) (hi.trans hj.symm)]
theorem textD_body (d : Drv) : textD d = 100 :: 114 :: 118 :: 32 :: (d.1 ++ 10 :: bodyT d.2.1 d.2.2) := by simp [textD, bodyT, wDrv]
theorem canDrv_split {d : Drv} (h : canDrv d = true) : isName d.1 = true ∧ canAll [] d.2.1 = true := by
  simp only [canDrv, Bool.and_eq_true] at h
  exact ⟨h.1.1.1, h.2⟩
theorem textD_inj {c d : Drv} (hc : canDrv c = true) (hd : canDrv d = true) (h : textD c = textD d) : c = d := by
  obtain ⟨c1, c2⟩ := canDrv_split hc
  obtain ⟨d1, d2⟩ := canDrv_split hd
  rw [textD_body, textD_body] at h
  simp only [List.cons.injEq, true_and] at h
  obtain ⟨e1, h⟩ := cut_at (name_no10 c1) (name_no10 d1) h
  obtain ⟨e2, e3⟩ := bodyT_inj (okNm_all c2) (okNm_all d2) h
  exact Prod.ext e1 (Prod.ext e2 e3)
theorem putE_zero {d : Drv} (h : putE d = 0) : canDrv d = true ∧ putB d = textD d := by
  unfold putE at h
  unfold putB
  split at h
  · rename_i hc
    split at h
    · rename_i hl; simp [hc, hl]
    · cases h
  · cases h
theorem put_same {c d : Drv} (hc : putE c = 0) (hd : putE d = 0) : decide (putB c = putB d) = decide (c = d) := by
  obtain ⟨c1, c2⟩ := putE_zero hc
  obtain ⟨d1, d2⟩ := putE_zero hd
  rw [c2, d2, decide_eq_decide]
  exact ⟨textD_inj c1 d1, fun e => by rw [e]⟩
end Go.Proofs.Ytnlilmiakddlaaa
/-! What text.Get reads, plainly: getD s is the derivation whose text s is (get_put, put_get). -/
namespace Go.Proofs.Ytnlilmiakddlaaa
open Pl
/-- a digit's value -/
def unhex (c : UInt8) : Option Nat := if 48 ≤ c.toNat ∧ c.toNat ≤ 57 then some (c.toNat - 48) else if 97 ≤ c.toNat ∧ c.toNat ≤ 102 then some (c.toNat - 87) else none
theorem unhex_hexd : ∀ n, n < 16 → unhex (hexd n) = some n := by decide
theorem unhex_lt {c : UInt8} {n : Nat} (h : unhex c = some n) : n < 16 := by
  unfold unhex at h
  split at h
  · cases h; omega
  · split at h
    · cases h; omega
    · cases h
theorem hexd_unhex {c : UInt8} {n : Nat} (h : unhex c = some n) : hexd n = c := by
  have key : ∀ k, k < 256 → ∀ n, n < 16 → unhex (UInt8.ofNat k) = some n → hexd n = UInt8.ofNat k := by decide +kernel
  have := key c.toNat c.toNat_lt n (unhex_lt h) (by simpa using h)
  simpa using this
/-- bytes of digits -/
def unhexs : List UInt8 → Option (List UInt8)
  | [] => some []
  | [_] => none
  | a :: b :: l =>
    match unhex a, unhex b with
    | some x, some y => (unhexs l).map fun r => UInt8.ofNat (16 * x + y) :: r
    | _, _ => none
theorem unhexs_hexs : ∀ l : List UInt8, unhexs (hexs l) = some l
  | [] => rfl
  | c :: l => by
    have hc := c.toNat_lt
    show unhexs (hexd (c.toNat / 16) :: hexd (c.toNat % 16) :: hexs l) = _
    rw [unhexs, unhex_hexd _ (by omega), unhex_hexd _ (by omega)]
    simp only [unhexs_hexs l, Option.map_some]
    rw [show 16 * (c.toNat / 16) + c.toNat % 16 = c.toNat by omega]
    simp
theorem hexs_unhexs : ∀ {s r : List UInt8}, unhexs s = some r → hexs r = s
  | [], r, h => by cases h; rfl
  | [_], r, h => by cases h
  | a :: b :: l, r, h => by
    rw [unhexs] at h
    cases ha : unhex a with
    | none => simp [ha] at h
    | some x =>
      cases hb : unhex b with
      | none => simp [ha, hb] at h
      | some y =>
        simp only [ha, hb, Option.map_eq_some_iff] at h
        obtain ⟨r', h1, rfl⟩ := h
        have hx := unhex_lt ha
        have hy := unhex_lt hb
        have ih := hexs_unhexs h1
        show hexd _ :: hexd _ :: hexs r' = _
        rw [ih]
        have e : (UInt8.ofNat (16 * x + y)).toNat = 16 * x + y := by simp; omega
        rw [e, show (16 * x + y) / 16 = x by omega, show (16 * x + y) % 16 = y by omega, hexd_unhex ha, hexd_unhex hb]
/-- a recipe's digits -/
def unrun (s : List UInt8) : Option (List UInt8) := if s = [45] then some [] else if s = [] then none else unhexs s
theorem hexs_ne45 {r : List UInt8} : hexs r ≠ [45] := by
  intro e
  have := congrArg List.length e
  rw [hexs_length] at this
  simp at this; omega
theorem unrun_digs (r : List UInt8) : unrun (digs16 r) = some r := by
  unfold digs16
  split
  · next h => subst h; rfl
  · next h =>
    rw [unrun, if_neg hexs_ne45, if_neg, unhexs_hexs]
    intro e
    apply h
    have := congrArg List.length e
    rw [hexs_length] at this
    exact List.length_eq_zero_iff.1 (by simp at this; omega)
theorem digs_unrun {s r : List UInt8} (h : unrun s = some r) : digs16 r = s := by
  unfold unrun at h
  split at h
  · next e => cases h; exact e.symm
  · split at h
    · cases h
    · next h1 h2 =>
      have e := hexs_unhexs h
      have : r ≠ [] := fun hr => h2 (by rw [← e, hr]; rfl)
      rw [digs16, if_neg this, e]
/-- what is held: a derivation, whether it is ended, whether nothing was read -/
structure TgS where
  d : Drv
  ended : Bool
  first : Bool
def tg0 : TgS := ⟨([], [], []), false, true⟩
/-- a line, by its first word -/
def tgStep (st : TgS) (w rest : List UInt8) : Option TgS :=
  if st.ended then none
  else if st.first then (if w = [100, 114, 118] then some ⟨(rest, st.d.2.1, st.d.2.2), false, false⟩ else none)
  else if w = [115, 114, 99] then
    match hp : parse (cut1 32 rest).2.1 with
    | some q => some ⟨(st.d.1, st.d.2.1 ++ [((cut1 32 rest).1, (⟨q, (parse_some (h := q.1) (n := q.2) hp).2.1⟩, zH, false))], st.d.2.2), false, false⟩
    | none => none
  else if w = [99, 108, 97, 115, 115] then
    match hh : Pl.hash (cut1 32 rest).2.1 with
    | some q => some ⟨(st.d.1, st.d.2.1 ++ [((cut1 32 rest).1, (zP, ⟨q, hash_length hh⟩, true))], st.d.2.2), false, false⟩
    | none => none
  else if w = [114, 117, 110] then (unrun rest).map fun r => ⟨(st.d.1, st.d.2.1, st.d.2.2 ++ r), true, false⟩
  else none
theorem cut1_less (c : UInt8) (s : List UInt8) (h : (cut1 c s).2.2 = true) : (cut1 c s).2.1.length < s.length := by
  have := congrArg List.length (cut1_yes c s h).1
  simp at this; omega
/-- all lines -/
def tgRead (s : List UInt8) (st : TgS) : Option TgS :=
  if s = [] then some st
  else if _h : (cut1 10 s).2.2 = true then
    if (cut1 32 (cut1 10 s).1).2.2 then
      match tgStep st (cut1 32 (cut1 10 s).1).1 (cut1 32 (cut1 10 s).1).2.1 with
      | some st' => tgRead (cut1 10 s).2.1 st'
      | none => none
    else none
  else none
termination_by s.length
decreasing_by exact cut1_less 10 s (by assumption)
/-- the derivation whose text this is -/
def getD (s : List UInt8) : Option Drv :=
  match tgRead s tg0 with
  | some st => if st.ended && canDrv st.d then some st.d else none
  | none => none
theorem tgRead_line {w r s : List UInt8} {st : TgS} (hw : (32 : UInt8) ∉ w) (hw' : (10 : UInt8) ∉ w) (hr : (10 : UInt8) ∉ r) :
    tgRead (w ++ 32 :: (r ++ 10 :: s)) st = (tgStep st w r).bind (tgRead s) := by
  have e : w ++ 32 :: (r ++ 10 :: s) = (w ++ 32 :: r) ++ 10 :: s := by simp
  have h10 : (10 : UInt8) ∉ w ++ 32 :: r := by
    simp only [List.mem_append, List.mem_cons, not_or]
    exact ⟨hw', by decide, hr⟩
  rw [e, tgRead, if_neg (by simp), cut1_of 10 _ _ h10]
  simp only [dif_pos]
  rw [cut1_of 32 _ _ hw]
  simp only [if_true]
  cases tgStep st w r <;> rfl
/-- what a text had to be, that these were read -/
def tgText (st : TgS) : List UInt8 := if st.first then [] else wDrv ++ st.d.1 ++ [10] ++ st.d.2.1.flatMap (fun x => lineT x ++ [10]) ++ (if st.ended then wRun ++ digs16 st.d.2.2 ++ [10] else [])
structure TgOk (st : TgS) : Prop where
  z : st.first = true → st.d.2.1 = [] ∧ st.ended = false
  r : st.ended = false → st.d.2.2 = []
theorem tgStep_text {st st' : TgS} {w rest : List UInt8} (ho : TgOk st) (h : tgStep st w rest = some st') : TgOk st' ∧ tgText st' = tgText st ++ (w ++ 32 :: (rest ++ [10])) := by
  unfold tgStep at h
  cases he : st.ended with
  | true => simp [he] at h
  | false =>
    have hr0 := ho.r he
    simp only [he, Bool.false_eq_true, if_false] at h
    cases hf : st.first with
    | true =>
      obtain ⟨z1, _⟩ := ho.z hf
      simp only [hf, if_true] at h
      split at h
      · next hw =>
        cases h
        refine ⟨⟨fun h => (by cases h), fun _ => hr0⟩, ?_⟩
        simp [tgText, hf, z1, hw, wDrv]
      · cases h
    | false =>
      simp only [hf, Bool.false_eq_true, if_false] at h
      split at h
      · next hw =>
        split at h
        · next q hp =>
          cases h
          refine ⟨⟨fun h => (by cases h), fun _ => hr0⟩, ?_⟩
          obtain ⟨hn, hl, e⟩ := parse_some (h := q.1) (n := q.2) hp
          have hc : (cut1 32 rest).2.2 = true := by
            cases hc : (cut1 32 rest).2.2 with
            | true => rfl
            | false =>
              rw [(cut1_no 32 rest hc).2.2] at e
              simp at e
          have e2 := (cut1_yes 32 rest hc).1
          have e3 : rest = (cut1 32 rest).1 ++ 32 :: pathS q.1 q.2 := by
            rw [pathS_of' hn, e]; exact e2
          simp only [tgText, hf, he, Bool.false_eq_true, if_false, List.flatMap_append, List.flatMap_cons, List.flatMap_nil, List.append_nil, lineT]
          conv => rhs; rw [e3]
          simp [hw, wSrc]
        · cases h
      · split at h
        · next hw =>
          split at h
          · next q hp =>
            cases h
            refine ⟨⟨fun h => (by cases h), fun _ => hr0⟩, ?_⟩
            have e := letters_hash hp
            have hc : (cut1 32 rest).2.2 = true := by
              cases hc : (cut1 32 rest).2.2 with
              | true => rfl
              | false =>
                rw [(cut1_no 32 rest hc).2.2] at hp
                exact absurd (hash_len hp) (by simp)
            have e2 := (cut1_yes 32 rest hc).1
            have e3 : rest = (cut1 32 rest).1 ++ 32 :: letters q := by rw [e]; exact e2
            simp only [tgText, hf, he, Bool.false_eq_true, if_false, if_true, List.flatMap_append, List.flatMap_cons, List.flatMap_nil, List.append_nil, lineT]
            conv => rhs; rw [e3]
            simp [hw, wClass]
          · cases h
        · split at h
          · next hw =>
            simp only [Option.map_eq_some_iff] at h
            obtain ⟨r, h1, rfl⟩ := h
            refine ⟨⟨fun h => (by cases h), fun h => (by cases h)⟩, ?_⟩
            simp only [tgText, hf, he, Bool.false_eq_true, if_false, if_true, hr0, List.nil_append, digs_unrun h1]
            simp [hw, wRun]
          · cases h
theorem tgRead_text : ∀ (n : Nat) {s : List UInt8} {st st' : TgS}, s.length ≤ n → TgOk st → tgRead s st = some st' → TgOk st' ∧ tgText st' = tgText st ++ s := by
  intro n
  induction n with
  | zero =>
    intro s st st' hn ho h
    have : s = [] := List.length_eq_zero_iff.1 (by omega)
    subst this
    rw [tgRead, if_pos rfl] at h
    cases h
    exact ⟨ho, by simp⟩
  | succ n ih =>
    intro s st st' hn ho h
    rw [tgRead] at h
    split at h
    · next hs => cases h; exact ⟨ho, by simp [hs]⟩
    · split at h
      · next hc =>
        have hl := cut1_less 10 s hc
        have e1 := (cut1_yes 10 s hc).1
        split at h
        · next hc2 =>
          have e2 := (cut1_yes 32 _ hc2).1
          split at h
          · next st1 h1 =>
            obtain ⟨o1, t1⟩ := tgStep_text ho h1
            obtain ⟨o2, t2⟩ := ih (by omega) o1 h
            refine ⟨o2, ?_⟩
            rw [t2, t1]
            conv => rhs; rw [e1, e2]
            simp
          · cases h
        · cases h
      · cases h
theorem put_get {s : List UInt8} {d : Drv} (h : getD s = some d) : canDrv d = true ∧ textD d = s := by
  unfold getD at h
  split at h
  · next st hs =>
    split at h
    · next hc =>
      cases h
      simp only [Bool.and_eq_true] at hc
      refine ⟨hc.2, ?_⟩
      obtain ⟨o, t⟩ := tgRead_text _ (Nat.le_refl _) ⟨fun _ => ⟨rfl, rfl⟩, fun _ => rfl⟩ hs
      have hf : st.first = false := by
        cases hf : st.first with
        | false => rfl
        | true => have := (o.z hf).2; rw [hc.1] at this; cases this
      simp only [tgText, tg0, hf, hc.1, Bool.false_eq_true, if_false, if_true, List.nil_append] at t
      rw [← t]
      simp [textD]
    · cases h
  · cases h
theorem ne_cls : ([99, 108, 97, 115, 115] : List UInt8) ≠ [115, 114, 99] := by decide
theorem ne_run : ([114, 117, 110] : List UInt8) ≠ [115, 114, 99] ∧ ([114, 117, 110] : List UInt8) ≠ [99, 108, 97, 115, 115] := by decide
theorem tgRead_body (n : List UInt8) : ∀ (l done : List Nam) (r : List UInt8), (∀ x ∈ l, okNm x) → tgRead (bodyT l r) ⟨(n, done, []), false, false⟩ = some ⟨(n, done ++ l, r), true, false⟩
  | [], done, r, _ => by
    rw [bodyT_nil]
    have h := @tgRead_line [114, 117, 110] (digs16 r) [] ⟨(n, done, []), false, false⟩ (by decide) (by decide) (digs16_no10 r)
    simp only [List.cons_append, List.nil_append] at h
    rw [h, tgStep]
    simp only [Bool.false_eq_true, if_false, if_neg ne_run.1, if_neg ne_run.2, if_true, unrun_digs, Option.map_some, List.nil_append, Option.bind_some, List.append_nil]
    rw [tgRead, if_pos rfl]
  | x :: l, done, r, hl => by
    have ox := hl x (by simp)
    have ih := tgRead_body n l (done ++ [x]) r (fun z hz => hl z (by simp [hz]))
    have hs := ox.2
    rw [bodyT_cons]
    obtain ⟨xn, xp, xh, xi⟩ := x
    cases xi with
    | true =>
      simp only [if_true] at hs
      rw [lineT_yes rfl]
      have h := @tgRead_line [99, 108, 97, 115, 115] (xn ++ 32 :: letters xh.1) (bodyT l r) ⟨(n, done, []), false, false⟩ (by decide) (by decide) (by
        simp only [List.mem_append, List.mem_cons, not_or]
        exact ⟨name_no10 ox.1, by decide, letters_no10 _⟩)
      simp only [List.cons_append, List.nil_append, List.append_assoc] at h ⊢
      rw [h, tgStep]
      simp only [Bool.false_eq_true, if_false, if_neg ne_cls, if_true]
      split
      · next q hq =>
        have h2 := hq
        rw [cut1_of 32 _ _ (name_no32 ox.1), hash_letters xh.2] at h2
        cases h2
        subst hs
        simp only [Option.bind_some, cut1_of 32 _ _ (name_no32 ox.1)]
        rw [show (⟨xh.1, hash_length hq⟩ : H20) = xh from rfl, ih]
        simp
      · next hq => rw [cut1_of 32 _ _ (name_no32 ox.1), hash_letters xh.2] at hq; cases hq
    | false =>
      simp only [Bool.false_eq_true, if_false] at hs
      rw [lineT_no rfl]
      have h := @tgRead_line [115, 114, 99] (xn ++ 32 :: pathS xp.1.1 xp.1.2) (bodyT l r) ⟨(n, done, []), false, false⟩ (by decide) (by decide) (by
        simp only [List.mem_append, List.mem_cons, not_or]
        exact ⟨name_no10 ox.1, by decide, pathS_no10 hs.1⟩)
      simp only [List.cons_append, List.nil_append, List.append_assoc] at h ⊢
      rw [h, tgStep]
      simp only [Bool.false_eq_true, if_false, if_true]
      have hq' : parse (pathS xp.1.1 xp.1.2) = some (xp.1.1, xp.1.2) := by rw [pathS_of' hs.1]; exact parse_text xp.2 hs.1
      split
      · next q hq =>
        have h2 := hq
        rw [cut1_of 32 _ _ (name_no32 ox.1), hq'] at h2
        cases h2
        obtain ⟨_, e⟩ := hs
        subst e
        simp only [Option.bind_some, cut1_of 32 _ _ (name_no32 ox.1)]
        rw [show (done ++ [(xn, (⟨(xp.1.1, xp.1.2), _⟩, zH, false))] : List Nam) = done ++ [(xn, xp, zH, false)] from rfl, ih]
        simp
      · next hq => rw [cut1_of 32 _ _ (name_no32 ox.1), hq'] at hq; cases hq
theorem get_put {d : Drv} (h : canDrv d = true) : getD (textD d) = some d := by
  obtain ⟨h1, h2⟩ := canDrv_split h
  rw [textD_body]
  have e := @tgRead_line [100, 114, 118] d.1 (bodyT d.2.1 d.2.2) tg0 (by decide) (by decide) (name_no10 h1)
  simp only [List.cons_append, List.nil_append] at e
  have e2 : tgStep tg0 [100, 114, 118] d.1 = some ⟨(d.1, [], []), false, false⟩ := by simp [tgStep, tg0]
  rw [getD, e, e2, Option.bind_some, tgRead_body _ _ _ _ (okNm_all h2)]
  simp [h]
theorem getD_iff {s : List UInt8} {d : Drv} : getD s = some d ↔ canDrv d = true ∧ textD d = s := ⟨put_get, fun ⟨h, e⟩ => e ▸ get_put h⟩
end Go.Proofs.Ytnlilmiakddlaaa
/-! text.Get's answers, plainly: TextBack's law, and the document's reading. -/
namespace Go.Proofs.Ytnlilmiakddlaaa
open Pl
theorem cut1_app {c : UInt8} {s : List UInt8} (t : List UInt8) (h : (cut1 c s).2.2 = true) : cut1 c (s ++ t) = ((cut1 c s).1, (cut1 c s).2.1 ++ t, true) := by
  obtain ⟨e, hn⟩ := cut1_yes c s h
  conv => lhs; rw [e]
  rw [List.append_assoc, List.cons_append, cut1_of c _ _ hn]
theorem tgRead_app (t : List UInt8) : ∀ (n : Nat) {s : List UInt8} {st st' : TgS}, s.length ≤ n → tgRead s st = some st' → tgRead (s ++ t) st = tgRead t st' := by
  intro n
  induction n with
  | zero =>
    intro s st st' hn h
    have : s = [] := List.length_eq_zero_iff.1 (by omega)
    subst this
    rw [tgRead, if_pos rfl] at h
    cases h; rfl
  | succ n ih =>
    intro s st st' hn h
    by_cases hs : s = []
    · subst hs
      rw [tgRead, if_pos rfl] at h
      cases h; rfl
    · rw [tgRead, if_neg hs] at h
      split at h
      · next hc =>
        have hl := cut1_less 10 s hc
        split at h
        · next hc2 =>
          split at h
          · next st1 h1 =>
            rw [tgRead, if_neg (by simp [hs]), cut1_app t hc]
            simp only [dif_pos, hc2, if_true, h1]
            exact ih (by omega) h
          · cases h
        · cases h
      · cases h
theorem tgRead_ended {d : Drv} {f : Bool} {s : List UInt8} (hs : s ≠ []) : tgRead s ⟨d, true, f⟩ = none := by
  rw [tgRead, if_neg hs]
  split
  · split
    · simp [tgStep]
    · rfl
  · rfl
theorem getD_read {s : List UInt8} {d : Drv} (h : getD s = some d) : ∃ f, tgRead s tg0 = some ⟨d, true, f⟩ := by
  unfold getD at h
  split at h
  · next st hs =>
    split at h
    · next hc =>
      cases h
      simp only [Bool.and_eq_true] at hc
      obtain ⟨d, e, f⟩ := st
      exact ⟨f, by rw [hs]; simp only at hc; rw [hc.1]⟩
    · cases h
  · cases h
theorem getD_more {s t : List UInt8} {d : Drv} (h : getD s = some d) (ht : t ≠ []) : getD (s ++ t) = none := by
  obtain ⟨f, e⟩ := getD_read h
  rw [getD, tgRead_app t _ (Nat.le_refl _) e, tgRead_ended ht]
theorem textD_last (d : Drv) : ∃ s, textD d = s ++ [10] := ⟨_, rfl⟩
theorem textD_pos (d : Drv) : textD d ≠ [] := by obtain ⟨s, e⟩ := textD_last d; rw [e]; simp
/-- a byte less at its end: none -/
theorem getD_less {d : Drv} (h : canDrv d = true) : getD ((textD d).take ((textD d).length - 1)) = none := by
  obtain ⟨s, e⟩ := textD_last d
  have e2 : (textD d).take ((textD d).length - 1) = s := by rw [e]; simp
  rw [e2]
  cases hg : getD s with
  | none => rfl
  | some c =>
    have := getD_more hg (t := [10]) (by simp)
    rw [← e, get_put h] at this
    cases this
/-- Get's error, and what it tells -/
def tgE (s : List UInt8) : Nat := if s.length ≤ 2000 then (if (getD s).isSome then 0 else 4) else 3
def tgB (s : List UInt8) : Drv := if s.length ≤ 2000 then (getD s).getD ([], [], []) else ([], [], [])
theorem tgE_zero {s : List UInt8} (h : tgE s = 0) : s.length ≤ 2000 ∧ getD s = some (tgB s) := by
  unfold tgE at h
  unfold tgB
  split at h
  · next hl =>
    split at h
    · next hs =>
      obtain ⟨d, hd⟩ := Option.isSome_iff_exists.1 hs
      simp [hl, hd]
    · cases h
  · cases h
theorem tgE_of {s : List UInt8} {d : Drv} (hl : s.length ≤ 2000) (h : getD s = some d) : tgE s = 0 ∧ tgB s = d := by simp [tgE, tgB, hl, h]
theorem tgB_not {s : List UInt8} (h : tgE s ≠ 0) : tgB s = ([], [], []) := by
  unfold tgE at h
  unfold tgB
  split
  · next hl =>
    cases hs : getD s with
    | none => rfl
    | some d => simp [hl, hs] at h
  · rfl
/-- TextBack: what is written is read; no less, no more -/
theorem back_put {d : Drv} (h : putE d = 0) : (putB d).length ≤ 2000 ∧ putB d ≠ [] ∧ tgE (putB d) = 0 ∧ tgB (putB d) = d ∧ tgE ((putB d).take ((putB d).length - 1)) ≠ 0 ∧ ∀ more, tgE (putB d ++ more) = 0 ↔ more = [] := by
  obtain ⟨hc, e⟩ := putE_zero h
  have hl : (textD d).length ≤ 2000 := by
    unfold putE at h
    rw [if_pos hc] at h
    split at h
    · assumption
    · cases h
  rw [e]
  obtain ⟨g1, g2⟩ := tgE_of hl (get_put hc)
  refine ⟨hl, textD_pos d, g1, g2, ?_, fun more => ⟨fun hm => ?_, fun hm => by rw [hm, List.append_nil]; exact g1⟩⟩
  · intro hz
    have := (tgE_zero hz).2
    rw [getD_less hc] at this
    cases this
  · cases hmore : more with
    | nil => rfl
    | cons a m =>
      have := (tgE_zero hm).2
      rw [getD_more (get_put hc) (by rw [hmore]; simp)] at this
      cases this
/-- TextBack: what is read can be written, and has just that text -/
theorem back_get {s : List UInt8} (h : tgE s = 0) : putE (tgB s) = 0 ∧ canDrv (tgB s) = true ∧ putB (tgB s) = s := by
  obtain ⟨hl, hg⟩ := tgE_zero h
  obtain ⟨hc, e⟩ := put_get hg
  refine ⟨?_, hc, ?_⟩
  · rw [putE, if_pos hc, e, if_pos hl]
  · rw [putB, if_pos hc, e, if_pos hl]
/-- parts between a byte -/
def parted (c : UInt8) : List UInt8 → List (List UInt8)
  | [] => [[]]
  | b :: l => if b = c then [] :: parted c l else match parted c l with
    | [] => [[b]]
    | x :: r => (b :: x) :: r
theorem parted_ne (c : UInt8) (s : List UInt8) : parted c s ≠ [] := by
  cases s with
  | nil => simp [parted]
  | cons b l =>
    simp only [parted]
    split
    · simp
    · split <;> simp
theorem parted_no {c : UInt8} {a : List UInt8} (h : c ∉ a) : parted c a = [a] := by
  induction a with
  | nil => rfl
  | cons b l ih =>
    simp only [List.mem_cons, not_or] at h
    rw [parted, if_neg (Ne.symm h.1), ih h.2]
theorem parted_at {c : UInt8} {a s : List UInt8} (h : c ∉ a) : parted c (a ++ c :: s) = a :: parted c s := by
  induction a with
  | nil => simp [parted]
  | cons b l ih =>
    simp only [List.mem_cons, not_or] at h
    rw [List.cons_append, parted, if_neg (Ne.symm h.1), ih h.2]
end Go.Proofs.Ytnlilmiakddlaaa
/-! Slices that may be written, their spare room too, over any program: store, append; what a step leaves alone. -/
namespace Go.Agg
open Go.RowKit
/-- w' is w but for the blocks S and what is new -/
structure Only (S : Nat → Prop) (w w' : World) : Prop where
  os : w'.os = w.os
  tape : w'.tape = w.tape
  output : w'.output = w.output
  size : w.heap.size ≤ w'.heap.size
  block : ∀ k, k < w.heap.size → ¬ S k → w'.heap[k]? = w.heap[k]?
theorem Only.refl (S : Nat → Prop) (w : World) : Only S w w := ⟨rfl, rfl, rfl, Nat.le_refl _, fun _ _ _ => rfl⟩
theorem Only.trans {S T : Nat → Prop} {a b c : World} (h : Only S a b) (k : Only T b c) (hT : ∀ i, i < a.heap.size → T i → S i) : Only S a c :=
  ⟨k.os.trans h.os, k.tape.trans h.tape, k.output.trans h.output, Nat.le_trans h.size k.size, fun i hi hS => (k.block i (Nat.lt_of_lt_of_le hi h.size) (fun hT' => hS (hT i hi hT'))).trans (h.block i hi hS)⟩
theorem Only.mono {S T : Nat → Prop} {a b : World} (h : Only S a b) (hT : ∀ i, i < a.heap.size → S i → T i) : Only T a b := ⟨h.os, h.tape, h.output, h.size, fun i hi hS => h.block i hi (fun hs => hS (hT i hi hs))⟩
theorem Only.of_below {S : Nat → Prop} {a b : World} (h : Below a.heap.size a b) : Only S a b := ⟨h.os, h.tape, h.output, h.size, fun i hi _ => h.block i hi⟩
theorem Only.below {S : Nat → Prop} {a b : World} {B : Nat} (h : Only S a b) (hB : B ≤ a.heap.size) (hS : ∀ i, S i → B ≤ i) : Below B a b :=
  ⟨h.os, h.tape, h.output, h.size, fun i hi => h.block i (by omega) (fun hs => by have := hS i hs; omega)⟩
theorem Only.cell {S : Nat → Prop} {a b : World} (h : Only S a b) {p : Addr} (hp : p.block < a.heap.size) (hS : ¬ S p.block) : b.cell? p = a.cell? p := World.cell?_of_block (h.block _ hp hS)
theorem Only.frozen {S : Nat → Prop} {a b : World} (h : Only S a b) {p : Addr} (hp : p.block < a.heap.size) (hS : ¬ S p.block) : b.frozen? p = a.frozen? p := World.frozen?_of_block (h.block _ hp hS)
theorem only_setCells (b o : Nat) (vs : List Value) (w : World) : Only (· = b) w (w.setCells b o vs) := by
  induction vs generalizing o w with
  | nil => exact Only.refl _ _
  | cons v r ih =>
    have h1 : Only (· = b) w (w.setCell ⟨b, o, none⟩ v) := ⟨rfl, rfl, rfl, by simp [World.setCell], fun k _ hk => Below.heap_setCell _ _ _ _ hk⟩
    exact h1.trans (ih (o + 1) _) (fun _ _ h => h)
section
variable {P : Program} {α : Type} {E : Elem P α}
/-- a slice whose cells, spare room too, may be written -/
def Room (E : Elem P α) (w : World) (v : Value) (l : List α) : Prop :=
  ∃ b o cap, v = .slice (some ⟨b, o, none⟩) l.length cap ∧ l.length ≤ cap ∧ b < w.heap.size ∧ (∀ j, j < cap * E.n → (w.cell? ⟨b, o + j, none⟩).isSome = true) ∧ (∀ j, j < cap * E.n → w.frozen? ⟨b, o + j, none⟩ = false) ∧
    ∀ j u, (E.flat l)[j]? = some u → w.cell? ⟨b, o + j, none⟩ = some u
/-- .. or nil -/
def RoomN (E : Elem P α) (w : World) (v : Value) (l : List α) : Prop := (v = .slice none 0 0 ∧ l = []) ∨ Room E w v l
variable {w w' : World} {v : Value} {l : List α}
theorem Room.slice (h : Room E w v l) : SliceOf E w v l := by
  obtain ⟨b, o, cap, rfl, _, hb, _, _, hc⟩ := h
  exact .inr ⟨_, cap, rfl, hb, fun j u hj => by rw [add_plain]; exact hc j u hj⟩
theorem RoomN.slice (h : RoomN E w v l) : SliceOf E w v l := by
  rcases h with ⟨rfl, rfl⟩ | h
  · exact SliceOf.nil _ _ _
  · exact h.slice
theorem Room.keep (h : Room E w v l) (hk : ∀ b, v.ownBlock = some b → b < w.heap.size → w'.heap[b]? = w.heap[b]?) (hs : w.heap.size ≤ w'.heap.size) : Room E w' v l := by
  obtain ⟨b, o, cap, rfl, hl, hb, h1, h2, hc⟩ := h
  have hbb := hk b rfl hb
  have e1 : ∀ j, w'.cell? ⟨b, o + j, none⟩ = w.cell? ⟨b, o + j, none⟩ := fun j => World.cell?_of_block hbb
  have e2 : ∀ j, w'.frozen? ⟨b, o + j, none⟩ = w.frozen? ⟨b, o + j, none⟩ := fun j => World.frozen?_of_block hbb
  exact ⟨b, o, cap, rfl, hl, by omega, fun j hj => by rw [e1]; exact h1 j hj, fun j hj => by rw [e2]; exact h2 j hj, fun j u hj => (e1 j).trans (hc j u hj)⟩
theorem RoomN.keep (h : RoomN E w v l) (hk : ∀ b, v.ownBlock = some b → b < w.heap.size → w'.heap[b]? = w.heap[b]?) (hs : w.heap.size ≤ w'.heap.size) : RoomN E w' v l := by
  rcases h with h | h
  · exact .inl h
  · exact .inr (h.keep hk hs)
theorem RoomN.only {S : Nat → Prop} (h : RoomN E w v l) (ho : Only S w w') (hS : ∀ b, v.ownBlock = some b → ¬ S b) : RoomN E w' v l := h.keep (fun b hb hlt => ho.block b hlt (hS b hb)) ho.size
theorem RoomN.below (h : RoomN E w v l) (hb : Below w.heap.size w w') : RoomN E w' v l := h.keep (fun b _ hlt => hb.block b hlt) hb.size
theorem RoomN.lt (h : RoomN E w v l) : ∀ b, v.ownBlock = some b → b < w.heap.size := by
  rcases h with ⟨rfl, _⟩ | ⟨b, o, cap, rfl, _, hb, _⟩
  · intro b hb; simp [Value.ownBlock] at hb
  · intro c hc
    obtain rfl : b = c := by simpa [Value.ownBlock] using hc
    exact hb
theorem RoomN.len (h : RoomN E w v l) (W : World) : (Builtin.len_ #[E.st] 3 #[v]).run P W = .ok (.int .i64 (l.length : Int)) W := h.slice.len W
theorem RoomN.of_own {base : Nat} (h : Own E base w v l) : RoomN E w v l := by
  obtain ⟨hfl, ⟨rfl, h0⟩ | ⟨g, cap, cur, rfl, hgb, hcur, hle, _, hsz, htk⟩⟩ := h
  · exact .inl ⟨rfl, List.length_eq_zero_iff.1 h0⟩
  · refine .inr ⟨g, 0, cap, rfl, hle, heap_lt hcur, fun j hj => ?_, fun j _ => frozen_of_row _ _ _ _ _ hcur, fun j u hj => ?_⟩
    · rw [cell_of_row _ _ _ _ _ _ hcur, Array.getElem?_eq_getElem (by omega)]; rfl
    · rw [Nat.zero_add, cell_of_row _ _ _ _ _ _ hcur]
      rw [← htk, List.getElem?_take] at hj
      split at hj
      · simpa using hj
      · cases hj
/-- append, where it came in -/
theorem run_append_room (h : RoomN E w v l) (x : Value) (m : List α) (hx : SliceOf E w x m) (h63 : l.length + m.length ≤ 1099511627776 / 8) (hby : E.bytes ≤ 1000) (ty : TypeId) :
    ∃ v' w', (Builtin.append_ #[E.st, E.st] ty #[v, x]).run P w = .ok v' w' ∧ RoomN E w' v' (l ++ m) ∧ RoomN E w' v l ∧ Only (fun b => v.ownBlock = some b) w w' ∧ (∀ b, v'.ownBlock = some b → v.ownBlock = some b ∨ w.heap.size ≤ b) ∧ ∀ b o n cap, v = .slice (some ⟨b, o, none⟩) n cap → v'.ownBlock = some b → v' = .slice (some ⟨b, o, none⟩) (n + m.length) cap := by
  obtain ⟨i, hi, hz, hs, hb⟩ := E.info
  have hmul : (l.length + m.length) * E.bytes ≤ 140737488355328 := Nat.le_trans (Nat.mul_le_mul h63 hby) (by omega)
  have hmax : l.length + m.length ≤ maxLen := by simp only [maxLen]; omega
  have hn := E.pos
  rcases h with ⟨rfl, rfl⟩ | h
  · obtain ⟨v', w', hr, h2, h3, _, _⟩ := run_append (base := w.heap.size) (ty := ty) (Own.nil E w.heap.size w) x m hx (by simpa using h63) hby (Nat.le_refl _)
    refine ⟨v', w', hr, RoomN.of_own h2, .inl ⟨rfl, rfl⟩, ⟨h3.os, h3.tape, h3.output, h3.size, fun k hk _ => h3.block k hk (by simp [Value.ownBlock])⟩, fun b hb => .inr (h2.block b hb).1, fun b o n cap e => by injection e with e; cases e⟩
  · have hsl := h.slice
    obtain ⟨b, o, cap, rfl, hlc, hbw, h1, h2, hc⟩ := h
    have hself : RoomN E w (.slice (some ⟨b, o, none⟩) l.length cap) l := .inr ⟨b, o, cap, rfl, hlc, hbw, h1, h2, hc⟩
    obtain ⟨p, c, rfl⟩ := hx.form
    cases p with
    | none =>
      have hm : m = [] := by
        rcases hx with ⟨_, _, _, h⟩ | ⟨p, cap, e, _⟩
        · exact h
        · injection e with e; cases e
      subst hm
      refine ⟨_, w, ?_, by simpa using hself, hself, Only.refl _ _, fun b hb => .inl hb, fun b o n cap e _ => by simpa using e⟩
      simp [Builtin.append_, run_underlying E.slice, sizeOf, typeInfo, hi, Builtin.lenOf, Builtin.firstCells, hlc, storeCells]
    | some p =>
      have hcells : ∀ j u, (E.flat m)[j]? = some u → w.cell? (p.add j) = some u := by
        rcases hx with ⟨_, _, _, rfl⟩ | ⟨q, cap, e, _, h⟩
        · intro j u hj; simp [Elem.flat] at hj
        · injection e with e
          injection e with e
          subst e
          exact h
      by_cases hfit : l.length + m.length ≤ cap
      · have hlen := E.flat_length m
        have hll := E.flat_length l
        have hbd : l.length * E.n + m.length * E.n ≤ cap * E.n := by rw [← Nat.add_mul]; exact Nat.mul_le_mul_right _ hfit
        have hr := run_append_room_cells (P := P) w E.st ty E.ty i E.slice hi b o l.length cap p m.length c (E.flat m) (by rw [hs]; exact hlen) hcells (E.flat_one' m) hfit
          (fun j hj => by rw [hs, Nat.add_assoc]; exact h1 _ (by rw [hlen] at hj; omega)) (fun j hj => by rw [hs, Nat.add_assoc]; exact h2 _ (by rw [hlen] at hj; omega))
        rw [hs] at hr
        have hfr : ∀ x, (w.setCells b (o + l.length * E.n) (E.flat m)).frozen? x = w.frozen? x := fun x => World.frozen?_setCells b _ _ w x
        have hin : ∀ j u, (E.flat m)[j]? = some u → (w.setCells b (o + l.length * E.n) (E.flat m)).cell? ⟨b, o + l.length * E.n + j, none⟩ = some u := fun j u hj => by
          obtain ⟨hj', rfl⟩ := List.getElem?_eq_some_iff.1 hj
          exact World.cell?_setCells_in b (E.flat m) (o + l.length * E.n) w (fun k hk => by rw [Nat.add_assoc]; exact h1 _ (by rw [hlen] at hk; omega)) j hj'
        have hout : ∀ j, j < l.length * E.n → (w.setCells b (o + l.length * E.n) (E.flat m)).cell? ⟨b, o + j, none⟩ = w.cell? ⟨b, o + j, none⟩ := fun j hj =>
          World.cell?_setCells_out b _ _ w _ (fun _ _ => .inl (by show o + j < o + l.length * E.n; omega))
        have hsome : ∀ j, j < cap * E.n → ((w.setCells b (o + l.length * E.n) (E.flat m)).cell? ⟨b, o + j, none⟩).isSome = true := fun j hj => by
          by_cases hj1 : j < l.length * E.n
          · rw [hout j hj1]; exact h1 j hj
          · by_cases hj2 : j < l.length * E.n + m.length * E.n
            · have hjl : j - l.length * E.n < (E.flat m).length := by rw [hlen]; omega
              have := hin (j - l.length * E.n) _ (List.getElem?_eq_getElem hjl)
              rw [show o + l.length * E.n + (j - l.length * E.n) = o + j by omega] at this
              rw [this]; rfl
            · rw [World.cell?_setCells_out b _ _ w _ (fun _ _ => .inr (by show o + l.length * E.n + (E.flat m).length ≤ o + j; rw [hlen]; omega))]
              exact h1 j hj
        have honly := only_setCells b (o + l.length * E.n) (E.flat m) w
        refine ⟨_, _, hr, .inr ⟨b, o, cap, by rw [List.length_append], by rw [List.length_append]; exact hfit, Nat.lt_of_lt_of_le hbw honly.size, hsome, fun j hj => by rw [hfr]; exact h2 j hj, fun j u hj => ?_⟩,
          .inr ⟨b, o, cap, rfl, hlc, Nat.lt_of_lt_of_le hbw honly.size, hsome, fun j hj => by rw [hfr]; exact h2 j hj, fun j u hj => ?_⟩, honly.mono (fun k _ e => by simp [Value.ownBlock, e]), fun k hk => .inl hk, fun b' o' n' cap' e _ => by injection e with e1 e2 e3; injection e1 with e1; injection e1 with e4 e5; subst e2 e3 e4 e5; rfl⟩
        · rw [E.flat_append] at hj
          by_cases hj1 : j < (E.flat l).length
          · rw [List.getElem?_append_left hj1] at hj
            rw [hout j (by rw [← hll]; exact hj1)]
            exact hc j u hj
          · rw [List.getElem?_append_right (by omega)] at hj
            have := hin _ u hj
            rw [hll] at this hj1
            rwa [show o + l.length * E.n + (j - l.length * E.n) = o + j by omega] at this
        · have hj1 : j < (E.flat l).length := (List.getElem?_eq_some_iff.1 hj).1
          rw [hout j (by rw [← hll]; exact hj1)]
          exact hc j u hj
      · obtain ⟨v', w', hr, h4, h5⟩ := run_append_arg_grows (P := P) w E.st ty E.ty i E.zero E.n E.bytes E.slice hi hz hs hb E.zsize E.pos ⟨b, o, none⟩ l.length cap (E.flat l) (E.flat_length l) (fun j u hj => by rw [add_plain]; exact hc j u hj)
          p m.length c (E.flat m) (E.flat_length m) hcells (by omega) hmax hmul
        have hown : Own E w.heap.size w' v' (l ++ m) := by
          unfold Own
          rw [List.length_append, E.flat_append]
          exact h4
        have honly : Only (fun _ => False) w w' := ⟨h5.os, h5.tape, h5.output, h5.size, fun k hk _ => h5.block k hk (by simp)⟩
        exact ⟨v', w', hr, RoomN.of_own hown, hself.only honly (fun _ _ h => h), honly.mono (fun _ _ h => h.elim), fun b hb => .inr (hown.block b hb).1, fun b' o' n' cap' e hb' => by
          injection e with e1; injection e1 with e1; injection e1 with e4
          have := (hown.block _ hb').1
          omega⟩
/-- a whole element stored -/
theorem run_storeAt_room (h : Room E w v l) (k : Nat) (a : α) (hk : k < l.length) :
    ∃ p w', (∀ W, (Instr.indexAt E.st v (.int .i64 (k : Int))).run P W = .ok (.pointer (some p)) W) ∧ (Instr.storeAt E.ty (.pointer (some p)) (E.val a)).run P w = .ok () w' ∧ Room E w' v (l.set k a) ∧ Only (fun b => v.ownBlock = some b) w w' := by
  obtain ⟨b, o, cap, rfl, hlc, hbw, h1, h2, hc⟩ := h
  have hn := E.pos
  have hkc : k * E.n + E.n ≤ cap * E.n := by rw [← Nat.succ_mul]; exact Nat.mul_le_mul_right _ (by omega)
  have hlen : (E.val a).cells.toList.length = E.n := by rw [Array.length_toList]; exact E.size a
  have hst := run_storeCells_cells (P := P) b (o + k * E.n) (E.val a).cells.toList 0 w (fun j hj => by rw [Nat.add_zero, Nat.add_assoc]; exact h1 _ (by omega)) (fun j hj => by rw [Nat.add_zero, Nat.add_assoc]; exact h2 _ (by omega)) (E.one a)
  rw [Nat.add_zero] at hst
  have hin : ∀ j u, (E.val a).cells[j]? = some u → (w.setCells b (o + k * E.n) (E.val a).cells.toList).cell? ⟨b, o + k * E.n + j, none⟩ = some u := fun j u hj => by
    have hj0 : (E.val a).cells.toList[j]? = some u := by rw [Array.getElem?_toList]; exact hj
    obtain ⟨hj', rfl⟩ := List.getElem?_eq_some_iff.1 hj0
    exact World.cell?_setCells_in b _ (o + k * E.n) w (fun i hi => by rw [Nat.add_assoc]; exact h1 _ (by omega)) j hj'
  have hout : ∀ j, j < k * E.n ∨ k * E.n + E.n ≤ j → (w.setCells b (o + k * E.n) (E.val a).cells.toList).cell? ⟨b, o + j, none⟩ = w.cell? ⟨b, o + j, none⟩ := fun j hj =>
    World.cell?_setCells_out b _ _ w _ (fun _ _ => by
      show o + j < o + k * E.n ∨ o + k * E.n + (E.val a).cells.toList.length ≤ o + j
      rw [hlen]; omega)
  have honly := only_setCells b (o + k * E.n) (E.val a).cells.toList w
  have hel : P.elem E.st = E.ty := by simp [Program.elem, E.slice]
  refine ⟨⟨b, o + k * E.n, none⟩, _, fun W => ?_, ?_, ⟨b, o, cap, by simp, by simpa using hlc, Nat.lt_of_lt_of_le hbw honly.size, fun j hj => ?_, fun j hj => by rw [World.frozen?_setCells]; exact h2 j hj, fun j u hj => ?_⟩, honly.mono (fun k _ e => by simp [Value.ownBlock, e])⟩
  · rw [run_indexAt_slice W E.st ⟨b, o, none⟩ l.length cap .i64 (k : Int) (by rw [hel]; exact E.slice), if_pos (by omega), hel, run_sizeOf_elem]
    simp [Result.andThen, add_plain]
  · have hsz : ∀ W, (sizeOf E.ty).run P W = .ok E.n W := fun W => run_sizeOf_elem W
    have he := E.size a
    simp [Instr.storeAt, Instr.sureAddr, storeVar, hsz, he, hst]
  · by_cases hj1 : j < k * E.n ∨ k * E.n + E.n ≤ j
    · rw [hout j hj1]; exact h1 j hj
    · have hjl : j - k * E.n < (E.val a).cells.size := by rw [E.size]; omega
      have := hin (j - k * E.n) _ (Array.getElem?_eq_getElem hjl)
      rw [show o + k * E.n + (j - k * E.n) = o + j by omega] at this
      rw [this]; rfl
  · obtain ⟨q, c, i, h3, h4, rfl⟩ := Elem.flat_all E _ j u hj
    have hi : i < E.n := by have := (Array.getElem?_eq_some_iff.1 h4).1; rw [E.size] at this; exact this
    by_cases hq : q = k
    · subst hq
      rw [List.getElem?_set_self hk] at h3
      obtain rfl := Option.some.inj h3
      have := hin i u h4
      rwa [Nat.add_assoc] at this
    · rw [List.getElem?_set_ne (Ne.symm hq)] at h3
      have hdis : q * E.n + i < k * E.n ∨ k * E.n + E.n ≤ q * E.n + i := by
        rcases Nat.lt_or_gt_of_ne hq with h | h
        · have : q * E.n + E.n ≤ k * E.n := by rw [← Nat.succ_mul]; exact Nat.mul_le_mul_right _ h
          omega
        · have : k * E.n + E.n ≤ q * E.n := by rw [← Nat.succ_mul]; exact Nat.mul_le_mul_right _ h
          omega
      rw [hout _ hdis]
      exact hc _ u (E.flat_get l q c i u h3 h4)
end
end Go.Agg
/-! One cell of a block written. -/
namespace Go.Agg
open Go.RowKit
variable {P : Program}
theorem Blk.set {w : World} {g : Nat} {t : TypeId} {cs : Array Value} (h : Blk w g t cs) (i : Nat) (v : Value) : Blk (w.setCell ⟨g, i, none⟩ v) g t (cs.setIfInBounds i v) := by
  unfold Blk at *
  simp [World.setCell, Array.getElem?_modify, h]
theorem Blk.run_put {w : World} {g : Nat} {t ty : TypeId} {cs : Array Value} (h : Blk w g t cs) (i : Nat) (hi : i < cs.size) (v : Value) (hv : v.cells = #[v]) (h1 : v.oneCell' = true) (hs : (P.info? ty).map (·.size) = some 1) :
    (Instr.storeAt ty (.pointer (some ⟨g, i, none⟩)) v).run P w = .ok () (w.setCell ⟨g, i, none⟩ v) := by
  have hst := run_storeCells_cells (P := P) g i v.cells.toList 0 w (fun j hj => by
    rw [hv] at hj
    obtain rfl : j = 0 := by simpa using hj
    rw [h.cell]
    simp [hi]) (fun j _ => frozen_of_row _ _ _ _ _ h) (by rw [hv]; simpa using h1)
  have hsz : (Go.sizeOf ty).run P w = .ok 1 w := by
    cases hq : P.info? ty with
    | none => simp [hq] at hs
    | some d =>
      have : d.size = 1 := by simpa [hq] using hs
      simp [Go.sizeOf, typeInfo, hq, this]
  rw [hv] at hst
  simp only [Nat.add_zero, World.setCells] at hst
  simp [Instr.storeAt, Instr.sureAddr, storeVar, hsz, hv, hst]
end Go.Agg
