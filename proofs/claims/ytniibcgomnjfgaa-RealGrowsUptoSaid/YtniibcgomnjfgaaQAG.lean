/- real.of and how two places stand. (Several texts in one.) -/
import Derived.StillTail
import Derived.Deep.Quiet
import Derived.Test.YtniibcgomnjfgaaQAF
import Derived.Test.YtniibcgomnjfgaaQAC
import Derived.Lib.Bytealg
/-! A region that draws its order, in three parts: a quiet head in one class of worlds, a row of operations one behind the other, a quiet end in another class. Over any program. -/
namespace Go.Agg
variable {P : Program} {ops : Array Oper} {md : Region.Mode} {C : World → Prop}
def pre (N k : Nat) : Array Bool := (List.replicate k true ++ List.replicate (N - k) false).toArray
theorem pre_zero (N : Nat) : pre N 0 = Array.replicate N false := by simp [pre]
theorem pre_size {N k : Nat} (h : k ≤ N) : (pre N k).size = N := by simp [pre]; omega
theorem pre_get {N k : Nat} (h : k ≤ N) (t : Nat) (d : Bool) : (pre N k).getD t d = if t < k then true else if t < N then false else d := by
  unfold pre
  rw [Array.getD_eq_getD_getElem?]
  simp only [List.getElem?_toArray]
  by_cases h1 : t < k
  · rw [List.getElem?_append_left (by simpa using h1), List.getElem?_replicate, if_pos h1, if_pos h1]; rfl
  · rw [List.getElem?_append_right (by simpa using h1), List.getElem?_replicate, if_neg h1]
    by_cases h2 : t < N
    · rw [if_pos h2, if_pos (by simp; omega)]; rfl
    · rw [if_neg h2, if_neg (by simp; omega)]; rfl
theorem pre_set {N k : Nat} (h : k < N) : (pre N k).setIfInBounds k true = pre N (k + 1) := by
  apply Array.ext_getElem?
  intro t
  have e1 := pre_get (N := N) (k := k) (by omega)
  unfold pre
  simp only [List.setIfInBounds_toArray, List.getElem?_toArray]
  rw [show N - k = (N - (k + 1)) + 1 by omega, List.replicate_succ, List.set_append_right _ _ (by simp)]
  simp only [List.length_replicate, Nat.sub_self, List.set_cons_zero]
  rw [List.replicate_succ', List.append_assoc, List.singleton_append]
/-- the tail waits for its first one -/
def treeB (md : Region.Mode) (ops : Array Oper) (n : Nat) : Bool :=
  (List.range ops.size).all fun t => decide (t ≤ n) || (List.range t).any fun j => decide (n ≤ j) && Region.waitsFor md ops t j
def closedB (md : Region.Mode) (ops : Array Oper) (k : Nat) : Bool :=
  (List.range k).all fun j => match ops[j]? with | some oj => oj.after.all fun e => !Region.binds md e || decide (e.on < k) | none => true
def headB (md : Region.Mode) (ops : Array Oper) : Nat → Nat → Array Bool → Bool
  | 0, _, _ => true
  | f + 1, k, listed => (Region.ready md ops listed).contains k && Region.free md ops listed k && headB md ops f (k + 1) (listed.setIfInBounds k true)
def cutB (md : Region.Mode) (ops : Array Oper) (k n : Nat) : Bool :=
  decide (n < ops.size) && Region.sinkB md ops n && treeB md ops n && closedB md ops k && headB md ops (n - k) k (pre ops.size k)
def rowB (md : Region.Mode) (ops : Array Oper) : Nat → Nat → Array Bool → Bool
  | 0, _, _ => true
  | g + 1, k, listed => decide (Region.ready md ops listed = [k]) && rowB md ops g (k + 1) (listed.setIfInBounds k true)
theorem waits {n : Nat} {listed : Array Bool} (hs : Region.sinkB md ops n = true) (hc : treeB md ops n = true) (inv : HeadInv md ops n listed) :
    ∀ (d i : Nat), n - i = d → i < n → listed.getD i true = false → ∀ t, n ≤ t → t ∉ Region.ready md ops listed := by
  intro d
  induction d using Nat.strongRecOn with
  | _ d ih =>
    intro i hd hi hun t ht hr
    obtain ⟨_, ot, hot, hall⟩ := mem_ready.1 hr
    have htlt : t < ops.size := (Array.getElem?_eq_some_iff.1 hot).1
    by_cases htn : t = n
    · subst htn
      obtain ⟨j, hj, hj2⟩ := List.any_eq_true.1 (List.all_eq_true.1 hs i (List.mem_range.2 hi))
      simp only [Bool.and_eq_true, decide_eq_true_eq] at hj2
      obtain ⟨oj, hoj, e, he, hb, hon⟩ := Region.waitsFor_spec hj2.2
      have hjle : j ≤ t := by have := List.mem_range.1 hj; omega
      by_cases hjt : j = t
      · subst hjt
        obtain rfl : oj = ot := Option.some.inj (hoj.symm.trans hot)
        have h2 := hall e he hb
        rw [hon, getD_both hun] at h2
        cases h2
      · cases hl : listed.getD j false with
        | true =>
          have h2 := inv.closed j oj hoj hl e he hb
          rw [hon, getD_both hun] at h2
          cases h2
        | false => exact ih (t - j) (by omega) j rfl (by omega) (getD_in (by rw [inv.size]; omega) hl) t (Nat.le_refl _) hr
    · have h1 := List.all_eq_true.1 hc t (List.mem_range.2 htlt)
      simp only [Bool.or_eq_true, decide_eq_true_eq] at h1
      rcases h1 with h1 | h1
      · omega
      · obtain ⟨j, hj, hj2⟩ := List.any_eq_true.1 h1
        simp only [Bool.and_eq_true, decide_eq_true_eq] at hj2
        obtain ⟨o', ho', e, he, hb, hon⟩ := Region.waitsFor_spec hj2.2
        obtain rfl : o' = ot := Option.some.inj (ho'.symm.trans hot)
        have h2 := hall e he hb
        have hjt := List.mem_range.1 hj
        rw [hon, getD_both (inv.tail j hj2.1 (by omega))] at h2
        cases h2
/-- whatever order, f operations of the head -/
def anyHead (P : Program) (md : Region.Mode) (ops : Array Oper) (C : World → Prop) (n : Nat) (L : Array Bool → Act → Prop) : Nat → Array Bool → Act → Prop
  | 0, listed, a => L listed a
  | f + 1, listed, a => Region.ready md ops listed ≠ [] ∧ ∀ i ∈ Region.ready md ops listed, i < n ∧ qOp P ops C i (anyHead P md ops C n L f (listed.setIfInBounds i true)) a
theorem any_of_head {n g : Nat} {L : Array Bool → Act → Prop} {Q' : Exit → Act → World → Prop} (hL : ∀ listed a w, C w → L listed a → wpAny P md ops Q' g listed a w) :
    ∀ (f : Nat) (listed : Array Bool) (a : Act) (w : World), C w → anyHead P md ops C n L f listed a → wpAny P md ops Q' (f + g) listed a w
  | 0, listed, a, w, hw, h => by rw [Nat.zero_add]; exact hL _ _ _ hw h
  | f + 1, listed, a, w, hw, h => by
    rw [show f + 1 + g = (f + g) + 1 by omega]
    exact ⟨fun h0 => absurd h0 h.1, fun i hi => wpOp_of_qOp hw (fun a' w' hw' h' => any_of_head hL f _ a' w' hw' h') (h.2 i hi).2⟩
theorem head_first {n i : Nat} {oi : Oper} {v : Value} {L : Array Bool → Act → Prop} (hi : ops[i]? = some oi) (hsel : ∀ (j : Nat) (o : Oper) cs b, ops[j]? = some o → o.op ≠ .select cs b)
    (hs : Region.sinkB md ops n = true) (hc : treeB md ops n = true) (hin : i < n) (hdone : ∀ listed a, L listed a → ∀ j ∈ Region.ready md ops listed, n ≤ j) :
    ∀ (f : Nat) (listed : Array Bool) (a : Act), HeadInv md ops n listed →
      (∀ j oj, ops[j]? = some oj → j ≠ i → listed.getD j true = false → (∀ e ∈ oj.after, Region.binds md e = true → e.on ≠ i) → oi.apart ops oj = true) →
      i ∈ Region.ready md ops listed → YieldsIn P ops C oi v a →
      anyHead P md ops C n L f (listed.setIfInBounds i true) (a.put oi.dst v) → anyHead P md ops C n L (f + 1) listed a := by
  intro f
  induction f with
  | zero =>
    intro listed a inv _ hr hy H
    have hun := (mem_ready.1 hr).1
    refine ⟨fun h => (by rw [h] at hr; cases hr), fun j hj => ?_⟩
    have hjn : j < n := (Nat.lt_or_ge j n).resolve_right fun h => waits hs hc inv _ i rfl hin hun j h hj
    refine ⟨hjn, ?_⟩
    by_cases hji : j = i
    · subst hji; exact hy.qOp hi H
    · have := hdone _ _ H j (ready_mono hj hji)
      omega
  | succ f ih =>
    intro listed a inv hfree hr hy H
    have hun := (mem_ready.1 hr).1
    refine ⟨fun h => (by rw [h] at hr; cases hr), fun j hj => ?_⟩
    have hjn : j < n := (Nat.lt_or_ge j n).resolve_right fun h => waits hs hc inv _ i rfl hin hun j h hj
    refine ⟨hjn, ?_⟩
    by_cases hji : j = i
    · subst hji; exact hy.qOp hi H
    · have h1 := (H.2 j (ready_mono hj hji)).2
      obtain ⟨hjun, oj, hoj, hall⟩ := mem_ready.1 hj
      have hnot : ∀ e ∈ oj.after, Region.binds md e = true → e.on ≠ i := fun e he hb heq => by
        have h1 := hall e he hb
        rw [heq, getD_both hun] at h1
        cases h1
      have h2 := qOp_put hoj (hfree j oj hoj hji hjun hnot) (fun cs b => hsel i oi cs b hi) (fun cs b => hsel j oj cs b hoj) hy h1
      refine qOp_mono (fun a' h3 => ih (listed.setIfInBounds j true) a' (inv.set hj hjn) (fun k ok hk hki hun' hno => hfree k ok hk hki ?_ hno) (ready_mono hr (Ne.symm hji)) h3.1 ?_) h2
      · by_cases hjk : j = k
        · subst hjk; exact hjun
        · rw [getD_set_ne true hjk] at hun'; exact hun'
      · rw [Array.setIfInBounds_comm _ _ hji]
        exact h3.2
theorem head_lex {n : Nat} {Lq : Act → Prop} (hsel : Region.noSelect ops = true) (hs : Region.sinkB md ops n = true) (hc : treeB md ops n = true) (hn : n < ops.size) :
    ∀ (l : List Oper) (k : Nat) (a : Act), (∀ j, j < l.length → l[j]? = ops[k + j]?) → k + l.length = n → HeadInv md ops n (pre ops.size k) →
    headB md ops l.length k (pre ops.size k) = true → wpQuiet P ops C Lq l a →
    anyHead P md ops C n (fun listed' a' => listed' = pre ops.size n ∧ Lq a') l.length (pre ops.size k) a
  | [], k, a, _, hk, _, hB, h => by
    obtain rfl : k = n := by simpa using hk
    exact ⟨rfl, h⟩
  | o :: l, k, a, hl, hk, inv, hB, h => by
    have h0 : ops[k]? = some o := by simpa using (hl 0 (by simp)).symm
    simp only [List.length_cons, headB, Bool.and_eq_true] at hB
    obtain ⟨⟨hr, hf⟩, hB'⟩ := hB
    have hkn : k < n := by simp only [List.length_cons] at hk; omega
    have hr' : k ∈ Region.ready md ops (pre ops.size k) := by simpa using hr
    have hst : qOp P ops C k (wpQuiet P ops C Lq l) a := by unfold qOp; simp only [h0]; exact h
    obtain ⟨v, hy, hK⟩ := yieldsIn_of_qOp h0 hst
    have hset : (pre ops.size k).setIfInBounds k true = pre ops.size (k + 1) := pre_set (by omega)
    have inv' := inv.set hr' hkn
    rw [hset] at hB' inv'
    refine head_first h0 (Region.noSelect_spec hsel) hs hc hkn (fun listed' a' hL j hj => ?_) l.length _ a inv (Region.free_spec h0 hf) hr' hy ?_
    · have h1 := (mem_ready.1 hj).1
      rw [hL.1, pre_get (by omega)] at h1
      by_cases hjn : j < n
      · rw [if_pos hjn] at h1; cases h1
      · omega
    · rw [hset]
      exact head_lex hsel hs hc hn l (k + 1) _ (fun j hj => by have := hl (j + 1) (by simp; omega); simpa [Nat.add_assoc, Nat.add_comm 1 j] using this) (by simp only [List.length_cons] at hk; omega) inv' hB' hK
theorem seg_quiet {k n g : Nat} {Lq : Act → Prop} {Q' : Exit → Act → World → Prop} (hsel : Region.noSelect ops = true) (hB : cutB md ops k n = true)
    (hL : ∀ a w, C w → Lq a → wpAny P md ops Q' g (pre ops.size n) a w) (l : List Oper) (hl : ∀ j, j < l.length → l[j]? = ops[k + j]?) (hk : k + l.length = n) {a : Act} {w : World} (h : wpQuiet P ops C Lq l a) (hw : C w) :
    wpAny P md ops Q' (l.length + g) (pre ops.size k) a w := by
  simp only [cutB, Bool.and_eq_true, decide_eq_true_eq] at hB
  obtain ⟨⟨⟨⟨hn, hs⟩, hc⟩, hcl⟩, hh⟩ := hB
  have hkN : k ≤ ops.size := by omega
  have inv : HeadInv md ops n (pre ops.size k) := by
    refine ⟨pre_size hkN, fun j oj hoj hj e he hb => ?_, fun t ht ht' => ?_⟩
    · rw [pre_get hkN] at hj ⊢
      have hjk : j < k := by
        by_cases h : j < k
        · exact h
        · rw [if_neg h] at hj; split at hj <;> cases hj
      have h1 := List.all_eq_true.1 hcl j (List.mem_range.2 hjk)
      rw [hoj] at h1
      have h2 := Array.all_eq_true_iff_forall_mem.1 h1 e he
      simp only [hb, Bool.not_true, Bool.false_or, decide_eq_true_eq] at h2
      rw [if_pos h2]
    · rw [pre_get hkN, if_neg (by omega), if_pos ht']
  rw [show n - k = l.length by omega] at hh
  exact any_of_head (fun listed a w hw hL' => hL'.1 ▸ hL a w hw hL'.2) _ _ _ _ hw (head_lex hsel hs hc hn l k a hl hk inv hh h)
/-- what follows a row -/
def thenK (Q : Exit → Act → World → Prop) (K : Act → World → Prop) : Exit → Act → World → Prop
  | .normal, a, w => K a w
  | e, a, w => Q e a w
theorem wpOp_thenK {Q : Exit → Act → World → Prop} {K K' : Act → World → Prop} {i : Nat} {a : Act} {w : World} (h : wpOp P ops (thenK Q K) i K' a w) : wpOp P ops Q i K' a w := by
  unfold wpOp at *
  split
  · rename_i ho; simpa [ho] using h
  · rename_i o ho
    simp only [ho] at h
    split
    · rename_i hw
      simp only [hw, if_true] at h
      rcases h with h | ⟨h1, a', w', h2⟩
      · refine .inl ?_
        unfold Oper.wp at *
        generalize (execOp a.eval o).run P w = r at *
        cases r with
        | ok n w' =>
          cases n <;> simp only [Oper.upon] at h ⊢ <;>
            first
              | exact h
              | exact Calls.mono h (fun e w'' he => by
                  cases e <;> first | exact he | (obtain ⟨a', w', h2⟩ := he; exact ⟨a', w', h2⟩))
        | halt x w' => cases x <;> simp only [Oper.upon] at h ⊢ <;> exact h
      · exact .inr ⟨h1, a', w', h2⟩
    · rename_i hw; simpa [hw] using h
theorem seg_row {g : Nat} {Q' : Exit → Act → World → Prop} {K : Act → World → Prop} {n : Nat} (hL : ∀ a w, K a w → wpAny P md ops Q' g (pre ops.size n) a w) : ∀ (l : List Oper) (k : Nat) (a : Act) (w : World),
    (∀ j, j < l.length → l[j]? = ops[k + j]?) → k + l.length = n → n ≤ ops.size → rowB md ops l.length k (pre ops.size k) = true → wpList P ops (thenK Q' K) l a w → wpAny P md ops Q' (l.length + g) (pre ops.size k) a w
  | [], k, a, w, _, hk, _, _, h => by
    obtain rfl : k = n := by simpa using hk
    rw [show ([] : List Oper).length + g = g by simp]
    exact hL _ _ h
  | o :: l, k, a, w, hl, hk, hn, hB, h => by
    have h0 : ops[k]? = some o := by simpa using (hl 0 (by simp)).symm
    simp only [List.length_cons, rowB, Bool.and_eq_true, decide_eq_true_eq] at hB hk
    rw [show (o :: l).length + g = (l.length + g) + 1 by simp; omega]
    refine ⟨fun h1 => (by rw [hB.1] at h1; cases h1), fun i hi => ?_⟩
    rw [hB.1] at hi
    obtain rfl : i = k := by simpa using hi
    have hw : wpOp P ops (thenK Q' K) i (wpList P ops (thenK Q' K) l) a w := by unfold wpOp; simp only [h0]; exact h
    have hset : (pre ops.size i).setIfInBounds i true = pre ops.size (i + 1) := pre_set (by omega)
    have hB2 := hB.2
    rw [hset] at hB2
    refine wpOp_mono (fun a' w' h' => ?_) (wpOp_thenK hw)
    rw [hset]
    exact seg_row hL l (i + 1) a' w' (fun j hj => by have := hl (j + 1) (by simp; omega); simpa [Nat.add_assoc, Nat.add_comm 1 j] using this) (by omega) hn hB2 h'
def midB (md : Region.Mode) (ops : Array Oper) (n m : Nat) : Bool :=
  Region.noSelect ops && decide (n < m) && decide (m < ops.size) && cutB md ops 0 n && rowB md ops (m - n) n (pre ops.size n) && Region.lexFrom md ops (ops.size - m) m (pre ops.size m)
/-- HEAD, ROW, END -/
theorem wp_region_mid {id : Nat} {Q : Exit → Act → World → Prop} {a : Act} {w : World} {l : List Oper} (n m : Nat) (C : World → Prop) (hm : P.follows .mixedOrders = true) (hB : midB .any l.toArray n m = true) (hC : C w.drew)
    (h : wpQuiet P l.toArray C (fun a' => ∀ w', C w' → wpList P l.toArray (thenK Q fun a2 w2 => ∃ C2 : World → Prop, C2 w2 ∧ wpQuiet P l.toArray C2 (fun a3 => ∀ w3, C2 w3 → Q .normal a3 w3) (l.drop m) a2) ((l.drop n).take (m - n)) a' w') (l.take n) a) :
    (Code.region id l.toArray true).wp P Q a w := by
  simp only [midB, Bool.and_eq_true, decide_eq_true_eq] at hB
  obtain ⟨⟨⟨⟨⟨hsel, hnm⟩, hms⟩, hc⟩, hr⟩, hx⟩ := hB
  have hms' : m < l.length := by simpa using hms
  refine wp_region_any hm ?_
  have hend : ∀ a2 w2, (∃ C2 : World → Prop, C2 w2 ∧ wpQuiet P l.toArray C2 (fun a3 => ∀ w3, C2 w3 → Q .normal a3 w3) (l.drop m) a2) → wpAny P .any l.toArray Q (l.length - m) (pre l.toArray.size m) a2 w2 := by
    rintro a2 w2 ⟨C2, h2, hq⟩
    have h3 := wpAnyQ_lex (C := C2) (md := .any) hsel (l.drop m) m (pre l.toArray.size m) a2 (fun j => by simp [List.getElem?_drop]) (by simpa using hx) hq
    have := wpAny_of_quiet (Q' := Q) (Q := fun a3 => ∀ w3, C2 w3 → Q .normal a3 w3) (fun _ w' hw' h => h w' hw') _ _ _ _ h2 h3
    simpa using this
  have hrow : ∀ a' w', C w' → (∀ w', C w' → wpList P l.toArray (thenK Q fun a2 w2 => ∃ C2 : World → Prop, C2 w2 ∧ wpQuiet P l.toArray C2 (fun a3 => ∀ w3, C2 w3 → Q .normal a3 w3) (l.drop m) a2) ((l.drop n).take (m - n)) a' w') →
      wpAny P .any l.toArray Q (l.length - n) (pre l.toArray.size n) a' w' := by
    intro a' w' hw' h'
    have hlen : ((l.drop n).take (m - n)).length = m - n := by simp; omega
    have := seg_row (md := .any) (n := m) hend ((l.drop n).take (m - n)) n a' w' (fun j hj => by
      rw [hlen] at hj
      simp [hj]) (by rw [hlen]; omega) (by simp; omega) (by rw [hlen]; exact hr) (h' w' hw')
    rw [hlen, show m - n + (l.length - m) = l.length - n by omega] at this
    exact this
  have hlen : (l.take n).length = n := by simp; omega
  have := seg_quiet (md := .any) (k := 0) (n := n) hsel hc hrow (l.take n) (fun j hj => by
    rw [hlen] at hj
    simp [hj]) (by rw [hlen]; omega) h hC
  rw [hlen, show n + (l.length - n) = l.length by omega, pre_zero] at this
  exact this
def rowEndB (md : Region.Mode) (ops : Array Oper) (n : Nat) : Bool :=
  Region.noSelect ops && decide (n < ops.size) && cutB md ops 0 n && rowB md ops (ops.size - n) n (pre ops.size n) && (Region.ready md ops (pre ops.size ops.size)).isEmpty
/-- HEAD, ROW -/
theorem wp_region_row {id : Nat} {Q : Exit → Act → World → Prop} {a : Act} {w : World} {l : List Oper} (n : Nat) (C : World → Prop) (hm : P.follows .mixedOrders = true) (hB : rowEndB .any l.toArray n = true) (hC : C w.drew)
    (h : wpQuiet P l.toArray C (fun a' => ∀ w', C w' → wpList P l.toArray Q (l.drop n) a' w') (l.take n) a) : (Code.region id l.toArray true).wp P Q a w := by
  simp only [rowEndB, Bool.and_eq_true, decide_eq_true_eq, List.isEmpty_iff] at hB
  obtain ⟨⟨⟨⟨hsel, hn⟩, hc⟩, hr⟩, hx⟩ := hB
  have hn' : n < l.length := by simpa using hn
  refine wp_region_any hm ?_
  have hdl : (l.drop n).length = l.length - n := by simp
  have hrow : ∀ a' w', C w' → (∀ w', C w' → wpList P l.toArray Q (l.drop n) a' w') → wpAny P .any l.toArray Q (l.length - n) (pre l.toArray.size n) a' w' := by
    intro a' w' hw' h'
    have hQ : thenK Q (Q .normal) = Q := by funext e; cases e <;> rfl
    have := seg_row (md := .any) (n := l.length) (g := 0) (Q' := Q) (K := Q .normal) (fun a w hK => ⟨by rw [show l.length = l.toArray.size by simp]; exact hx, hK⟩) (l.drop n) n a' w' (fun j _ => by simp [List.getElem?_drop]) (by rw [hdl]; omega) (by simp) (by rw [hdl]; simpa using hr) (by rw [hQ]; exact h' w' hw')
    rwa [hdl, Nat.add_zero] at this
  have hlen : (l.take n).length = n := by simp; omega
  have := seg_quiet (md := .any) (k := 0) (n := n) hsel hc hrow (l.take n) (fun j hj => by
    rw [hlen] at hj
    simp [hj]) (by rw [hlen]; omega) h hC
  rw [hlen, show n + (l.length - n) = l.length by omega, pre_zero] at this
  exact this
end Go.Agg
/-! real.of and how two places stand. -/
namespace Go.Proofs.Ytniibcgomnjfgaa
open Go.RowKit Pl Go.Agg
open Go.Lib (compareBytes)
/-- ints as elements -/
def EZ : Elem Try.prog Int where
  ty := 3
  st := 92
  n := 1
  bytes := 8
  val := fun c => .int .i64 c
  zero := .int .i64 0
  pos := by omega
  small := by omega
  size := fun x => rfl
  one := fun x v hv => by
    obtain rfl : v = .int .i64 x := by simpa [Value.cells] using hv
    rfl
  zsize := rfl
  slice := by kernel_rfl
  info := info_of (by kernel_rfl) (by kernel_rfl) (by kernel_rfl)
  load := fun w a x hp h => LoadsL.of_cell (by have := h 0 _ rfl; rwa [show a.add 0 = a from rfl] at this) Try.underlying3 rfl
theorem ints_lenZ {w : World} {v : Value} {l : List Int} (h : SliceOf EZ w v l) (W : World) : (Builtin.len_ #[92] 3 #[v]).run Try.prog W = .ok (.int .i64 (l.length : Int)) W := h.len W
theorem wpList_ints3 {ops : Array Oper} {rest : List Oper} {o : Oper} {a : Act} {w : World} {Q : Exit → Act → World → Prop} (hg : o.guard = none) (x y z : Operand) (ho : o.op = .buildSlice 92 3 #[(0, x), (1, y), (2, z)]) (p q r : Int) (hx : a.eval x = .int .i64 p) (hy : a.eval y = .int .i64 q) (hz : a.eval z = .int .i64 r)
    (h : ∀ v' w', SliceOf EZ w' v' [p, q, r] → Below w.heap.size w w' → wpList Try.prog ops Q rest (a.put o.dst v') w') : wpList Try.prog ops Q (o :: rest) a w := by
  have hb : (Instr.buildSlice 92 3 #[(0, .int .i64 p), (1, .int .i64 q), (2, .int .i64 r)]).run Try.prog w = .ok (.slice (some ⟨w.heap.size, 0, none⟩) 3 3) (w.alloc (.cells #[.int .i64 p, .int .i64 q, .int .i64 r] 3)) := by kernel_rfl
  have hB := Blk.new w 3 #[.int .i64 p, .int .i64 q, .int .i64 r]
  refine wpList_val hg (v := .slice (some ⟨w.heap.size, 0, none⟩) 3 3) (w' := w.alloc (.cells #[.int .i64 p, .int .i64 q, .int .i64 r] 3)) (by simp [execOp, ho, hx, hy, hz, hb]) (h _ _ (.inr ⟨_, 3, rfl, hB.lt, fun j u hj => ?_⟩) ((Below.refl _ _).alloc (Nat.le_refl _) _))
  have e : EZ.flat [p, q, r] = (#[.int .i64 p, .int .i64 q, .int .i64 r] : Array Value).toList := rfl
  rw [e] at hj
  rw [add_plain, Nat.zero_add, hB.cell, ← Array.getElem?_toList]; exact hj
def orL : List Int → Int | [] => 0 | a :: l => if a = 0 then orL l else a
theorem orL_zero : ∀ (l : List Int) (k : Nat), (∀ j, j < k → l[j]? = some 0) → orL l = orL (l.drop k)
  | _, 0, _ => rfl
  | [], k + 1, _ => rfl
  | a :: l, k + 1, h => by
    have h0 := h 0 (by omega)
    obtain rfl : a = 0 := by simpa using h0
    simp only [orL, if_true, List.drop_succ_cons]
    exact orL_zero l k fun j hj => by simpa using h (j + 1) (by omega)
theorem orL_three (a b c : Int) : orL [a, b, c] = or3 a b c := by
  unfold or3 orL orL orL orL
  by_cases ha : a = 0 <;> by_cases hb : b = 0 <;> by_cases hc : c = 0 <;> simp [ha, hb, hc]
set_option maxRecDepth 100000 in
set_option maxHeartbeats 1000000 in
theorem orInt_any (v : Value) (l : List Int) (w : World) (hn : l.length ≤ 1048576) (hs : SliceOf EZ w v l) :
    Calls Try.prog 41 #[v] w fun e w' => e = .returned (.int .i64 (orL l)) ∧ Below w.heap.size w w' := by
  have HS := Lib.hid hs
  have hlv := fun W => ints_lenZ hs W
  clear hs
  go_enter Try.func41, Try.ntmps41
  go_wp2_with fail
  go_loopw [8] (fun i wr => ∃ k : Nat, k ≤ l.length ∧ i = .int .i64 k ∧ (∀ j, j < k → l[j]? = some 0) ∧ Below w.heap.size w wr) (fun i _ => l.length - (intOf i).toNat)
  case atStart => exact ⟨0, by omega, rfl, fun j hj => absurd hj (by omega), Below.refl _ _⟩
  case round =>
    obtain ⟨wr1, rfl⟩ : ∃ y : World, y = wr := ⟨_, rfl⟩
    obtain ⟨k, hk, rfl, hz, hw⟩ := hrel
    have HZ := Lib.hid hz
    have HW := Lib.hid hw
    clear hz hw
    by_cases hlt : k < l.length
    · have hd : decide ((k : Int) < (l.length : Int)) = true := by simp; omega
      obtain ⟨m, hmk⟩ : ∃ m, l[k]? = some m := ⟨_, List.getElem?_eq_getElem hlt⟩
      obtain ⟨q, hadr, _, _, hq⟩ := (HS.out.below HW.out).at_ k m hmk
      have hadr : ∀ W, (Instr.indexAt 92 v (.int .i64 (k : Int))).run Try.prog W = .ok (.pointer (some q)) W := hadr
      have HQ := Lib.hid (show LoadsL Try.prog wr1 3 (some q) (.int .i64 m) from hq)
      have HK := Lib.hid hmk
      clear hq hmk
      by_cases hm : m = 0
      · subst hm
        go_wp2_with (first | (with_reducible refine wpList_loadL HQ.out rfl _ rfl rfl ?_))
        go_roundw
        case rel =>
          refine ⟨k + 1, by omega, by go_num, fun j hj => ?_, HW.out⟩
          by_cases e : j = k
          · subst e; exact HK.out
          · exact HZ.out j (by omega)
        case measure => simp [intOf]; omega
      · have hb : (m != 0) = true := by simp [hm]
        go_wp2_with (first | (with_reducible refine wpList_loadL HQ.out rfl _ rfl rfl ?_))
        go_ret
        refine ⟨?_, HW.out⟩
        rw [orL_zero l k HZ.out, List.drop_eq_getElem_cons hlt]
        have : l[k] = m := by have := HK.out; rw [List.getElem?_eq_getElem hlt] at this; exact Option.some.inj this
        simp [orL, this, hm]
    · obtain rfl : k = l.length := by omega
      go_wp2_with fail
      go_ret
      refine ⟨?_, HW.out⟩
      rw [orL_zero l l.length HZ.out]
      simp [orL]
theorem isNaNI_any (s : Int) (w : World) : Calls Try.prog 55 #[.int .i64 s] w fun e w' => e = .returned (.bool false) ∧ w = w' := by
  go_enter Try.func55, Try.ntmps55
  go_wp2
  all_goals go_ret
  all_goals simp
theorem cmpInt_any (a b : Int) (w : World) : Calls Try.prog 43 #[.int .i64 a, .int .i64 b] w fun e w' => e = .returned (.int .i64 (cmpI a b)) ∧ w = w' := by
  go_enter Try.func43, Try.ntmps43
  go_wp2_with fail
  refine (isNaNI_any a _).mono ?_
  rintro e w1 ⟨rfl, rfl⟩
  go_wp2_with fail
  refine (isNaNI_any b _).mono ?_
  rintro e w1 ⟨rfl, rfl⟩
  by_cases h1 : a < b
  · have h1d := decide_eq_true h1
    go_wp2_with fail
    go_ret
    exact ⟨by simp [cmpI, h1], rfl⟩
  · by_cases h2 : b < a
    · have h1d := decide_eq_false h1
      have h2d := decide_eq_true h2
      go_wp2_with fail
      go_ret
      exact ⟨by simp [cmpI, h1, h2], rfl⟩
    · have h1d := decide_eq_false h1
      have h2d := decide_eq_false h2
      go_wp2_with fail
      go_ret
      exact ⟨by unfold cmpI; rw [if_neg (by omega), if_neg (by omega)]; rfl, rfl⟩
/-- a place's cells -/
def plC (p : Pla) : Array Value := hC p.1.1 ++ (hC p.2.1.1 ++ #[.int .i64 p.2.2])
theorem plC_size (p : Pla) : (plC p).size = 41 := by simp [plC, hC_size, p.1.2, p.2.1.2]
theorem plC_one (p : Pla) : (plC p).all (·.oneCell') = true := by rw [plC, Array.all_append, Array.all_append, hC_one, hC_one]; simp [Value.oneCell']
theorem plC_cl (p : Pla) (j : Nat) (v : Value) (h : (hC p.1.1)[j]? = some v) : (plC p)[0 + j]? = some v := by
  have := (Array.getElem?_eq_some_iff.1 h).1
  rw [plC, Nat.zero_add, Array.getElem?_append_left this]; exact h
theorem plC_ky (p : Pla) (j : Nat) (v : Value) (h : (hC p.2.1.1)[j]? = some v) : (plC p)[20 + j]? = some v := by
  have := (Array.getElem?_eq_some_iff.1 h).1
  rw [plC, Array.getElem?_append_right (by rw [hC_size, p.1.2]; omega), hC_size, p.1.2, show 20 + j - 20 = j by omega, Array.getElem?_append_left this]; exact h
theorem plC_by (p : Pla) : (plC p)[40]? = some (.int .i64 p.2.2) := by
  rw [plC, Array.getElem?_append_right (by rw [hC_size, p.1.2]; omega), hC_size, p.1.2, Array.getElem?_append_right (by rw [hC_size, p.2.1.2]; omega), hC_size, p.2.1.2]; rfl
def zPl : Pla := (⟨z20, rfl⟩, ⟨z20, rfl⟩, 0)
theorem plC_zero : (Try.prog.info? 59).map (·.zero) = some (some (.agg (plC zPl))) := by kernel_rfl
theorem plC_info (p : Pla) : (Try.prog.info? 59).map (·.size) = some (plC p).size := by rw [plC_size]; kernel_rfl
theorem plC_under : Try.prog.underlying 59 = some (.struct (Try.prog.fieldsOf 59)) := by kernel_rfl
theorem plBuilt : ∀ parts, Try.prog.built 59 parts = Instr.fill (#[(0, 20), (20, 20), (40, 1)][·]?) (plC zPl) parts := fun _ => by kernel_rfl
theorem build_place (p : Pla) (w : World) : (Instr.build 59 #[(0, .agg (hC p.1.1)), (1, .agg (hC p.2.1.1)), (2, .int .i64 p.2.2)]).run Try.prog w = .ok (.agg (plC p)) w := by
  have h1 : (hC p.1.1).size = 20 := by rw [hC_size, p.1.2]
  have h2 : (hC p.2.1.1).size = 20 := by rw [hC_size, p.2.1.2]
  have hz : (plC zPl).size = 41 := plC_size _
  have hs1 : (Go.Agg.splice (plC zPl) 0 (hC p.1.1)).size = 41 := by rw [Go.Agg.splice_size _ _ _ (by omega), hz]
  have hs2 : (Go.Agg.splice (Go.Agg.splice (plC zPl) 0 (hC p.1.1)) 20 (hC p.2.1.1)).size = 41 := by rw [Go.Agg.splice_size _ _ _ (by omega), hs1]
  refine run_build w _ _ _ ?_
  rw [plBuilt]
  rw [fill_cons (off := 0) (size := 20) rfl (by simp only [Value.cells]; exact h1) (by omega)]
  rw [fill_cons (off := 20) (size := 20) rfl (by simp only [Value.cells]; exact h2) (by simp only [Value.cells]; omega)]
  rw [fill_cons (off := 40) (size := 1) rfl rfl (by simp only [Value.cells]; omega)]
  rw [fill_nil]
  refine congrArg some ?_
  clear hs1 hs2
  simp only [Value.cells]
  generalize plC zPl = Z at *
  apply Array.ext'
  have l1 : (hC p.1.1).toList.length = 20 := by rw [Array.length_toList]; exact h1
  have l2 : (hC p.2.1.1).toList.length = 20 := by rw [Array.length_toList]; exact h2
  have l3 : Z.toList.length = 41 := by rw [Array.length_toList]; exact hz
  simp [Go.Agg.splice, plC, List.take_append, List.drop_append, h1, h2, l1, l2, l3, List.take_of_length_le, List.drop_eq_nil_of_le]
/-- what lies in a box with a place -/
structure PlG (w : World) (b : Nat) (p : Pla) : Prop where
  blk : Blk w b 59 (plC p)
  all : LoadsL Try.prog w 59 (some ⟨b, 0, none⟩) (.agg (plC p))
  by_ : LoadsL Try.prog w 3 (some ⟨b, 40, none⟩) (.int .i64 p.2.2)
theorem PlG.of_blk {w : World} {b : Nat} {p : Pla} (h : Blk w b 59 (plC p)) : PlG w b p where
  blk := h
  all := h.loads plC_under rfl (plC_info p)
  by_ := h.one 40 (plC_by p) Try.underlying3 rfl
theorem PlG.below {w w' : World} {b : Nat} {p : Pla} (h : PlG w b p) (hb : Below w.heap.size w w') : PlG w' b p := ⟨h.blk.below hb, h.all.below hb, h.by_.below hb⟩
theorem hC_byte (h : List UInt8) (j : Nat) (x : UInt8) (hj : h[j]? = some x) : (hC h)[j]? = some (.int .u8 (x.toNat : Int)) := by
  have hlt := (List.getElem?_eq_some_iff.1 hj).1
  rw [hC_get h j hlt]; rw [List.getElem?_eq_getElem hlt] at hj; rw [Option.some.inj hj]
theorem PlG.byteC {w : World} {b : Nat} {p : Pla} (h : PlG w b p) (j : Nat) (x : UInt8) (hj : p.1.1[j]? = some x) : w.cell? ⟨b, 0 + j, none⟩ = some (.int .u8 (x.toNat : Int)) := by rw [h.blk.cell]; exact plC_cl p j _ (hC_byte _ j x hj)
theorem PlG.byteK {w : World} {b : Nat} {p : Pla} (h : PlG w b p) (j : Nat) (x : UInt8) (hj : p.2.1.1[j]? = some x) : w.cell? ⟨b, 20 + j, none⟩ = some (.int .u8 (x.toNat : Int)) := by rw [h.blk.cell]; exact plC_ky p j _ (hC_byte _ j x hj)
theorem slice_hash0 (g : Nat) (w : World) : (Instr.sliceAt 30 (.pointer (some ⟨g, 0, none⟩)) none none none).run Try.prog w = .ok (.slice (some ⟨g, 0, none⟩) 20 20) w := by kernel_rfl
theorem slice_hash20 (g : Nat) (w : World) : (Instr.sliceAt 30 (.pointer (some ⟨g, 20, none⟩)) none none none).run Try.prog w = .ok (.slice (some ⟨g, 20, none⟩) 20 20) w := by kernel_rfl
theorem hash_cmp {w : World} (a b : H20) (g off g' off' : Nat) (ha : ∀ j x, a.1[j]? = some x → w.cell? ⟨g, off + j, none⟩ = some (.int .u8 (x.toNat : Int))) (hb : ∀ j x, b.1[j]? = some x → w.cell? ⟨g', off' + j, none⟩ = some (.int .u8 (x.toNat : Int))) :
    Calls Try.prog 42 #[.slice (some ⟨g, off, none⟩) 20 20, .slice (some ⟨g', off', none⟩) 20 20] w fun e w' => e = .returned (.int .i64 (compareBytes a.1 b.1)) ∧ w = w' := by
  have := bytesCompare_any w a.1 b.1 g off g' off' 20 20 ha hb
  rwa [a.2, b.2] at this
set_option maxRecDepth 100000 in
set_option maxHeartbeats 4000000 in
theorem against_any (p q : Pla) (w : World) :
    Calls Try.prog 23 #[.agg (plC p), .agg (plC q)] w fun e w' => e = .returned (.int .i64 (cmpPl p q)) ∧ Below w.heap.size w w' := by
  go_enter Try.func23, Try.ntmps23
  go_wp2_with (first | (with_reducible refine wpList_box rfl 59 _ rfl (plC p) rfl ?_; intro g1 w1 hb1 hx1 hg1; have HP1 := Lib.hid (PlG.of_blk hb1); have HX1 := Lib.hid hx1; clear hb1 hx1 hg1) | (with_reducible refine wpList_box rfl 59 _ rfl (plC q) rfl ?_; intro g2 w2 hb2 hx2 hg2; have HQ2 := Lib.hid (PlG.of_blk hb2); have HP2 := Lib.hid (HP1.out.below hx2); have HX2 := Lib.hid (Agg.belowThen HX1.out (Nat.le_refl _) hx2); clear hb2 hx2 hg2))
  have hs0 := slice_hash0
  have hs20 := slice_hash20
  have HC := Lib.hid (fun x : Later w2 => hash_cmp p.1 q.1 g1 0 g2 0 (HP2.out.below x.h).byteC (HQ2.out.below x.h).byteC)
  have HK := Lib.hid (fun x : Later w2 => hash_cmp p.2.1 q.2.1 g1 20 g2 20 (HP2.out.below x.h).byteK (HQ2.out.below x.h).byteK)
  try simp only [List.append_eq, List.cons_append, List.nil_append]
  try simp only [Act.put, List.setIfInBounds_toArray, List.set_cons_succ, List.set_cons_zero]
  refine Agg.wp_region_row 15 (fun w' => ∃ x : Later w2, w' = x.w) (by kernel_rfl) (by kernel_rfl) ⟨⟨_, (Below.refl _ _).drew⟩, rfl⟩ ?_
  simp only [List.take_succ_cons, List.take_zero, List.drop_succ_cons, List.drop_zero]
  repeat (first | go_big_quiet_skip | ((first | (with_reducible refine Agg.wpQuiet_loadL HP2.out.by_ rfl _ rfl rfl ?_) | (with_reducible refine Agg.wpQuiet_loadL HQ2.out.by_ rfl _ rfl rfl ?_)); simp only [Act.put, List.setIfInBounds_toArray, List.set_cons_succ, List.set_cons_zero]) | go_big_quiet_step ((first | (go_at_call 42; exact Agg.Calls.later_same (HC.out _)) | (go_at_call 42; exact Agg.Calls.later_same (HK.out _)) | (go_at_call 43; exact Agg.Calls.later_same (cmpInt_any _ _ _)))))
  refine wpQuiet_nil ?_
  intro _ hw'
  obtain ⟨x1, rfl⟩ := hw'
  go_wp2_with (first | (refine wpList_ints3 rfl _ _ _ rfl _ _ _ rfl rfl rfl ?_; intro v8 w8 hs8 hx8; have HS8 := Lib.hid hs8; have HX8 := Lib.hid (Agg.belowThen (Agg.belowThen HX2.out (Nat.le_refl _) x1.h) (Nat.le_refl _) hx8); clear hs8 hx8))
  refine (orInt_any _ _ _ (by simp) HS8.out).mono ?_
  rintro e w9 ⟨rfl, hx9⟩
  go_wp2_with fail
  go_ret
  exact ⟨by rw [orL_three]; rfl, Agg.belowThen HX8.out (Nat.le_refl _) hx9⟩
set_option maxRecDepth 100000 in
set_option maxHeartbeats 4000000 in
theorem of_any (x : BuV) (w : World) :
    Calls Try.prog 22 #[.agg (bC x)] w fun e w' => e = .returned (.agg (plC (plOf x.1))) ∧ Below w.heap.size w w' := by
  go_enter Try.func22, Try.ntmps22
  go_wp2_with (first | (with_reducible refine wpList_box rfl 35 _ rfl (bC x) rfl ?_; intro g1 w1 hb1 hx1 hg1; have HL1 := Lib.hid (BuG.of_blk hb1); have HX1 := Lib.hid hx1; clear hb1 hx1 hg1) | (with_reducible refine wpList_zero rfl 59 rfl (plC zPl) plC_zero ?_; intro g2 w2 hb2 hx2 hg2; have HB2 := Lib.hid hb2; have HL2 := Lib.hid (HL1.out.below hx2); have HX2 := Lib.hid (Agg.belowThen HX1.out (Nat.le_refl _) hx2); have HG2 := Lib.hid (Nat.le_trans HX1.out.size hg2); clear hb2 hx2 hg2) | (with_reducible refine wpList_loadL HL2.out.cls rfl _ rfl rfl ?_) | (with_reducible refine wpList_loadL HL2.out.key rfl _ rfl rfl ?_) | (with_reducible refine wpList_loadL HL2.out.by_ rfl _ rfl rfl ?_) | (with_reducible refine Agg.wpList_build rfl 59 _ rfl (.agg (plC (x.1.cl, x.1.ky, x.1.by_))) #[(0, .agg (hC x.1.cl.1)), (1, .agg (hC x.1.ky.1)), (2, .int .i64 x.1.by_)] (by kernel_rfl) (build_place (x.1.cl, x.1.ky, x.1.by_) _) ?_) | (with_reducible refine wpList_put rfl rfl 59 _ _ rfl g2 (plC (x.1.cl, x.1.ky, x.1.by_)) (plC zPl) rfl rfl HB2.out (plC_info _) (by rw [plC_size, plC_size]) (plC_one _) ?_; intro w3 hb3 hx3 hs3 _; have HB3 := Lib.hid hb3; have HX3 := Lib.hid (HX2.out.trans (hx3.mono HG2.out)); clear hb3 hx3 hs3))
  exact post_row rfl rfl HB3.out plC_under rfl (plC_info _) rfl ⟨rfl, HX3.out⟩
end Go.Proofs.Ytniibcgomnjfgaa
