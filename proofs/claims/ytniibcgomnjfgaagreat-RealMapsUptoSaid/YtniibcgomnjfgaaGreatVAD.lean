/- Marks of any elements; rows while they are marked. (Several texts in one.) -/
import Derived.StillTail
import Derived.Deep.Quiet
import Derived.Test.YtniibcgomnjfgaaGreatVAC
/-! A region that draws its order, in three parts: a quiet head in one class of worlds, a row of operations one behind the other, a quiet end in another class. Over any program. -/
namespace Go.Agg
variable {P : Program} {ops : Array Oper} {md : Region.Mode} {C : World → Prop}
def pre (N k : Nat) : Array Bool := (List.replicate k true ++ List.replicate (N - k) false).toArray
theorem pre_zero (N : Nat) : pre N 0 = Array.replicate N false := by simp [pre]
theorem pre_size {N k : Nat} (h : k ≤ N) : (pre N k).size = N := by simp [pre]; omega
theorem pre_get {N k : Nat} (h : k ≤ N) (t : Nat) (d : Bool) : (pre N k).getD t d = if t < k then true else if t < N then false else d := by
  unfold pre
  rw [Array.getD_eq_getD_getElem?]
  simp only [List.getElem?_toArray]
  by_cases h1 : t < k
  · rw [List.getElem?_append_left (by simpa using h1), List.getElem?_replicate, if_pos h1, if_pos h1]; rfl
  · rw [List.getElem?_append_right (by simpa using h1), List.getElem?_replicate, if_neg h1]
    by_cases h2 : t < N
    · rw [if_pos h2, if_pos (by simp; omega)]; rfl
    · rw [if_neg h2, if_neg (by simp; omega)]; rfl
theorem pre_set {N k : Nat} (h : k < N) : (pre N k).setIfInBounds k true = pre N (k + 1) := by
  apply Array.ext_getElem?
  intro t
  have e1 := pre_get (N := N) (k := k) (by omega)
  unfold pre
  simp only [List.setIfInBounds_toArray, List.getElem?_toArray]
  rw [show N - k = (N - (k + 1)) + 1 by omega, List.replicate_succ, List.set_append_right _ _ (by simp)]
  simp only [List.length_replicate, Nat.sub_self, List.set_cons_zero]
  rw [List.replicate_succ', List.append_assoc, List.singleton_append]
/-- the tail waits for its first one -/
def treeB (md : Region.Mode) (ops : Array Oper) (n : Nat) : Bool :=
  (List.range ops.size).all fun t => decide (t ≤ n) || (List.range t).any fun j => decide (n ≤ j) && Region.waitsFor md ops t j
def closedB (md : Region.Mode) (ops : Array Oper) (k : Nat) : Bool :=
  (List.range k).all fun j => match ops[j]? with | some oj => oj.after.all fun e => !Region.binds md e || decide (e.on < k) | none => true
def headB (md : Region.Mode) (ops : Array Oper) : Nat → Nat → Array Bool → Bool
  | 0, _, _ => true
  | f + 1, k, listed => (Region.ready md ops listed).contains k && Region.free md ops listed k && headB md ops f (k + 1) (listed.setIfInBounds k true)
def cutB (md : Region.Mode) (ops : Array Oper) (k n : Nat) : Bool :=
  decide (n < ops.size) && Region.sinkB md ops n && treeB md ops n && closedB md ops k && headB md ops (n - k) k (pre ops.size k)
def rowB (md : Region.Mode) (ops : Array Oper) : Nat → Nat → Array Bool → Bool
  | 0, _, _ => true
  | g + 1, k, listed => decide (Region.ready md ops listed = [k]) && rowB md ops g (k + 1) (listed.setIfInBounds k true)
theorem waits {n : Nat} {listed : Array Bool} (hs : Region.sinkB md ops n = true) (hc : treeB md ops n = true) (inv : HeadInv md ops n listed) :
    ∀ (d i : Nat), n - i = d → i < n → listed.getD i true = false → ∀ t, n ≤ t → t ∉ Region.ready md ops listed := by
  intro d
  induction d using Nat.strongRecOn with
  | _ d ih =>
    intro i hd hi hun t ht hr
    obtain ⟨_, ot, hot, hall⟩ := mem_ready.1 hr
    have htlt : t < ops.size := (Array.getElem?_eq_some_iff.1 hot).1
    by_cases htn : t = n
    · subst htn
      obtain ⟨j, hj, hj2⟩ := List.any_eq_true.1 (List.all_eq_true.1 hs i (List.mem_range.2 hi))
      simp only [Bool.and_eq_true, decide_eq_true_eq] at hj2
      obtain ⟨oj, hoj, e, he, hb, hon⟩ := Region.waitsFor_spec hj2.2
      have hjle : j ≤ t := by have := List.mem_range.1 hj; omega
      by_cases hjt : j = t
      · subst hjt
        obtain rfl : oj = ot := Option.some.inj (hoj.symm.trans hot)
        have h2 := hall e he hb
        rw [hon, getD_both hun] at h2
        cases h2
      · cases hl : listed.getD j false with
        | true =>
          have h2 := inv.closed j oj hoj hl e he hb
          rw [hon, getD_both hun] at h2
          cases h2
        | false => exact ih (t - j) (by omega) j rfl (by omega) (getD_in (by rw [inv.size]; omega) hl) t (Nat.le_refl _) hr
    · have h1 := List.all_eq_true.1 hc t (List.mem_range.2 htlt)
      simp only [Bool.or_eq_true, decide_eq_true_eq] at h1
      rcases h1 with h1 | h1
      · omega
      · obtain ⟨j, hj, hj2⟩ := List.any_eq_true.1 h1
        simp only [Bool.and_eq_true, decide_eq_true_eq] at hj2
        obtain ⟨o', ho', e, he, hb, hon⟩ := Region.waitsFor_spec hj2.2
        obtain rfl : o' = ot := Option.some.inj (ho'.symm.trans hot)
        have h2 := hall e he hb
        have hjt := List.mem_range.1 hj
        rw [hon, getD_both (inv.tail j hj2.1 (by omega))] at h2
        cases h2
/-- whatever order, f operations of the head -/
def anyHead (P : Program) (md : Region.Mode) (ops : Array Oper) (C : World → Prop) (n : Nat) (L : Array Bool → Act → Prop) : Nat → Array Bool → Act → Prop
  | 0, listed, a => L listed a
  | f + 1, listed, a => Region.ready md ops listed ≠ [] ∧ ∀ i ∈ Region.ready md ops listed, i < n ∧ qOp P ops C i (anyHead P md ops C n L f (listed.setIfInBounds i true)) a
theorem any_of_head {n g : Nat} {L : Array Bool → Act → Prop} {Q' : Exit → Act → World → Prop} (hL : ∀ listed a w, C w → L listed a → wpAny P md ops Q' g listed a w) :
    ∀ (f : Nat) (listed : Array Bool) (a : Act) (w : World), C w → anyHead P md ops C n L f listed a → wpAny P md ops Q' (f + g) listed a w
  | 0, listed, a, w, hw, h => by rw [Nat.zero_add]; exact hL _ _ _ hw h
  | f + 1, listed, a, w, hw, h => by
    rw [show f + 1 + g = (f + g) + 1 by omega]
    exact ⟨fun h0 => absurd h0 h.1, fun i hi => wpOp_of_qOp hw (fun a' w' hw' h' => any_of_head hL f _ a' w' hw' h') (h.2 i hi).2⟩
theorem head_first {n i : Nat} {oi : Oper} {v : Value} {L : Array Bool → Act → Prop} (hi : ops[i]? = some oi) (hsel : ∀ (j : Nat) (o : Oper) cs b, ops[j]? = some o → o.op ≠ .select cs b)
    (hs : Region.sinkB md ops n = true) (hc : treeB md ops n = true) (hin : i < n) (hdone : ∀ listed a, L listed a → ∀ j ∈ Region.ready md ops listed, n ≤ j) :
    ∀ (f : Nat) (listed : Array Bool) (a : Act), HeadInv md ops n listed →
      (∀ j oj, ops[j]? = some oj → j ≠ i → listed.getD j true = false → (∀ e ∈ oj.after, Region.binds md e = true → e.on ≠ i) → oi.apart ops oj = true) →
      i ∈ Region.ready md ops listed → YieldsIn P ops C oi v a →
      anyHead P md ops C n L f (listed.setIfInBounds i true) (a.put oi.dst v) → anyHead P md ops C n L (f + 1) listed a := by
  intro f
  induction f with
  | zero =>
    intro listed a inv _ hr hy H
    have hun := (mem_ready.1 hr).1
    refine ⟨fun h => (by rw [h] at hr; cases hr), fun j hj => ?_⟩
    have hjn : j < n := (Nat.lt_or_ge j n).resolve_right fun h => waits hs hc inv _ i rfl hin hun j h hj
    refine ⟨hjn, ?_⟩
    by_cases hji : j = i
    · subst hji; exact hy.qOp hi H
    · have := hdone _ _ H j (ready_mono hj hji)
      omega
  | succ f ih =>
    intro listed a inv hfree hr hy H
    have hun := (mem_ready.1 hr).1
    refine ⟨fun h => (by rw [h] at hr; cases hr), fun j hj => ?_⟩
    have hjn : j < n := (Nat.lt_or_ge j n).resolve_right fun h => waits hs hc inv _ i rfl hin hun j h hj
    refine ⟨hjn, ?_⟩
    by_cases hji : j = i
    · subst hji; exact hy.qOp hi H
    · have h1 := (H.2 j (ready_mono hj hji)).2
      obtain ⟨hjun, oj, hoj, hall⟩ := mem_ready.1 hj
      have hnot : ∀ e ∈ oj.after, Region.binds md e = true → e.on ≠ i := fun e he hb heq => by
        have h1 := hall e he hb
        rw [heq, getD_both hun] at h1
        cases h1
      have h2 := qOp_put hoj (hfree j oj hoj hji hjun hnot) (fun cs b => hsel i oi cs b hi) (fun cs b => hsel j oj cs b hoj) hy h1
      refine qOp_mono (fun a' h3 => ih (listed.setIfInBounds j true) a' (inv.set hj hjn) (fun k ok hk hki hun' hno => hfree k ok hk hki ?_ hno) (ready_mono hr (Ne.symm hji)) h3.1 ?_) h2
      · by_cases hjk : j = k
        · subst hjk; exact hjun
        · rw [getD_set_ne true hjk] at hun'; exact hun'
      · rw [Array.setIfInBounds_comm _ _ hji]
        exact h3.2
theorem head_lex {n : Nat} {Lq : Act → Prop} (hsel : Region.noSelect ops = true) (hs : Region.sinkB md ops n = true) (hc : treeB md ops n = true) (hn : n < ops.size) :
    ∀ (l : List Oper) (k : Nat) (a : Act), (∀ j, j < l.length → l[j]? = ops[k + j]?) → k + l.length = n → HeadInv md ops n (pre ops.size k) →
    headB md ops l.length k (pre ops.size k) = true → wpQuiet P ops C Lq l a →
    anyHead P md ops C n (fun listed' a' => listed' = pre ops.size n ∧ Lq a') l.length (pre ops.size k) a
  | [], k, a, _, hk, _, hB, h => by
    obtain rfl : k = n := by simpa using hk
    exact ⟨rfl, h⟩
  | o :: l, k, a, hl, hk, inv, hB, h => by
    have h0 : ops[k]? = some o := by simpa using (hl 0 (by simp)).symm
    simp only [List.length_cons, headB, Bool.and_eq_true] at hB
    obtain ⟨⟨hr, hf⟩, hB'⟩ := hB
    have hkn : k < n := by simp only [List.length_cons] at hk; omega
    have hr' : k ∈ Region.ready md ops (pre ops.size k) := by simpa using hr
    have hst : qOp P ops C k (wpQuiet P ops C Lq l) a := by unfold qOp; simp only [h0]; exact h
    obtain ⟨v, hy, hK⟩ := yieldsIn_of_qOp h0 hst
    have hset : (pre ops.size k).setIfInBounds k true = pre ops.size (k + 1) := pre_set (by omega)
    have inv' := inv.set hr' hkn
    rw [hset] at hB' inv'
    refine head_first h0 (Region.noSelect_spec hsel) hs hc hkn (fun listed' a' hL j hj => ?_) l.length _ a inv (Region.free_spec h0 hf) hr' hy ?_
    · have h1 := (mem_ready.1 hj).1
      rw [hL.1, pre_get (by omega)] at h1
      by_cases hjn : j < n
      · rw [if_pos hjn] at h1; cases h1
      · omega
    · rw [hset]
      exact head_lex hsel hs hc hn l (k + 1) _ (fun j hj => by have := hl (j + 1) (by simp; omega); simpa [Nat.add_assoc, Nat.add_comm 1 j] using this) (by simp only [List.length_cons] at hk; omega) inv' hB' hK
theorem seg_quiet {k n g : Nat} {Lq : Act → Prop} {Q' : Exit → Act → World → Prop} (hsel : Region.noSelect ops = true) (hB : cutB md ops k n = true)
    (hL : ∀ a w, C w → Lq a → wpAny P md ops Q' g (pre ops.size n) a w) (l : List Oper) (hl : ∀ j, j < l.length → l[j]? = ops[k + j]?) (hk : k + l.length = n) {a : Act} {w : World} (h : wpQuiet P ops C Lq l a) (hw : C w) :
    wpAny P md ops Q' (l.length + g) (pre ops.size k) a w := by
  simp only [cutB, Bool.and_eq_true, decide_eq_true_eq] at hB
  obtain ⟨⟨⟨⟨hn, hs⟩, hc⟩, hcl⟩, hh⟩ := hB
  have hkN : k ≤ ops.size := by omega
  have inv : HeadInv md ops n (pre ops.size k) := by
    refine ⟨pre_size hkN, fun j oj hoj hj e he hb => ?_, fun t ht ht' => ?_⟩
    · rw [pre_get hkN] at hj ⊢
      have hjk : j < k := by
        by_cases h : j < k
        · exact h
        · rw [if_neg h] at hj; split at hj <;> cases hj
      have h1 := List.all_eq_true.1 hcl j (List.mem_range.2 hjk)
      rw [hoj] at h1
      have h2 := Array.all_eq_true_iff_forall_mem.1 h1 e he
      simp only [hb, Bool.not_true, Bool.false_or, decide_eq_true_eq] at h2
      rw [if_pos h2]
    · rw [pre_get hkN, if_neg (by omega), if_pos ht']
  rw [show n - k = l.length by omega] at hh
  exact any_of_head (fun listed a w hw hL' => hL'.1 ▸ hL a w hw hL'.2) _ _ _ _ hw (head_lex hsel hs hc hn l k a hl hk inv hh h)
/-- what follows a row -/
def thenK (Q : Exit → Act → World → Prop) (K : Act → World → Prop) : Exit → Act → World → Prop
  | .normal, a, w => K a w
  | e, a, w => Q e a w
theorem wpOp_thenK {Q : Exit → Act → World → Prop} {K K' : Act → World → Prop} {i : Nat} {a : Act} {w : World} (h : wpOp P ops (thenK Q K) i K' a w) : wpOp P ops Q i K' a w := by
  unfold wpOp at *
  split
  · rename_i ho; simpa [ho] using h
  · rename_i o ho
    simp only [ho] at h
    split
    · rename_i hw
      simp only [hw, if_true] at h
      rcases h with h | ⟨h1, a', w', h2⟩
      · refine .inl ?_
        unfold Oper.wp at *
        generalize (execOp a.eval o).run P w = r at *
        cases r with
        | ok n w' =>
          cases n <;> simp only [Oper.upon] at h ⊢ <;>
            first
              | exact h
              | exact Calls.mono h (fun e w'' he => by
                  cases e <;> first | exact he | (obtain ⟨a', w', h2⟩ := he; exact ⟨a', w', h2⟩))
        | halt x w' => cases x <;> simp only [Oper.upon] at h ⊢ <;> exact h
      · exact .inr ⟨h1, a', w', h2⟩
    · rename_i hw; simpa [hw] using h
theorem seg_row {g : Nat} {Q' : Exit → Act → World → Prop} {K : Act → World → Prop} {n : Nat} (hL : ∀ a w, K a w → wpAny P md ops Q' g (pre ops.size n) a w) : ∀ (l : List Oper) (k : Nat) (a : Act) (w : World),
    (∀ j, j < l.length → l[j]? = ops[k + j]?) → k + l.length = n → n ≤ ops.size → rowB md ops l.length k (pre ops.size k) = true → wpList P ops (thenK Q' K) l a w → wpAny P md ops Q' (l.length + g) (pre ops.size k) a w
  | [], k, a, w, _, hk, _, _, h => by
    obtain rfl : k = n := by simpa using hk
    rw [show ([] : List Oper).length + g = g by simp]
    exact hL _ _ h
  | o :: l, k, a, w, hl, hk, hn, hB, h => by
    have h0 : ops[k]? = some o := by simpa using (hl 0 (by simp)).symm
    simp only [List.length_cons, rowB, Bool.and_eq_true, decide_eq_true_eq] at hB hk
    rw [show (o :: l).length + g = (l.length + g) + 1 by simp; omega]
    refine ⟨fun h1 => (by rw [hB.1] at h1; cases h1), fun i hi => ?_⟩
    rw [hB.1] at hi
    obtain rfl : i = k := by simpa using hi
    have hw : wpOp P ops (thenK Q' K) i (wpList P ops (thenK Q' K) l) a w := by unfold wpOp; simp only [h0]; exact h
    have hset : (pre ops.size i).setIfInBounds i true = pre ops.size (i + 1) := pre_set (by omega)
    have hB2 := hB.2
    rw [hset] at hB2
    refine wpOp_mono (fun a' w' h' => ?_) (wpOp_thenK hw)
    rw [hset]
    exact seg_row hL l (i + 1) a' w' (fun j hj => by have := hl (j + 1) (by simp; omega); simpa [Nat.add_assoc, Nat.add_comm 1 j] using this) (by omega) hn hB2 h'
def midB (md : Region.Mode) (ops : Array Oper) (n m : Nat) : Bool :=
  Region.noSelect ops && decide (n < m) && decide (m < ops.size) && cutB md ops 0 n && rowB md ops (m - n) n (pre ops.size n) && Region.lexFrom md ops (ops.size - m) m (pre ops.size m)
/-- HEAD, ROW, END -/
theorem wp_region_mid {id : Nat} {Q : Exit → Act → World → Prop} {a : Act} {w : World} {l : List Oper} (n m : Nat) (C : World → Prop) (hm : P.follows .mixedOrders = true) (hB : midB .any l.toArray n m = true) (hC : C w.drew)
    (h : wpQuiet P l.toArray C (fun a' => ∀ w', C w' → wpList P l.toArray (thenK Q fun a2 w2 => ∃ C2 : World → Prop, C2 w2 ∧ wpQuiet P l.toArray C2 (fun a3 => ∀ w3, C2 w3 → Q .normal a3 w3) (l.drop m) a2) ((l.drop n).take (m - n)) a' w') (l.take n) a) :
    (Code.region id l.toArray true).wp P Q a w := by
  simp only [midB, Bool.and_eq_true, decide_eq_true_eq] at hB
  obtain ⟨⟨⟨⟨⟨hsel, hnm⟩, hms⟩, hc⟩, hr⟩, hx⟩ := hB
  have hms' : m < l.length := by simpa using hms
  refine wp_region_any hm ?_
  have hend : ∀ a2 w2, (∃ C2 : World → Prop, C2 w2 ∧ wpQuiet P l.toArray C2 (fun a3 => ∀ w3, C2 w3 → Q .normal a3 w3) (l.drop m) a2) → wpAny P .any l.toArray Q (l.length - m) (pre l.toArray.size m) a2 w2 := by
    rintro a2 w2 ⟨C2, h2, hq⟩
    have h3 := wpAnyQ_lex (C := C2) (md := .any) hsel (l.drop m) m (pre l.toArray.size m) a2 (fun j => by simp [List.getElem?_drop]) (by simpa using hx) hq
    have := wpAny_of_quiet (Q' := Q) (Q := fun a3 => ∀ w3, C2 w3 → Q .normal a3 w3) (fun _ w' hw' h => h w' hw') _ _ _ _ h2 h3
    simpa using this
  have hrow : ∀ a' w', C w' → (∀ w', C w' → wpList P l.toArray (thenK Q fun a2 w2 => ∃ C2 : World → Prop, C2 w2 ∧ wpQuiet P l.toArray C2 (fun a3 => ∀ w3, C2 w3 → Q .normal a3 w3) (l.drop m) a2) ((l.drop n).take (m - n)) a' w') →
      wpAny P .any l.toArray Q (l.length - n) (pre l.toArray.size n) a' w' := by
    intro a' w' hw' h'
    have hlen : ((l.drop n).take (m - n)).length = m - n := by simp; omega
    have := seg_row (md := .any) (n := m) hend ((l.drop n).take (m - n)) n a' w' (fun j hj => by
      rw [hlen] at hj
      simp [hj]) (by rw [hlen]; omega) (by simp; omega) (by rw [hlen]; exact hr) (h' w' hw')
    rw [hlen, show m - n + (l.length - m) = l.length - n by omega] at this
    exact this
  have hlen : (l.take n).length = n := by simp; omega
  have := seg_quiet (md := .any) (k := 0) (n := n) hsel hc hrow (l.take n) (fun j hj => by
    rw [hlen] at hj
    simp [hj]) (by rw [hlen]; omega) h hC
  rw [hlen, show n + (l.length - n) = l.length by omega, pre_zero] at this
  exact this
def rowEndB (md : Region.Mode) (ops : Array Oper) (n : Nat) : Bool :=
  Region.noSelect ops && decide (n < ops.size) && cutB md ops 0 n && rowB md ops (ops.size - n) n (pre ops.size n) && (Region.ready md ops (pre ops.size ops.size)).isEmpty
/-- HEAD, ROW -/
theorem wp_region_row {id : Nat} {Q : Exit → Act → World → Prop} {a : Act} {w : World} {l : List Oper} (n : Nat) (C : World → Prop) (hm : P.follows .mixedOrders = true) (hB : rowEndB .any l.toArray n = true) (hC : C w.drew)
    (h : wpQuiet P l.toArray C (fun a' => ∀ w', C w' → wpList P l.toArray Q (l.drop n) a' w') (l.take n) a) : (Code.region id l.toArray true).wp P Q a w := by
  simp only [rowEndB, Bool.and_eq_true, decide_eq_true_eq, List.isEmpty_iff] at hB
  obtain ⟨⟨⟨⟨hsel, hn⟩, hc⟩, hr⟩, hx⟩ := hB
  have hn' : n < l.length := by simpa using hn
  refine wp_region_any hm ?_
  have hdl : (l.drop n).length = l.length - n := by simp
  have hrow : ∀ a' w', C w' → (∀ w', C w' → wpList P l.toArray Q (l.drop n) a' w') → wpAny P .any l.toArray Q (l.length - n) (pre l.toArray.size n) a' w' := by
    intro a' w' hw' h'
    have hQ : thenK Q (Q .normal) = Q := by funext e; cases e <;> rfl
    have := seg_row (md := .any) (n := l.length) (g := 0) (Q' := Q) (K := Q .normal) (fun a w hK => ⟨by rw [show l.length = l.toArray.size by simp]; exact hx, hK⟩) (l.drop n) n a' w' (fun j _ => by simp [List.getElem?_drop]) (by rw [hdl]; omega) (by simp) (by rw [hdl]; simpa using hr) (by rw [hQ]; exact h' w' hw')
    rwa [hdl, Nat.add_zero] at this
  have hlen : (l.take n).length = n := by simp; omega
  have := seg_quiet (md := .any) (k := 0) (n := n) hsel hc hrow (l.take n) (fun j hj => by
    rw [hlen] at hj
    simp [hj]) (by rw [hlen]; omega) h hC
  rw [hlen, show n + (l.length - n) = l.length by omega, pre_zero] at this
  exact this
end Go.Agg
/-! Marks of any elements; rows while they are marked. -/
namespace Go.Agg
open Go.RowKit
section
variable {α : Type} (mk : Nat → Nat → α)
def marksG (k n : Nat) : List α := (List.range n).map (mk k)
theorem marksG_length (k n : Nat) : (marksG mk k n).length = n := by simp [marksG]
theorem marksG_succ (k n : Nat) : marksG mk k (n + 1) = marksG mk k n ++ [mk k n] := by simp [marksG, List.range_succ]
theorem marksG_get (k n i : Nat) (h : i < n) : (marksG mk k n)[i]? = some (mk k i) := by simp [marksG, h]
theorem marksG_set (k i : Nat) (l : List α) (hi : i < l.length) : (marksG mk k i ++ l.drop i).set i (mk k i) = marksG mk k (i + 1) ++ l.drop (i + 1) := by
  rw [List.set_append_right _ _ (by rw [marksG_length]; exact Nat.le_refl _), marksG_length, Nat.sub_self, List.drop_eq_getElem_cons hi, List.set_cons_zero, marksG_succ, List.append_assoc, List.singleton_append]
/-- writing: row k at i -/
def wroteG (f : Nat → List α) (k i : Nat) : Nat → List α := fun j => if j = k then marksG mk k i ++ (f k).drop i else if j < k then marksG mk j (f j).length else f j
def wroteToG (f : Nat → List α) (k : Nat) : Nat → List α := fun j => if j < k then marksG mk j (f j).length else f j
theorem wroteG_zero (f : Nat → List α) (k : Nat) : wroteG mk f k 0 = wroteToG mk f k := by
  funext j
  unfold wroteG wroteToG
  by_cases hj : j = k
  · subst hj; simp [marksG]
  · simp [hj]
theorem wroteToG_zero (f : Nat → List α) : wroteToG mk f 0 = f := by funext j; simp [wroteToG]
theorem wroteToG_at (f : Nat → List α) (n k : Nat) (h : k < n) : wroteToG mk f n k = marksG mk k (f k).length := by simp [wroteToG, h]
theorem wroteToG_same (f : Nat → List α) (n k : Nat) (h : k < n) : (fun j => if j = k then marksG mk k (f k).length else wroteToG mk f n j) = wroteToG mk f n := by
  funext j
  by_cases hj : j = k
  · subst hj; simp [wroteToG, h]
  · simp [hj]
theorem marksG_more (k n i : Nat) : marksG mk k (n + i) ++ [mk k (n + i)] = marksG mk k (n + (i + 1)) := by rw [← Nat.add_assoc, marksG_succ]
theorem wroteG_all (f : Nat → List α) (k : Nat) : wroteG mk f k (f k).length = wroteToG mk f (k + 1) := by
  funext j
  unfold wroteG wroteToG
  by_cases hj : j = k
  · subst hj; simp
  · by_cases h : j < k
    · simp [hj, h, show j < k + 1 by omega]
    · simp [hj, h, show ¬ j < k + 1 by omega]
theorem wroteG_succ (f : Nat → List α) (k i : Nat) (hi : i < (f k).length) : (fun j => if j = k then (wroteG mk f k i k).set i (mk k i) else wroteG mk f k i j) = wroteG mk f k (i + 1) := by
  funext j
  unfold wroteG
  by_cases hj : j = k
  · subst hj; simp [marksG_set mk _ _ _ hi]
  · simp [hj]
theorem wroteG_len (f : Nat → List α) (k i : Nat) (hi : i ≤ (f k).length) : (wroteG mk f k i k).length = (f k).length := by unfold wroteG; simp [marksG_length]; omega
theorem wroteToG_len (f : Nat → List α) (n j : Nat) : (wroteToG mk f n j).length = (f j).length := by unfold wroteToG; split <;> simp [marksG_length]
end
end Go.Agg
