/- A region that draws its order, in three parts: a quiet head in one class of worlds, a row of operations one behind the other, a quiet end in another class. Over any program. (Several texts in one.) -/
import Derived.Test.YtniibcgomnjfgaaJAE
import Derived.Test.YtniibcgomnjfgaaJAI
import Derived.Test.YtniibcgomnjfgaaJAJ
import Derived.Test.YtniibcgomnjfgaaJAH
import Derived.Test.YtniibcgomnjfgaaJAB
import Derived.StillTail
import Derived.Deep.Quiet
/-! The places of builts: their order. -/
namespace Go.Proofs.Ytniibcgomnjfgaa
open Pl
open Go.Lib (compareBytes)
/-- a place: class, key, principal -/
abbrev Pla : Type := H20 × H20 × Int
instance : DecidableEq Pla := inferInstance
def plOf (x : Bu) : Pla := (x.cl, x.ky, x.by_)
def cmpI (a b : Int) : Int := if a < b then -1 else if b < a then 1 else 0
def or3 (a b c : Int) : Int := if a ≠ 0 then a else if b ≠ 0 then b else c
def cmpPl (a b : Pla) : Int := or3 (compareBytes a.1.1 b.1.1) (compareBytes a.2.1.1 b.2.1.1) (cmpI a.2.2 b.2.2)
def ltPl (a b : Pla) : Bool := Op.bytesLess a.1.1 b.1.1 || (decide (a.1 = b.1) && (Op.bytesLess a.2.1.1 b.2.1.1 || (decide (a.2.1 = b.2.1) && decide (a.2.2 < b.2.2))))
theorem cb_cases (x y : H20) : (compareBytes x.1 y.1 = -1 ∧ Op.bytesLess x.1 y.1 = true ∧ x ≠ y ∧ Op.bytesLess y.1 x.1 = false) ∨ (compareBytes x.1 y.1 = 1 ∧ Op.bytesLess y.1 x.1 = true ∧ x ≠ y ∧ Op.bytesLess x.1 y.1 = false) ∨ (compareBytes x.1 y.1 = 0 ∧ x = y) := by
  rw [compare_cases]
  by_cases e : x = y
  · subst e; simp [bytesLess_irrefl]
  · have hne : x.1 ≠ y.1 := fun h => e (Subtype.ext h)
    cases h : Op.bytesLess x.1 y.1 with
    | true => exact .inl ⟨by simp, rfl, e, bytesLess_asymm _ _ h⟩
    | false =>
      have := bytesLess_total _ _ hne h
      exact .inr (.inl ⟨by simp [this], this, e, rfl⟩)
theorem cmpPl_eq (a b : Pla) : cmpPl a b = if ltPl a b then -1 else if ltPl b a then 1 else 0 := by
  obtain ⟨a1, a2, a3⟩ := a
  obtain ⟨b1, b2, b3⟩ := b
  unfold cmpPl ltPl or3
  simp only
  rcases cb_cases a1 b1 with ⟨h1, h2, h3, h4⟩ | ⟨h1, h2, h3, h4⟩ | ⟨h1, rfl⟩
  · simp [h1, h2]
  · simp [h1, h2, h4, h3]
  · rcases cb_cases a2 b2 with ⟨g1, g2, g3, g4⟩ | ⟨g1, g2, g3, g4⟩ | ⟨g1, rfl⟩
    · simp [h1, g1, g2, bytesLess_irrefl]
    · simp [h1, g1, g2, g4, g3, bytesLess_irrefl]
    · simp [h1, g1, bytesLess_irrefl, cmpI]
theorem ltPl_irrefl (a : Pla) : ltPl a a = false := by simp [ltPl, bytesLess_irrefl]
theorem ltPl_total (a b : Pla) (hne : a ≠ b) (h : ltPl a b = false) : ltPl b a = true := by
  obtain ⟨a1, a2, a3⟩ := a
  obtain ⟨b1, b2, b3⟩ := b
  unfold ltPl at *
  simp only at *
  rcases cb_cases a1 b1 with ⟨h1, h2, h3, h4⟩ | ⟨h1, h2, h3, h4⟩ | ⟨h1, rfl⟩
  · simp [h2] at h
  · simp [h2]
  · rcases cb_cases a2 b2 with ⟨g1, g2, g3, g4⟩ | ⟨g1, g2, g3, g4⟩ | ⟨g1, rfl⟩
    · simp [g2] at h
    · simp [g2]
    · simp [bytesLess_irrefl] at h ⊢
      have : a3 ≠ b3 := fun e => hne (by rw [e])
      omega
theorem ltPl_trans (a b c : Pla) (h1 : ltPl a b = true) (h2 : ltPl b c = true) : ltPl a c = true := by
  obtain ⟨a1, a2, a3⟩ := a
  obtain ⟨b1, b2, b3⟩ := b
  obtain ⟨c1, c2, c3⟩ := c
  unfold ltPl at *
  simp only [Bool.or_eq_true, Bool.and_eq_true, decide_eq_true_eq] at *
  rcases h1 with h1 | ⟨rfl, h1⟩
  · rcases h2 with h2 | ⟨rfl, _⟩
    · exact .inl (bytesLess_trans _ _ _ h1 h2)
    · exact .inl h1
  · rcases h2 with h2 | ⟨rfl, h2⟩
    · exact .inl h2
    · refine .inr ⟨rfl, ?_⟩
      rcases h1 with h1 | ⟨rfl, h1⟩
      · rcases h2 with h2 | ⟨rfl, _⟩
        · exact .inl (bytesLess_trans _ _ _ h1 h2)
        · exact .inl h1
      · rcases h2 with h2 | ⟨rfl, h2⟩
        · exact .inl h2
        · exact .inr ⟨rfl, by omega⟩
theorem ltPl_ord : Gr.Ord ltPl := ⟨ltPl_irrefl, ltPl_trans, ltPl_total⟩
theorem cmpPl_neg (a b : Pla) : decide (cmpPl a b < 0) = ltPl a b := by
  rw [cmpPl_eq]
  cases h : ltPl a b with
  | true => simp
  | false => by_cases h2 : ltPl b a = true <;> simp [h2]
theorem cmpPl_zero (a b : Pla) : (cmpPl a b == 0) = decide (a = b) := by
  rw [cmpPl_eq]
  by_cases e : a = b
  · subst e; simp [ltPl_irrefl]
  · cases h : ltPl a b with
    | true => simp [e]
    | false => simp [ltPl_total a b e h, e]
/-- whether a built is right -/
def insB (l : List Md) : Bool := decide (l.map (·.1)).Nodup && l.all fun m => isName m.2.1.2
def rightBu (x : Bu) : Bool := isName x.pa.1.2 && (decide (1 ≤ x.by_) && (decide (x.by_ ≤ 16) && (decide (x.ins.length ≤ 8) && insB x.ins)))
theorem insB_snoc (l : List Md) (m : Md) : insB (l ++ [m]) = (insB l && (!decide (m.1 ∈ l.map (·.1)) && isName m.2.1.2)) := by
  unfold insB
  rw [Bool.eq_iff_iff]
  simp only [List.map_append, List.map_cons, List.map_nil, Bool.and_eq_true, decide_eq_true_eq, List.all_append, List.all_cons, List.all_nil, Bool.and_true, Bool.not_eq_true', decide_eq_false_iff_not, List.nodup_append, List.nodup_cons, List.not_mem_nil, not_false_iff, List.nodup_nil, and_true, List.mem_singleton]
  constructor
  · rintro ⟨⟨h1, _, h2⟩, h3, h4⟩
    exact ⟨⟨h1, h3⟩, fun h => h2 _ h _ rfl rfl, h4⟩
  · rintro ⟨⟨h1, h3⟩, h2, h4⟩
    exact ⟨⟨h1, trivial, fun a ha b hb e => h2 (by rw [← hb, ← e]; exact ha)⟩, h3, h4⟩
theorem insB_false {l : List Md} {k : Nat} (h : insB (l.take k) = false) : insB l = false := by
  cases hl : insB l with
  | false => rfl
  | true =>
    unfold insB at *
    simp only [Bool.and_eq_true, decide_eq_true_eq] at hl
    have h1 : ((l.take k).map (·.1)).Nodup := by rw [← List.take_append_drop k l, List.map_append, List.nodup_append] at hl; exact hl.1.1
    have h2 : (l.take k).all (fun m => isName m.2.1.2) = true := by
      rw [List.all_eq_true] at *
      exact fun x hx => hl.2 x (List.mem_of_mem_take hx)
    rw [h2] at h
    simp only [Bool.and_true, decide_eq_false_iff_not] at h
    exact absurd h1 h
end Go.Proofs.Ytniibcgomnjfgaa
/-! real.Right of any built. -/
namespace Go.Proofs.Ytniibcgomnjfgaa
open Go.RowKit Pl Go.Agg Go.Mp
def nI : Int → Value := fun n => .int .i64 n
theorem zeroI (w : World) : (zeroValue 3).run Try.prog w = .ok (.int .i64 0) w := by kernel_rfl
def seenM (l : List Md) : List (H20 × Int) := l.map fun m => (m.1, 1)
theorem seenM_keys (l : List Md) : (seenM l).map (·.1) = l.map (·.1) := by simp [seenM]
theorem seen_hit {l : List Md} {c : H20} (h : c ∈ l.map (·.1)) : mval nI (.int .i64 0) (mget (seenM l) c) = .int .i64 1 := by
  rw [mget_some (seenM l) c 1 (by rw [seenM_keys]; exact h) (by intro p hp; obtain ⟨m, _, rfl⟩ := List.mem_map.1 hp; rfl)]
  rfl
theorem seen_miss {l : List Md} {c : H20} (h : ¬ c ∈ l.map (·.1)) : mval nI (.int .i64 0) (mget (seenM l) c) = .int .i64 0 := by
  rw [mget_none (seenM l) c (by rw [seenM_keys]; exact h)]; rfl
set_option maxRecDepth 100000 in
set_option maxHeartbeats 4000000 in
theorem buRight_any (x : BuV) (w : World) (hi : InsAt w x) :
    Calls Try.prog 9 #[.agg (bC x)] w fun e w' => e = .returned (.bool (rightBu x.1)) ∧ Below w.heap.size w w' := by
  have HE := Lib.hid (show MdsAt w (ivV x.2) x.1.ins from hi)
  have hlv := fun W => mds_len (w := w) (l := x.1.ins) hi W
  obtain ⟨a1, ha1⟩ : ∃ b, isName x.1.pa.1.2 = b := ⟨_, rfl⟩
  have HNM := Lib.hid (fun W => (show Calls Try.prog 24 #[.string ⟨x.1.pa.1.2.toArray⟩] W fun e w' => e = .returned (.bool a1) ∧ Below W.heap.size W w' by have := name_any x.1.pa.1.2 W; rwa [ha1] at this))
  have HR := Lib.hid (show rightBu x.1 = (a1 && (decide (1 ≤ x.1.by_) && (decide (x.1.by_ ≤ 16) && (decide (x.1.ins.length ≤ 8) && insB x.1.ins)))) by unfold rightBu; rw [ha1])
  clear hi ha1
  go_enter Try.func9, Try.ntmps9
  go_wp2_with (first | (with_reducible refine wpList_box rfl 35 _ rfl (bC x) rfl ?_; intro g w1 hb1 hx1 hg1; have HL := Lib.hid (BuG.of_blk hb1); have HX := Lib.hid hx1; clear hb1 hx1 hg1) | (with_reducible refine wpList_loadL HL.out.pname rfl _ rfl rfl ?_))
  refine (HNM.out _).mono ?_
  rintro e w2 ⟨rfl, hx2⟩
  have HL := Lib.hid (HL.out.below hx2)
  have HX := Lib.hid (Agg.belowThen HX.out (Nat.le_refl _) hx2)
  clear hx2
  cases a1 with
  | false =>
    go_wp2_with fail
    go_ret
    exact ⟨ret_bool (by rw [HR.out]; rfl), HX.out⟩
  | true =>
  by_cases h1 : x.1.by_ < 1
  · go_wp2_with (first | (with_reducible refine wpList_loadL HL.out.by_ rfl _ rfl rfl ?_))
    go_ret
    exact ⟨ret_bool (by rw [HR.out]; simp; omega), HX.out⟩
  by_cases h2 : 16 < x.1.by_
  · go_wp2_with (first | (with_reducible refine wpList_loadL HL.out.by_ rfl _ rfl rfl ?_))
    go_ret
    exact ⟨ret_bool (by rw [HR.out]; simp; omega), HX.out⟩
  by_cases h3 : 8 < (x.1.ins.length : Int)
  · go_wp2_with (first | (with_reducible refine wpList_loadL HL.out.by_ rfl _ rfl rfl ?_) | (with_reducible refine wpList_loadL HL.out.ins rfl _ rfl rfl ?_))
    go_ret
    exact ⟨ret_bool (by rw [HR.out]; simp; omega), HX.out⟩
  have HR := Lib.hid (show rightBu x.1 = insB x.1.ins by rw [HR.out]; simp [show (1 : Int) ≤ x.1.by_ by omega, show x.1.by_ ≤ 16 by omega, show x.1.ins.length ≤ 8 by omega])
  have hd1 : decide (x.1.by_ < 1) = false := by simp; omega
  have hd2 : decide (16 < x.1.by_) = false := by simp; omega
  have hd3 : decide (8 < (x.1.ins.length : Int)) = false := by simp; omega
  clear h1 h2
  go_wp2_with (first | (with_reducible refine wpList_loadL HL.out.by_ rfl _ rfl rfl ?_) | (with_reducible refine wpList_loadL HL.out.ins rfl _ rfl rfl ?_) | (with_reducible refine wpList_makeMap hV nI rfl 63 rfl ?_; intro gm w3 hm3 hx3 hg3; have HM := Lib.hid hm3; have HL3 := Lib.hid (HL.out.below hx3); have HX3 := Lib.hid (Agg.belowThen HX.out (Nat.le_refl _) hx3); have HE3 := Lib.hid (SliceOf.below (HE.out.below HX.out) hx3); have HG := Lib.hid (Nat.le_trans HX.out.size hg3); clear hm3 hx3 hg3) | (with_reducible refine wpList_loadL HL3.out.ins rfl _ rfl rfl ?_))
  go_loopw [31] (fun i wr => ∃ k : Nat, k ≤ x.1.ins.length ∧ i = .int .i64 k ∧ MapIs wr gm hV nI (seenM (x.1.ins.take k)) ∧ insB (x.1.ins.take k) = true ∧ Below w.heap.size w wr) (fun i _ => x.1.ins.length - (intOf i).toNat)
  case atStart => exact ⟨0, by omega, rfl, HM.out, rfl, HX3.out⟩
  case round =>
    clear HM
    obtain ⟨wr1, rfl⟩ : ∃ y : World, y = wr := ⟨_, rfl⟩
    obtain ⟨k, hk, rfl, hm, hin, hw⟩ := hrel
    have HM := Lib.hid hm
    have HI := Lib.hid hin
    have HW := Lib.hid hw
    clear hm hin hw
    by_cases hlt : k < x.1.ins.length
    · have hd : decide ((k : Int) < (x.1.ins.length : Int)) = true := by simp; omega
      obtain ⟨m, hmk⟩ : ∃ m, x.1.ins[k]? = some m := ⟨_, List.getElem?_eq_getElem hlt⟩
      obtain ⟨q, hadr, hq⟩ := mds_at (HE.out.below HW.out) k m hmk
      have HQ := Lib.hid hq
      have HK := Lib.hid (show x.1.ins.take (k + 1) = x.1.ins.take k ++ [m] by rw [List.take_add_one, hmk]; rfl)
      clear hq hmk
      by_cases hin : m.1 ∈ (x.1.ins.take k).map (·.1)
      · have HIN := Lib.hid hin
        have hfl : insB x.1.ins = false := insB_false (k := k + 1) (by rw [HK.out, insB_snoc, decide_eq_true hin]; simp)
        clear hin
        go_wp2_with (first | (with_reducible refine wpList_loadL HQ.out.all rfl _ rfl rfl ?_) | (refine wpList_new rfl rfl rfl 55 5 34 rfl rfl rfl (by decide) (mC zM) (mC m) mC_zero (by rw [mC_size, mC_size]) (mC_info m) (mC_one m) rfl (by simp [Act.put]) ?_; intro g5 w5 hb5 hx5 hg5; have HG5 := Lib.hid (MdG.of_blk hb5); have HM5 := Lib.hid (HM.out.keep (hx5.block _ HM.out.lt)); have HW5 := Lib.hid (Agg.belowThen HW.out (Nat.le_refl _) hx5); clear hb5 hx5 hg5) | (with_reducible refine wpList_loadL HG5.out.cls rfl _ rfl rfl ?_) | (at_lookup; refine Mp.wpList_lookup0 rfl _ _ 63 30 3 rfl Try.underlying63 hash_key zeroI rfl HM5.out m.1 rfl _ (seen_hit HIN.out) ?_))
        go_ret
        exact ⟨ret_bool (by rw [HR.out]; exact hfl.symm), HW5.out⟩
      · have HIN := Lib.hid hin
        clear hin
        go_wp2_with (first | (with_reducible refine wpList_loadL HQ.out.all rfl _ rfl rfl ?_) | (refine wpList_new rfl rfl rfl 55 5 34 rfl rfl rfl (by decide) (mC zM) (mC m) mC_zero (by rw [mC_size, mC_size]) (mC_info m) (mC_one m) rfl (by simp [Act.put]) ?_; intro g5 w5 hb5 hx5 hg5; have HG5 := Lib.hid (MdG.of_blk hb5); have HM5 := Lib.hid (HM.out.keep (hx5.block _ HM.out.lt)); have HW5 := Lib.hid (Agg.belowThen HW.out (Nat.le_refl _) hx5); clear hb5 hx5 hg5) | (with_reducible refine wpList_loadL HG5.out.cls rfl _ rfl rfl ?_) | (at_lookup; refine Mp.wpList_lookup0 rfl _ _ 63 30 3 rfl Try.underlying63 hash_key zeroI rfl HM5.out m.1 rfl _ (seen_miss HIN.out) ?_) | (with_reducible refine wpList_loadL HG5.out.pname rfl _ rfl rfl ?_))
        refine (name_any m.2.1.2 _).mono ?_
        rintro e w6 ⟨rfl, hx6⟩
        have HM6 := Lib.hid (HM5.out.keep (hx6.block _ HM5.out.lt))
        have HW6 := Lib.hid (Agg.belowThen HW5.out (Nat.le_refl _) hx6)
        have HG6 := Lib.hid (HG5.out.below hx6)
        clear hx6
        cases hnm : isName m.2.1.2 with
        | false =>
          have hfl : insB x.1.ins = false := insB_false (k := k + 1) (by rw [HK.out, insB_snoc, hnm]; simp)
          go_wp2_with fail
          go_ret
          exact ⟨ret_bool (by rw [HR.out]; exact hfl.symm), HW6.out⟩
        | true =>
          have HNN := Lib.hid hnm
          clear hnm
          go_wp2_with (first | (with_reducible refine wpList_loadL HG6.out.cls rfl _ rfl rfl ?_) | (refine Mp.wpList_mapUpdate rfl rfl _ _ _ 63 30 3 rfl Try.underlying63 hash_key rfl HM6.out m.1 rfl (1 : Int) rfl ?_; intro w7 hm7 hb7; have HM7 := Lib.hid hm7; have HW7 := Lib.hid (hb7.below HW6.out HG.out); clear hm7 hb7))
          go_roundw
          case rel =>
            refine ⟨k + 1, by omega, by go_num, ?_, by rw [HK.out, insB_snoc, HI.out, HNN.out, decide_eq_false HIN.out]; rfl, HW7.out⟩
            have := HM7.out
            rw [mput_new' _ _ _ (mget_none _ _ (by rw [seenM_keys]; exact HIN.out))] at this
            rw [HK.out]
            simpa [seenM] using this
          case measure => simp [intOf]; omega
    · obtain rfl : k = x.1.ins.length := by omega
      rw [List.take_length] at HI
      go_wp2_with fail
      go_ret
      exact ⟨ret_bool (by rw [HR.out]; exact HI.out.symm), HW.out⟩
end Go.Proofs.Ytniibcgomnjfgaa
/-! A region that draws its order, in three parts: a quiet head in one class of worlds, a row of operations one behind the other, a quiet end in another class. Over any program. -/
namespace Go.Agg
variable {P : Program} {ops : Array Oper} {md : Region.Mode} {C : World → Prop}
def pre (N k : Nat) : Array Bool := (List.replicate k true ++ List.replicate (N - k) false).toArray
theorem pre_zero (N : Nat) : pre N 0 = Array.replicate N false := by simp [pre]
theorem pre_size {N k : Nat} (h : k ≤ N) : (pre N k).size = N := by simp [pre]; omega
theorem pre_get {N k : Nat} (h : k ≤ N) (t : Nat) (d : Bool) : (pre N k).getD t d = if t < k then true else if t < N then false else d := by
  unfold pre
  rw [Array.getD_eq_getD_getElem?]
  simp only [List.getElem?_toArray]
  by_cases h1 : t < k
  · rw [List.getElem?_append_left (by simpa using h1), List.getElem?_replicate, if_pos h1, if_pos h1]; rfl
  · rw [List.getElem?_append_right (by simpa using h1), List.getElem?_replicate, if_neg h1]
    by_cases h2 : t < N
    · rw [if_pos h2, if_pos (by simp; omega)]; rfl
    · rw [if_neg h2, if_neg (by simp; omega)]; rfl
theorem pre_set {N k : Nat} (h : k < N) : (pre N k).setIfInBounds k true = pre N (k + 1) := by
  apply Array.ext_getElem?
  intro t
  have e1 := pre_get (N := N) (k := k) (by omega)
  unfold pre
  simp only [List.setIfInBounds_toArray, List.getElem?_toArray]
  rw [show N - k = (N - (k + 1)) + 1 by omega, List.replicate_succ, List.set_append_right _ _ (by simp)]
  simp only [List.length_replicate, Nat.sub_self, List.set_cons_zero]
  rw [List.replicate_succ', List.append_assoc, List.singleton_append]
/-- the tail waits for its first one -/
def treeB (md : Region.Mode) (ops : Array Oper) (n : Nat) : Bool :=
  (List.range ops.size).all fun t => decide (t ≤ n) || (List.range t).any fun j => decide (n ≤ j) && Region.waitsFor md ops t j
def closedB (md : Region.Mode) (ops : Array Oper) (k : Nat) : Bool :=
  (List.range k).all fun j => match ops[j]? with | some oj => oj.after.all fun e => !Region.binds md e || decide (e.on < k) | none => true
def headB (md : Region.Mode) (ops : Array Oper) : Nat → Nat → Array Bool → Bool
  | 0, _, _ => true
  | f + 1, k, listed => (Region.ready md ops listed).contains k && Region.free md ops listed k && headB md ops f (k + 1) (listed.setIfInBounds k true)
def cutB (md : Region.Mode) (ops : Array Oper) (k n : Nat) : Bool :=
  decide (n < ops.size) && Region.sinkB md ops n && treeB md ops n && closedB md ops k && headB md ops (n - k) k (pre ops.size k)
def rowB (md : Region.Mode) (ops : Array Oper) : Nat → Nat → Array Bool → Bool
  | 0, _, _ => true
  | g + 1, k, listed => decide (Region.ready md ops listed = [k]) && rowB md ops g (k + 1) (listed.setIfInBounds k true)
theorem waits {n : Nat} {listed : Array Bool} (hs : Region.sinkB md ops n = true) (hc : treeB md ops n = true) (inv : HeadInv md ops n listed) :
    ∀ (d i : Nat), n - i = d → i < n → listed.getD i true = false → ∀ t, n ≤ t → t ∉ Region.ready md ops listed := by
  intro d
  induction d using Nat.strongRecOn with
  | _ d ih =>
    intro i hd hi hun t ht hr
    obtain ⟨_, ot, hot, hall⟩ := mem_ready.1 hr
    have htlt : t < ops.size := (Array.getElem?_eq_some_iff.1 hot).1
    by_cases htn : t = n
    · subst htn
      obtain ⟨j, hj, hj2⟩ := List.any_eq_true.1 (List.all_eq_true.1 hs i (List.mem_range.2 hi))
      simp only [Bool.and_eq_true, decide_eq_true_eq] at hj2
      obtain ⟨oj, hoj, e, he, hb, hon⟩ := Region.waitsFor_spec hj2.2
      have hjle : j ≤ t := by have := List.mem_range.1 hj; omega
      by_cases hjt : j = t
      · subst hjt
        obtain rfl : oj = ot := Option.some.inj (hoj.symm.trans hot)
        have h2 := hall e he hb
        rw [hon, getD_both hun] at h2
        cases h2
      · cases hl : listed.getD j false with
        | true =>
          have h2 := inv.closed j oj hoj hl e he hb
          rw [hon, getD_both hun] at h2
          cases h2
        | false => exact ih (t - j) (by omega) j rfl (by omega) (getD_in (by rw [inv.size]; omega) hl) t (Nat.le_refl _) hr
    · have h1 := List.all_eq_true.1 hc t (List.mem_range.2 htlt)
      simp only [Bool.or_eq_true, decide_eq_true_eq] at h1
      rcases h1 with h1 | h1
      · omega
      · obtain ⟨j, hj, hj2⟩ := List.any_eq_true.1 h1
        simp only [Bool.and_eq_true, decide_eq_true_eq] at hj2
        obtain ⟨o', ho', e, he, hb, hon⟩ := Region.waitsFor_spec hj2.2
        obtain rfl : o' = ot := Option.some.inj (ho'.symm.trans hot)
        have h2 := hall e he hb
        have hjt := List.mem_range.1 hj
        rw [hon, getD_both (inv.tail j hj2.1 (by omega))] at h2
        cases h2
/-- whatever order, f operations of the head -/
def anyHead (P : Program) (md : Region.Mode) (ops : Array Oper) (C : World → Prop) (n : Nat) (L : Array Bool → Act → Prop) : Nat → Array Bool → Act → Prop
  | 0, listed, a => L listed a
  | f + 1, listed, a => Region.ready md ops listed ≠ [] ∧ ∀ i ∈ Region.ready md ops listed, i < n ∧ qOp P ops C i (anyHead P md ops C n L f (listed.setIfInBounds i true)) a
theorem any_of_head {n g : Nat} {L : Array Bool → Act → Prop} {Q' : Exit → Act → World → Prop} (hL : ∀ listed a w, C w → L listed a → wpAny P md ops Q' g listed a w) :
    ∀ (f : Nat) (listed : Array Bool) (a : Act) (w : World), C w → anyHead P md ops C n L f listed a → wpAny P md ops Q' (f + g) listed a w
  | 0, listed, a, w, hw, h => by rw [Nat.zero_add]; exact hL _ _ _ hw h
  | f + 1, listed, a, w, hw, h => by
    rw [show f + 1 + g = (f + g) + 1 by omega]
    exact ⟨fun h0 => absurd h0 h.1, fun i hi => wpOp_of_qOp hw (fun a' w' hw' h' => any_of_head hL f _ a' w' hw' h') (h.2 i hi).2⟩
theorem head_first {n i : Nat} {oi : Oper} {v : Value} {L : Array Bool → Act → Prop} (hi : ops[i]? = some oi) (hsel : ∀ (j : Nat) (o : Oper) cs b, ops[j]? = some o → o.op ≠ .select cs b)
    (hs : Region.sinkB md ops n = true) (hc : treeB md ops n = true) (hin : i < n) (hdone : ∀ listed a, L listed a → ∀ j ∈ Region.ready md ops listed, n ≤ j) :
    ∀ (f : Nat) (listed : Array Bool) (a : Act), HeadInv md ops n listed →
      (∀ j oj, ops[j]? = some oj → j ≠ i → listed.getD j true = false → (∀ e ∈ oj.after, Region.binds md e = true → e.on ≠ i) → oi.apart ops oj = true) →
      i ∈ Region.ready md ops listed → YieldsIn P ops C oi v a →
      anyHead P md ops C n L f (listed.setIfInBounds i true) (a.put oi.dst v) → anyHead P md ops C n L (f + 1) listed a := by
  intro f
  induction f with
  | zero =>
    intro listed a inv _ hr hy H
    have hun := (mem_ready.1 hr).1
    refine ⟨fun h => (by rw [h] at hr; cases hr), fun j hj => ?_⟩
    have hjn : j < n := (Nat.lt_or_ge j n).resolve_right fun h => waits hs hc inv _ i rfl hin hun j h hj
    refine ⟨hjn, ?_⟩
    by_cases hji : j = i
    · subst hji; exact hy.qOp hi H
    · have := hdone _ _ H j (ready_mono hj hji)
      omega
  | succ f ih =>
    intro listed a inv hfree hr hy H
    have hun := (mem_ready.1 hr).1
    refine ⟨fun h => (by rw [h] at hr; cases hr), fun j hj => ?_⟩
    have hjn : j < n := (Nat.lt_or_ge j n).resolve_right fun h => waits hs hc inv _ i rfl hin hun j h hj
    refine ⟨hjn, ?_⟩
    by_cases hji : j = i
    · subst hji; exact hy.qOp hi H
    · have h1 := (H.2 j (ready_mono hj hji)).2
      obtain ⟨hjun, oj, hoj, hall⟩ := mem_ready.1 hj
      have hnot : ∀ e ∈ oj.after, Region.binds md e = true → e.on ≠ i := fun e he hb heq => by
        have h1 := hall e he hb
        rw [heq, getD_both hun] at h1
        cases h1
      have h2 := qOp_put hoj (hfree j oj hoj hji hjun hnot) (fun cs b => hsel i oi cs b hi) (fun cs b => hsel j oj cs b hoj) hy h1
      refine qOp_mono (fun a' h3 => ih (listed.setIfInBounds j true) a' (inv.set hj hjn) (fun k ok hk hki hun' hno => hfree k ok hk hki ?_ hno) (ready_mono hr (Ne.symm hji)) h3.1 ?_) h2
      · by_cases hjk : j = k
        · subst hjk; exact hjun
        · rw [getD_set_ne true hjk] at hun'; exact hun'
      · rw [Array.setIfInBounds_comm _ _ hji]
        exact h3.2
theorem head_lex {n : Nat} {Lq : Act → Prop} (hsel : Region.noSelect ops = true) (hs : Region.sinkB md ops n = true) (hc : treeB md ops n = true) (hn : n < ops.size) :
    ∀ (l : List Oper) (k : Nat) (a : Act), (∀ j, j < l.length → l[j]? = ops[k + j]?) → k + l.length = n → HeadInv md ops n (pre ops.size k) →
    headB md ops l.length k (pre ops.size k) = true → wpQuiet P ops C Lq l a →
    anyHead P md ops C n (fun listed' a' => listed' = pre ops.size n ∧ Lq a') l.length (pre ops.size k) a
  | [], k, a, _, hk, _, hB, h => by
    obtain rfl : k = n := by simpa using hk
    exact ⟨rfl, h⟩
  | o :: l, k, a, hl, hk, inv, hB, h => by
    have h0 : ops[k]? = some o := by simpa using (hl 0 (by simp)).symm
    simp only [List.length_cons, headB, Bool.and_eq_true] at hB
    obtain ⟨⟨hr, hf⟩, hB'⟩ := hB
    have hkn : k < n := by simp only [List.length_cons] at hk; omega
    have hr' : k ∈ Region.ready md ops (pre ops.size k) := by simpa using hr
    have hst : qOp P ops C k (wpQuiet P ops C Lq l) a := by unfold qOp; simp only [h0]; exact h
    obtain ⟨v, hy, hK⟩ := yieldsIn_of_qOp h0 hst
    have hset : (pre ops.size k).setIfInBounds k true = pre ops.size (k + 1) := pre_set (by omega)
    have inv' := inv.set hr' hkn
    rw [hset] at hB' inv'
    refine head_first h0 (Region.noSelect_spec hsel) hs hc hkn (fun listed' a' hL j hj => ?_) l.length _ a inv (Region.free_spec h0 hf) hr' hy ?_
    · have h1 := (mem_ready.1 hj).1
      rw [hL.1, pre_get (by omega)] at h1
      by_cases hjn : j < n
      · rw [if_pos hjn] at h1; cases h1
      · omega
    · rw [hset]
      exact head_lex hsel hs hc hn l (k + 1) _ (fun j hj => by have := hl (j + 1) (by simp; omega); simpa [Nat.add_assoc, Nat.add_comm 1 j] using this) (by simp only [List.length_cons] at hk; omega) inv' hB' hK
theorem seg_quiet {k n g : Nat} {Lq : Act → Prop} {Q' : Exit → Act → World → Prop} (hsel : Region.noSelect ops = true) (hB : cutB md ops k n = true)
    (hL : ∀ a w, C w → Lq a → wpAny P md ops Q' g (pre ops.size n) a w) (l : List Oper) (hl : ∀ j, j < l.length → l[j]? = ops[k + j]?) (hk : k + l.length = n) {a : Act} {w : World} (h : wpQuiet P ops C Lq l a) (hw : C w) :
    wpAny P md ops Q' (l.length + g) (pre ops.size k) a w := by
  simp only [cutB, Bool.and_eq_true, decide_eq_true_eq] at hB
  obtain ⟨⟨⟨⟨hn, hs⟩, hc⟩, hcl⟩, hh⟩ := hB
  have hkN : k ≤ ops.size := by omega
  have inv : HeadInv md ops n (pre ops.size k) := by
    refine ⟨pre_size hkN, fun j oj hoj hj e he hb => ?_, fun t ht ht' => ?_⟩
    · rw [pre_get hkN] at hj ⊢
      have hjk : j < k := by
        by_cases h : j < k
        · exact h
        · rw [if_neg h] at hj; split at hj <;> cases hj
      have h1 := List.all_eq_true.1 hcl j (List.mem_range.2 hjk)
      rw [hoj] at h1
      have h2 := Array.all_eq_true_iff_forall_mem.1 h1 e he
      simp only [hb, Bool.not_true, Bool.false_or, decide_eq_true_eq] at h2
      rw [if_pos h2]
    · rw [pre_get hkN, if_neg (by omega), if_pos ht']
  rw [show n - k = l.length by omega] at hh
  exact any_of_head (fun listed a w hw hL' => hL'.1 ▸ hL a w hw hL'.2) _ _ _ _ hw (head_lex hsel hs hc hn l k a hl hk inv hh h)
/-- what follows a row -/
def thenK (Q : Exit → Act → World → Prop) (K : Act → World → Prop) : Exit → Act → World → Prop
  | .normal, a, w => K a w
  | e, a, w => Q e a w
theorem wpOp_thenK {Q : Exit → Act → World → Prop} {K K' : Act → World → Prop} {i : Nat} {a : Act} {w : World} (h : wpOp P ops (thenK Q K) i K' a w) : wpOp P ops Q i K' a w := by
  unfold wpOp at *
  split
  · rename_i ho; simpa [ho] using h
  · rename_i o ho
    simp only [ho] at h
    split
    · rename_i hw
      simp only [hw, if_true] at h
      rcases h with h | ⟨h1, a', w', h2⟩
      · refine .inl ?_
        unfold Oper.wp at *
        generalize (execOp a.eval o).run P w = r at *
        cases r with
        | ok n w' =>
          cases n <;> simp only [Oper.upon] at h ⊢ <;>
            first
              | exact h
              | exact Calls.mono h (fun e w'' he => by
                  cases e <;> first | exact he | (obtain ⟨a', w', h2⟩ := he; exact ⟨a', w', h2⟩))
        | halt x w' => cases x <;> simp only [Oper.upon] at h ⊢ <;> exact h
      · exact .inr ⟨h1, a', w', h2⟩
    · rename_i hw; simpa [hw] using h
theorem seg_row {g : Nat} {Q' : Exit → Act → World → Prop} {K : Act → World → Prop} {n : Nat} (hL : ∀ a w, K a w → wpAny P md ops Q' g (pre ops.size n) a w) : ∀ (l : List Oper) (k : Nat) (a : Act) (w : World),
    (∀ j, j < l.length → l[j]? = ops[k + j]?) → k + l.length = n → n ≤ ops.size → rowB md ops l.length k (pre ops.size k) = true → wpList P ops (thenK Q' K) l a w → wpAny P md ops Q' (l.length + g) (pre ops.size k) a w
  | [], k, a, w, _, hk, _, _, h => by
    obtain rfl : k = n := by simpa using hk
    rw [show ([] : List Oper).length + g = g by simp]
    exact hL _ _ h
  | o :: l, k, a, w, hl, hk, hn, hB, h => by
    have h0 : ops[k]? = some o := by simpa using (hl 0 (by simp)).symm
    simp only [List.length_cons, rowB, Bool.and_eq_true, decide_eq_true_eq] at hB hk
    rw [show (o :: l).length + g = (l.length + g) + 1 by simp; omega]
    refine ⟨fun h1 => (by rw [hB.1] at h1; cases h1), fun i hi => ?_⟩
    rw [hB.1] at hi
    obtain rfl : i = k := by simpa using hi
    have hw : wpOp P ops (thenK Q' K) i (wpList P ops (thenK Q' K) l) a w := by unfold wpOp; simp only [h0]; exact h
    have hset : (pre ops.size i).setIfInBounds i true = pre ops.size (i + 1) := pre_set (by omega)
    have hB2 := hB.2
    rw [hset] at hB2
    refine wpOp_mono (fun a' w' h' => ?_) (wpOp_thenK hw)
    rw [hset]
    exact seg_row hL l (i + 1) a' w' (fun j hj => by have := hl (j + 1) (by simp; omega); simpa [Nat.add_assoc, Nat.add_comm 1 j] using this) (by omega) hn hB2 h'
def midB (md : Region.Mode) (ops : Array Oper) (n m : Nat) : Bool :=
  Region.noSelect ops && decide (n < m) && decide (m < ops.size) && cutB md ops 0 n && rowB md ops (m - n) n (pre ops.size n) && Region.lexFrom md ops (ops.size - m) m (pre ops.size m)
/-- HEAD, ROW, END -/
theorem wp_region_mid {id : Nat} {Q : Exit → Act → World → Prop} {a : Act} {w : World} {l : List Oper} (n m : Nat) (C : World → Prop) (hm : P.follows .mixedOrders = true) (hB : midB .any l.toArray n m = true) (hC : C w.drew)
    (h : wpQuiet P l.toArray C (fun a' => ∀ w', C w' → wpList P l.toArray (thenK Q fun a2 w2 => ∃ C2 : World → Prop, C2 w2 ∧ wpQuiet P l.toArray C2 (fun a3 => ∀ w3, C2 w3 → Q .normal a3 w3) (l.drop m) a2) ((l.drop n).take (m - n)) a' w') (l.take n) a) :
    (Code.region id l.toArray true).wp P Q a w := by
  simp only [midB, Bool.and_eq_true, decide_eq_true_eq] at hB
  obtain ⟨⟨⟨⟨⟨hsel, hnm⟩, hms⟩, hc⟩, hr⟩, hx⟩ := hB
  have hms' : m < l.length := by simpa using hms
  refine wp_region_any hm ?_
  have hend : ∀ a2 w2, (∃ C2 : World → Prop, C2 w2 ∧ wpQuiet P l.toArray C2 (fun a3 => ∀ w3, C2 w3 → Q .normal a3 w3) (l.drop m) a2) → wpAny P .any l.toArray Q (l.length - m) (pre l.toArray.size m) a2 w2 := by
    rintro a2 w2 ⟨C2, h2, hq⟩
    have h3 := wpAnyQ_lex (C := C2) (md := .any) hsel (l.drop m) m (pre l.toArray.size m) a2 (fun j => by simp [List.getElem?_drop]) (by simpa using hx) hq
    have := wpAny_of_quiet (Q' := Q) (Q := fun a3 => ∀ w3, C2 w3 → Q .normal a3 w3) (fun _ w' hw' h => h w' hw') _ _ _ _ h2 h3
    simpa using this
  have hrow : ∀ a' w', C w' → (∀ w', C w' → wpList P l.toArray (thenK Q fun a2 w2 => ∃ C2 : World → Prop, C2 w2 ∧ wpQuiet P l.toArray C2 (fun a3 => ∀ w3, C2 w3 → Q .normal a3 w3) (l.drop m) a2) ((l.drop n).take (m - n)) a' w') →
      wpAny P .any l.toArray Q (l.length - n) (pre l.toArray.size n) a' w' := by
    intro a' w' hw' h'
    have hlen : ((l.drop n).take (m - n)).length = m - n := by simp; omega
    have := seg_row (md := .any) (n := m) hend ((l.drop n).take (m - n)) n a' w' (fun j hj => by
      rw [hlen] at hj
      simp [hj]) (by rw [hlen]; omega) (by simp; omega) (by rw [hlen]; exact hr) (h' w' hw')
    rw [hlen, show m - n + (l.length - m) = l.length - n by omega] at this
    exact this
  have hlen : (l.take n).length = n := by simp; omega
  have := seg_quiet (md := .any) (k := 0) (n := n) hsel hc hrow (l.take n) (fun j hj => by
    rw [hlen] at hj
    simp [hj]) (by rw [hlen]; omega) h hC
  rw [hlen, show n + (l.length - n) = l.length by omega, pre_zero] at this
  exact this
def rowEndB (md : Region.Mode) (ops : Array Oper) (n : Nat) : Bool :=
  Region.noSelect ops && decide (n < ops.size) && cutB md ops 0 n && rowB md ops (ops.size - n) n (pre ops.size n) && (Region.ready md ops (pre ops.size ops.size)).isEmpty
/-- HEAD, ROW -/
theorem wp_region_row {id : Nat} {Q : Exit → Act → World → Prop} {a : Act} {w : World} {l : List Oper} (n : Nat) (C : World → Prop) (hm : P.follows .mixedOrders = true) (hB : rowEndB .any l.toArray n = true) (hC : C w.drew)
    (h : wpQuiet P l.toArray C (fun a' => ∀ w', C w' → wpList P l.toArray Q (l.drop n) a' w') (l.take n) a) : (Code.region id l.toArray true).wp P Q a w := by
  simp only [rowEndB, Bool.and_eq_true, decide_eq_true_eq, List.isEmpty_iff] at hB
  obtain ⟨⟨⟨⟨hsel, hn⟩, hc⟩, hr⟩, hx⟩ := hB
  have hn' : n < l.length := by simpa using hn
  refine wp_region_any hm ?_
  have hdl : (l.drop n).length = l.length - n := by simp
  have hrow : ∀ a' w', C w' → (∀ w', C w' → wpList P l.toArray Q (l.drop n) a' w') → wpAny P .any l.toArray Q (l.length - n) (pre l.toArray.size n) a' w' := by
    intro a' w' hw' h'
    have hQ : thenK Q (Q .normal) = Q := by funext e; cases e <;> rfl
    have := seg_row (md := .any) (n := l.length) (g := 0) (Q' := Q) (K := Q .normal) (fun a w hK => ⟨by rw [show l.length = l.toArray.size by simp]; exact hx, hK⟩) (l.drop n) n a' w' (fun j _ => by simp [List.getElem?_drop]) (by rw [hdl]; omega) (by simp) (by rw [hdl]; simpa using hr) (by rw [hQ]; exact h' w' hw')
    rwa [hdl, Nat.add_zero] at this
  have hlen : (l.take n).length = n := by simp; omega
  have := seg_quiet (md := .any) (k := 0) (n := n) hsel hc hrow (l.take n) (fun j hj => by
    rw [hlen] at hj
    simp [hj]) (by rw [hlen]; omega) h hC
  rw [hlen, show n + (l.length - n) = l.length by omega, pre_zero] at this
  exact this
end Go.Agg
