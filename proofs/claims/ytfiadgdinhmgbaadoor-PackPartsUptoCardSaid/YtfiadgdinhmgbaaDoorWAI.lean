/- A cursor as a state: the plain law of numbers, texts, hashes. (Several texts in one.) -/
import Derived.Test.YtfiadgdinhmgbaaDoorWAH
import Derived.Test.YtfiadgdinhmgbaaDoorWAA
import Derived.Test.YtfiadgdinhmgbaaDoorWAF
import Derived.BigQuiet
import Derived.Deep.QuietTactic
import Derived.Test.YtfiadgdinhmgbaaDoorShelf
import Derived.BigGuardPart
import GoSem.Instr.MapUpdate
/-! code.Over; code.Cursor: Raw, Text, End. -/
namespace Go.Proofs.YtfiadgdinhmgbaaDoor
open Go.RowKit Pl Go.Agg
theorem runHigh (p : Option Addr) (n c k : Nat) (hk : k ≤ c) (W : World) : (Instr.sliceAt 23 (.slice p n c) none (some (.int .i64 (k : Int))) none).run Tryd.prog W = .ok (.slice p k c) W := by
  have hu : Tryd.prog.underlying 23 = some (.slice 5) := by kernel_rfl
  have hp : (p.map fun x => x.add 0) = p := by cases p <;> rfl
  simp [Instr.sliceAt, Instr.slice, Instr.sliceBounds, Instr.sliceBound, run_underlying hu, Sem.run_bind, asIntOf, hk, hp]
theorem rest_high {base : Nat} {w : World} {v : Value} {r : List UInt8} (h : Rest base w v r) (k : Nat) (hk : k ≤ r.length) :
    ∃ vx, (∀ W, (Instr.sliceAt 23 v none (some (.int .i64 (k : Int))) none).run Tryd.prog W = .ok vx W) ∧ BytesAt w vx (r.take k) := by
  have hs := h.slice
  have hc := h.cap
  obtain ⟨q, c, rfl⟩ := hs.form
  exact ⟨_, fun W => runHigh q r.length c k (by have := hc _ _ _ rfl; omega) W, sliceOf_taken hs k hk⟩
set_option maxRecDepth 100000 in
set_option maxHeartbeats 1000000 in
theorem over_any (x : Value) (l : List UInt8) (w : World) (hl : l.length ≤ 16777216) (hx : BytesAt w x l) :
    Calls Tryd.prog 54 #[x] w fun e w' => ∃ g v, e = .returned (.pointer (some ⟨g, 0, none⟩)) ∧ w.heap.size ≤ g ∧ CuV w.heap.size g w' v l 0 ∧ Below w.heap.size w w' := by
  have HX := Lib.hid hx
  clear hx
  go_enter Tryd.func54, Tryd.ntmps54
  go_wp2_with fail
  refine (bclone_any x l w (by omega) HX.out).mono ?_
  rintro e w1 ⟨v1, rfl, ho1, hx1⟩
  have HR1 := Lib.hid (Rest.of_own ho1)
  have HX1 := Lib.hid hx1
  obtain ⟨q, c, hf⟩ := ho1.slice.form
  have hb : ∀ W, (Instr.build 106 #[(0, v1)]).run Tryd.prog W = .ok (.agg (cuC v1 0)) W := fun W => by rw [hf]; kernel_rfl
  have HB := Lib.hid hb
  have hsz := hx1.size
  clear ho1 hx1 hf hb
  go_wp2_with (first | (with_reducible refine Agg.wpList_build1 106 0 _ rfl rfl v1 rfl (.agg (cuC v1 0)) HB.out ?_) | (with_reducible refine Agg.wpList_box rfl 106 _ rfl (cuC v1 0) rfl ?_; intro g w2 hb2 hx2 hg2; have HB2 := Lib.hid hb2; have HX2 := Lib.hid hx2; clear hb2 hx2))
  go_ret
  exact ⟨g, v1, rfl, Nat.le_trans hsz hg2, ⟨HB2.out, HR1.out.below HX2.out⟩, Agg.belowThen HX1.out (Nat.le_refl _) HX2.out⟩
/-- what was wrong stays wrong, and nothing is left -/
def CBad (base g : Nat) (w' : World) : Prop := ∃ e, e ≠ 0 ∧ CuV base g w' (.slice none 0 0) [] e
/-- what Raw answers -/
def CRaw (base g many : Nat) (r : List UInt8) (e : Nat) (B : Nat) (x : Ending) (w' : World) : Prop :=
  (e = 0 ∧ many ≤ r.length ∧ ∃ u v', x = .returned u ∧ Own EB B w' u (r.take many) ∧ CuV base g w' v' (r.drop many) 0) ∨
  ((e ≠ 0 ∨ r.length < many) ∧ x = .returned (.slice none 0 0) ∧ CBad base g w')
set_option maxRecDepth 100000 in
set_option maxHeartbeats 2000000 in
theorem craw_any (base g many : Nat) (v : Value) (r : List UInt8) (e : Nat) (w : World) (hr : r.length ≤ 16777216) (hmo : many ≤ 1099511627776) (hm : CuV base g w v r e) :
    Calls Tryd.prog 97 #[.pointer (some ⟨g, 0, none⟩), .int .i64 (many : Int)] w fun x w' => CRaw base g many r e w.heap.size x w' ∧ Only (· = g) w w' := by
  have hlr := fun W => bytes_len hm.rest.slice W
  have HM := Lib.hid hm
  clear hm
  by_cases h0 : e = 0
  · subst h0
    by_cases hle : many ≤ r.length
    · have hI : ¬ (r.length : Int) < (many : Int) := by omega
      have hIN : ¬ r.length < many := by omega
      obtain ⟨vx, hsv, hbx⟩ := rest_high HM.out.rest many hle
      have HBX := Lib.hid hbx
      have HLE := Lib.hid hle
      clear hbx hle
      go_enter Tryd.func97, Tryd.ntmps97
      go_wp2_with (first | (with_reducible refine Agg.wpList_loadL HM.out.load rfl _ rfl rfl ?_) | (with_reducible refine Agg.wpList_loadL HM.out.err rfl _ rfl rfl ?_))
      refine (bclone_any vx (r.take many) w (by simp; omega) HBX.out).mono ?_
      rintro x w1 ⟨u1, rfl, ho1, hx1⟩
      have HM1 := Lib.hid (HM.out.below hx1)
      obtain ⟨vy, hsy, hry, hyc, hy1⟩ := rest_low HM1.out.rest many HLE.out
      obtain ⟨w2, hrun, hb2, ho2, hr2⟩ := HM1.out.put (ty := 23) 0 (by omega) vy hyc hy1 (by kernel_rfl)
      have HCU := Lib.hid (show CuV base g w2 vy (r.drop many) 0 from ⟨hb2, hr2 hry⟩)
      have HOW := Lib.hid (show Own EB w.heap.size w2 u1 (r.take many) from ho1.keepT fun k cur fr hk => (ho2.block k (Agg.heap_lt hk) (fun h => by
        obtain rfl : k = g := h
        have hb := HM1.out.blk
        unfold Blk at hb
        rw [hk] at hb
        injection hb with hb
        injection hb with _ hb
        exact absurd hb (by decide))).trans hk)
      have HON := Lib.hid ((Only.of_below (S := (· = g)) hx1).trans ho2 fun _ _ h => h)
      clear ho1 hx1 hry hyc hy1 hb2 ho2 hr2
      go_wp2_with (first | (with_reducible refine Agg.wpList_loadL HM1.out.load rfl _ rfl rfl ?_) | (refine Agg.wpList_store rfl rfl 23 _ _ rfl (.pointer (some ⟨g, 0, none⟩)) _ rfl rfl hrun ?_))
      go_ret
      exact ⟨.inl ⟨rfl, HLE.out, u1, vy, rfl, HOW.out, HCU.out⟩, HON.out⟩
    · have hI : (r.length : Int) < (many : Int) := by omega
      have hIN : r.length < many := by omega
      clear hle
      go_enter Tryd.func97, Tryd.ntmps97
      go_wp2_with (first | (with_reducible refine Agg.wpList_loadL HM.out.load rfl _ rfl rfl ?_) | (with_reducible refine Agg.wpList_loadL HM.out.err rfl _ rfl rfl ?_))
      refine (fail_any base g v r 0 4 _ HM.out).mono ?_
      rintro x w9 ⟨⟨rr, rfl⟩, hcu, hon⟩
      have HCU := Lib.hid hcu
      have HON := Lib.hid hon
      clear hcu hon
      go_wp2_with fail
      go_ret
      exact ⟨.inr ⟨.inr hIN, rfl, 4, by omega, HCU.out⟩, HON.out⟩
  · have hq : ((e : Int) != 0) = true := by simp [h0]
    have H0 := Lib.hid h0
    clear h0
    go_enter Tryd.func97, Tryd.ntmps97
    go_wp2_with (first | (with_reducible refine Agg.wpList_loadL HM.out.load rfl _ rfl rfl ?_) | (with_reducible refine Agg.wpList_loadL HM.out.err rfl _ rfl rfl ?_))
    refine (fail_any base g v r e 4 _ HM.out).mono ?_
    rintro x w9 ⟨⟨rr, rfl⟩, hcu, hon⟩
    rw [if_neg H0.out] at hcu
    have HCU := Lib.hid hcu
    have HON := Lib.hid hon
    clear hcu hon
    go_wp2_with fail
    go_ret
    exact ⟨.inr ⟨.inl H0.out, rfl, e, H0.out, HCU.out⟩, HON.out⟩
set_option maxRecDepth 100000 in
set_option maxHeartbeats 1000000 in
theorem cend_any (base g : Nat) (v : Value) (r : List UInt8) (e : Nat) (w : World) (hm : CuV base g w v r e) :
    Calls Tryd.prog 56 #[.pointer (some ⟨g, 0, none⟩)] w fun x w' => (∃ c : Nat, x = .returned (.int .i64 (c : Int)) ∧ (c = 0 ↔ e = 0 ∧ r = [])) ∧ w' = w := by
  have hlr := fun W => bytes_len hm.rest.slice W
  have HM := Lib.hid hm
  clear hm
  by_cases h0 : e = 0
  · subst h0
    cases r with
    | nil =>
      go_enter Tryd.func56, Tryd.ntmps56
      go_wp2_with (first | (with_reducible refine Agg.wpList_loadL HM.out.load rfl _ rfl rfl ?_) | (with_reducible refine Agg.wpList_loadL HM.out.err rfl _ rfl rfl ?_))
      go_ret
      exact ⟨⟨0, rfl, by simp⟩, rfl⟩
    | cons b t =>
      have hI : (0 : Int) < ((b :: t).length : Int) := by simp
      obtain ⟨n, hn⟩ : ∃ n, (b :: t).length = n := ⟨_, rfl⟩
      rw [hn] at hI hlr
      clear hn
      go_enter Tryd.func56, Tryd.ntmps56
      go_wp2_with (first | (with_reducible refine Agg.wpList_loadL HM.out.load rfl _ rfl rfl ?_) | (with_reducible refine Agg.wpList_loadL HM.out.err rfl _ rfl rfl ?_))
      go_ret
      exact ⟨⟨4, rfl, by simp⟩, rfl⟩
  · have hq : ((e : Int) == 0) = false := by simp [h0]
    have H0 := Lib.hid h0
    clear h0
    go_enter Tryd.func56, Tryd.ntmps56
    go_wp2_with (first | (with_reducible refine Agg.wpList_loadL HM.out.load rfl _ rfl rfl ?_) | (with_reducible refine Agg.wpList_loadL HM.out.err rfl _ rfl rfl ?_))
    go_ret
    exact ⟨⟨e, rfl, fun h => absurd h H0.out, fun h => absurd h.1 H0.out⟩, rfl⟩
/-- a text that is got -/
def getT (most : Nat) (b : List UInt8) : Option (List UInt8 × List UInt8) :=
  match getN 1099511627776 b with
  | none => none
  | some (n, y) => if n ≤ most ∧ n ≤ y.length then some (y.take n, y.drop n) else none
/-- what Text answers -/
def CText (base g most : Nat) (r : List UInt8) (e : Nat) (B : Nat) (x : Ending) (w' : World) : Prop :=
  (e = 0 ∧ ∃ l y u v', getT most r = some (l, y) ∧ x = .returned u ∧ Own EB B w' u l ∧ CuV base g w' v' y 0) ∨
  ((e ≠ 0 ∨ getT most r = none) ∧ x = .returned (.slice none 0 0) ∧ CBad base g w')
theorem getN_le {most n : Nat} {b y : List UInt8} (h : getN most b = some (n, y)) : y.length ≤ b.length := by
  obtain ⟨rfl, _⟩ := getN_some h
  simp
set_option maxRecDepth 100000 in
set_option maxHeartbeats 2000000 in
theorem ctext_any (base g most : Nat) (v : Value) (r : List UInt8) (e : Nat) (w : World) (hr : r.length ≤ 16777216) (he : e ≠ 0 → r = []) (hm : CuV base g w v r e) :
    Calls Tryd.prog 82 #[.pointer (some ⟨g, 0, none⟩), .int .i64 (most : Int)] w fun x w' => CText base g most r e w.heap.size x w' ∧ Only (· = g) w w' := by
  have HM := Lib.hid hm
  clear hm
  go_enter Tryd.func82, Tryd.ntmps82
  go_wp2_with fail
  refine (cnum_any base g 1099511627776 v r e w hr (by omega) HM.out).mono ?_
  rintro x w1 ⟨⟨n, y, v1, hg, rfl, hcu⟩ | ⟨hg, rfl, hcu⟩, hon⟩
  · have he0 : e = 0 := Decidable.byContradiction fun h => by
      have h1 := he h
      subst h1
      have : getN 1099511627776 ([] : List UInt8) = none := by decide
      rw [this] at hg
      cases hg
    subst he0
    have HG := Lib.hid hg
    have HM1 := Lib.hid hcu
    have HON1 := Lib.hid hon
    have hyl := getN_le hg
    have hn40 := (getN_some hg).2.2
    clear hg hcu hon
    by_cases hnm : n ≤ most
    · have hI : ¬ (most : Int) < (n : Int) := by omega
      have HNM := Lib.hid hnm
      clear hnm
      go_wp2_with (first | (with_reducible refine Agg.wpList_loadL HM1.out.err rfl _ rfl rfl ?_))
      refine (craw_any base g n v1 y 0 w1 (by omega) hn40 HM1.out).mono ?_
      rintro x w2 ⟨⟨_, hny, u, v2, rfl, hou, hcu⟩ | ⟨hor, rfl, hbad⟩, hon⟩
      · have HT := Lib.hid (show getT most r = some (y.take n, y.drop n) by unfold getT; rw [HG.out]; exact if_pos ⟨HNM.out, hny⟩)
        have HOU := Lib.hid (hou.lower HON1.out.size)
        have HCU := Lib.hid hcu
        have HON := Lib.hid (HON1.out.trans hon fun _ _ h => h)
        clear hou hcu hon hny
        go_wp2_with fail
        go_ret
        exact ⟨.inl ⟨rfl, _, _, u, v2, HT.out, rfl, HOU.out, HCU.out⟩, HON.out⟩
      · have HT := Lib.hid (show getT most r = none by
          unfold getT
          rw [HG.out]
          exact if_neg fun h => by
            rcases hor with h0 | h0
            · exact h0 rfl
            · omega)
        have HBAD := Lib.hid hbad
        have HON := Lib.hid (HON1.out.trans hon fun _ _ h => h)
        clear hor hbad hon
        go_wp2_with fail
        go_ret
        exact ⟨.inr ⟨.inr HT.out, rfl, HBAD.out⟩, HON.out⟩
    · have hI : (most : Int) < (n : Int) := by omega
      have HT := Lib.hid (show getT most r = none by unfold getT; rw [HG.out]; exact if_neg fun h => hnm h.1)
      clear hnm
      go_wp2_with (first | (with_reducible refine Agg.wpList_loadL HM1.out.err rfl _ rfl rfl ?_))
      refine (fail_any base g v1 y 0 3 _ HM1.out).mono ?_
      rintro x w2 ⟨⟨rr, rfl⟩, hcu, hon⟩
      have HCU := Lib.hid hcu
      have HON := Lib.hid (HON1.out.trans hon fun _ _ h => h)
      clear hcu hon
      go_wp2_with fail
      go_ret
      exact ⟨.inr ⟨.inr HT.out, rfl, 3, by omega, HCU.out⟩, HON.out⟩
  · have hne : (if e = 0 then 4 else e) ≠ 0 := by split <;> omega
    obtain ⟨e2, he2⟩ : ∃ e2, (if e = 0 then 4 else e) = e2 := ⟨_, rfl⟩
    rw [he2] at hcu hne
    have hq : ((e2 : Int) != 0) = true := by simp [hne]
    have HNE := Lib.hid hne
    have HM1 := Lib.hid hcu
    have HON1 := Lib.hid hon
    have HT := Lib.hid (show getT most r = none by unfold getT; rw [hg])
    clear hg hcu hon he2 hne
    go_wp2_with (first | (with_reducible refine Agg.wpList_loadL HM1.out.err rfl _ rfl rfl ?_))
    go_ret
    exact ⟨.inr ⟨.inr HT.out, rfl, e2, HNE.out, HM1.out⟩, HON1.out⟩
end Go.Proofs.YtfiadgdinhmgbaaDoor
/-! Small facts about numbers. -/
namespace Go.Proofs.YtfiadgdinhmgbaaDoor
open Go.RowKit Pl
theorem ret_num {k : IntKind} {a b : Int} (h : a = b) : Ending.returned (.int k a) = .returned (.int k b) := by rw [h]
/-- 'within', under a name -/
def wi (c lo hi : Int) : Bool := decide (lo ≤ c) && decide (c ≤ hi)
theorem u8_lt (c : UInt8) : (c.toNat : Int) < 256 := by have := c.toNat_lt; omega
end Go.Proofs.YtfiadgdinhmgbaaDoor
/-! base.sign: whether a rune may stand in a name. -/
namespace Go.Proofs.YtfiadgdinhmgbaaDoor
open Go.RowKit Pl
theorem ret_bool {a b : Bool} (h : a = b) : Ending.returned (.bool a) = .returned (.bool b) := by rw [h]
/-- 'small', under a name -/
def smallN (r : Nat) : Nat := r ||| 32
theorem small_eq (r : Nat) (h : r < 128) : bits .or .i32 (r : Int) 32 = ((smallN r : Nat) : Int) := by
  unfold smallN
  have : ∀ r : Nat, r < 128 → bits .or .i32 (r : Int) 32 = ((r ||| 32 : Nat) : Int) := by decide +kernel
  exact this r h
theorem index_eq (r : Nat) (h : r < 128) : Lib.indexByte [46, 95, 43, 45] (r : Int).toNat.toUInt8 = (if r = 46 then 0 else if r = 95 then 1 else if r = 43 then 2 else if r = 45 then 3 else -1 : Int) := by
  have : ∀ r : Nat, r < 128 → Lib.indexByte [46, 95, 43, 45] (r : Int).toNat.toUInt8 = (if r = 46 then 0 else if r = 95 then 1 else if r = 43 then 2 else if r = 45 then 3 else -1 : Int) := by decide +kernel
  exact this r h
/-- the place in the four, under a name -/
def placeN (r : Nat) : Int := if r = 46 then 0 else if r = 95 then 1 else if r = 43 then 2 else if r = 45 then 3 else -1
theorem index_any (r : Int) (h0 : 0 ≤ r) (h : r < 128) (w : World) : Calls Tryd.prog 104 #[.string ⟨#[46, 95, 43, 45]⟩, .int .u8 r] w fun e w' => e = .returned (.int .i64 (placeN r.toNat)) ∧ w = w' := by
  obtain ⟨n, rfl⟩ := Int.eq_ofNat_of_zero_le h0
  refine (Tryd.strings_IndexByte _ _ _).mono ?_
  rintro e w' ⟨rfl, rfl⟩
  refine ⟨ret_num ?_, rfl⟩
  exact index_eq n (by omega)
theorem signN_eq (r : Nat) : signN r = ((decide (65 ≤ r) && decide (97 ≤ smallN r) && decide (smallN r ≤ 122)) || (decide (48 ≤ r) && decide (r ≤ 57)) || decide (0 ≤ placeN r)) := rfl
set_option maxRecDepth 100000 in
set_option maxHeartbeats 1000000 in
theorem sign_low (r : Nat) (h : r < 128) (w : World) :
    Calls Tryd.prog 88 #[.int .i32 (r : Int)] w fun e w' => e = .returned (.bool (signN r)) ∧ w = w' := by
  have hs := small_eq r h
  have h' : (r : Int) < 128 := by omega
  go_enter Tryd.func88, Tryd.ntmps88
  go_wp2_with (go_at_call 104; refine (index_any _ (by omega) (by omega) _).mono ?_; rintro e w' ⟨rfl, rfl⟩)
  all_goals go_ret
  all_goals refine ⟨?_, rfl⟩
  all_goals exact ret_bool (by rw [signN_eq, Bool.eq_iff_iff]; simp only [Bool.or_eq_true, Bool.and_eq_true, decide_eq_true_eq, true_iff]; omega)
set_option maxRecDepth 100000 in
theorem sign_high (r : Int) (h : 128 ≤ r) (w : World) :
    Calls Tryd.prog 88 #[.int .i32 r] w fun e w' => e = .returned (.bool false) ∧ w = w' := by
  have hd : decide (r < 128) = false := by simp; omega
  go_enter Tryd.func88, Tryd.ntmps88
  go_wp2_with fail
  go_ret
  exact ⟨rfl, rfl⟩
/-- base.sign at any rune -/
def signR (r : Int) : Bool := if r < 128 then signN r.toNat else false
theorem sign_any (r : Int) (h : 0 ≤ r) (w : World) :
    Calls Tryd.prog 88 #[.int .i32 r] w fun e w' => e = .returned (.bool (signR r)) ∧ w = w' := by
  unfold signR
  by_cases h3 : r < 128
  · rw [if_pos h3]
    obtain ⟨n, rfl⟩ := Int.eq_ofNat_of_zero_le h
    exact sign_low n (by omega) w
  · rw [if_neg h3]
    exact sign_high r (by omega) w
end Go.Proofs.YtfiadgdinhmgbaaDoor
/-! base.Name and spenceref03.Name: whether a text is a name. -/
namespace Go.Proofs.YtfiadgdinhmgbaaDoor
open Go.RowKit Pl
theorem isName_bad (s : List UInt8) (k : Nat) (hk : k < s.length) (h : sgn s[k] = false) : isName s = false := by
  have : s.all sgn = false := by
    rw [List.all_eq_false]; exact ⟨s[k], List.getElem_mem hk, by simp [h]⟩
  simp [isName, this]
theorem isName_good (s : List UInt8) (h : ∀ k (hk : k < s.length), sgn s[k] = true) : isName s = ((s.length != 0) && decide (s.length ≤ 24) && (s.getD 0 0 != 46)) := by
  have : s.all sgn = true := by
    rw [List.all_eq_true]; intro x hx; obtain ⟨k, hk, rfl⟩ := List.getElem_of_mem hx; exact h k hk
  simp [isName, this]
/-- the range over the text: its next sign -/
theorem next_low (w : World) (s : List UInt8) (k : Nat) (ty : TypeId) (hk : k < s.length) (ha : s[k].toNat < 128) :
    (Instr.next (.pointer (some ⟨w.heap.size, 0, none⟩)) true ty).run Tryd.prog (w.iter ⟨s.toArray⟩ k) = .ok (.tuple #[.bool true, .int .i64 (k : Int), .int .i32 (s[k].toNat : Int)]) (w.iter ⟨s.toArray⟩ (k + 1)) := by
  have hs : k < (⟨s.toArray⟩ : ByteArray).size := by rw [Agg.bytes_size]; exact hk
  have he : (⟨s.toArray⟩ : ByteArray)[k]'hs = s[k] := by simp [ByteArray.getElem_eq_getElem_data]
  have := run_next_ascii (P := Tryd.prog) w ⟨s.toArray⟩ k ty hs (by rw [he]; exact ha)
  rw [he] at this
  exact this
theorem next_high (w : World) (s : List UInt8) (k : Nat) (ty : TypeId) (hk : k < s.length) (ha : 128 ≤ s[k].toNat) :
    ∃ (r : Int) (k' : Nat), 128 ≤ r ∧ k < k' ∧ (Instr.next (.pointer (some ⟨w.heap.size, 0, none⟩)) true ty).run Tryd.prog (w.iter ⟨s.toArray⟩ k) = .ok (.tuple #[.bool true, .int .i64 (k : Int), .int .i32 r]) (w.iter ⟨s.toArray⟩ k') := by
  have hs : k < (⟨s.toArray⟩ : ByteArray).size := by rw [Agg.bytes_size]; exact hk
  have he : (⟨s.toArray⟩ : ByteArray)[k]'hs = s[k] := by simp [ByteArray.getElem_eq_getElem_data]
  obtain ⟨h1, h2⟩ := decode_high ⟨s.toArray⟩ k hs (by rw [he]; exact ha)
  exact ⟨_, _, by exact_mod_cast h1, by omega, run_next_any (P := Tryd.prog) w ⟨s.toArray⟩ k ty hs⟩
theorem next_end (w : World) (s : List UInt8) (ty : TypeId) :
    (Instr.next (.pointer (some ⟨w.heap.size, 0, none⟩)) true ty).run Tryd.prog (w.iter ⟨s.toArray⟩ s.length) = .ok (.tuple #[.bool false]) (w.iter ⟨s.toArray⟩ s.length) :=
  run_next_end (P := Tryd.prog) w ⟨s.toArray⟩ s.length ty (by rw [Agg.bytes_size]; omega)
theorem signR_byte (c : UInt8) (hc : c.toNat < 128) : signR (c.toNat : Int) = sgn c := by
  unfold signR
  rw [if_pos (by omega)]
  exact signN_sgn c hc
theorem below_iter (w : World) (s : ByteArray) (k : Nat) : Below w.heap.size w (w.iter s k) := (Below.refl _ _).alloc (Nat.le_refl _) _
set_option maxRecDepth 100000 in
set_option maxHeartbeats 1000000 in
theorem name_any (s : List UInt8) (w : World) :
    Calls Tryd.prog 62 #[.string ⟨s.toArray⟩] w fun e w' => e = .returned (.bool (isName s)) ∧ Below w.heap.size w w' := by
  go_enter Tryd.func62, Tryd.ntmps62
  go_wp2_with fail
  go_loopw [4] (fun _ wr => ∃ k : Nat, k ≤ s.length ∧ wr = w.iter ⟨s.toArray⟩ k ∧ ∀ j (hj : j < s.length), j < k → sgn s[j] = true) (fun _ wr => s.length - wr.iterPos w.heap.size)
  case atStart => exact ⟨0, by omega, rfl, by intros; omega⟩
  case round =>
    obtain ⟨k, hk, rfl, hg⟩ := hrel
    have HG := Lib.hid hg
    clear hg
    by_cases hlt : k < s.length
    · by_cases hc : s[k].toNat < 128
      · have hn := next_low w s k 0 hlt hc
        cases hsg : sgn s[k] with
        | true =>
          go_wp2_with (go_at_call 88; refine (sign_any _ (by omega) _).mono ?_; rintro e w' ⟨rfl, rfl⟩; rw [signR_byte _ hc, hsg])
          go_roundw
          case rel => exact ⟨k + 1, by omega, rfl, fun j hj h => by
            rcases Nat.lt_or_ge j k with h' | h'
            · exact HG.out j hj h'
            · obtain rfl : j = k := by omega
              exact hsg⟩
          case measure => simp; omega
        | false =>
          go_wp2_with (go_at_call 88; refine (sign_any _ (by omega) _).mono ?_; rintro e w' ⟨rfl, rfl⟩; rw [signR_byte _ hc, hsg])
          go_ret
          exact ⟨ret_bool (isName_bad s k hlt hsg).symm, below_iter _ _ _⟩
      · obtain ⟨r, k', hr, hk', hn⟩ := next_high w s k 0 hlt (by omega)
        have hsg : sgn s[k] = false := by
          cases h : sgn s[k] with
          | true => exact absurd (sgn_small _ h) hc
          | false => rfl
        have HS := Lib.hid hsg
        clear hsg
        go_wp2_with (go_at_call 88; refine (sign_high _ hr _).mono ?_; rintro e w' ⟨rfl, rfl⟩)
        go_ret
        exact ⟨ret_bool (isName_bad s k hlt HS.out).symm, below_iter _ _ _⟩
    · obtain rfl : k = s.length := by omega
      have hn := next_end w s 0
      have hgood := isName_good s (fun j hj => HG.out j hj hj)
      have HI := Lib.hid hgood
      clear hgood
      cases s with
      | nil =>
        simp only [List.length_nil] at hn
        go_wp2_with fail
        go_ret
        exact ⟨ret_bool (by rw [HI.out]; rfl), below_iter _ _ _⟩
      | cons c l =>
        have hix : ∀ w, (Instr.index 9 (.string ⟨(c :: l).toArray⟩) (.int .i64 0)).run Tryd.prog w = .ok (.int .u8 (c.toNat : Int)) w := fun w => Agg.run_index_str (i := 0) w Tryd.underlying9 rfl
        simp only [List.length_cons] at hn
        go_wp2_with fail
        all_goals go_ret
        all_goals refine ⟨ret_bool ?_, below_iter _ _ _⟩
        all_goals rw [HI.out]
        · have h24 : (l.length : Int) + 1 ≤ 24 := by assumption
          have e : (((c.toNat : Int)) != 46) = (c != 46) := by
            rw [Bool.eq_iff_iff]; simp only [bne_iff_ne, ne_eq]; rw [← UInt8.toNat_inj]; simp; omega
          simp [e, show l.length + 1 ≤ 24 by omega]
        · have h24 : 24 < (l.length : Int) + 1 := by assumption
          simp [show ¬ l.length + 1 ≤ 24 by omega]
end Go.Proofs.YtfiadgdinhmgbaaDoor
/-! Maps that a call makes, over any program and any key: what a map's block holds, its look-up and its store. -/
namespace Go.Mp
open Go.RowKit Go.Instr
section
variable {P : Program} {α β : Type} [DecidableEq α]
/-- a map's block holds these keys and values, in the order in which they came -/
def MapIs (w : World) (b : Nat) (κ : α → Value) (ν : β → Value) (m : List (α × β)) : Prop :=
  ∃ es clock, w.heap[b]? = some (.map es clock) ∧ es.toList.map (fun e => (e.key, e.val)) = m.map (fun p => (κ p.1, ν p.2))
/-- what a key's type must be -/
structure KeyEq (P : Program) (K : TypeId) (κ : α → Value) : Prop where
  check : ∀ empty a w, (checkKey empty 10000 K (κ a)).run P w = .ok () w
  desc : ∃ d, P.underlying K = some d ∧ ((∀ a b, sameNow d (κ a) (κ b) = some (decide (a = b))) ∨ ((∀ a b, sameNow d (κ a) (κ b) = none) ∧ ∀ a b w, (Op.equal K (κ a) (κ b)).run P w = .ok (decide (a = b)) w))
  bits : ∀ a, sameBits 10000 (κ a) (κ a) = true
def mget (m : List (α × β)) (a : α) : Option β := (m.find? (fun p => decide (a = p.1))).map (·.2)
def mput (m : List (α × β)) (a : α) (v : β) : List (α × β) := match m with
  | [] => [(a, v)]
  | p :: r => if a = p.1 then (a, v) :: r else p :: mput r a v
theorem mget_mput (m : List (α × β)) (a c : α) (v : β) : mget (mput m a v) c = if c = a then some v else mget m c := by
  induction m with
  | nil => by_cases h : c = a <;> simp [mput, mget, h]
  | cons p r ih =>
    unfold mput
    by_cases h : a = p.1
    · rw [if_pos h]
      by_cases h2 : c = a
      · simp [mget, h2]
      · have : ¬ c = p.1 := fun e => h2 (e.trans h.symm)
        simp [mget, h2, this]
    · rw [if_neg h]
      by_cases h2 : c = p.1
      · have h3 : ¬ c = a := fun e => h (e.symm.trans h2)
        have h4 : ¬ p.1 = a := fun e => h e.symm
        simp [mget, h2, h4]
      · simp only [mget, List.find?_cons, h2, decide_false] at ih ⊢
        exact ih
def pairs (es : List MapEntry) : List (Value × Value) := es.map (fun e => (e.key, e.val))
/-- the place of a key among entries -/
def place (m : List (α × β)) (a : α) (i : Nat) : Option (Nat × β) := match m with
  | [] => none
  | p :: r => if a = p.1 then some (i, p.2) else place r a (i + 1)
theorem findNow_eq {d : TypeDesc} {κ : α → Value} {ν : β → Value} (h : ∀ a b, sameNow d (κ a) (κ b) = some (decide (a = b))) (a : α) :
    ∀ (m : List (α × β)) (es : List MapEntry) (i : Nat), es.map (fun e => (e.key, e.val)) = m.map (fun p => (κ p.1, ν p.2)) →
      findNow d (κ a) es i = some ((place m a i).map fun x => (x.1, ν x.2))
  | [], [], i, _ => rfl
  | [], e :: es, i, he => by simp at he
  | p :: m, [], i, he => by simp at he
  | p :: m, e :: es, i, he => by
    simp only [List.map_cons, List.cons.injEq, Prod.mk.injEq] at he
    obtain ⟨⟨hk, hv⟩, hr⟩ := he
    unfold findNow place
    rw [hk, h a p.1]
    by_cases e' : a = p.1
    · simp [e', hv]
    · simp only [e', decide_false, if_false]
      exact findNow_eq h a m es (i + 1) hr
theorem findAsking_eq {K : TypeId} {κ : α → Value} {ν : β → Value} (h : ∀ a b w, (Op.equal K (κ a) (κ b)).run P w = .ok (decide (a = b)) w) (a : α) :
    ∀ (m : List (α × β)) (es : List MapEntry) (i : Nat) (w : World), es.map (fun e => (e.key, e.val)) = m.map (fun p => (κ p.1, ν p.2)) →
      (findAsking K (κ a) es i).run P w = .ok ((place m a i).map fun x => (x.1, ν x.2)) w
  | [], [], i, w, _ => rfl
  | [], e :: es, i, w, he => by simp at he
  | p :: m, [], i, w, he => by simp at he
  | p :: m, e :: es, i, w, he => by
    simp only [List.map_cons, List.cons.injEq, Prod.mk.injEq] at he
    obtain ⟨⟨hk, hv⟩, hr⟩ := he
    unfold findAsking place
    rw [Sem.run_bind, hk, h a p.1 w]
    by_cases e' : a = p.1
    · simp [e', hv, Result.andThen, Sem.run_pure]
    · simp only [e', decide_false, if_false, Result.andThen, Bool.false_eq_true]
      exact findAsking_eq h a m es (i + 1) w hr
theorem findKey_eq {K : TypeId} {κ : α → Value} {ν : β → Value} (hK : KeyEq P K κ) (a : α) (m : List (α × β)) (es : List MapEntry) (w : World) (he : es.map (fun e => (e.key, e.val)) = m.map (fun p => (κ p.1, ν p.2))) :
    (findKey K (κ a) es).run P w = .ok ((place m a 0).map fun x => (x.1, ν x.2)) w := by
  obtain ⟨d, hd, h⟩ := hK.desc
  unfold findKey
  rw [Sem.run_bind, run_underlying hd w]
  simp only [Result.andThen]
  rcases h with h | ⟨h1, h2⟩
  · rw [findNow_eq h a m es 0 he]
    rfl
  · cases hn : findNow d (κ a) es 0 with
    | none => exact findAsking_eq h2 a m es 0 w he
    | some r =>
      -- only where there is no entry
      cases es with
      | nil => cases m with
        | nil => simp [findNow] at hn; subst hn; rfl
        | cons p m => simp at he
      | cons e es => cases m with
        | nil => simp at he
        | cons p m =>
          simp only [List.map_cons, List.cons.injEq, Prod.mk.injEq] at he
          simp [findNow, he.1.1, h1 a p.1] at hn
theorem place_get (m : List (α × β)) (a : α) (i : Nat) : (place m a i).map (·.2) = mget m a := by
  induction m generalizing i with
  | nil => rfl
  | cons p r ih =>
    unfold place
    by_cases e : a = p.1
    · simp [mget, e]
    · rw [if_neg e, ih]; simp [mget, e]
/-- the world with another map in block b -/
def setMap (w : World) (b : Nat) (es : Array MapEntry) (c : Nat) : World := { w with heap := w.heap.setIfInBounds b (.map es c) }
theorem setMap_same {w : World} {b : Nat} {es : Array MapEntry} {c : Nat} (h : b < w.heap.size) : (setMap w b es c).heap[b]? = some (.map es c) := by simp [setMap, h]
theorem setMap_other {w : World} {b k : Nat} {es : Array MapEntry} {c : Nat} (h : k ≠ b) : (setMap w b es c).heap[k]? = w.heap[k]? := by simp [setMap, Ne.symm h]
theorem setMap_size {w : World} {b : Nat} {es : Array MapEntry} {c : Nat} : (setMap w b es c).heap.size = w.heap.size := by simp [setMap]
theorem below_setMap {B b : Nat} {a w : World} {es : Array MapEntry} {c : Nat} (h : Below B a w) (hb : B ≤ b) : Below B a (setMap w b es c) :=
  h.trans ⟨rfl, rfl, rfl, by rw [setMap_size]; exact Nat.le_refl _, fun k hk => setMap_other (by omega)⟩
/-- w' is w but for block b -/
def ButMap (b : Nat) (w w' : World) : Prop := ∃ es c, w' = setMap w b es c
theorem ButMap.other {b k : Nat} {w w' : World} (h : ButMap b w w') (hk : k ≠ b) : w'.heap[k]? = w.heap[k]? := by obtain ⟨es, c, rfl⟩ := h; exact setMap_other hk
theorem ButMap.size {b : Nat} {w w' : World} (h : ButMap b w w') : w'.heap.size = w.heap.size := by obtain ⟨es, c, rfl⟩ := h; exact setMap_size
theorem ButMap.below {B b : Nat} {a w w' : World} (h : ButMap b w w') (hw : Below B a w) (hb : B ≤ b) : Below B a w' := by obtain ⟨es, c, rfl⟩ := h; exact below_setMap hw hb
omit [DecidableEq α] in
theorem MapIs.empty (w : World) (κ : α → Value) (ν : β → Value) : MapIs (w.alloc (.map #[] 0)) w.heap.size κ ν [] := ⟨#[], 0, heap_alloc_new _ _, rfl⟩
omit [DecidableEq α] in
theorem MapIs.keep {w w' : World} {b : Nat} {κ : α → Value} {ν : β → Value} {m : List (α × β)} (h : MapIs w b κ ν m) (hk : w'.heap[b]? = w.heap[b]?) : MapIs w' b κ ν m := by
  obtain ⟨es, c, hb, he⟩ := h
  exact ⟨es, c, hk.trans hb, he⟩
omit [DecidableEq α] in
theorem MapIs.lt {w : World} {b : Nat} {κ : α → Value} {ν : β → Value} {m : List (α × β)} (h : MapIs w b κ ν m) : b < w.heap.size := by
  obtain ⟨es, c, hb, _⟩ := h; exact Agg.heap_lt hb
/-- 'v, ok := m[k]' -/
theorem run_lookup_ok {t K E : TypeId} {w : World} {b : Nat} {κ : α → Value} {ν : β → Value} {m : List (α × β)} {z : Value} (ht : P.underlying t = some (.map K E)) (hK : KeyEq P K κ) (hz : ∀ w, (zeroValue E).run P w = .ok z w)
    (h : MapIs w b κ ν m) (a : α) :
    (lookup t (.map (some b)) (κ a) true).run P w = .ok (.tuple #[(match mget m a with | some v => ν v | none => z), .bool (mget m a).isSome]) w := by
  obtain ⟨es, c, hb, he⟩ := h
  unfold lookup
  rw [Sem.run_bind, run_underlying ht w]
  simp only [Result.andThen, Sem.run_bind, getObj, Sem.run, hb, Sem.run_pure, hK.check, findKey_eq hK a m es.toList w he]
  have hg := place_get m a 0
  cases hp : place m a 0 with
  | none =>
    rw [hp] at hg
    simp [← hg, hz, Result.andThen]
  | some x =>
    rw [hp] at hg
    simp [← hg]
theorem place_mput (m : List (α × β)) (a : α) (v : β) (κ : α → Value) (ν : β → Value) : ∀ (es : List MapEntry) (i : Nat), es.map (fun e => (e.key, e.val)) = m.map (fun p => (κ p.1, ν p.2)) →
    (∀ j x, place m a i = some (j, x) → i ≤ j ∧ ∃ e, es[j - i]? = some e ∧ e.key = κ a ∧ (es.modify (j - i) (fun e => { e with key := κ a, val := ν v })).map (fun e => (e.key, e.val)) = (mput m a v).map (fun p => (κ p.1, ν p.2))) ∧
    (place m a i = none → (mput m a v) = m ++ [(a, v)]) := by
  induction m with
  | nil => intro es i he; exact ⟨fun j x h => by simp [place] at h, fun _ => rfl⟩
  | cons p r ih =>
    intro es i he
    cases es with
    | nil => simp at he
    | cons e es =>
      simp only [List.map_cons, List.cons.injEq, Prod.mk.injEq] at he
      obtain ⟨⟨hk, hv⟩, hr⟩ := he
      obtain ⟨h1, h2⟩ := ih es (i + 1) hr
      unfold place mput
      by_cases e' : a = p.1
      · simp only [e', if_true]
        refine ⟨fun j x h => ?_, fun h => by simp at h⟩
        simp only [Option.some.injEq, Prod.mk.injEq] at h
        obtain ⟨rfl, rfl⟩ := h
        exact ⟨Nat.le_refl _, e, by simp, by rw [hk], by simp [hr]⟩
      · simp only [e', if_false]
        refine ⟨fun j x h => ?_, fun h => by rw [h2 h]; rfl⟩
        obtain ⟨hle, e2, h3, h4, h5⟩ := h1 j x h
        refine ⟨by omega, e2, ?_, h4, ?_⟩
        · rw [show j - i = (j - (i + 1)) + 1 by omega]; exact h3
        · rw [show j - i = (j - (i + 1)) + 1 by omega]; simp [hk, hv, h5]
/-- 'm[k] = v' -/
theorem run_mapUpdate {t K E : TypeId} {w : World} {b : Nat} {κ : α → Value} {ν : β → Value} {m : List (α × β)} (ht : P.underlying t = some (.map K E)) (hK : KeyEq P K κ)
    (h : MapIs w b κ ν m) (a : α) (v : β) :
    ∃ w', (mapUpdate t (.map (some b)) (κ a) (ν v)).run P w = .ok () w' ∧ MapIs w' b κ ν (mput m a v) ∧ ButMap b w w' := by
  obtain ⟨es, c, hb, he⟩ := h
  have hlt := Agg.heap_lt hb
  obtain ⟨h1, h2⟩ := place_mput m a v κ ν es.toList 0 he
  cases hp : place m a 0 with
  | none =>
    refine ⟨setMap w b (es.push { key := κ a, val := ν v, born := c }) (c + 1), ?_, ⟨_, _, setMap_same hlt, ?_⟩, _, _, rfl⟩
    · unfold mapUpdate
      rw [Sem.run_bind, run_underlying ht w]
      simp only [Result.andThen, Sem.run_bind, getObj, Sem.run, hb, hK.check, findKey_eq hK a m es.toList w he, hp]
      simp [setObj, Sem.run, hb, setMap]
    · rw [h2 hp]; simp [he]
  | some x =>
    obtain ⟨_, e, h3, h4, h5⟩ := h1 x.1 x.2 hp
    simp only [Nat.sub_zero] at h3 h5
    refine ⟨setMap w b (es.modify x.1 fun e => { e with key := κ a, val := ν v }) c, ?_, ⟨_, _, setMap_same hlt, ?_⟩, _, _, rfl⟩
    · unfold mapUpdate
      rw [Sem.run_bind, run_underlying ht w]
      simp only [Result.andThen, Sem.run_bind, getObj, Sem.run, hb, hK.check, findKey_eq hK a m es.toList w he, hp]
      have h3' : es[x.1]? = some e := by simpa using h3
      simp [setObj, Sem.run, hb, setMap, h3', h4, keyThatStays, hK.bits]
    · rw [Array.toList_modify]; exact h5
/-! At a list of operations. -/
variable {ops : Array Oper} {rest : List Oper} {o : Oper} {a : Act} {w : World} {Q : Exit → Act → World → Prop}
theorem wpList_lookup_ok (hg : o.guard = none) (mo xo : Operand) (t K E : TypeId) (hop : o.op = Op.lookup t mo xo true) (ht : P.underlying t = some (.map K E)) {κ : α → Value} {ν : β → Value} {z : Value}
    (hK : KeyEq P K κ) (hz : ∀ w, (zeroValue E).run P w = .ok z w) {b : Nat} {m : List (α × β)} (hm : a.eval mo = .map (some b)) (h : MapIs w b κ ν m) (x : α) (hx : a.eval xo = κ x)
    (hk : wpList P ops Q rest (a.put o.dst (.tuple #[(match mget m x with | some v => ν v | none => z), .bool (mget m x).isSome])) w) : wpList P ops Q (o :: rest) a w := by
  refine wpList_plain hg fun K' hK' => ?_
  unfold Oper.wp
  simp [execOp, hop, hm, hx, run_lookup_ok ht hK hz h x, Result.andThen]
  exact hK' _ _ hk
theorem wpList_lookup_hit (hg : o.guard = none) (mo xo : Operand) (t K E : TypeId) (hop : o.op = Op.lookup t mo xo true) (ht : P.underlying t = some (.map K E)) {κ : α → Value} {ν : β → Value} {z : Value}
    (hK : KeyEq P K κ) (hz : ∀ w, (zeroValue E).run P w = .ok z w) {b : Nat} {m : List (α × β)} (hm : a.eval mo = .map (some b)) (h : MapIs w b κ ν m) (x : α) (hx : a.eval xo = κ x) (v : β) (hv : mget m x = some v)
    (hk : wpList P ops Q rest (a.put o.dst (.tuple #[ν v, .bool true])) w) : wpList P ops Q (o :: rest) a w :=
  wpList_lookup_ok hg mo xo t K E hop ht hK hz hm h x hx (by rw [hv]; exact hk)
theorem wpList_lookup_miss (hg : o.guard = none) (mo xo : Operand) (t K E : TypeId) (hop : o.op = Op.lookup t mo xo true) (ht : P.underlying t = some (.map K E)) {κ : α → Value} {ν : β → Value} {z : Value}
    (hK : KeyEq P K κ) (hz : ∀ w, (zeroValue E).run P w = .ok z w) {b : Nat} {m : List (α × β)} (hm : a.eval mo = .map (some b)) (h : MapIs w b κ ν m) (x : α) (hx : a.eval xo = κ x) (hv : mget m x = none)
    (hk : wpList P ops Q rest (a.put o.dst (.tuple #[z, .bool false])) w) : wpList P ops Q (o :: rest) a w :=
  wpList_lookup_ok hg mo xo t K E hop ht hK hz hm h x hx (by rw [hv]; exact hk)
theorem wpList_mapUpdate (hg : o.guard = none) (hd : o.dst = none) (mo xo vo : Operand) (t K E : TypeId) (hop : o.op = Op.mapUpdate t mo xo vo) (ht : P.underlying t = some (.map K E)) {κ : α → Value} {ν : β → Value}
    (hK : KeyEq P K κ) {b : Nat} {m : List (α × β)} (hm : a.eval mo = .map (some b)) (h : MapIs w b κ ν m) (x : α) (hx : a.eval xo = κ x) (v : β) (hv : a.eval vo = ν v)
    (hk : ∀ w', MapIs w' b κ ν (mput m x v) → ButMap b w w' → wpList P ops Q rest a w') : wpList P ops Q (o :: rest) a w := by
  refine wpList_plain hg fun K' hK' => ?_
  obtain ⟨w', hr, h1, h2⟩ := run_mapUpdate ht hK h x v
  unfold Oper.wp
  simp [execOp, hop, hm, hx, hv, hr, Result.andThen]
  rw [Oper.upon_skip, hd]
  exact hK' _ _ (hk w' h1 h2)
/-- integer keys -/
theorem int_key {K : TypeId} {k : IntKind} (h : P.underlying K = some (.int k)) : KeyEq P K (fun n : Int => .int k n) where
  check := fun empty a w => by
    unfold checkKey
    rw [Sem.run_bind, run_underlying h w]
    simp [Result.andThen]
  desc := ⟨_, h, .inl fun a b => by simp [sameNow]; rw [Bool.eq_iff_iff]; simp⟩
  bits := fun a => by simp [sameBits]
end
end Go.Mp
/-! (of general use) base.values and base.Hash: the hash of letters. -/
namespace Go.Proofs.YtfiadgdinhmgbaaDoor
open Go.RowKit Pl Go.Mp
/-- a range over a text in block b, in whatever world -/
theorem nextAt_low (w : World) (b : Nat) (s : List UInt8) (k : Nat) (ty : TypeId) (hb : w.heap[b]? = some (.stringIter ⟨s.toArray⟩ k)) (hk : k < s.length) (ha : s[k].toNat < 128) :
    (Instr.next (.pointer (some ⟨b, 0, none⟩)) true ty).run Tryd.prog w = .ok (.tuple #[.bool true, .int .i64 (k : Int), .int .i32 (s[k].toNat : Int)]) (w.iterAt b ⟨s.toArray⟩ (k + 1)) := by
  have hs : k < (⟨s.toArray⟩ : ByteArray).size := by rw [Agg.bytes_size]; exact hk
  have he : (⟨s.toArray⟩ : ByteArray)[k]'hs = s[k] := by simp [ByteArray.getElem_eq_getElem_data]
  have := Lib.run_next_ascii_at (P := Tryd.prog) w b ⟨s.toArray⟩ k ty hb hs (by rw [he]; exact ha)
  rw [he] at this
  exact this
theorem nextAt_high (w : World) (b : Nat) (s : List UInt8) (k : Nat) (ty : TypeId) (hb : w.heap[b]? = some (.stringIter ⟨s.toArray⟩ k)) (hk : k < s.length) (ha : 128 ≤ s[k].toNat) :
    ∃ (r : Int) (k' : Nat), 128 ≤ r ∧ r ≤ 2147483647 ∧ k < k' ∧ (Instr.next (.pointer (some ⟨b, 0, none⟩)) true ty).run Tryd.prog w = .ok (.tuple #[.bool true, .int .i64 (k : Int), .int .i32 r]) (w.iterAt b ⟨s.toArray⟩ k') := by
  have hs : k < (⟨s.toArray⟩ : ByteArray).size := by rw [Agg.bytes_size]; exact hk
  have he : (⟨s.toArray⟩ : ByteArray)[k]'hs = s[k] := by simp [ByteArray.getElem_eq_getElem_data]
  obtain ⟨h1, h2⟩ := decode_high ⟨s.toArray⟩ k hs (by rw [he]; exact ha)
  have h3 := decode_le ⟨s.toArray⟩ k
  exact ⟨_, _, by omega, by omega, by omega, Lib.run_next_any_at (P := Tryd.prog) w b ⟨s.toArray⟩ k ty hb hs⟩
theorem nextAt_end (w : World) (b : Nat) (s : List UInt8) (ty : TypeId) (hb : w.heap[b]? = some (.stringIter ⟨s.toArray⟩ s.length)) :
    (Instr.next (.pointer (some ⟨b, 0, none⟩)) true ty).run Tryd.prog w = .ok (.tuple #[.bool false]) w :=
  Lib.run_next_end_at (P := Tryd.prog) w b ⟨s.toArray⟩ s.length ty hb (by rw [Agg.bytes_size]; omega)
/-- runes, numbers as values -/
def rK (n : Int) : Value := .int .i32 n
def nV (n : Nat) : Value := .int .u32 (n : Int)
def vals (k : Nat) : List (Int × Nat) := (List.range k).map fun i => (((letter i).toNat : Int), i)
theorem vals_step : ∀ k, k < 32 → mput (vals k) ((letter k).toNat : Int) k = vals (k + 1) := by decide +kernel
theorem vals_get : ∀ n : Nat, n < 256 → mget (vals 32) (n : Int) = val (UInt8.ofNat n) := by decide +kernel
theorem vals_high (r : Int) (h : 128 ≤ r) : mget (vals 32) r = none := by
  have hk : ∀ p ∈ vals 32, p.1 < 128 := by decide +kernel
  simp only [mget, Option.map_eq_none_iff, List.find?_eq_none, decide_eq_true_eq]
  intro p hp e
  have := hk p hp
  omega
theorem keyR : KeyEq Tryd.prog 21 rK := int_key Tryd.underlying21
/-- twenty noughts -/
def z20 : List UInt8 := List.replicate 20 0
theorem z20_length : z20.length = 20 := rfl
theorem hC_one (h : List UInt8) : (hC h).all (·.oneCell') = true := by simp [hC, Lib.byteCells, Value.oneCell']
/-- what base.Hash answers -/
def hashH (s : List UInt8) : List UInt8 := (Pl.hash s).getD z20
def hashE (s : List UInt8) : Int := if (Pl.hash s).isSome then 0 else 4
theorem val_low {c : UInt8} {n : Nat} (h : val c = some n) : c.toNat < 128 := by
  have h1 : ∀ n, n < 32 → (letter n).toNat < 128 := by decide
  have := h1 n (val_lt h)
  rwa [letter_val h] at this
theorem mapM_take {s : List UInt8} (k : Nat) (hk : k < s.length) {l : List Nat} {n : Nat} (hl : (s.take k).mapM val = some l) (hn : val s[k] = some n) : (s.take (k + 1)).mapM val = some (l ++ [n]) := by
  rw [List.take_succ_eq_append_getElem hk, List.mapM_append, hl]
  simp [hn]
theorem mapM_none {s : List UInt8} (k : Nat) (hk : k < s.length) (hn : val s[k] = none) : s.mapM val = none := by
  have : s = s.take k ++ s[k] :: s.drop (k + 1) := by simp
  rw [this, List.mapM_append, List.mapM_cons]
  simp [hn]
theorem zero99 (w : World) : (zeroValue 145).run Tryd.prog w = .ok (.int .u32 0) w := by kernel_rfl
theorem hC_get (h : List UInt8) (i : Nat) (hi : i < h.length) : (hC h)[i]? = some (.int .u8 (h[i].toNat : Int)) := by simp [hC, Lib.byteCells, hi]
theorem hC_set (h : List UInt8) (i : Nat) (c : UInt8) : (hC h).setIfInBounds i (.int .u8 (c.toNat : Int)) = hC (h.set i c) := by
  apply Array.ext'
  simp [hC, Lib.byteCells, List.map_set]
theorem or_disjoint8 (a x m : Nat) (ha : a < 2 ^ m) (hx : x < 32) (hm : m < 8) : bits .or .u32 (a : Int) ((x : Int) * 2 ^ m % 4294967296) = ((a + 2 ^ m * x : Nat) : Int) := by
  have h5 : 2 ^ m ≤ 2 ^ 7 := Nat.pow_le_pow_right (by omega) (by omega)
  have hp : 2 ^ m * x ≤ 2 ^ 7 * 31 := Nat.mul_le_mul h5 (by omega)
  have e : ((x : Int) * 2 ^ m % 4294967296) = ((2 ^ m * x : Nat) : Int) := by
    have : (x : Int) * 2 ^ m = ((2 ^ m * x : Nat) : Int) := by push_cast; exact Int.mul_comm _ _
    rw [this, Int.emod_eq_of_lt (by omega) (by omega)]
  rw [e, u32_or_nat _ _ (by omega) (by omega), Nat.or_comm, ← Nat.two_pow_add_eq_or_of_lt ha, Nat.add_comm]
end Go.Proofs.YtfiadgdinhmgbaaDoor
/-! (of general use) Path: a path's text (base and spenceref03). -/
namespace Go.Proofs.YtfiadgdinhmgbaaDoor
open Go.RowKit Pl Go.Mp Go.Agg
/-- a path's cells -/
def pC (h n : List UInt8) : Array Value := hC h ++ #[.string ⟨n.toArray⟩]
theorem pC_size (h n : List UInt8) : (pC h n).size = h.length + 1 := by simp [pC, hC_size]
theorem pC_name (h n : List UInt8) (hl : h.length = 20) : (pC h n)[20]? = some (.string ⟨n.toArray⟩) := by
  rw [pC, Array.getElem?_append, if_neg (by rw [hC_size]; omega), hC_size, hl]; rfl
theorem pC_hash (h n : List UInt8) (j : Nat) (v : Value) (hv : (hC h)[j]? = some v) : (pC h n)[0 + j]? = some v := by
  have hlt : j < (hC h).size := (Array.getElem?_eq_some_iff.1 hv).1
  rw [Nat.zero_add, pC, Array.getElem?_append, if_pos hlt]; exact hv
theorem isName_le {n : List UInt8} (h : isName n = true) : n.length ≤ 24 := by
  simp only [isName, Bool.and_eq_true, decide_eq_true_eq] at h
  exact h.1.2
/-- a path's text, or none; the error -/
def pathS (h n : List UInt8) : List UInt8 := if isName n then letters h ++ 45 :: n else []
def pathE (n : List UInt8) : Int := if isName n then 0 else 2
theorem ret_pair {a b : ByteArray} {k : IntKind} {x y : Int} (h : a = b) (h2 : x = y) : Ending.returned (.tuple #[.string a, .int k x]) = .returned (.tuple #[.string b, .int k y]) := by rw [h, h2]
theorem text_eq (h n : List UInt8) (hn : isName n = true) : ({ data := (letters h).toArray } : ByteArray) ++ { data := #[45] } ++ { data := n.toArray } = ⟨(pathS h n).toArray⟩ := by
  have : ({ data := #[45] } : ByteArray) = ⟨[45].toArray⟩ := rfl
  rw [this, Agg.bytes_append, Agg.bytes_append, pathS, if_pos hn]
  simp
end Go.Proofs.YtfiadgdinhmgbaaDoor
/-! A cursor as a state: the plain law of numbers, texts, hashes. -/
namespace Go.Proofs.YtfiadgdinhmgbaaDoor
open Go.RowKit Pl Go.Agg
/-! A cursor as a state: the bytes that are left; none, once something was wrong. -/
def sNum (most : Nat) : Option (List UInt8) → Nat × Option (List UInt8)
  | none => (0, none)
  | some r => match getN most r with
    | none => (0, none)
    | some p => (p.1, some p.2)
def sText (most : Nat) : Option (List UInt8) → List UInt8 × Option (List UInt8)
  | none => ([], none)
  | some r => match getT most r with
    | none => ([], none)
    | some p => (p.1, some p.2)
def sRaw (many : Nat) : Option (List UInt8) → List UInt8 × Option (List UInt8)
  | none => ([], none)
  | some r => if many ≤ r.length then (r.take many, some (r.drop many)) else ([], none)
def sHash (s : Option (List UInt8)) : List UInt8 × Option (List UInt8) := ((sRaw 20 s).1 ++ z20.drop (sRaw 20 s).1.length, (sRaw 20 s).2)
/-- a text with how long it is -/
def encT (l : List UInt8) : List UInt8 := encN l.length ++ l
theorem sNum_enc {most n : Nat} (h : n ≤ 1099511627776) (hm : n ≤ most) (y : List UInt8) : sNum most (some (encN n ++ y)) = (n, some y) := by simp only [sNum, getN_enc h hm]
theorem sNum_some {most n : Nat} {s : Option (List UInt8)} {y : List UInt8} (h : sNum most s = (n, some y)) : s = some (encN n ++ y) ∧ n ≤ most ∧ n ≤ 1099511627776 := by
  cases s with
  | none => simp [sNum] at h
  | some r =>
    simp only [sNum] at h
    cases hg : getN most r with
    | none => rw [hg] at h; simp at h
    | some p =>
      rw [hg] at h
      obtain ⟨n', y'⟩ := p
      simp only [Prod.mk.injEq, Option.some.injEq] at h
      obtain ⟨rfl, rfl⟩ := h
      obtain ⟨h1, h2, h3⟩ := getN_some hg
      exact ⟨by rw [← h1], h2, h3⟩
theorem getT_enc {most : Nat} {l : List UInt8} (h : l.length ≤ most) (h4 : l.length ≤ 1099511627776) (y : List UInt8) : getT most (encT l ++ y) = some (l, y) := by
  unfold getT encT
  rw [List.append_assoc, getN_enc h4 h4]
  simp [h]
theorem getT_some {most : Nat} {l r y : List UInt8} (h : getT most r = some (l, y)) : r = encT l ++ y ∧ l.length ≤ most := by
  unfold getT at h
  split at h
  · cases h
  · rename_i n z hg
    split at h
    · rename_i hc
      obtain ⟨h1, _, _⟩ := getN_some hg
      simp only [Option.some.injEq, Prod.mk.injEq] at h
      obtain ⟨rfl, rfl⟩ := h
      have hl : (z.take n).length = n := by simp; omega
      unfold encT
      rw [hl, List.append_assoc, List.take_append_drop]
      exact ⟨h1, by omega⟩
    · cases h
theorem sText_enc {most : Nat} {l : List UInt8} (h : l.length ≤ most) (h4 : l.length ≤ 1099511627776) (y : List UInt8) : sText most (some (encT l ++ y)) = (l, some y) := by simp only [sText, getT_enc h h4]
theorem sText_some {most : Nat} {s : Option (List UInt8)} {l y : List UInt8} (h : sText most s = (l, some y)) : s = some (encT l ++ y) ∧ l.length ≤ most := by
  cases s with
  | none => simp [sText] at h
  | some r =>
    simp only [sText] at h
    cases hg : getT most r with
    | none => rw [hg] at h; simp at h
    | some p =>
      rw [hg] at h
      obtain ⟨n', y'⟩ := p
      simp only [Prod.mk.injEq, Option.some.injEq] at h
      obtain ⟨rfl, rfl⟩ := h
      obtain ⟨h1, h2⟩ := getT_some hg
      exact ⟨by rw [← h1], h2⟩
theorem sHash_enc {h : List UInt8} (hl : h.length = 20) (y : List UInt8) : sHash (some (h ++ y)) = (h, some y) := by
  have : sRaw 20 (some (h ++ y)) = (h, some y) := by
    simp only [sRaw, List.length_append, hl]
    rw [if_pos (by omega), ← hl, List.take_left, List.drop_left]
  unfold sHash
  rw [this]
  simp [hl, z20]
theorem sHash_some {s : Option (List UInt8)} {h y : List UInt8} (e : sHash s = (h, some y)) : s = some (h ++ y) ∧ h.length = 20 := by
  unfold sHash at e
  cases s with
  | none => simp [sRaw] at e
  | some r =>
    simp only [sRaw] at e
    by_cases hl : 20 ≤ r.length
    · rw [if_pos hl] at e
      simp only [Prod.mk.injEq, Option.some.injEq] at e
      obtain ⟨rfl, rfl⟩ := e
      have : (r.take 20).length = 20 := by simp; omega
      rw [this]
      simp [z20]
      omega
    · rw [if_neg hl] at e
      simp at e
theorem sHash_length (s : Option (List UInt8)) : (sHash s).1.length = 20 := by
  unfold sHash
  cases s with
  | none => simp [sRaw, z20]
  | some r =>
    simp only [sRaw]
    by_cases hl : 20 ≤ r.length
    · rw [if_pos hl]
      simp [z20]; omega
    · rw [if_neg hl]
      simp [z20]
def stLen : Option (List UInt8) → Nat
  | none => 0
  | some r => r.length
theorem sNum_len (most : Nat) (s : Option (List UInt8)) : stLen (sNum most s).2 ≤ stLen s := by
  cases h : (sNum most s).2 with
  | none => simp [stLen]
  | some y =>
    obtain ⟨h1, _⟩ := sNum_some (Prod.ext (rfl : (sNum most s).1 = (sNum most s).1) h)
    rw [h1]
    simp only [stLen, List.length_append]
    omega
theorem sNum_le (most : Nat) (s : Option (List UInt8)) : (sNum most s).1 ≤ most := by
  cases h : (sNum most s).2 with
  | none =>
    cases s with
    | none => simp [sNum]
    | some r =>
      simp only [sNum] at h ⊢
      cases hg : getN most r with
      | none => simp
      | some p => rw [hg] at h; simp at h
  | some y => exact (sNum_some (Prod.ext (rfl : (sNum most s).1 = (sNum most s).1) h)).2.1
theorem sText_len (most : Nat) (s : Option (List UInt8)) : stLen (sText most s).2 ≤ stLen s := by
  cases h : (sText most s).2 with
  | none => simp [stLen]
  | some y =>
    obtain ⟨h1, _⟩ := sText_some (Prod.ext (rfl : (sText most s).1 = (sText most s).1) h)
    rw [h1]
    simp only [stLen, List.length_append]
    omega
theorem sText_le (most : Nat) (s : Option (List UInt8)) : (sText most s).1.length ≤ most := by
  cases h : (sText most s).2 with
  | none =>
    cases s with
    | none => simp [sText]
    | some r =>
      simp only [sText] at h ⊢
      cases hg : getT most r with
      | none => simp
      | some p => rw [hg] at h; simp at h
  | some y => exact (sText_some (Prod.ext (rfl : (sText most s).1 = (sText most s).1) h)).2
theorem sRaw_len (many : Nat) (s : Option (List UInt8)) : stLen (sRaw many s).2 ≤ stLen s := by
  cases s with
  | none => simp [sRaw]
  | some r =>
    simp only [sRaw]
    split <;> simp [stLen]
end Go.Proofs.YtfiadgdinhmgbaaDoor
