/- (of general use) Parse: a text's path (base and spenceref03). (Several texts in one.) -/
import Derived.Test.YtniibcgomnjfgaaGreatVAE
import Derived.BigQuiet
import Derived.Deep.QuietTactic
import Derived.Test.YtniibcgomnjfgaaGreatShelf
import Derived.BigGuardPart
import Derived.Test.YtniibcgomnjfgaaGreatVAA
import GoSem.Instr.MapUpdate
/-! spencekit.markText, markNamed. -/
namespace Go.Proofs.YtniibcgomnjfgaaGreat
open Go.RowKit Pl Go.Agg
def mkT (k i : Nat) : List UInt8 := [35, UInt8.ofNat k, UInt8.ofNat (k / 256), UInt8.ofNat (k / 65536), 47, UInt8.ofNat i, UInt8.ofNat (i / 256), UInt8.ofNat (i / 65536)]
theorem mkT_flat (k i : Nat) : EB.flat (mkT k i) = [.int .u8 35, .int .u8 ((k : Int) % 256), .int .u8 ((k : Int) / 256 % 256), .int .u8 ((k : Int) / 65536 % 256), .int .u8 47, .int .u8 ((i : Int) % 256), .int .u8 ((i : Int) / 256 % 256), .int .u8 ((i : Int) / 65536 % 256)] := by
  have h : ∀ x : UInt8, EB.cs x = [.int .u8 (x.toNat : Int)] := fun _ => rfl
  have h2 : ∀ n : Nat, ((UInt8.ofNat n).toNat : Int) = (n : Int) % 256 := fun n => by simp
  simp only [Elem.flat, mkT, List.flatMap_cons, List.flatMap_nil, h, List.singleton_append, List.append_nil, h2]
  simp
theorem mkT_at (k i : Nat) (w : World) : BytesAt (w.alloc (.cells #[.int .u8 35, .int .u8 ((k : Int) % 256), .int .u8 ((k : Int) / 256 % 256), .int .u8 ((k : Int) / 65536 % 256), .int .u8 47, .int .u8 ((i : Int) % 256), .int .u8 ((i : Int) / 256 % 256), .int .u8 ((i : Int) / 65536 % 256)] 5)) (.slice (some ⟨w.heap.size, 0, none⟩) 8 8) (mkT k i) := by
  refine .inr ⟨_, 8, rfl, (Blk.new w _ _).lt, fun j u hj => ?_⟩
  rw [mkT_flat] at hj
  rw [add_plain, Nat.zero_add, (Blk.new w _ _).cell]
  simpa using hj
set_option maxRecDepth 100000 in
set_option maxHeartbeats 1000000 in
theorem markText_any (k i : Nat) (w : World) : Calls Tryz.prog 64 #[.int .i64 (k : Int), .int .i64 (i : Int)] w fun e w' => e = .returned (.string ⟨(mkT k i).toArray⟩) ∧ Below w.heap.size w w' := by
  go_enter Tryz.func64, Tryz.ntmps64
  have HM := Lib.hid (mkT_at k i w)
  go_wp2_with (first | (with_reducible refine wpList_toStr HM.out _ rfl (by kernel_rfl) rfl ?_))
  go_ret
  exact ⟨rfl, (Below.refl _ _).alloc (Nat.le_refl _) _⟩
end Go.Proofs.YtniibcgomnjfgaaGreat
/-! Small facts about numbers. -/
namespace Go.Proofs.YtniibcgomnjfgaaGreat
open Go.RowKit Pl
theorem ret_num {k : IntKind} {a b : Int} (h : a = b) : Ending.returned (.int k a) = .returned (.int k b) := by rw [h]
/-- 'within', under a name -/
def wi (c lo hi : Int) : Bool := decide (lo ≤ c) && decide (c ≤ hi)
theorem u8_lt (c : UInt8) : (c.toNat : Int) < 256 := by have := c.toNat_lt; omega
end Go.Proofs.YtniibcgomnjfgaaGreat
/-! base.sign: whether a rune may stand in a name. -/
namespace Go.Proofs.YtniibcgomnjfgaaGreat
open Go.RowKit Pl
theorem ret_bool {a b : Bool} (h : a = b) : Ending.returned (.bool a) = .returned (.bool b) := by rw [h]
/-- 'small', under a name -/
def smallN (r : Nat) : Nat := r ||| 32
theorem small_eq (r : Nat) (h : r < 128) : bits .or .i32 (r : Int) 32 = ((smallN r : Nat) : Int) := by
  unfold smallN
  have : ∀ r : Nat, r < 128 → bits .or .i32 (r : Int) 32 = ((r ||| 32 : Nat) : Int) := by decide +kernel
  exact this r h
theorem index_eq (r : Nat) (h : r < 128) : Lib.indexByte [46, 95, 43, 45] (r : Int).toNat.toUInt8 = (if r = 46 then 0 else if r = 95 then 1 else if r = 43 then 2 else if r = 45 then 3 else -1 : Int) := by
  have : ∀ r : Nat, r < 128 → Lib.indexByte [46, 95, 43, 45] (r : Int).toNat.toUInt8 = (if r = 46 then 0 else if r = 95 then 1 else if r = 43 then 2 else if r = 45 then 3 else -1 : Int) := by decide +kernel
  exact this r h
/-- the place in the four, under a name -/
def placeN (r : Nat) : Int := if r = 46 then 0 else if r = 95 then 1 else if r = 43 then 2 else if r = 45 then 3 else -1
theorem index_any (r : Int) (h0 : 0 ≤ r) (h : r < 128) (w : World) : Calls Tryz.prog 137 #[.string ⟨#[46, 95, 43, 45]⟩, .int .u8 r] w fun e w' => e = .returned (.int .i64 (placeN r.toNat)) ∧ w = w' := by
  obtain ⟨n, rfl⟩ := Int.eq_ofNat_of_zero_le h0
  refine (Tryz.strings_IndexByte _ _ _).mono ?_
  rintro e w' ⟨rfl, rfl⟩
  refine ⟨ret_num ?_, rfl⟩
  exact index_eq n (by omega)
theorem signN_eq (r : Nat) : signN r = ((decide (65 ≤ r) && decide (97 ≤ smallN r) && decide (smallN r ≤ 122)) || (decide (48 ≤ r) && decide (r ≤ 57)) || decide (0 ≤ placeN r)) := rfl
set_option maxRecDepth 100000 in
set_option maxHeartbeats 1000000 in
theorem sign_low (r : Nat) (h : r < 128) (w : World) :
    Calls Tryz.prog 104 #[.int .i32 (r : Int)] w fun e w' => e = .returned (.bool (signN r)) ∧ w = w' := by
  have hs := small_eq r h
  have h' : (r : Int) < 128 := by omega
  go_enter Tryz.func104, Tryz.ntmps104
  go_wp2_with (go_at_call 137; refine (index_any _ (by omega) (by omega) _).mono ?_; rintro e w' ⟨rfl, rfl⟩)
  all_goals go_ret
  all_goals refine ⟨?_, rfl⟩
  all_goals exact ret_bool (by rw [signN_eq, Bool.eq_iff_iff]; simp only [Bool.or_eq_true, Bool.and_eq_true, decide_eq_true_eq, true_iff]; omega)
set_option maxRecDepth 100000 in
theorem sign_high (r : Int) (h : 128 ≤ r) (w : World) :
    Calls Tryz.prog 104 #[.int .i32 r] w fun e w' => e = .returned (.bool false) ∧ w = w' := by
  have hd : decide (r < 128) = false := by simp; omega
  go_enter Tryz.func104, Tryz.ntmps104
  go_wp2_with fail
  go_ret
  exact ⟨rfl, rfl⟩
/-- base.sign at any rune -/
def signR (r : Int) : Bool := if r < 128 then signN r.toNat else false
theorem sign_any (r : Int) (h : 0 ≤ r) (w : World) :
    Calls Tryz.prog 104 #[.int .i32 r] w fun e w' => e = .returned (.bool (signR r)) ∧ w = w' := by
  unfold signR
  by_cases h3 : r < 128
  · rw [if_pos h3]
    obtain ⟨n, rfl⟩ := Int.eq_ofNat_of_zero_le h
    exact sign_low n (by omega) w
  · rw [if_neg h3]
    exact sign_high r (by omega) w
end Go.Proofs.YtniibcgomnjfgaaGreat
/-! base.Name and spenceref03.Name: whether a text is a name. -/
namespace Go.Proofs.YtniibcgomnjfgaaGreat
open Go.RowKit Pl
theorem isName_bad (s : List UInt8) (k : Nat) (hk : k < s.length) (h : sgn s[k] = false) : isName s = false := by
  have : s.all sgn = false := by
    rw [List.all_eq_false]; exact ⟨s[k], List.getElem_mem hk, by simp [h]⟩
  simp [isName, this]
theorem isName_good (s : List UInt8) (h : ∀ k (hk : k < s.length), sgn s[k] = true) : isName s = ((s.length != 0) && decide (s.length ≤ 24) && (s.getD 0 0 != 46)) := by
  have : s.all sgn = true := by
    rw [List.all_eq_true]; intro x hx; obtain ⟨k, hk, rfl⟩ := List.getElem_of_mem hx; exact h k hk
  simp [isName, this]
/-- the range over the text: its next sign -/
theorem next_low (w : World) (s : List UInt8) (k : Nat) (ty : TypeId) (hk : k < s.length) (ha : s[k].toNat < 128) :
    (Instr.next (.pointer (some ⟨w.heap.size, 0, none⟩)) true ty).run Tryz.prog (w.iter ⟨s.toArray⟩ k) = .ok (.tuple #[.bool true, .int .i64 (k : Int), .int .i32 (s[k].toNat : Int)]) (w.iter ⟨s.toArray⟩ (k + 1)) := by
  have hs : k < (⟨s.toArray⟩ : ByteArray).size := by rw [Agg.bytes_size]; exact hk
  have he : (⟨s.toArray⟩ : ByteArray)[k]'hs = s[k] := by simp [ByteArray.getElem_eq_getElem_data]
  have := run_next_ascii (P := Tryz.prog) w ⟨s.toArray⟩ k ty hs (by rw [he]; exact ha)
  rw [he] at this
  exact this
theorem next_high (w : World) (s : List UInt8) (k : Nat) (ty : TypeId) (hk : k < s.length) (ha : 128 ≤ s[k].toNat) :
    ∃ (r : Int) (k' : Nat), 128 ≤ r ∧ k < k' ∧ (Instr.next (.pointer (some ⟨w.heap.size, 0, none⟩)) true ty).run Tryz.prog (w.iter ⟨s.toArray⟩ k) = .ok (.tuple #[.bool true, .int .i64 (k : Int), .int .i32 r]) (w.iter ⟨s.toArray⟩ k') := by
  have hs : k < (⟨s.toArray⟩ : ByteArray).size := by rw [Agg.bytes_size]; exact hk
  have he : (⟨s.toArray⟩ : ByteArray)[k]'hs = s[k] := by simp [ByteArray.getElem_eq_getElem_data]
  obtain ⟨h1, h2⟩ := decode_high ⟨s.toArray⟩ k hs (by rw [he]; exact ha)
  exact ⟨_, _, by exact_mod_cast h1, by omega, run_next_any (P := Tryz.prog) w ⟨s.toArray⟩ k ty hs⟩
theorem next_end (w : World) (s : List UInt8) (ty : TypeId) :
    (Instr.next (.pointer (some ⟨w.heap.size, 0, none⟩)) true ty).run Tryz.prog (w.iter ⟨s.toArray⟩ s.length) = .ok (.tuple #[.bool false]) (w.iter ⟨s.toArray⟩ s.length) :=
  run_next_end (P := Tryz.prog) w ⟨s.toArray⟩ s.length ty (by rw [Agg.bytes_size]; omega)
theorem signR_byte (c : UInt8) (hc : c.toNat < 128) : signR (c.toNat : Int) = sgn c := by
  unfold signR
  rw [if_pos (by omega)]
  exact signN_sgn c hc
theorem below_iter (w : World) (s : ByteArray) (k : Nat) : Below w.heap.size w (w.iter s k) := (Below.refl _ _).alloc (Nat.le_refl _) _
set_option maxRecDepth 100000 in
set_option maxHeartbeats 1000000 in
theorem name_any (s : List UInt8) (w : World) :
    Calls Tryz.prog 65 #[.string ⟨s.toArray⟩] w fun e w' => e = .returned (.bool (isName s)) ∧ Below w.heap.size w w' := by
  go_enter Tryz.func65, Tryz.ntmps65
  go_wp2_with fail
  go_loopw [4] (fun _ wr => ∃ k : Nat, k ≤ s.length ∧ wr = w.iter ⟨s.toArray⟩ k ∧ ∀ j (hj : j < s.length), j < k → sgn s[j] = true) (fun _ wr => s.length - wr.iterPos w.heap.size)
  case atStart => exact ⟨0, by omega, rfl, by intros; omega⟩
  case round =>
    obtain ⟨k, hk, rfl, hg⟩ := hrel
    have HG := Lib.hid hg
    clear hg
    by_cases hlt : k < s.length
    · by_cases hc : s[k].toNat < 128
      · have hn := next_low w s k 0 hlt hc
        cases hsg : sgn s[k] with
        | true =>
          go_wp2_with (go_at_call 104; refine (sign_any _ (by omega) _).mono ?_; rintro e w' ⟨rfl, rfl⟩; rw [signR_byte _ hc, hsg])
          go_roundw
          case rel => exact ⟨k + 1, by omega, rfl, fun j hj h => by
            rcases Nat.lt_or_ge j k with h' | h'
            · exact HG.out j hj h'
            · obtain rfl : j = k := by omega
              exact hsg⟩
          case measure => simp; omega
        | false =>
          go_wp2_with (go_at_call 104; refine (sign_any _ (by omega) _).mono ?_; rintro e w' ⟨rfl, rfl⟩; rw [signR_byte _ hc, hsg])
          go_ret
          exact ⟨ret_bool (isName_bad s k hlt hsg).symm, below_iter _ _ _⟩
      · obtain ⟨r, k', hr, hk', hn⟩ := next_high w s k 0 hlt (by omega)
        have hsg : sgn s[k] = false := by
          cases h : sgn s[k] with
          | true => exact absurd (sgn_small _ h) hc
          | false => rfl
        have HS := Lib.hid hsg
        clear hsg
        go_wp2_with (go_at_call 104; refine (sign_high _ hr _).mono ?_; rintro e w' ⟨rfl, rfl⟩)
        go_ret
        exact ⟨ret_bool (isName_bad s k hlt HS.out).symm, below_iter _ _ _⟩
    · obtain rfl : k = s.length := by omega
      have hn := next_end w s 0
      have hgood := isName_good s (fun j hj => HG.out j hj hj)
      have HI := Lib.hid hgood
      clear hgood
      cases s with
      | nil =>
        simp only [List.length_nil] at hn
        go_wp2_with fail
        go_ret
        exact ⟨ret_bool (by rw [HI.out]; rfl), below_iter _ _ _⟩
      | cons c l =>
        have hix : ∀ w, (Instr.index 9 (.string ⟨(c :: l).toArray⟩) (.int .i64 0)).run Tryz.prog w = .ok (.int .u8 (c.toNat : Int)) w := fun w => Agg.run_index_str (i := 0) w Tryz.underlying9 rfl
        simp only [List.length_cons] at hn
        go_wp2_with fail
        all_goals go_ret
        all_goals refine ⟨ret_bool ?_, below_iter _ _ _⟩
        all_goals rw [HI.out]
        · have h24 : (l.length : Int) + 1 ≤ 24 := by assumption
          have e : (((c.toNat : Int)) != 46) = (c != 46) := by
            rw [Bool.eq_iff_iff]; simp only [bne_iff_ne, ne_eq]; rw [← UInt8.toNat_inj]; simp; omega
          simp [e, show l.length + 1 ≤ 24 by omega]
        · have h24 : 24 < (l.length : Int) + 1 := by assumption
          simp [show ¬ l.length + 1 ≤ 24 by omega]
end Go.Proofs.YtniibcgomnjfgaaGreat
/-! Maps that a call makes, over any program and any key: what a map's block holds, its look-up and its store. -/
namespace Go.Mp
open Go.RowKit Go.Instr
section
variable {P : Program} {α β : Type} [DecidableEq α]
/-- a map's block holds these keys and values, in the order in which they came -/
def MapIs (w : World) (b : Nat) (κ : α → Value) (ν : β → Value) (m : List (α × β)) : Prop :=
  ∃ es clock, w.heap[b]? = some (.map es clock) ∧ es.toList.map (fun e => (e.key, e.val)) = m.map (fun p => (κ p.1, ν p.2))
/-- what a key's type must be -/
structure KeyEq (P : Program) (K : TypeId) (κ : α → Value) : Prop where
  check : ∀ empty a w, (checkKey empty 10000 K (κ a)).run P w = .ok () w
  desc : ∃ d, P.underlying K = some d ∧ ((∀ a b, sameNow d (κ a) (κ b) = some (decide (a = b))) ∨ ((∀ a b, sameNow d (κ a) (κ b) = none) ∧ ∀ a b w, (Op.equal K (κ a) (κ b)).run P w = .ok (decide (a = b)) w))
  bits : ∀ a, sameBits 10000 (κ a) (κ a) = true
def mget (m : List (α × β)) (a : α) : Option β := (m.find? (fun p => decide (a = p.1))).map (·.2)
def mput (m : List (α × β)) (a : α) (v : β) : List (α × β) := match m with
  | [] => [(a, v)]
  | p :: r => if a = p.1 then (a, v) :: r else p :: mput r a v
theorem mget_mput (m : List (α × β)) (a c : α) (v : β) : mget (mput m a v) c = if c = a then some v else mget m c := by
  induction m with
  | nil => by_cases h : c = a <;> simp [mput, mget, h]
  | cons p r ih =>
    unfold mput
    by_cases h : a = p.1
    · rw [if_pos h]
      by_cases h2 : c = a
      · simp [mget, h2]
      · have : ¬ c = p.1 := fun e => h2 (e.trans h.symm)
        simp [mget, h2, this]
    · rw [if_neg h]
      by_cases h2 : c = p.1
      · have h3 : ¬ c = a := fun e => h (e.symm.trans h2)
        have h4 : ¬ p.1 = a := fun e => h e.symm
        simp [mget, h2, h4]
      · simp only [mget, List.find?_cons, h2, decide_false] at ih ⊢
        exact ih
def pairs (es : List MapEntry) : List (Value × Value) := es.map (fun e => (e.key, e.val))
/-- the place of a key among entries -/
def place (m : List (α × β)) (a : α) (i : Nat) : Option (Nat × β) := match m with
  | [] => none
  | p :: r => if a = p.1 then some (i, p.2) else place r a (i + 1)
theorem findNow_eq {d : TypeDesc} {κ : α → Value} {ν : β → Value} (h : ∀ a b, sameNow d (κ a) (κ b) = some (decide (a = b))) (a : α) :
    ∀ (m : List (α × β)) (es : List MapEntry) (i : Nat), es.map (fun e => (e.key, e.val)) = m.map (fun p => (κ p.1, ν p.2)) →
      findNow d (κ a) es i = some ((place m a i).map fun x => (x.1, ν x.2))
  | [], [], i, _ => rfl
  | [], e :: es, i, he => by simp at he
  | p :: m, [], i, he => by simp at he
  | p :: m, e :: es, i, he => by
    simp only [List.map_cons, List.cons.injEq, Prod.mk.injEq] at he
    obtain ⟨⟨hk, hv⟩, hr⟩ := he
    unfold findNow place
    rw [hk, h a p.1]
    by_cases e' : a = p.1
    · simp [e', hv]
    · simp only [e', decide_false, if_false]
      exact findNow_eq h a m es (i + 1) hr
theorem findAsking_eq {K : TypeId} {κ : α → Value} {ν : β → Value} (h : ∀ a b w, (Op.equal K (κ a) (κ b)).run P w = .ok (decide (a = b)) w) (a : α) :
    ∀ (m : List (α × β)) (es : List MapEntry) (i : Nat) (w : World), es.map (fun e => (e.key, e.val)) = m.map (fun p => (κ p.1, ν p.2)) →
      (findAsking K (κ a) es i).run P w = .ok ((place m a i).map fun x => (x.1, ν x.2)) w
  | [], [], i, w, _ => rfl
  | [], e :: es, i, w, he => by simp at he
  | p :: m, [], i, w, he => by simp at he
  | p :: m, e :: es, i, w, he => by
    simp only [List.map_cons, List.cons.injEq, Prod.mk.injEq] at he
    obtain ⟨⟨hk, hv⟩, hr⟩ := he
    unfold findAsking place
    rw [Sem.run_bind, hk, h a p.1 w]
    by_cases e' : a = p.1
    · simp [e', hv, Result.andThen, Sem.run_pure]
    · simp only [e', decide_false, if_false, Result.andThen, Bool.false_eq_true]
      exact findAsking_eq h a m es (i + 1) w hr
theorem findKey_eq {K : TypeId} {κ : α → Value} {ν : β → Value} (hK : KeyEq P K κ) (a : α) (m : List (α × β)) (es : List MapEntry) (w : World) (he : es.map (fun e => (e.key, e.val)) = m.map (fun p => (κ p.1, ν p.2))) :
    (findKey K (κ a) es).run P w = .ok ((place m a 0).map fun x => (x.1, ν x.2)) w := by
  obtain ⟨d, hd, h⟩ := hK.desc
  unfold findKey
  rw [Sem.run_bind, run_underlying hd w]
  simp only [Result.andThen]
  rcases h with h | ⟨h1, h2⟩
  · rw [findNow_eq h a m es 0 he]
    rfl
  · cases hn : findNow d (κ a) es 0 with
    | none => exact findAsking_eq h2 a m es 0 w he
    | some r =>
      -- only where there is no entry
      cases es with
      | nil => cases m with
        | nil => simp [findNow] at hn; subst hn; rfl
        | cons p m => simp at he
      | cons e es => cases m with
        | nil => simp at he
        | cons p m =>
          simp only [List.map_cons, List.cons.injEq, Prod.mk.injEq] at he
          simp [findNow, he.1.1, h1 a p.1] at hn
theorem place_get (m : List (α × β)) (a : α) (i : Nat) : (place m a i).map (·.2) = mget m a := by
  induction m generalizing i with
  | nil => rfl
  | cons p r ih =>
    unfold place
    by_cases e : a = p.1
    · simp [mget, e]
    · rw [if_neg e, ih]; simp [mget, e]
/-- the world with another map in block b -/
def setMap (w : World) (b : Nat) (es : Array MapEntry) (c : Nat) : World := { w with heap := w.heap.setIfInBounds b (.map es c) }
theorem setMap_same {w : World} {b : Nat} {es : Array MapEntry} {c : Nat} (h : b < w.heap.size) : (setMap w b es c).heap[b]? = some (.map es c) := by simp [setMap, h]
theorem setMap_other {w : World} {b k : Nat} {es : Array MapEntry} {c : Nat} (h : k ≠ b) : (setMap w b es c).heap[k]? = w.heap[k]? := by simp [setMap, Ne.symm h]
theorem setMap_size {w : World} {b : Nat} {es : Array MapEntry} {c : Nat} : (setMap w b es c).heap.size = w.heap.size := by simp [setMap]
theorem below_setMap {B b : Nat} {a w : World} {es : Array MapEntry} {c : Nat} (h : Below B a w) (hb : B ≤ b) : Below B a (setMap w b es c) :=
  h.trans ⟨rfl, rfl, rfl, by rw [setMap_size]; exact Nat.le_refl _, fun k hk => setMap_other (by omega)⟩
/-- w' is w but for block b -/
def ButMap (b : Nat) (w w' : World) : Prop := ∃ es c, w' = setMap w b es c
theorem ButMap.other {b k : Nat} {w w' : World} (h : ButMap b w w') (hk : k ≠ b) : w'.heap[k]? = w.heap[k]? := by obtain ⟨es, c, rfl⟩ := h; exact setMap_other hk
theorem ButMap.size {b : Nat} {w w' : World} (h : ButMap b w w') : w'.heap.size = w.heap.size := by obtain ⟨es, c, rfl⟩ := h; exact setMap_size
theorem ButMap.below {B b : Nat} {a w w' : World} (h : ButMap b w w') (hw : Below B a w) (hb : B ≤ b) : Below B a w' := by obtain ⟨es, c, rfl⟩ := h; exact below_setMap hw hb
omit [DecidableEq α] in
theorem MapIs.empty (w : World) (κ : α → Value) (ν : β → Value) : MapIs (w.alloc (.map #[] 0)) w.heap.size κ ν [] := ⟨#[], 0, heap_alloc_new _ _, rfl⟩
omit [DecidableEq α] in
theorem MapIs.keep {w w' : World} {b : Nat} {κ : α → Value} {ν : β → Value} {m : List (α × β)} (h : MapIs w b κ ν m) (hk : w'.heap[b]? = w.heap[b]?) : MapIs w' b κ ν m := by
  obtain ⟨es, c, hb, he⟩ := h
  exact ⟨es, c, hk.trans hb, he⟩
omit [DecidableEq α] in
theorem MapIs.lt {w : World} {b : Nat} {κ : α → Value} {ν : β → Value} {m : List (α × β)} (h : MapIs w b κ ν m) : b < w.heap.size := by
  obtain ⟨es, c, hb, _⟩ := h; exact Agg.heap_lt hb
/-- 'v, ok := m[k]' -/
theorem run_lookup_ok {t K E : TypeId} {w : World} {b : Nat} {κ : α → Value} {ν : β → Value} {m : List (α × β)} {z : Value} (ht : P.underlying t = some (.map K E)) (hK : KeyEq P K κ) (hz : ∀ w, (zeroValue E).run P w = .ok z w)
    (h : MapIs w b κ ν m) (a : α) :
    (lookup t (.map (some b)) (κ a) true).run P w = .ok (.tuple #[(match mget m a with | some v => ν v | none => z), .bool (mget m a).isSome]) w := by
  obtain ⟨es, c, hb, he⟩ := h
  unfold lookup
  rw [Sem.run_bind, run_underlying ht w]
  simp only [Result.andThen, Sem.run_bind, getObj, Sem.run, hb, Sem.run_pure, hK.check, findKey_eq hK a m es.toList w he]
  have hg := place_get m a 0
  cases hp : place m a 0 with
  | none =>
    rw [hp] at hg
    simp [← hg, hz, Result.andThen]
  | some x =>
    rw [hp] at hg
    simp [← hg]
theorem place_mput (m : List (α × β)) (a : α) (v : β) (κ : α → Value) (ν : β → Value) : ∀ (es : List MapEntry) (i : Nat), es.map (fun e => (e.key, e.val)) = m.map (fun p => (κ p.1, ν p.2)) →
    (∀ j x, place m a i = some (j, x) → i ≤ j ∧ ∃ e, es[j - i]? = some e ∧ e.key = κ a ∧ (es.modify (j - i) (fun e => { e with key := κ a, val := ν v })).map (fun e => (e.key, e.val)) = (mput m a v).map (fun p => (κ p.1, ν p.2))) ∧
    (place m a i = none → (mput m a v) = m ++ [(a, v)]) := by
  induction m with
  | nil => intro es i he; exact ⟨fun j x h => by simp [place] at h, fun _ => rfl⟩
  | cons p r ih =>
    intro es i he
    cases es with
    | nil => simp at he
    | cons e es =>
      simp only [List.map_cons, List.cons.injEq, Prod.mk.injEq] at he
      obtain ⟨⟨hk, hv⟩, hr⟩ := he
      obtain ⟨h1, h2⟩ := ih es (i + 1) hr
      unfold place mput
      by_cases e' : a = p.1
      · simp only [e', if_true]
        refine ⟨fun j x h => ?_, fun h => by simp at h⟩
        simp only [Option.some.injEq, Prod.mk.injEq] at h
        obtain ⟨rfl, rfl⟩ := h
        exact ⟨Nat.le_refl _, e, by simp, by rw [hk], by simp [hr]⟩
      · simp only [e', if_false]
        refine ⟨fun j x h => ?_, fun h => by rw [h2 h]; rfl⟩
        obtain ⟨hle, e2, h3, h4, h5⟩ := h1 j x h
        refine ⟨by omega, e2, ?_, h4, ?_⟩
        · rw [show j - i = (j - (i + 1)) + 1 by omega]; exact h3
        · rw [show j - i = (j - (i + 1)) + 1 by omega]; simp [hk, hv, h5]
/-- 'm[k] = v' -/
theorem run_mapUpdate {t K E : TypeId} {w : World} {b : Nat} {κ : α → Value} {ν : β → Value} {m : List (α × β)} (ht : P.underlying t = some (.map K E)) (hK : KeyEq P K κ)
    (h : MapIs w b κ ν m) (a : α) (v : β) :
    ∃ w', (mapUpdate t (.map (some b)) (κ a) (ν v)).run P w = .ok () w' ∧ MapIs w' b κ ν (mput m a v) ∧ ButMap b w w' := by
  obtain ⟨es, c, hb, he⟩ := h
  have hlt := Agg.heap_lt hb
  obtain ⟨h1, h2⟩ := place_mput m a v κ ν es.toList 0 he
  cases hp : place m a 0 with
  | none =>
    refine ⟨setMap w b (es.push { key := κ a, val := ν v, born := c }) (c + 1), ?_, ⟨_, _, setMap_same hlt, ?_⟩, _, _, rfl⟩
    · unfold mapUpdate
      rw [Sem.run_bind, run_underlying ht w]
      simp only [Result.andThen, Sem.run_bind, getObj, Sem.run, hb, hK.check, findKey_eq hK a m es.toList w he, hp]
      simp [setObj, Sem.run, hb, setMap]
    · rw [h2 hp]; simp [he]
  | some x =>
    obtain ⟨_, e, h3, h4, h5⟩ := h1 x.1 x.2 hp
    simp only [Nat.sub_zero] at h3 h5
    refine ⟨setMap w b (es.modify x.1 fun e => { e with key := κ a, val := ν v }) c, ?_, ⟨_, _, setMap_same hlt, ?_⟩, _, _, rfl⟩
    · unfold mapUpdate
      rw [Sem.run_bind, run_underlying ht w]
      simp only [Result.andThen, Sem.run_bind, getObj, Sem.run, hb, hK.check, findKey_eq hK a m es.toList w he, hp]
      have h3' : es[x.1]? = some e := by simpa using h3
      simp [setObj, Sem.run, hb, setMap, h3', h4, keyThatStays, hK.bits]
    · rw [Array.toList_modify]; exact h5
/-! At a list of operations. -/
variable {ops : Array Oper} {rest : List Oper} {o : Oper} {a : Act} {w : World} {Q : Exit → Act → World → Prop}
theorem wpList_lookup_ok (hg : o.guard = none) (mo xo : Operand) (t K E : TypeId) (hop : o.op = Op.lookup t mo xo true) (ht : P.underlying t = some (.map K E)) {κ : α → Value} {ν : β → Value} {z : Value}
    (hK : KeyEq P K κ) (hz : ∀ w, (zeroValue E).run P w = .ok z w) {b : Nat} {m : List (α × β)} (hm : a.eval mo = .map (some b)) (h : MapIs w b κ ν m) (x : α) (hx : a.eval xo = κ x)
    (hk : wpList P ops Q rest (a.put o.dst (.tuple #[(match mget m x with | some v => ν v | none => z), .bool (mget m x).isSome])) w) : wpList P ops Q (o :: rest) a w := by
  refine wpList_plain hg fun K' hK' => ?_
  unfold Oper.wp
  simp [execOp, hop, hm, hx, run_lookup_ok ht hK hz h x, Result.andThen]
  exact hK' _ _ hk
theorem wpList_lookup_hit (hg : o.guard = none) (mo xo : Operand) (t K E : TypeId) (hop : o.op = Op.lookup t mo xo true) (ht : P.underlying t = some (.map K E)) {κ : α → Value} {ν : β → Value} {z : Value}
    (hK : KeyEq P K κ) (hz : ∀ w, (zeroValue E).run P w = .ok z w) {b : Nat} {m : List (α × β)} (hm : a.eval mo = .map (some b)) (h : MapIs w b κ ν m) (x : α) (hx : a.eval xo = κ x) (v : β) (hv : mget m x = some v)
    (hk : wpList P ops Q rest (a.put o.dst (.tuple #[ν v, .bool true])) w) : wpList P ops Q (o :: rest) a w :=
  wpList_lookup_ok hg mo xo t K E hop ht hK hz hm h x hx (by rw [hv]; exact hk)
theorem wpList_lookup_miss (hg : o.guard = none) (mo xo : Operand) (t K E : TypeId) (hop : o.op = Op.lookup t mo xo true) (ht : P.underlying t = some (.map K E)) {κ : α → Value} {ν : β → Value} {z : Value}
    (hK : KeyEq P K κ) (hz : ∀ w, (zeroValue E).run P w = .ok z w) {b : Nat} {m : List (α × β)} (hm : a.eval mo = .map (some b)) (h : MapIs w b κ ν m) (x : α) (hx : a.eval xo = κ x) (hv : mget m x = none)
    (hk : wpList P ops Q rest (a.put o.dst (.tuple #[z, .bool false])) w) : wpList P ops Q (o :: rest) a w :=
  wpList_lookup_ok hg mo xo t K E hop ht hK hz hm h x hx (by rw [hv]; exact hk)
theorem wpList_mapUpdate (hg : o.guard = none) (hd : o.dst = none) (mo xo vo : Operand) (t K E : TypeId) (hop : o.op = Op.mapUpdate t mo xo vo) (ht : P.underlying t = some (.map K E)) {κ : α → Value} {ν : β → Value}
    (hK : KeyEq P K κ) {b : Nat} {m : List (α × β)} (hm : a.eval mo = .map (some b)) (h : MapIs w b κ ν m) (x : α) (hx : a.eval xo = κ x) (v : β) (hv : a.eval vo = ν v)
    (hk : ∀ w', MapIs w' b κ ν (mput m x v) → ButMap b w w' → wpList P ops Q rest a w') : wpList P ops Q (o :: rest) a w := by
  refine wpList_plain hg fun K' hK' => ?_
  obtain ⟨w', hr, h1, h2⟩ := run_mapUpdate ht hK h x v
  unfold Oper.wp
  simp [execOp, hop, hm, hx, hv, hr, Result.andThen]
  rw [Oper.upon_skip, hd]
  exact hK' _ _ (hk w' h1 h2)
/-- integer keys -/
theorem int_key {K : TypeId} {k : IntKind} (h : P.underlying K = some (.int k)) : KeyEq P K (fun n : Int => .int k n) where
  check := fun empty a w => by
    unfold checkKey
    rw [Sem.run_bind, run_underlying h w]
    simp [Result.andThen]
  desc := ⟨_, h, .inl fun a b => by simp [sameNow]; rw [Bool.eq_iff_iff]; simp⟩
  bits := fun a => by simp [sameBits]
end
end Go.Mp
/-! (of general use) base.values and base.Hash: the hash of letters. -/
namespace Go.Proofs.YtniibcgomnjfgaaGreat
open Go.RowKit Pl Go.Mp
/-- a range over a text in block b, in whatever world -/
theorem nextAt_low (w : World) (b : Nat) (s : List UInt8) (k : Nat) (ty : TypeId) (hb : w.heap[b]? = some (.stringIter ⟨s.toArray⟩ k)) (hk : k < s.length) (ha : s[k].toNat < 128) :
    (Instr.next (.pointer (some ⟨b, 0, none⟩)) true ty).run Tryz.prog w = .ok (.tuple #[.bool true, .int .i64 (k : Int), .int .i32 (s[k].toNat : Int)]) (w.iterAt b ⟨s.toArray⟩ (k + 1)) := by
  have hs : k < (⟨s.toArray⟩ : ByteArray).size := by rw [Agg.bytes_size]; exact hk
  have he : (⟨s.toArray⟩ : ByteArray)[k]'hs = s[k] := by simp [ByteArray.getElem_eq_getElem_data]
  have := Lib.run_next_ascii_at (P := Tryz.prog) w b ⟨s.toArray⟩ k ty hb hs (by rw [he]; exact ha)
  rw [he] at this
  exact this
theorem nextAt_high (w : World) (b : Nat) (s : List UInt8) (k : Nat) (ty : TypeId) (hb : w.heap[b]? = some (.stringIter ⟨s.toArray⟩ k)) (hk : k < s.length) (ha : 128 ≤ s[k].toNat) :
    ∃ (r : Int) (k' : Nat), 128 ≤ r ∧ r ≤ 2147483647 ∧ k < k' ∧ (Instr.next (.pointer (some ⟨b, 0, none⟩)) true ty).run Tryz.prog w = .ok (.tuple #[.bool true, .int .i64 (k : Int), .int .i32 r]) (w.iterAt b ⟨s.toArray⟩ k') := by
  have hs : k < (⟨s.toArray⟩ : ByteArray).size := by rw [Agg.bytes_size]; exact hk
  have he : (⟨s.toArray⟩ : ByteArray)[k]'hs = s[k] := by simp [ByteArray.getElem_eq_getElem_data]
  obtain ⟨h1, h2⟩ := decode_high ⟨s.toArray⟩ k hs (by rw [he]; exact ha)
  have h3 := decode_le ⟨s.toArray⟩ k
  exact ⟨_, _, by omega, by omega, by omega, Lib.run_next_any_at (P := Tryz.prog) w b ⟨s.toArray⟩ k ty hb hs⟩
theorem nextAt_end (w : World) (b : Nat) (s : List UInt8) (ty : TypeId) (hb : w.heap[b]? = some (.stringIter ⟨s.toArray⟩ s.length)) :
    (Instr.next (.pointer (some ⟨b, 0, none⟩)) true ty).run Tryz.prog w = .ok (.tuple #[.bool false]) w :=
  Lib.run_next_end_at (P := Tryz.prog) w b ⟨s.toArray⟩ s.length ty hb (by rw [Agg.bytes_size]; omega)
/-- runes, numbers as values -/
def rK (n : Int) : Value := .int .i32 n
def nV (n : Nat) : Value := .int .u32 (n : Int)
def vals (k : Nat) : List (Int × Nat) := (List.range k).map fun i => (((letter i).toNat : Int), i)
theorem vals_step : ∀ k, k < 32 → mput (vals k) ((letter k).toNat : Int) k = vals (k + 1) := by decide +kernel
theorem vals_get : ∀ n : Nat, n < 256 → mget (vals 32) (n : Int) = val (UInt8.ofNat n) := by decide +kernel
theorem vals_high (r : Int) (h : 128 ≤ r) : mget (vals 32) r = none := by
  have hk : ∀ p ∈ vals 32, p.1 < 128 := by decide +kernel
  simp only [mget, Option.map_eq_none_iff, List.find?_eq_none, decide_eq_true_eq]
  intro p hp e
  have := hk p hp
  omega
theorem keyR : KeyEq Tryz.prog 21 rK := int_key Tryz.underlying21
/-- twenty noughts -/
def z20 : List UInt8 := List.replicate 20 0
theorem z20_zero : (Tryz.prog.info? 24).map (·.zero) = some (some (.agg (hC z20))) := by kernel_rfl
theorem z20_length : z20.length = 20 := rfl
theorem hC_info (h : List UInt8) (hl : h.length = 20) : (Tryz.prog.info? 24).map (·.size) = some (hC h).size := by rw [hC_size, hl]; kernel_rfl
theorem hC_one (h : List UInt8) : (hC h).all (·.oneCell') = true := by simp [hC, Lib.byteCells, Value.oneCell']
/-- what base.Hash answers -/
def hashH (s : List UInt8) : List UInt8 := (Pl.hash s).getD z20
def hashE (s : List UInt8) : Int := if (Pl.hash s).isSome then 0 else 4
theorem val_low {c : UInt8} {n : Nat} (h : val c = some n) : c.toNat < 128 := by
  have h1 : ∀ n, n < 32 → (letter n).toNat < 128 := by decide
  have := h1 n (val_lt h)
  rwa [letter_val h] at this
theorem mapM_take {s : List UInt8} (k : Nat) (hk : k < s.length) {l : List Nat} {n : Nat} (hl : (s.take k).mapM val = some l) (hn : val s[k] = some n) : (s.take (k + 1)).mapM val = some (l ++ [n]) := by
  rw [List.take_succ_eq_append_getElem hk, List.mapM_append, hl]
  simp [hn]
theorem mapM_none {s : List UInt8} (k : Nat) (hk : k < s.length) (hn : val s[k] = none) : s.mapM val = none := by
  have : s = s.take k ++ s[k] :: s.drop (k + 1) := by simp
  rw [this, List.mapM_append, List.mapM_cons]
  simp [hn]
theorem zero99 (w : World) : (zeroValue 168).run Tryz.prog w = .ok (.int .u32 0) w := by kernel_rfl
theorem hC_get (h : List UInt8) (i : Nat) (hi : i < h.length) : (hC h)[i]? = some (.int .u8 (h[i].toNat : Int)) := by simp [hC, Lib.byteCells, hi]
theorem hC_set (h : List UInt8) (i : Nat) (c : UInt8) : (hC h).setIfInBounds i (.int .u8 (c.toNat : Int)) = hC (h.set i c) := by
  apply Array.ext'
  simp [hC, Lib.byteCells, List.map_set]
theorem build_zero (w : World) : (Instr.build 24 #[]).run Tryz.prog w = .ok (.agg (hC z20)) w := by kernel_rfl
theorem or_disjoint8 (a x m : Nat) (ha : a < 2 ^ m) (hx : x < 32) (hm : m < 8) : bits .or .u32 (a : Int) ((x : Int) * 2 ^ m % 4294967296) = ((a + 2 ^ m * x : Nat) : Int) := by
  have h5 : 2 ^ m ≤ 2 ^ 7 := Nat.pow_le_pow_right (by omega) (by omega)
  have hp : 2 ^ m * x ≤ 2 ^ 7 * 31 := Nat.mul_le_mul h5 (by omega)
  have e : ((x : Int) * 2 ^ m % 4294967296) = ((2 ^ m * x : Nat) : Int) := by
    have : (x : Int) * 2 ^ m = ((2 ^ m * x : Nat) : Int) := by push_cast; exact Int.mul_comm _ _
    rw [this, Int.emod_eq_of_lt (by omega) (by omega)]
  rw [e, u32_or_nat _ _ (by omega) (by omega), Nat.or_comm, ← Nat.two_pow_add_eq_or_of_lt ha, Nat.add_comm]
/-- what lies behind k letters -/
def HashIs (B M I : Nat) (s : List UInt8) (k : Nat) (l : List Nat) (w0 wr : World) : Prop :=
  k ≤ 32 ∧ (s.take k).mapM val = some l ∧ wr.heap[I]? = some (.stringIter ⟨s.toArray⟩ k) ∧ MapIs wr M rK nV (vals 32) ∧ wr.heap[B]? = some (.cells (hC (hashTo (lnum l) k)) 24 (0, 0)) ∧ Below B w0 wr
end Go.Proofs.YtniibcgomnjfgaaGreat
/-! (of general use) Path: a path's text (base and spenceref03). -/
namespace Go.Proofs.YtniibcgomnjfgaaGreat
open Go.RowKit Pl Go.Mp Go.Agg
/-- a path's cells -/
def pC (h n : List UInt8) : Array Value := hC h ++ #[.string ⟨n.toArray⟩]
theorem pC_size (h n : List UInt8) : (pC h n).size = h.length + 1 := by simp [pC, hC_size]
theorem pC_name (h n : List UInt8) (hl : h.length = 20) : (pC h n)[20]? = some (.string ⟨n.toArray⟩) := by
  rw [pC, Array.getElem?_append, if_neg (by rw [hC_size]; omega), hC_size, hl]; rfl
theorem pC_hash (h n : List UInt8) (j : Nat) (v : Value) (hv : (hC h)[j]? = some v) : (pC h n)[0 + j]? = some v := by
  have hlt : j < (hC h).size := (Array.getElem?_eq_some_iff.1 hv).1
  rw [Nat.zero_add, pC, Array.getElem?_append, if_pos hlt]; exact hv
theorem isName_le {n : List UInt8} (h : isName n = true) : n.length ≤ 24 := by
  simp only [isName, Bool.and_eq_true, decide_eq_true_eq] at h
  exact h.1.2
/-- a path's text, or none; the error -/
def pathS (h n : List UInt8) : List UInt8 := if isName n then letters h ++ 45 :: n else []
def pathE (n : List UInt8) : Int := if isName n then 0 else 2
theorem ret_pair {a b : ByteArray} {k : IntKind} {x y : Int} (h : a = b) (h2 : x = y) : Ending.returned (.tuple #[.string a, .int k x]) = .returned (.tuple #[.string b, .int k y]) := by rw [h, h2]
theorem text_eq (h n : List UInt8) (hn : isName n = true) : ({ data := (letters h).toArray } : ByteArray) ++ { data := #[45] } ++ { data := n.toArray } = ⟨(pathS h n).toArray⟩ := by
  have : ({ data := #[45] } : ByteArray) = ⟨[45].toArray⟩ := rfl
  rw [this, Agg.bytes_append, Agg.bytes_append, pathS, if_pos hn]
  simp
end Go.Proofs.YtniibcgomnjfgaaGreat
/-! (of general use) Parse: a text's path (base and spenceref03). -/
namespace Go.Agg
open Go.RowKit
section
variable {P : Program} {ops : Array Oper} {rest : List Oper} {o : Oper} {a : Act} {w : World} {Q : Exit → Act → World → Prop}
/-- a value of several cells stored into the midst of a block -/
theorem wpList_set_sub (hg : o.guard = none) (hd : o.dst = none) (ty : TypeId) (x y : Operand) (ho : o.op = .store ty x y) (g off : Nat) (cells new : Array Value) (hx : a.eval x = .pointer (some ⟨g, off, none⟩)) (hy : a.eval y = .agg cells)
    (t : TypeId) (old : Array Value) (hb : w.heap[g]? = some (.cells old t (0, 0))) (hi : (P.info? ty).map (·.size) = some cells.size) (hle : off + cells.size ≤ old.size) (h1 : cells.all (·.oneCell') = true)
    (hnew : (old.toList.take off ++ cells.toList ++ old.toList.drop (off + cells.size)).toArray = new)
    (h : wpList P ops Q rest a (w.setRow g new)) : wpList P ops Q (o :: rest) a w := by
  refine wpList_skp hg hd ?_ h
  have hr := run_storeCells_at (P := P) g off t cells.toList 0 old w hb (by simp; omega) (fun v hv => (Array.all_eq_true_iff_forall_mem.1 h1) v (by simpa using hv))
  simp only [Nat.add_zero, Array.length_toList] at hr
  rw [hnew] at hr
  cases hq : P.info? ty with
  | none => simp [hq] at hi
  | some i =>
    have hs : cells.size = i.size := by simp [hq] at hi; omega
    simp [execOp, ho, hx, hy, Instr.storeAt, Instr.sureAddr, storeVar, sizeOf, typeInfo, hq, Value.cells, hs, hr]
end
end Go.Agg
namespace Go.Proofs.YtniibcgomnjfgaaGreat
open Go.RowKit Pl Go.Mp Go.Agg
def parseH (s : List UInt8) : List UInt8 := ((parse s).map (·.1)).getD z20
def parseN (s : List UInt8) : List UInt8 := ((parse s).map (·.2)).getD []
def parseE (s : List UInt8) : Int := if (parse s).isSome then 0 else 4
theorem pC_zero : (Tryz.prog.info? 26).map (·.zero) = some (some (.agg (pC z20 []))) := by kernel_rfl
theorem pC_info (h n : List UInt8) (hl : h.length = 20) : (Tryz.prog.info? 26).map (·.size) = some (pC h n).size := by rw [pC_size, hl]; kernel_rfl
theorem pC_one (h n : List UInt8) : (pC h n).all (·.oneCell') = true := by simp [pC, hC, Lib.byteCells, Value.oneCell']
theorem pC_under : Tryz.prog.underlying 26 = some (.struct (Tryz.prog.fieldsOf 26)) := by kernel_rfl
theorem sixteen (s : List UInt8) (hs : s.length < 4294967281) : (⟨s.toArray⟩ : ByteArray).size < 4294967281 := by rw [Agg.bytes_size]; exact hs
theorem pC_setHash (h h' n : List UInt8) (hl : h.length = 20) (hl' : h'.length = 20) : ((pC h n).toList.take 0 ++ (hC h').toList ++ (pC h n).toList.drop (0 + (hC h').size)).toArray = pC h' n := by
  apply Array.ext'
  simp [pC, hC, Lib.byteCells, hl, hl']
theorem pC_setName (h n n' : List UInt8) (hl : h.length = 20) : (pC h n).setIfInBounds 20 (.string ⟨n'.toArray⟩) = pC h n' := by
  apply Array.ext'
  simp [pC, hC, Lib.byteCells, hl]
theorem hashH_length (s : List UInt8) : (hashH s).length = 20 := by
  unfold hashH
  cases h : Pl.hash s with
  | none => rfl
  | some x => exact hash_length h
theorem cut_le (c : UInt8) (s : List UInt8) : (cut1 c s).2.1.length ≤ s.length := by
  induction s with
  | nil => simp [cut1]
  | cons b l ih => unfold cut1; split <;> simp <;> omega
end Go.Proofs.YtniibcgomnjfgaaGreat
