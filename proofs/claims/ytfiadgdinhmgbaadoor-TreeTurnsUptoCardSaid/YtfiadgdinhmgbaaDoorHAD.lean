/- Operations of a region that draws: a store, a copy of bytes, literals. (Several texts in one.) -/
import Derived.Test.YtfiadgdinhmgbaaDoorHAC
import Derived.Test.YtfiadgdinhmgbaaDoorHAB
import Derived.BigQuiet
import Derived.Deep.QuietTactic
import Derived.Test.YtfiadgdinhmgbaaDoorShelf
import Derived.BigGuardPart
import Derived.Deep.MidRow
import Derived.Laws.CopyOwn
/-! tree.kinds: what kinds of nodes there are, and what is looked up there. -/
namespace Go.Mp
open Go.RowKit Go.Instr
section
variable {P : Program} {α β : Type} [DecidableEq α]
variable {ops : Array Oper} {rest : List Oper} {o : Oper} {a : Act} {w : World} {Q : Exit → Act → World → Prop}
theorem wpList_insert (hg : o.guard = none) (hd : o.dst = none) (mo xo vo : Operand) (t K E : TypeId) (hop : o.op = Op.insert t mo xo vo) (ht : P.underlying t = some (.map K E)) {κ : α → Value} {ν : β → Value}
  (hK : KeyEq P K κ) {b : Nat} {m : List (α × β)} (hm : a.eval mo = .map (some b)) (h : MapIs w b κ ν m) (x : α) (hx : a.eval xo = κ x) (v : β) (hv : a.eval vo = ν v)
  (hk : ∀ w', MapIs w' b κ ν (mput m x v) → ButMap b w w' → wpList P ops Q rest a w') : wpList P ops Q (o :: rest) a w := by
 refine wpList_plain hg fun K' hK' => ?_
 obtain ⟨w', hr, h1, h2⟩ := run_mapUpdate ht hK h x v
 unfold Oper.wp
 simp [execOp, hop, hm, hx, hv, hr, Result.andThen]
 rw [Oper.upon_skip, hd]
 exact hK' _ _ (hk w' h1 h2)
end
end Go.Mp
namespace Go.Proofs.YtfiadgdinhmgbaaDoor
open Go.RowKit Pl Go.Agg Go.Tr Go.Mp
abbrev Bd := Int × Int × Bool
def bdC (x : Bd) : Array Value := #[.int .i64 x.1, .int .i64 x.2.1, .bool x.2.2]
def bdV (x : Bd) : Value := .agg (bdC x)
def kK (n : Int) : Value := .int .i64 n
theorem bd_zero : (Tryd.prog.info? 124).map (·.zero) = some (some (.agg (bdC (0, 0, false)))) := by kernel_rfl
theorem bd_info (x : Bd) : (Tryd.prog.info? 124).map (·.size) = some (bdC x).size := by kernel_rfl
theorem bd_under : Tryd.prog.underlying 124 = some (.struct (Tryd.prog.fieldsOf 124)) := by kernel_rfl
theorem bd_one (x : Bd) : (bdC x).all (·.oneCell') = true := by simp [bdC, Value.oneCell']
theorem kinds_under : Tryd.prog.underlying 74 = some (.map 22 124) := by kernel_rfl
theorem kind_key : KeyEq Tryd.prog 22 kK := int_key Tryd.underlying22
def kindOf (k : Int) : Option Bd := if k = 4 then some (0, 0, true) else if k = 3 then some (1, 200, false) else if k = 2 then some (0, 2048, false) else if k = 1 then some (0, 2048, false) else none
def kindsM : List (Int × Bd) := mput (mput (mput (mput [] 1 (0, 2048, false)) 2 (0, 2048, false)) 3 (1, 200, false)) 4 (0, 0, true)
theorem kinds_get (k : Int) : mget kindsM k = kindOf k := by
 unfold kindsM kindOf
 simp only [mget_mput]
 rfl
theorem bd_build (a b : Int) (c : Bool) (W : World) : (Instr.build 124 #[(0, .int .i64 a), (1, .int .i64 b), (2, .bool c)]).run Tryd.prog W = .ok (bdV (a, b, c)) W := by kernel_rfl
set_option maxRecDepth 100000 in
set_option maxHeartbeats 4000000 in
theorem kinds_any (w : World) : Calls Tryd.prog 76 #[] w fun e w' => ∃ g, e = .returned (.map (some g)) ∧ w.heap.size ≤ g ∧ MapIs w' g kK bdV kindsM ∧ Below w.heap.size w w' := by
 go_enter Tryd.func76, Tryd.ntmps76
 go_wp2_with (first | (refine wpList_new rfl rfl rfl 124 1 2 rfl rfl rfl (by decide) (bdC (0, 0, false)) (bdC (0, 2048, false)) bd_zero rfl (bd_info _) (bd_one _) rfl (by first | (simp; done) | simp [Act.put]) ?_; intro g1 w1 hb hx hg; have HX1 := Lib.hid hx; have HL1 := Lib.hid (hb.loads bd_under rfl (bd_info _)); clear hb hx hg) | (refine wpList_makeMap kK bdV rfl 74 rfl ?_; intro gm w2 hm hx hg; have HM2 := Lib.hid hm; have HL2 := Lib.hid (HL1.out.below hx); have HX2 := Lib.hid hx; have HG := Lib.hid hg; clear hm hx hg) | (refine wpList_insert rfl rfl _ _ _ 74 22 124 rfl kinds_under kind_key rfl HM2.out 1 rfl (0, 2048, false) rfl ?_; intro w3 hm hb; have HM3 := Lib.hid hm; have HX3 := Lib.hid (hb.below HX2.out HG.out); have HL3 := Lib.hid (HL1.out.below HX3.out); clear hm hb HM2) | (refine wpList_insert rfl rfl _ _ _ 74 22 124 rfl kinds_under kind_key rfl HM3.out 2 rfl (0, 2048, false) rfl ?_; intro w4 hm hb; have HM4 := Lib.hid hm; have HX4 := Lib.hid (hb.below HX3.out HG.out); have HL4 := Lib.hid (HL1.out.below HX4.out); clear hm hb HM3) | (refine wpList_insert rfl rfl _ _ _ 74 22 124 rfl kinds_under kind_key rfl HM4.out 3 rfl (1, 200, false) rfl ?_; intro w5 hm hb; have HM5 := Lib.hid hm; have HX5 := Lib.hid (hb.below HX4.out HG.out); have HL5 := Lib.hid (HL1.out.below HX5.out); clear hm hb HM4) | (refine wpList_insert rfl rfl _ _ _ 74 22 124 rfl kinds_under kind_key rfl HM5.out 4 rfl (0, 0, true) rfl ?_; intro w6 hm hb; have HM6 := Lib.hid hm; have HX6 := Lib.hid (hb.below HX5.out HG.out); have HL6 := Lib.hid (HL1.out.below HX6.out); clear hm hb HM5) | (with_reducible refine wpList_loadL HL2.out rfl _ rfl rfl ?_) | (with_reducible refine wpList_loadL HL3.out rfl _ rfl rfl ?_) | (with_reducible refine wpList_loadL HL4.out rfl _ rfl rfl ?_) | (with_reducible refine wpList_loadL HL5.out rfl _ rfl rfl ?_))
 go_ret
 exact ⟨gm, rfl, Nat.le_trans HX1.out.size HG.out, HM6.out, belowThen HX1.out (Nat.le_refl _) HX6.out⟩
end Go.Proofs.YtfiadgdinhmgbaaDoor
/-! Small facts about numbers. -/
namespace Go.Proofs.YtfiadgdinhmgbaaDoor
open Go.RowKit Pl
theorem ret_num {k : IntKind} {a b : Int} (h : a = b) : Ending.returned (.int k a) = .returned (.int k b) := by rw [h]
def wi (c lo hi : Int) : Bool := decide (lo ≤ c) && decide (c ≤ hi)
theorem u8_lt (c : UInt8) : (c.toNat : Int) < 256 := by have := c.toNat_lt; omega
end Go.Proofs.YtfiadgdinhmgbaaDoor
/-! base.sign: whether a rune may stand in a name. -/
namespace Go.Proofs.YtfiadgdinhmgbaaDoor
open Go.RowKit Pl
theorem ret_bool {a b : Bool} (h : a = b) : Ending.returned (.bool a) = .returned (.bool b) := by rw [h]
def smallN (r : Nat) : Nat := r ||| 32
theorem small_eq (r : Nat) (h : r < 128) : bits .or .i32 (r : Int) 32 = ((smallN r : Nat) : Int) := by
 unfold smallN
 have : ∀ r : Nat, r < 128 → bits .or .i32 (r : Int) 32 = ((r ||| 32 : Nat) : Int) := by decide +kernel
 exact this r h
theorem index_eq (r : Nat) (h : r < 128) : Lib.indexByte [46, 95, 43, 45] (r : Int).toNat.toUInt8 = (if r = 46 then 0 else if r = 95 then 1 else if r = 43 then 2 else if r = 45 then 3 else -1 : Int) := by
 have : ∀ r : Nat, r < 128 → Lib.indexByte [46, 95, 43, 45] (r : Int).toNat.toUInt8 = (if r = 46 then 0 else if r = 95 then 1 else if r = 43 then 2 else if r = 45 then 3 else -1 : Int) := by decide +kernel
 exact this r h
def placeN (r : Nat) : Int := if r = 46 then 0 else if r = 95 then 1 else if r = 43 then 2 else if r = 45 then 3 else -1
theorem index_any (r : Int) (h0 : 0 ≤ r) (h : r < 128) (w : World) : Calls Tryd.prog 104 #[.string ⟨#[46, 95, 43, 45]⟩, .int .u8 r] w fun e w' => e = .returned (.int .i64 (placeN r.toNat)) ∧ w = w' := by
 obtain ⟨n, rfl⟩ := Int.eq_ofNat_of_zero_le h0
 refine (Tryd.strings_IndexByte _ _ _).mono ?_
 rintro e w' ⟨rfl, rfl⟩
 refine ⟨ret_num ?_, rfl⟩
 exact index_eq n (by omega)
theorem signN_eq (r : Nat) : signN r = ((decide (65 ≤ r) && decide (97 ≤ smallN r) && decide (smallN r ≤ 122)) || (decide (48 ≤ r) && decide (r ≤ 57)) || decide (0 ≤ placeN r)) := rfl
set_option maxRecDepth 100000 in
set_option maxHeartbeats 1000000 in
theorem sign_low (r : Nat) (h : r < 128) (w : World) :
  Calls Tryd.prog 88 #[.int .i32 (r : Int)] w fun e w' => e = .returned (.bool (signN r)) ∧ w = w' := by
 have hs := small_eq r h
 have h' : (r : Int) < 128 := by omega
 go_enter Tryd.func88, Tryd.ntmps88
 go_wp2_with (go_at_call 104; refine (index_any _ (by omega) (by omega) _).mono ?_; rintro e w' ⟨rfl, rfl⟩)
 all_goals go_ret
 all_goals refine ⟨?_, rfl⟩
 all_goals exact ret_bool (by rw [signN_eq, Bool.eq_iff_iff]; simp only [Bool.or_eq_true, Bool.and_eq_true, decide_eq_true_eq, true_iff]; omega)
set_option maxRecDepth 100000 in
theorem sign_high (r : Int) (h : 128 ≤ r) (w : World) :
  Calls Tryd.prog 88 #[.int .i32 r] w fun e w' => e = .returned (.bool false) ∧ w = w' := by
 have hd : decide (r < 128) = false := by simp; omega
 go_enter Tryd.func88, Tryd.ntmps88
 go_wp2_with fail
 go_ret
 exact ⟨rfl, rfl⟩
def signR (r : Int) : Bool := if r < 128 then signN r.toNat else false
theorem sign_any (r : Int) (h : 0 ≤ r) (w : World) :
  Calls Tryd.prog 88 #[.int .i32 r] w fun e w' => e = .returned (.bool (signR r)) ∧ w = w' := by
 unfold signR
 by_cases h3 : r < 128
 ·rw [if_pos h3]
  obtain ⟨n, rfl⟩ := Int.eq_ofNat_of_zero_le h
  exact sign_low n (by omega) w
 ·rw [if_neg h3]
  exact sign_high r (by omega) w
end Go.Proofs.YtfiadgdinhmgbaaDoor
/-! base.Name and spenceref03.Name: whether a text is a name. -/
namespace Go.Proofs.YtfiadgdinhmgbaaDoor
open Go.RowKit Pl
theorem isName_bad (s : List UInt8) (k : Nat) (hk : k < s.length) (h : sgn s[k] = false) : isName s = false := by
 have : s.all sgn = false := by
  rw [List.all_eq_false]; exact ⟨s[k], List.getElem_mem hk, by simp [h]⟩
 simp [isName, this]
theorem isName_good (s : List UInt8) (h : ∀ k (hk : k < s.length), sgn s[k] = true) : isName s = ((s.length != 0) && decide (s.length ≤ 24) && (s.getD 0 0 != 46)) := by
 have : s.all sgn = true := by
  rw [List.all_eq_true]; intro x hx; obtain ⟨k, hk, rfl⟩ := List.getElem_of_mem hx; exact h k hk
 simp [isName, this]
theorem next_low (w : World) (s : List UInt8) (k : Nat) (ty : TypeId) (hk : k < s.length) (ha : s[k].toNat < 128) :
  (Instr.next (.pointer (some ⟨w.heap.size, 0, none⟩)) true ty).run Tryd.prog (w.iter ⟨s.toArray⟩ k) = .ok (.tuple #[.bool true, .int .i64 (k : Int), .int .i32 (s[k].toNat : Int)]) (w.iter ⟨s.toArray⟩ (k + 1)) := by
 have hs : k < (⟨s.toArray⟩ : ByteArray).size := by rw [Agg.bytes_size]; exact hk
 have he : (⟨s.toArray⟩ : ByteArray)[k]'hs = s[k] := by simp [ByteArray.getElem_eq_getElem_data]
 have := run_next_ascii (P := Tryd.prog) w ⟨s.toArray⟩ k ty hs (by rw [he]; exact ha)
 rw [he] at this
 exact this
theorem next_high (w : World) (s : List UInt8) (k : Nat) (ty : TypeId) (hk : k < s.length) (ha : 128 ≤ s[k].toNat) :
  ∃ (r : Int) (k' : Nat), 128 ≤ r ∧ k < k' ∧ (Instr.next (.pointer (some ⟨w.heap.size, 0, none⟩)) true ty).run Tryd.prog (w.iter ⟨s.toArray⟩ k) = .ok (.tuple #[.bool true, .int .i64 (k : Int), .int .i32 r]) (w.iter ⟨s.toArray⟩ k') := by
 have hs : k < (⟨s.toArray⟩ : ByteArray).size := by rw [Agg.bytes_size]; exact hk
 have he : (⟨s.toArray⟩ : ByteArray)[k]'hs = s[k] := by simp [ByteArray.getElem_eq_getElem_data]
 obtain ⟨h1, h2⟩ := decode_high ⟨s.toArray⟩ k hs (by rw [he]; exact ha)
 exact ⟨_, _, by exact_mod_cast h1, by omega, run_next_any (P := Tryd.prog) w ⟨s.toArray⟩ k ty hs⟩
theorem next_end (w : World) (s : List UInt8) (ty : TypeId) :
  (Instr.next (.pointer (some ⟨w.heap.size, 0, none⟩)) true ty).run Tryd.prog (w.iter ⟨s.toArray⟩ s.length) = .ok (.tuple #[.bool false]) (w.iter ⟨s.toArray⟩ s.length) :=
 run_next_end (P := Tryd.prog) w ⟨s.toArray⟩ s.length ty (by rw [Agg.bytes_size]; omega)
theorem signR_byte (c : UInt8) (hc : c.toNat < 128) : signR (c.toNat : Int) = sgn c := by
 unfold signR
 rw [if_pos (by omega)]
 exact signN_sgn c hc
theorem below_iter (w : World) (s : ByteArray) (k : Nat) : Below w.heap.size w (w.iter s k) := (Below.refl _ _).alloc (Nat.le_refl _) _
set_option maxRecDepth 100000 in
set_option maxHeartbeats 1000000 in
theorem name_any (s : List UInt8) (w : World) :
  Calls Tryd.prog 62 #[.string ⟨s.toArray⟩] w fun e w' => e = .returned (.bool (isName s)) ∧ Below w.heap.size w w' := by
 go_enter Tryd.func62, Tryd.ntmps62
 go_wp2_with fail
 go_loopw [4] (fun _ wr => ∃ k : Nat, k ≤ s.length ∧ wr = w.iter ⟨s.toArray⟩ k ∧ ∀ j (hj : j < s.length), j < k → sgn s[j] = true) (fun _ wr => s.length - wr.iterPos w.heap.size)
 case atStart => exact ⟨0, by omega, rfl, by intros; omega⟩
 case round =>
  obtain ⟨k, hk, rfl, hg⟩ := hrel
  have HG := Lib.hid hg
  clear hg
  by_cases hlt : k < s.length
  ·by_cases hc : s[k].toNat < 128
   ·have hn := next_low w s k 0 hlt hc
    cases hsg : sgn s[k] with
    | true =>
     go_wp2_with (go_at_call 88; refine (sign_any _ (by omega) _).mono ?_; rintro e w' ⟨rfl, rfl⟩; rw [signR_byte _ hc, hsg])
     go_roundw
     case rel => exact ⟨k + 1, by omega, rfl, fun j hj h => by
      rcases Nat.lt_or_ge j k with h' | h'
      ·exact HG.out j hj h'
      ·obtain rfl : j = k := by omega
       exact hsg⟩
     case measure => simp; omega
    | false =>
     go_wp2_with (go_at_call 88; refine (sign_any _ (by omega) _).mono ?_; rintro e w' ⟨rfl, rfl⟩; rw [signR_byte _ hc, hsg])
     go_ret
     exact ⟨ret_bool (isName_bad s k hlt hsg).symm, below_iter _ _ _⟩
   ·obtain ⟨r, k', hr, hk', hn⟩ := next_high w s k 0 hlt (by omega)
    have hsg : sgn s[k] = false := by
     cases h : sgn s[k] with
     | true => exact absurd (sgn_small _ h) hc
     | false => rfl
    have HS := Lib.hid hsg
    clear hsg
    go_wp2_with (go_at_call 88; refine (sign_high _ hr _).mono ?_; rintro e w' ⟨rfl, rfl⟩)
    go_ret
    exact ⟨ret_bool (isName_bad s k hlt HS.out).symm, below_iter _ _ _⟩
  ·obtain rfl : k = s.length := by omega
   have hn := next_end w s 0
   have hgood := isName_good s (fun j hj => HG.out j hj hj)
   have HI := Lib.hid hgood
   clear hgood
   cases s with
   | nil =>
    simp only [List.length_nil] at hn
    go_wp2_with fail
    go_ret
    exact ⟨ret_bool (by rw [HI.out]; rfl), below_iter _ _ _⟩
   | cons c l =>
    have hix : ∀ w, (Instr.index 9 (.string ⟨(c :: l).toArray⟩) (.int .i64 0)).run Tryd.prog w = .ok (.int .u8 (c.toNat : Int)) w := fun w => Agg.run_index_str (i := 0) w Tryd.underlying9 rfl
    simp only [List.length_cons] at hn
    go_wp2_with fail
    all_goals go_ret
    all_goals refine ⟨ret_bool ?_, below_iter _ _ _⟩
    all_goals rw [HI.out]
    ·have h24 : (l.length : Int) + 1 ≤ 24 := by assumption
     have e : (((c.toNat : Int)) != 46) = (c != 46) := by
      rw [Bool.eq_iff_iff]; simp only [bne_iff_ne, ne_eq]; rw [← UInt8.toNat_inj]; simp; omega
     simp [e, show l.length + 1 ≤ 24 by omega]
    ·have h24 : 24 < (l.length : Int) + 1 := by assumption
     simp [show ¬ l.length + 1 ≤ 24 by omega]
end Go.Proofs.YtfiadgdinhmgbaaDoor
/-! Comparison of strings, as operations. -/
namespace Go.Agg
open Go.RowKit
section
variable {P : Program} {ops : Array Oper} {rest : List Oper} {o : Oper} {a : Act} {w : World} {Q : Exit → Act → World → Prop} {t u : TypeId} {x y : Operand} {s r : List UInt8}
theorem exec_geqS (ho : o.op = .binOp .geq t x y u) (hx : a.eval x = .string ⟨s.toArray⟩) (hy : a.eval y = .string ⟨r.toArray⟩) : (execOp a.eval o).run P w = .ok (.value (.bool (!Op.bytesLess s r))) w := by
 simp only [execOp, ho, hx, hy]
 simp only [binOp, Op.stringOp, bytes_toList, eqGuard]
 first | rfl | simp
theorem exec_eqlS (ho : o.op = .binOp .eql t x y u) (hx : a.eval x = .string ⟨s.toArray⟩) (hy : a.eval y = .string ⟨r.toArray⟩) : (execOp a.eval o).run P w = .ok (.value (.bool (decide (s = r)))) w := by
 rw [← show (s == r) = decide (s = r) from by by_cases h : s = r <;> simp [h]]
 simp only [execOp, ho, hx, hy]
 simp only [binOp, Op.stringOp, bytes_toList, eqGuard]
 first | rfl | simp
theorem exec_neqS (ho : o.op = .binOp .neq t x y u) (hx : a.eval x = .string ⟨s.toArray⟩) (hy : a.eval y = .string ⟨r.toArray⟩) : (execOp a.eval o).run P w = .ok (.value (.bool (!decide (s = r)))) w := by
 rw [← show (s == r) = decide (s = r) from by by_cases h : s = r <;> simp [h]]
 simp only [execOp, ho, hx, hy]
 simp only [binOp, Op.stringOp, bytes_toList, eqGuard]
 first | rfl | simp
theorem wpQuiet_geqS {C : World → Prop} {Q : Act → Prop} (hw : Region.wanted o (yielded ops a.tmps) = true) (ho : o.op = .binOp .geq t x y u) (hx : a.eval x = .string ⟨s.toArray⟩) (hy : a.eval y = .string ⟨r.toArray⟩) (b : Bool) (hb : (!Op.bytesLess s r) = b)
  (h : wpQuiet P ops C Q rest (a.put o.dst (.bool b))) : wpQuiet P ops C Q (o :: rest) a := by
 subst hb
 exact wpQuiet_val hw _ (fun _ _ => exec_geqS ho hx hy) h
theorem wpQuiet_eqlS {C : World → Prop} {Q : Act → Prop} (hw : Region.wanted o (yielded ops a.tmps) = true) (ho : o.op = .binOp .eql t x y u) (hx : a.eval x = .string ⟨s.toArray⟩) (hy : a.eval y = .string ⟨r.toArray⟩) (b : Bool) (hb : decide (s = r) = b)
  (h : wpQuiet P ops C Q rest (a.put o.dst (.bool b))) : wpQuiet P ops C Q (o :: rest) a := by
 subst hb
 exact wpQuiet_val hw _ (fun _ _ => exec_eqlS ho hx hy) h
theorem wpQuiet_neqS {C : World → Prop} {Q : Act → Prop} (hw : Region.wanted o (yielded ops a.tmps) = true) (ho : o.op = .binOp .neq t x y u) (hx : a.eval x = .string ⟨s.toArray⟩) (hy : a.eval y = .string ⟨r.toArray⟩) (b : Bool) (hb : (!decide (s = r)) = b)
  (h : wpQuiet P ops C Q rest (a.put o.dst (.bool b))) : wpQuiet P ops C Q (o :: rest) a := by
 subst hb
 exact wpQuiet_val hw _ (fun _ _ => exec_neqS ho hx hy) h
theorem wpList_eqlS (hw : Region.wanted o (yielded ops a.tmps) = true) (ho : o.op = .binOp .eql t x y u) (hx : a.eval x = .string ⟨s.toArray⟩) (hy : a.eval y = .string ⟨r.toArray⟩) (b : Bool) (hb : decide (s = r) = b) (h : wpList P ops Q rest (a.put o.dst (.bool b)) w) : wpList P ops Q (o :: rest) a w := by
 subst hb
 exact wpList_valw hw (exec_eqlS ho hx hy) h
theorem wpList_neqS (hw : Region.wanted o (yielded ops a.tmps) = true) (ho : o.op = .binOp .neq t x y u) (hx : a.eval x = .string ⟨s.toArray⟩) (hy : a.eval y = .string ⟨r.toArray⟩) (b : Bool) (hb : (!decide (s = r)) = b) (h : wpList P ops Q rest (a.put o.dst (.bool b)) w) : wpList P ops Q (o :: rest) a w := by
 subst hb
 exact wpList_valw hw (exec_neqS ho hx hy) h
theorem wpList_geqS (hw : Region.wanted o (yielded ops a.tmps) = true) (ho : o.op = .binOp .geq t x y u) (hx : a.eval x = .string ⟨s.toArray⟩) (hy : a.eval y = .string ⟨r.toArray⟩) (b : Bool) (hb : (!Op.bytesLess s r) = b) (h : wpList P ops Q rest (a.put o.dst (.bool b)) w) : wpList P ops Q (o :: rest) a w := by
 subst hb
 exact wpList_valw hw (exec_geqS ho hx hy) h
end
end Go.Agg
/-! The digest that the document tells (chapter 2), as a function: plain Lean, no program in sight. -/
namespace Go.Sha
abbrev W := BitVec 32
structure St where
 (a b c d e f g h : W)
deriving DecidableEq
def rot (x : W) (k : Nat) : W := (x >>> k) ||| (x <<< (32 - k))
def s0 (x : W) : W := rot x 2 ^^^ rot x 13 ^^^ rot x 22
def s1 (x : W) : W := rot x 6 ^^^ rot x 11 ^^^ rot x 25
def t0 (x : W) : W := rot x 7 ^^^ rot x 18 ^^^ (x >>> 3)
def t1 (x : W) : W := rot x 17 ^^^ rot x 19 ^^^ (x >>> 10)
def ch (x y z : W) : W := z ^^^ (x &&& (y ^^^ z))
def maj (x y z : W) : W := (x &&& (y ||| z)) ||| (y &&& z)
theorem ch_eq (x y z : W) : (x &&& y) ||| (~~~x &&& z) = ch x y z := by
 unfold ch; ext i hi; simp; cases x[i] <;> cases y[i] <;> cases z[i] <;> rfl
theorem maj_eq (x y z : W) : ((x &&& y) ||| (x &&& z)) ||| (y &&& z) = maj x y z := by
 unfold maj; ext i hi; simp; cases x[i] <;> cases y[i] <;> cases z[i] <;> rfl
def round (k w : W) (x : St) : St :=
 let p := x.h + s1 x.e + ch x.e x.f x.g + k + w
 ⟨p + (s0 x.a + maj x.a x.b x.c), x.a, x.b, x.c, x.d + p, x.e, x.f, x.g⟩
def ks : List W := [
 0x428a2f98, 0x71374491, 0xb5c0fbcf, 0xe9b5dba5, 0x3956c25b, 0x59f111f1, 0x923f82a4, 0xab1c5ed5,
 0xd807aa98, 0x12835b01, 0x243185be, 0x550c7dc3, 0x72be5d74, 0x80deb1fe, 0x9bdc06a7, 0xc19bf174,
 0xe49b69c1, 0xefbe4786, 0x0fc19dc6, 0x240ca1cc, 0x2de92c6f, 0x4a7484aa, 0x5cb0a9dc, 0x76f988da,
 0x983e5152, 0xa831c66d, 0xb00327c8, 0xbf597fc7, 0xc6e00bf3, 0xd5a79147, 0x06ca6351, 0x14292967,
 0x27b70a85, 0x2e1b2138, 0x4d2c6dfc, 0x53380d13, 0x650a7354, 0x766a0abb, 0x81c2c92e, 0x92722c85,
 0xa2bfe8a1, 0xa81a664b, 0xc24b8b70, 0xc76c51a3, 0xd192e819, 0xd6990624, 0xf40e3585, 0x106aa070,
 0x19a4c116, 0x1e376c08, 0x2748774c, 0x34b0bcb5, 0x391c0cb3, 0x4ed8aa4a, 0x5b9cca4f, 0x682e6ff3,
 0x748f82ee, 0x78a5636f, 0x84c87814, 0x8cc70208, 0x90befffa, 0xa4506ceb, 0xbef9a3f7, 0xc67178f2]
theorem ks_length : ks.length = 64 := rfl
def word (b : List UInt8) (i : Nat) : W := BitVec.ofNat 32 (16777216 * (b.getD i 0).toNat + 65536 * (b.getD (i + 1) 0).toNat + 256 * (b.getD (i + 2) 0).toNat + (b.getD (i + 3) 0).toNat)
def nextW (w : List W) : W := t1 (w.getD (w.length - 2) 0) + w.getD (w.length - 7) 0 + t0 (w.getD (w.length - 15) 0) + w.getD (w.length - 16) 0
def words (b : List UInt8) : Nat → List W
 | 0 => []
 | t + 1 => let w := words b t; w ++ [if t < 16 then word b (4 * t) else nextW w]
theorem words_length (b : List UInt8) (t : Nat) : (words b t).length = t := by
 induction t with
 | zero => rfl
 | succ t ih => simp [words, ih]
def rounds (b : List UInt8) : Nat → St → St
 | 0, x => x
 | t + 1, x => round (ks.getD t 0) ((words b 64).getD t 0) (rounds b t x)
def add (x y : St) : St := ⟨x.a + y.a, x.b + y.b, x.c + y.c, x.d + y.d, x.e + y.e, x.f + y.f, x.g + y.g, x.h + y.h⟩
def block (x : St) (b : List UInt8) : St := add x (rounds b 64 x)
def first : St := ⟨0x6a09e667, 0xbb67ae85, 0x3c6ef372, 0xa54ff53a, 0x510e527f, 0x9b05688c, 0x1f83d9ab, 0x5be0cd19⟩
def blocks (l : List UInt8) : Nat → St → St
 | 0, x => x
 | n + 1, x => block (blocks l n x) ((l.drop (64 * n)).take 64)
def tail (n : Nat) : List UInt8 := (128 : UInt8) :: (List.replicate ((119 - n % 64) % 64) 0 ++ (List.range 8).map fun i => UInt8.ofNat (8 * n / 256 ^ (7 - i)))
def padded (l : List UInt8) : List UInt8 := l ++ tail l.length
theorem tail_length (n : Nat) : (tail n).length = (119 - n % 64) % 64 + 9 := by simp [tail]
theorem padded_mod (l : List UInt8) : (padded l).length % 64 = 0 := by
 simp only [padded, List.length_append, tail_length]; omega
def St.list (x : St) : List W := [x.a, x.b, x.c, x.d, x.e, x.f, x.g, x.h]
def St.byte (x : St) (i : Nat) : UInt8 := UInt8.ofNat ((x.list.getD (i / 4) 0).toNat / 256 ^ (3 - i % 4))
def digest (l : List UInt8) : List UInt8 := (List.range 32).map (blocks (padded l) ((padded l).length / 64) first).byte
def fold (s : List UInt8) : List UInt8 := (List.range 20).map fun i => if i < 12 then s.getD i 0 ^^^ s.getD (i + 20) 0 else s.getD i 0
example : (digest []).take 4 = [0xe3, 0xb0, 0xc4, 0x42] := by decide +kernel
example : (digest [97, 98, 99]).take 4 = [0xba, 0x78, 0x16, 0xbf] := by decide +kernel
end Go.Sha
/-! Words of 32 bits as values: what the operations make of them. -/
namespace Go.Agg
open Go.RowKit Go.Sha
def vW (x : W) : Value := .int .u32 (x.toNat : Int)
theorem ofInt_vW (x : W) : BitVec.ofInt 32 (x.toNat : Int) = x := by
 rw [BitVec.ofInt_natCast, BitVec.ofNat_toNat, BitVec.setWidth_eq]
theorem wrap_u32W (x : W) : IntKind.u32.wrap ((x.toNat : Nat) : Int) = (x.toNat : Int) := by
 have := x.isLt
 simp only [IntKind.wrap, IntKind.signed, IntKind.bits, Bool.false_and, Bool.false_eq_true, if_false]
 omega
section
variable {P : Program} {w : World} {t : TypeId} {x y : W}
theorem run_xorW : (binOp .xor t (vW x) (vW y)).run P w = .ok (vW (x ^^^ y)) w := by
 have h : IntKind.u32.wrap (((BitVec.ofInt 32 (x.toNat : Int) ^^^ BitVec.ofInt 32 (y.toNat : Int)).toNat : Nat) : Int) = ((x ^^^ y).toNat : Int) := by rw [ofInt_vW, ofInt_vW]; exact wrap_u32W _
 simp only [binOp, vW, Op.intBits]
 exact congrArg (fun n => Result.ok (Value.int .u32 n) w) h
theorem run_andW : (binOp .and t (vW x) (vW y)).run P w = .ok (vW (x &&& y)) w := by
 have h : IntKind.u32.wrap (((BitVec.ofInt 32 (x.toNat : Int) &&& BitVec.ofInt 32 (y.toNat : Int)).toNat : Nat) : Int) = ((x &&& y).toNat : Int) := by rw [ofInt_vW, ofInt_vW]; exact wrap_u32W _
 simp only [binOp, vW, Op.intBits]
 exact congrArg (fun n => Result.ok (Value.int .u32 n) w) h
theorem run_orW : (binOp .or t (vW x) (vW y)).run P w = .ok (vW (x ||| y)) w := by
 have h : IntKind.u32.wrap (((BitVec.ofInt 32 (x.toNat : Int) ||| BitVec.ofInt 32 (y.toNat : Int)).toNat : Nat) : Int) = ((x ||| y).toNat : Int) := by rw [ofInt_vW, ofInt_vW]; exact wrap_u32W _
 simp only [binOp, vW, Op.intBits]
 exact congrArg (fun n => Result.ok (Value.int .u32 n) w) h
theorem run_addW : (binOp .add t (vW x) (vW y)).run P w = .ok (vW (x + y)) w := by
 have h : IntKind.u32.wrap ((x.toNat : Int) + (y.toNat : Int)) = ((x + y).toNat : Int) := by
  rw [BitVec.toNat_add]
  simp only [IntKind.wrap, IntKind.signed, IntKind.bits, Bool.false_and, Bool.false_eq_true, if_false]
  omega
 simp only [binOp, vW, Op.intArith]
 exact congrArg (fun n => Result.ok (Value.int .u32 n) w) h
theorem run_shlW (k : IntKind) (n : Nat) (hn : n < 32) : (binOp .shl t (vW x) (.int k (n : Int))).run P w = .ok (vW (x <<< n)) w := by
 have h : IntKind.u32.wrap ((x.toNat : Int) * 2 ^ (min ((n : Int).toNat) 32)) = ((x <<< n).toNat : Int) := by
  rw [BitVec.toNat_shiftLeft, Nat.shiftLeft_eq, show min ((n : Int).toNat) 32 = n by omega]
  simp only [IntKind.wrap, IntKind.signed, IntKind.bits, Bool.false_and, Bool.false_eq_true, if_false]
  have : ((x.toNat : Int) * 2 ^ n) = ((x.toNat * 2 ^ n : Nat) : Int) := by push_cast; rfl
  rw [this]
  omega
 simp only [binOp, vW, Op.shift, if_neg (show ¬ (n : Int) < 0 by omega)]
 exact congrArg (fun n => Result.ok (Value.int .u32 n) w) h
theorem run_shrW (k : IntKind) (n : Nat) (hn : n < 32) : (binOp .shr t (vW x) (.int k (n : Int))).run P w = .ok (vW (x >>> n)) w := by
 have h : ((x.toNat : Int).fdiv (2 ^ (min ((n : Int).toNat) 32))) = ((x >>> n).toNat : Int) := by
  rw [BitVec.toNat_ushiftRight, Nat.shiftRight_eq_div_pow, show min ((n : Int).toNat) 32 = n by omega]
  have : ((2 : Int) ^ n) = ((2 ^ n : Nat) : Int) := by push_cast; rfl
  rw [this, Int.fdiv_eq_ediv_of_nonneg _ (Int.natCast_nonneg _)]
  exact (Int.natCast_ediv _ _).symm
 simp only [binOp, vW, Op.shift, if_neg (show ¬ (n : Int) < 0 by omega)]
 exact congrArg (fun n => Result.ok (Value.int .u32 n) w) h
end
section
variable {P : Program} {o : Oper} {a : Act} {w : World} {t u : TypeId} {p q : Operand} {x y : W}
theorem exec_xorW (ho : o.op = .binOp .xor t p q u) (hx : a.eval p = vW x) (hy : a.eval q = vW y) : (execOp a.eval o).run P w = .ok (.value (vW (x ^^^ y))) w := by
 simp only [execOp, ho, hx, hy]
 simp [eqGuard, run_xorW]
theorem exec_andW (ho : o.op = .binOp .and t p q u) (hx : a.eval p = vW x) (hy : a.eval q = vW y) : (execOp a.eval o).run P w = .ok (.value (vW (x &&& y))) w := by
 simp only [execOp, ho, hx, hy]
 simp [eqGuard, run_andW]
theorem exec_orW (ho : o.op = .binOp .or t p q u) (hx : a.eval p = vW x) (hy : a.eval q = vW y) : (execOp a.eval o).run P w = .ok (.value (vW (x ||| y))) w := by
 simp only [execOp, ho, hx, hy]
 simp [eqGuard, run_orW]
theorem exec_addW (ho : o.op = .binOp .add t p q u) (hx : a.eval p = vW x) (hy : a.eval q = vW y) : (execOp a.eval o).run P w = .ok (.value (vW (x + y))) w := by
 simp only [execOp, ho, hx, hy]
 simp [eqGuard, run_addW]
theorem exec_shlW {k : IntKind} (n : Nat) (hn : n < 32) (ho : o.op = .binOp .shl t p q u) (hx : a.eval p = vW x) (hy : a.eval q = .int k (n : Int)) : (execOp a.eval o).run P w = .ok (.value (vW (x <<< n))) w := by
 simp only [execOp, ho, hx, hy]
 simp [eqGuard, run_shlW k n hn]
theorem exec_shrW {k : IntKind} (n : Nat) (hn : n < 32) (ho : o.op = .binOp .shr t p q u) (hx : a.eval p = vW x) (hy : a.eval q = .int k (n : Int)) : (execOp a.eval o).run P w = .ok (.value (vW (x >>> n))) w := by
 simp only [execOp, ho, hx, hy]
 simp [eqGuard, run_shrW k n hn]
end
end Go.Agg
/-! The digest, taken piece by piece: the plain law. -/
namespace Go.Sha
theorem blocks_append (l b : List UInt8) : ∀ (k : Nat) (x : St), 64 * k ≤ l.length → blocks (l ++ b) k x = blocks l k x
 | 0, _, _ => rfl
 | k + 1, x, h => by
  rw [blocks, blocks, blocks_append l b k x (by omega)]
  congr 1
  rw [List.drop_append_of_le_length (by omega), List.take_append_of_le_length (by rw [List.length_drop]; omega)]
def sp (l : List UInt8) : St := blocks l (l.length / 64) first
def rst (l : List UInt8) : List UInt8 := l.drop (64 * (l.length / 64))
theorem rst_length (l : List UInt8) : (rst l).length = l.length % 64 := by rw [rst, List.length_drop]; omega
theorem sp_short {l b : List UInt8} (h : l.length % 64 + b.length < 64) : sp (l ++ b) = sp l ∧ rst (l ++ b) = rst l ++ b := by
 have e : (l ++ b).length / 64 = l.length / 64 := by rw [List.length_append]; omega
 refine ⟨by rw [sp, sp, e, blocks_append l b _ _ (by omega)], ?_⟩
 rw [rst, rst, e, List.drop_append_of_le_length (by omega)]
theorem sp_full {l b : List UInt8} (h : l.length % 64 + b.length = 64) : sp (l ++ b) = block (sp l) (rst l ++ b) ∧ rst (l ++ b) = [] := by
 have e : (l ++ b).length / 64 = l.length / 64 + 1 := by rw [List.length_append]; omega
 refine ⟨?_, ?_⟩
 ·rw [sp, e, blocks, blocks_append l b _ _ (by omega), List.drop_append_of_le_length (by omega), List.take_of_length_le (by rw [List.length_append, List.length_drop]; omega)]
  rfl
 ·rw [rst, e]
  exact List.drop_eq_nil_of_le (by rw [List.length_append]; omega)
theorem digest_sp (l : List UInt8) : digest l = (List.range 32).map (sp (padded l)).byte := rfl
theorem shaByte_at (x : St) (i : Nat) : x.byte i = UInt8.ofNat ((x.list.getD (i / 4) 0).toNat / 256 ^ (3 - i % 4)) := rfl
def encL (n : Nat) : List UInt8 := if h : 128 ≤ n then UInt8.ofNat (n % 128 + 128) :: encL (n / 128) else [UInt8.ofNat n]
end Go.Sha
/-! Words out of bytes, turned and mixed; a digest folded: as the code has it. -/
namespace Go.Sha
def mixP (x : W) (ks : List Nat) : W := ks.foldl (fun o k => o ^^^ rot x k) 0
theorem mix_s0 (x : W) : mixP x [2, 13, 22] = s0 x := by simp [mixP, s0]
theorem mix_s1 (x : W) : mixP x [6, 11, 25] = s1 x := by simp [mixP, s1]
theorem mix_t0 (x : W) : mixP x [7, 18] ^^^ (x >>> 3) = t0 x := by simp [mixP, t0]
theorem mix_t1 (x : W) : mixP x [17, 19] ^^^ (x >>> 10) = t1 x := by simp [mixP, t1]
theorem mixP_snoc (x : W) (ks : List Nat) (k : Nat) : mixP x (ks ++ [k]) = mixP x ks ^^^ rot x k := by simp [mixP]
def wB (c : UInt8) : W := BitVec.ofNat 32 c.toNat
theorem wB_toNat (c : UInt8) : (wB c).toNat = c.toNat := by
 have := c.toNat_lt
 simp only [wB, BitVec.toNat_ofNat]
 omega
theorem shl_toNat (c : UInt8) (k : Nat) (hk : k ≤ 24) : (wB c <<< k).toNat = c.toNat * 2 ^ k := by
 have h := c.toNat_lt
 rw [BitVec.toNat_shiftLeft, wB_toNat, Nat.shiftLeft_eq]
 refine Nat.mod_eq_of_lt (Nat.lt_of_lt_of_le (Nat.mul_lt_mul_of_pos_right h (Nat.pow_pos (by omega))) ?_)
 calc 2 ^ 8 * 2 ^ k = 2 ^ (8 + k) := by rw [Nat.pow_add]
  _ ≤ 2 ^ 32 := Nat.pow_le_pow_right (by omega) (by omega)
theorem word_or (c0 c1 c2 c3 : UInt8) : (((wB c0 <<< 24) ||| (wB c1 <<< 16)) ||| (wB c2 <<< 8)) ||| wB c3 = BitVec.ofNat 32 (16777216 * c0.toNat + 65536 * c1.toNat + 256 * c2.toNat + c3.toNat) := by
 have h0 := c0.toNat_lt
 have h1 := c1.toNat_lt
 have h2 := c2.toNat_lt
 have h3 := c3.toNat_lt
 apply BitVec.eq_of_toNat_eq
 rw [BitVec.toNat_or, BitVec.toNat_or, BitVec.toNat_or, shl_toNat _ _ (by omega), shl_toNat _ _ (by omega), shl_toNat _ _ (by omega), wB_toNat, BitVec.toNat_ofNat]
 generalize c0.toNat = a at *
 generalize c1.toNat = b at *
 generalize c2.toNat = c at *
 generalize c3.toNat = d at *
 simp only [Nat.reducePow] at *
 have e1 : a * 16777216 ||| b * 65536 = a * 16777216 + b * 65536 := by
  have h := Nat.shiftLeft_add_eq_or_of_lt (i := 24) (b := b * 65536) (by simp only [Nat.reducePow]; omega) a
  simp only [Nat.shiftLeft_eq, Nat.reducePow] at h
  exact h.symm
 have e2 : (a * 16777216 + b * 65536) ||| c * 256 = a * 16777216 + b * 65536 + c * 256 := by
  have h := Nat.shiftLeft_add_eq_or_of_lt (i := 16) (b := c * 256) (by simp only [Nat.reducePow]; omega) (a * 256 + b)
  have e : (a * 256 + b) * 65536 = a * 16777216 + b * 65536 := by omega
  simp only [Nat.shiftLeft_eq, Nat.reducePow, e] at h
  exact h.symm
 have e3 : (a * 16777216 + b * 65536 + c * 256) ||| d = a * 16777216 + b * 65536 + c * 256 + d := by
  have h := Nat.shiftLeft_add_eq_or_of_lt (i := 8) (b := d) (by simp only [Nat.reducePow]; omega) (a * 65536 + b * 256 + c)
  have e : (a * 65536 + b * 256 + c) * 256 = a * 16777216 + b * 65536 + c * 256 := by omega
  simp only [Nat.shiftLeft_eq, Nat.reducePow, e] at h
  exact h.symm
 rw [e1, e2, e3]
 omega
def foldG (s : List UInt8) : Nat → List UInt8
 | 0 => List.replicate 20 0
 | k + 1 => (foldG s k).set (k % 20) ((foldG s k).getD (k % 20) 0 ^^^ s.getD k 0)
theorem foldG_length (s : List UInt8) (k : Nat) : (foldG s k).length = 20 := by
 induction k with
 | zero => rfl
 | succ k ih => simp [foldG, ih]
theorem digest_length (l : List UInt8) : (digest l).length = 32 := by simp [digest]
def sumF (l : List UInt8) : List UInt8 := foldG (digest l) 32
theorem sumF_length (l : List UInt8) : (sumF l).length = 20 := foldG_length _ _
end Go.Sha
/-! Operations on natural numbers as ints, addresses of elements of an array, a byte made a word. -/
namespace Go.Agg
open Go.RowKit Go.Sha
section
variable {P : Program} {o : Oper} {a : Act} {w : World} {t u : TypeId} {x y : Operand} {m n : Nat}
theorem wrap_i64N (n : Nat) (h : n < 9223372036854775808) : IntKind.i64.wrap (n : Int) = (n : Int) := by rw [IntKind.wrap_i64]; omega
theorem exec_addI (h : m + n < 9223372036854775808) (ho : o.op = .binOp .add t x y u) (hx : a.eval x = .int .i64 (m : Int)) (hy : a.eval y = .int .i64 (n : Int)) : (execOp a.eval o).run P w = .ok (.value (.int .i64 ((m + n : Nat) : Int))) w := by
 have hc : (binOp .add t (.int .i64 (m : Int)) (.int .i64 (n : Int))).run P w = .ok (.int .i64 ((m + n : Nat) : Int)) w := by
  simp only [binOp, Op.intArith]
  refine congrArg (fun n => Result.ok (Value.int .i64 n) w) ?_
  rw [← Int.natCast_add]
  exact wrap_i64N _ h
 simp only [execOp, ho, hx, hy]
 simp [eqGuard, hc]
theorem exec_subI (h : n ≤ m) (hm : m < 9223372036854775808) (ho : o.op = .binOp .sub t x y u) (hx : a.eval x = .int .i64 (m : Int)) (hy : a.eval y = .int .i64 (n : Int)) : (execOp a.eval o).run P w = .ok (.value (.int .i64 ((m - n : Nat) : Int))) w := by
 have hc : (binOp .sub t (.int .i64 (m : Int)) (.int .i64 (n : Int))).run P w = .ok (.int .i64 ((m - n : Nat) : Int)) w := by
  simp only [binOp, Op.intArith]
  refine congrArg (fun n => Result.ok (Value.int .i64 n) w) ?_
  rw [← Int.natCast_sub h]
  exact wrap_i64N _ (by omega)
 simp only [execOp, ho, hx, hy]
 simp [eqGuard, hc]
theorem exec_mulI (h : m * n < 9223372036854775808) (ho : o.op = .binOp .mul t x y u) (hx : a.eval x = .int .i64 (m : Int)) (hy : a.eval y = .int .i64 (n : Int)) : (execOp a.eval o).run P w = .ok (.value (.int .i64 ((m * n : Nat) : Int))) w := by
 have hc : (binOp .mul t (.int .i64 (m : Int)) (.int .i64 (n : Int))).run P w = .ok (.int .i64 ((m * n : Nat) : Int)) w := by
  simp only [binOp, Op.intArith]
  refine congrArg (fun n => Result.ok (Value.int .i64 n) w) ?_
  rw [← Int.natCast_mul]
  exact wrap_i64N _ h
 simp only [execOp, ho, hx, hy]
 simp [eqGuard, hc]
theorem exec_idx {vx vy v : Value} (ho : o.op = .indexAddr t x y) (hx : a.eval x = vx) (hy : a.eval y = vy) (hr : (Instr.indexAt t vx vy).run P w = .ok v w) : (execOp a.eval o).run P w = .ok (.value v) w := by
 simp [execOp, ho, hx, hy, hr]
theorem run_idxArr {e : TypeId} {k : Nat} (ht : P.underlying t = some (.array k e)) (hs : (P.info? e).map (·.size) = some 1) (g b i : Nat) (h : i < k) : (Instr.indexAt t (.pointer (some ⟨g, b, none⟩)) (.int .i64 (i : Int))).run P w = .ok (.pointer (some ⟨g, b + i, none⟩)) w := by
 have hl : P.arrayLen t = k := by simp [Program.arrayLen, ht]
 have he : P.elem t = e := by simp [Program.elem, ht]
 have h0 : (0 : Int) ≤ (i : Int) := by omega
 have h1 : (i : Int) < (k : Int) := by omega
 cases hq : P.info? e with
 | none => simp [hq] at hs
 | some j =>
  have hj : j.size = 1 := by simpa [hq] using hs
  rw [run_indexAt_array w t _ _ _ (by rw [hl, he]; exact ht)]
  rw [hl, he]
  simp [h0, h1, sizeOf, typeInfo, hq, hj]
  first | rfl | simp [Addr.add]
end
end Go.Agg
/-! tree.named: whether kids' names are right. -/
namespace Go.Tr
def lastN (b : Option (List UInt8)) : List K → Option (List UInt8)
 | [] => b
 | (n, _) :: l => lastN (some n) l
def nameOk (b : Option (List UInt8)) (n : List UInt8) : Bool := Pl.isName n && (match b with | none => true | some c => Op.bytesLess c n)
theorem named_snoc : ∀ (l : List K) (b : Option (List UInt8)) (x : K), named b (l ++ [x]) = (named b l && nameOk (lastN b l) x.1)
 | [], b, x => by obtain ⟨n, t⟩ := x; cases b <;> simp [named, lastN, nameOk]
 | (n, t) :: l, b, x => by simp only [List.cons_append, named, lastN, named_snoc l (some n) x, Bool.and_assoc]
theorem named_more : ∀ (l m : List K) (b : Option (List UInt8)), named b l = false → named b (l ++ m) = false
 | [], m, b, h => by simp [named] at h
 | (n, t) :: l, m, b, h => by
  simp only [List.cons_append, named] at h ⊢
  cases h1 : named (some n) l with
  | false => rw [named_more l m (some n) h1, Bool.and_false]
  | true => rw [h1, Bool.and_true] at h; rw [h, Bool.false_and]
theorem named_take {l : List K} {k : Nat} (h : named none (l.take k) = false) : named none l = false := by
 have := named_more (l.take k) (l.drop k) none h
 rwa [List.take_append_drop] at this
theorem lastN_snoc : ∀ (l : List K) (b : Option (List UInt8)) (x : K), lastN b (l ++ [x]) = some x.1
 | [], b, x => rfl
 | (n, t) :: l, b, x => by simp only [List.cons_append, lastN, lastN_snoc l (some n) x]
theorem lastN_take {l : List K} {k : Nat} {y : K} (hk : 0 < k) (h : l[k - 1]? = some y) : lastN none (l.take k) = some y.1 := by
 obtain ⟨j, rfl⟩ : ∃ j, k = j + 1 := ⟨k - 1, by omega⟩
 rw [take_succ' (by simpa using h), lastN_snoc]
end Go.Tr
namespace Go.Proofs.YtfiadgdinhmgbaaDoor
open Go.RowKit Pl Go.Agg Go.Tr
theorem nameD (s : List UInt8) {b : Bool} (hb : isName s = b) (w : World) :
  Calls Tryd.prog 62 #[.string ⟨s.toArray⟩] w fun e w' => e = .returned (.bool b) ∧ Below w.heap.size w w' := by
 subst hb
 exact name_any s w
theorem i64_predK (n : Nat) (h0 : 0 < n) (h : n ≤ 1048576) : IntKind.i64.wrap ((n : Int) - 1) = ((n - 1 : Nat) : Int) := by
 rw [IntKind.wrap_i64]; omega
theorem KdL.of_blk {w : World} {g : Nat} {y : KdV} (h : Blk w g 51 (kdC y)) : KdL w ⟨g, 0, none⟩ y :=
 KdL.of_cells h.lt (fun j u hj => by rw [add_plain, Nat.zero_add, h.cell]; exact hj)
def NmsAre : List KdV → List K → Prop
 | [], [] => True
 | y :: ks, (n, _) :: l => y.1 = n ∧ NmsAre ks l
 | _, _ => False
theorem KidsV.nms {w : World} : ∀ {ks : List KdV} {l : List K}, KidsV w ks l → NmsAre ks l
 | [], [], _ => trivial
 | _ :: _, (_, _) :: _, h => ⟨h.1, h.2.2.nms⟩
 | [], _ :: _, h => h.elim
 | _ :: _, [], h => h.elim
theorem NmsAre.len : ∀ {ks : List KdV} {l : List K}, NmsAre ks l → ks.length = l.length
 | [], [], _ => rfl
 | _ :: _, (_, _) :: _, h => by simp [NmsAre.len h.2]
 | [], _ :: _, h => h.elim
 | _ :: _, [], h => h.elim
theorem NmsAre.at_ : ∀ {ks : List KdV} {l : List K} (k : Nat) (x : K), NmsAre ks l → l[k]? = some x → ∃ y, ks[k]? = some y ∧ y.1 = x.1
 | [], [], _, _, _, h => by simp at h
 | y :: _, (n, t) :: _, 0, x, h, hx => by
  simp only [List.getElem?_cons_zero, Option.some.injEq] at hx
  subst hx
  exact ⟨y, rfl, h.1⟩
 | _ :: _, (_, _) :: _, k + 1, x, h, hx => by
  simp only [List.getElem?_cons_succ] at hx ⊢
  exact NmsAre.at_ k x h.2 hx
 | [], _ :: _, _, _, h, _ => h.elim
 | _ :: _, [], _, _, h, _ => h.elim
set_option maxRecDepth 100000 in
set_option maxHeartbeats 8000000 in
theorem named_any (v : Value) (ks : List KdV) (l : List K) (hl : l.length ≤ 1048576) (w : World) (hs : SliceOf EK w v ks) (hn : NmsAre ks l) :
  Calls Tryd.prog 94 #[v] w fun e w' => e = .returned (.bool (named none l)) ∧ Below w.heap.size w w' := by
 have hlen := hn.len
 have hlk := kds_len hs
 rw [hlen] at hlk
 have HS := Lib.hid hs
 have HN := Lib.hid hn
 clear hs hn
 go_enter Tryd.func94, Tryd.ntmps94
 go_wp2_with fail
 go_loopw [7] (fun i wr => ∃ k : Nat, k ≤ l.length ∧ i = .int .i64 (k : Int) ∧ named none (l.take k) = true ∧ Below w.heap.size w wr) (fun i _ => l.length - (intOf i).toNat)
 case atStart => exact ⟨0, by omega, rfl, rfl, Below.refl _ _⟩
 case round =>
  obtain ⟨w2, rfl⟩ : ∃ w2 : World, w2 = wr := ⟨_, rfl⟩
  obtain ⟨k, hk, rfl, hnm, hx⟩ := hrel
  have HNM := Lib.hid hnm
  have HX := Lib.hid hx
  have HSX := Lib.hid (HS.out.below hx)
  clear hnm hx
  by_cases hlt : k < l.length
  ·have hd : decide ((k : Int) < (l.length : Int)) = true := by simp <;> omega
   obtain ⟨x, hxk⟩ : ∃ x, l[k]? = some x := ⟨_, List.getElem?_eq_getElem hlt⟩
   obtain ⟨y, hyk, hyx⟩ := HN.out.at_ k x hxk
   obtain ⟨p, hadr, hle⟩ := kid_at HSX.out k y hyk
   have HE := Lib.hid hle.all
   have HSN := Lib.hid (show named none (l.take (k + 1)) = (named none (l.take k) && nameOk (lastN none (l.take k)) x.1) by rw [take_succ' hxk, named_snoc])
   have HYX := Lib.hid hyx
   clear hle hyx hxk hyk
   go_wp2_with (first | (with_reducible refine wpList_loadL HE.out rfl _ rfl rfl ?_) | (refine Agg.wpList_zero rfl 51 rfl (kdC kdZ) kd_zero ?_; intro g3 wz hb hx hg; have HKZ := Lib.hid hb; have HXZ := Lib.hid hx; have HGZ := Lib.hid hg; have HE := Lib.hid (HE.out.below hx); clear hb hx hg) | (refine Agg.wpList_put rfl rfl 51 _ _ rfl g3 (kdC y) (kdC kdZ) rfl rfl HKZ.out (kd_info y) rfl (kdC_one y) ?_; intro w3 hb hx hs hk; have HK3 := Lib.hid (KdL.of_blk hb); have HX3 := Lib.hid (belowThen HX.out (Nat.le_refl _) (HXZ.out.trans (hx.mono HGZ.out))); have HS3 := Lib.hid (HSX.out.below (HXZ.out.trans (hx.mono HGZ.out))); clear hb hx hs hk))
   have HBAD : Hid (nameOk (lastN none (l.take k)) x.1 = false → named none l = false) := Lib.hid (fun h => named_take (k := k + 1) (by rw [HSN.out, h, Bool.and_false]))
   have HNX : Hid (nameOk (lastN none (l.take k)) x.1 = true → named none (l.take (k + 1)) = true) := Lib.hid (fun h => by rw [HSN.out, h, HNM.out]; rfl)
   clear hadr
   cases hnx : isName x.1 with
   | false =>
    have HR := Lib.hid (HBAD.out (by simp [nameOk, hnx]))
    have HC := Lib.hid (fun W => nameD y.1 (b := false) (by rw [HYX.out]; exact hnx) W)
    clear hnx
    try simp only [Act.put, List.setIfInBounds_toArray, List.set_cons_succ, List.set_cons_zero]
    refine wp_region_later_lit (by kernel_rfl) (by kernel_rfl) ?_
    repeat (first | go_big_quiet_skip | ((first | (with_reducible refine wpQuiet_loadL HK3.out.name rfl _ rfl rfl ?_)); simp only [Act.put, List.setIfInBounds_toArray, List.set_cons_succ, List.set_cons_zero]) | go_big_quiet_step (first | (go_at_call 62; first | (with_reducible exact Calls.later (HC.out _)))))
    refine wpQuiet_nil ?_
    intro _ hw'
    obtain ⟨x1, rfl⟩ := hw'
    go_wp2_with fail
    go_ret
    exact ⟨ret_bool HR.out.symm, belowThen HX3.out (Nat.le_refl _) x1.h⟩
   | true =>
    have HC := Lib.hid (fun W => nameD y.1 (b := true) (by rw [HYX.out]; exact hnx) W)
    by_cases hk0 : k = 0
    ·have hkd : decide (0 < (k : Int)) = false := by simp <;> omega
     have HG := Lib.hid (HNX.out (by subst hk0; simp [nameOk, hnx, lastN]))
     clear hnx
     try simp only [Act.put, List.setIfInBounds_toArray, List.set_cons_succ, List.set_cons_zero]
     refine wp_region_later_lit (by kernel_rfl) (by kernel_rfl) ?_
     repeat (first | go_big_quiet_skip | ((first | (with_reducible refine wpQuiet_loadL HK3.out.name rfl _ rfl rfl ?_)); simp only [Act.put, List.setIfInBounds_toArray, List.set_cons_succ, List.set_cons_zero]) | go_big_quiet_step (first | (go_at_call 62; first | (with_reducible exact Calls.later (HC.out _)))))
     refine wpQuiet_nil ?_
     intro _ hw'
     obtain ⟨x1, rfl⟩ := hw'
     have hx6 := belowThen HX3.out (Nat.le_refl _) x1.h
     go_wp2_with fail
     go_roundw
     case rel => exact ⟨k + 1, by omega, by go_num, HG.out, hx6⟩
     case measure => simp [intOf]; omega
    ·have hkd : 0 < k := by omega
     have hkd2 : decide (0 < k) = true := by simpa using hkd
     obtain ⟨z, hzk⟩ : ∃ z, l[k - 1]? = some z := ⟨_, List.getElem?_eq_getElem (by omega)⟩
     obtain ⟨u, huk, huz⟩ := HN.out.at_ (k - 1) z hzk
     obtain ⟨q, hadq, hlq⟩ := kid_at HS3.out (k - 1) u huk
     have hlz := lastN_take hkd hzk
     have HQ := Lib.hid hlq.name
     have hwr := i64_predK k (by omega) (by omega)
     cases hbl : Op.bytesLess z.1 x.1 with
     | false =>
      have HR := Lib.hid (HBAD.out (by rw [hlz]; simp [nameOk, hbl]))
      have HGE := Lib.hid (show (!Op.bytesLess u.1 y.1) = true by rw [huz, HYX.out, hbl]; rfl)
      clear hnx hbl hlq huk huz hlz
      try simp only [Act.put, List.setIfInBounds_toArray, List.set_cons_succ, List.set_cons_zero]
      refine wp_region_later_lit (by kernel_rfl) (by kernel_rfl) ?_
      repeat (first | go_big_quiet_skip | ((first | (with_reducible refine wpQuiet_loadL HK3.out.name rfl _ rfl rfl ?_) | (with_reducible refine wpQuiet_loadL HQ.out rfl _ rfl rfl ?_) | (with_reducible refine wpQuiet_geqS rfl rfl rfl rfl true HGE.out ?_)); simp only [Act.put, List.setIfInBounds_toArray, List.set_cons_succ, List.set_cons_zero]) | go_big_quiet_step (first | (go_at_call 62; first | (with_reducible exact Calls.later (HC.out _)))))
      refine wpQuiet_nil ?_
      intro _ hw'
      obtain ⟨x1, rfl⟩ := hw'
      go_wp2_with fail
      go_ret
      exact ⟨ret_bool HR.out.symm, belowThen HX3.out (Nat.le_refl _) x1.h⟩
     | true =>
      have HG := Lib.hid (HNX.out (by rw [hlz]; simp [nameOk, hnx, hbl]))
      have HGE := Lib.hid (show (!Op.bytesLess u.1 y.1) = false by rw [huz, HYX.out, hbl]; rfl)
      clear hnx hbl hlq huk huz hlz
      try simp only [Act.put, List.setIfInBounds_toArray, List.set_cons_succ, List.set_cons_zero]
      refine wp_region_later_lit (by kernel_rfl) (by kernel_rfl) ?_
      repeat (first | go_big_quiet_skip | ((first | (with_reducible refine wpQuiet_loadL HK3.out.name rfl _ rfl rfl ?_) | (with_reducible refine wpQuiet_loadL HQ.out rfl _ rfl rfl ?_) | (with_reducible refine wpQuiet_geqS rfl rfl rfl rfl false HGE.out ?_)); simp only [Act.put, List.setIfInBounds_toArray, List.set_cons_succ, List.set_cons_zero]) | go_big_quiet_step (first | (go_at_call 62; first | (with_reducible exact Calls.later (HC.out _)))))
      refine wpQuiet_nil ?_
      intro _ hw'
      obtain ⟨x1, rfl⟩ := hw'
      have hx6 := belowThen HX3.out (Nat.le_refl _) x1.h
      go_wp2_with fail
      go_roundw
      case rel => exact ⟨k + 1, by omega, by go_num, HG.out, hx6⟩
      case measure => simp [intOf]; omega
  ·obtain rfl : k = l.length := by omega
   have hd1 : decide (((l.length : Nat) : Int) < ((l.length : Nat) : Int)) = false := by simp
   have HR := Lib.hid (show named none l = true by have := HNM.out; rwa [List.take_length] at this)
   go_wp2_with fail
   go_ret
   exact ⟨ret_bool HR.out.symm, HX.out⟩
end Go.Proofs.YtfiadgdinhmgbaaDoor
/-! One cell of a block written. -/
namespace Go.Agg
open Go.RowKit
variable {P : Program}
theorem Blk.set {w : World} {g : Nat} {t : TypeId} {cs : Array Value} (h : Blk w g t cs) (i : Nat) (v : Value) : Blk (w.setCell ⟨g, i, none⟩ v) g t (cs.setIfInBounds i v) := by
 unfold Blk at *
 simp [World.setCell, Array.getElem?_modify, h]
theorem Blk.run_put {w : World} {g : Nat} {t ty : TypeId} {cs : Array Value} (h : Blk w g t cs) (i : Nat) (hi : i < cs.size) (v : Value) (hv : v.cells = #[v]) (h1 : v.oneCell' = true) (hs : (P.info? ty).map (·.size) = some 1) :
  (Instr.storeAt ty (.pointer (some ⟨g, i, none⟩)) v).run P w = .ok () (w.setCell ⟨g, i, none⟩ v) := by
 have hst := run_storeCells_cells (P := P) g i v.cells.toList 0 w (fun j hj => by
  rw [hv] at hj
  obtain rfl : j = 0 := by simpa using hj
  rw [h.cell]
  simp [hi]) (fun j _ => frozen_of_row _ _ _ _ _ h) (by rw [hv]; simpa using h1)
 have hsz : (Go.sizeOf ty).run P w = .ok 1 w := by
  cases hq : P.info? ty with
  | none => simp [hq] at hs
  | some d =>
   have : d.size = 1 := by simpa [hq] using hs
   simp [Go.sizeOf, typeInfo, hq, this]
 rw [hv] at hst
 simp only [Nat.add_zero, World.setCells] at hst
 simp [Instr.storeAt, Instr.sureAddr, storeVar, hsz, hv, hst]
end Go.Agg
/-! A row of cells stored into the middle of a block. -/
namespace Go.Agg
open Go.RowKit
variable {P : Program}
def setAll (cs : Array Value) : Nat → List Value → Array Value
 | _, [] => cs
 | i, v :: vs => setAll (cs.setIfInBounds i v) (i + 1) vs
theorem Blk.setAll {g : Nat} {t : TypeId} : ∀ (vs : List Value) (i : Nat) (w : World) (cs : Array Value), Blk w g t cs → Blk (w.setCells g i vs) g t (Agg.setAll cs i vs)
 | [], _, _, _, h => h
 | v :: vs, i, _, _, h => Blk.setAll vs (i + 1) _ _ (h.set i v)
theorem setAll_mid : ∀ (vs a b c : List Value), b.length = vs.length → setAll (a ++ (b ++ c)).toArray a.length vs = (a ++ (vs ++ c)).toArray
 | [], a, b, c, h => by
  obtain rfl := List.length_eq_zero_iff.1 h
  rfl
 | v :: vs, a, [], c, h => by simp at h
 | v :: vs, a, y :: b, c, h => by
  have e : (a ++ (y :: b ++ c)).toArray.setIfInBounds a.length v = ((a ++ [v]) ++ (b ++ c)).toArray := by simp
  have h1 := setAll_mid vs (a ++ [v]) b c (by simpa using h)
  rw [setAll, e, show a.length + 1 = (a ++ [v]).length by simp, h1]
  simp
theorem Blk.run_row {w : World} {g : Nat} {t ty : TypeId} (a b c ds : Array Value) (h : Blk w g t (a ++ (b ++ c))) (hb : b.size = ds.size) (hs : (P.info? ty).map (·.size) = some ds.size) (h1 : ds.all (·.oneCell') = true) {i : Nat} (hi : i = a.size) :
  ∃ w', (Instr.storeAt ty (.pointer (some ⟨g, i, none⟩)) (.agg ds)).run P w = .ok () w' ∧ Blk w' g t (a ++ (ds ++ c)) ∧ Only (· = g) w w' := by
 subst hi
 refine ⟨_, run_storeAt_mid w g a.size ty ds (fun j hj => ⟨?_, frozen_of_row _ _ _ _ _ h⟩) hs h1, ?_, only_setCells _ _ _ _⟩
 ·rw [h.cell]
  simp
  omega
 ·have h2 := h.setAll ds.toList a.size
  have e := setAll_mid ds.toList a.toList b.toList c.toList (by simpa using hb)
  have e1 : (a.toList ++ (b.toList ++ c.toList)).toArray = a ++ (b ++ c) := by apply Array.ext'; simp
  have e2 : (a.toList ++ (ds.toList ++ c.toList)).toArray = a ++ (ds ++ c) := by apply Array.ext'; simp
  rw [e1, e2, Array.length_toList] at e
  rw [← e]
  exact h2
theorem Blk.run_one {w : World} {g : Nat} {t ty : TypeId} {cs : Array Value} (h : Blk w g t cs) (i : Nat) (hi : i < cs.size) (v : Value) (hv : v.cells = #[v]) (h1 : v.oneCell' = true) (hs : (P.info? ty).map (·.size) = some 1) (ds : Array Value) (he : cs.setIfInBounds i v = ds) :
  ∃ w', (Instr.storeAt ty (.pointer (some ⟨g, i, none⟩)) v).run P w = .ok () w' ∧ Blk w' g t ds ∧ Only (· = g) w w' := by
 subst he
 exact ⟨_, h.run_put i hi v hv h1 hs, h.set i v, rfl, rfl, rfl, by simp [World.setCell], fun k _ hk => Below.heap_setCell _ _ _ _ hk⟩
end Go.Agg
/-! Operations of a region that draws: a store, a copy of bytes, literals. -/
namespace Go.Agg
open Go.RowKit
variable {P : Program}
section
variable {ops : Array Oper} {o : Oper} {a : Act} {w : World} {Q : Exit → Act → World → Prop} {K : Act → World → Prop} {F : Prop}
theorem step_store {w' : World} (hg : o.guard = none) (hd : o.dst = none) (ty : TypeId) (x y : Operand) (ho : o.op = .store ty x y) (p v : Value) (hx : a.eval x = p) (hy : a.eval y = v)
  (hrun : (Instr.storeAt ty p v).run P w = .ok () w') (h : K a w') : if Region.wanted o (yielded ops a.tmps) = true then o.wp P a w K Q else F := by
 rw [if_pos (by simp [Region.wanted, hg])]
 unfold Oper.wp
 have : (execOp a.eval o).run P w = .ok .skip w' := by simp [execOp, ho, hx, hy, hrun]
 rw [this, Oper.upon_skip, hd]
 exact h
theorem step_val {v : Value} {w' : World} (hg : o.guard = none) (hrun : (execOp a.eval o).run P w = .ok (.value v) w') (h : K (a.put o.dst v) w') : if Region.wanted o (yielded ops a.tmps) = true then o.wp P a w K Q else F := by
 rw [if_pos (by simp [Region.wanted, hg])]
 unfold Oper.wp
 rw [hrun]
 exact h
theorem step_slice1 {α : Type} {E : Elem P α} (hg : o.guard = none) (y : Operand) (ho : o.op = .buildSlice E.st 1 #[(0, y)]) (x : α) (hy : a.eval y = E.val x)
  (h : ∀ v' w', Own E w.heap.size w' v' [x] → Below w.heap.size w w' → K (a.put o.dst v') w') : if Region.wanted o (yielded ops a.tmps) = true then o.wp P a w K Q else F := by
 refine step_val hg (v := .slice (some ⟨w.heap.size, 0, none⟩) 1 1) (w' := w.alloc (.cells (E.val x).cells E.ty)) (by simp [execOp, ho, hy, run_slice_one]) (h _ _ ?_ ((Below.refl _ _).alloc (Nat.le_refl _) _))
 have hs := E.size x
 refine ⟨by rw [E.flat_one, E.cs_length]; simp, .inr ⟨_, 1, _, rfl, Nat.le_refl _, heap_alloc_new w _, Nat.le_refl _, by simp [maxLen], by rw [hs]; simp, ?_⟩⟩
 rw [E.flat_one, Elem.cs, List.take_of_length_le (by rw [Array.length_toList, hs]; simp)]
theorem step_box (hg : o.guard = none) (ty : TypeId) (x : Operand) (ho : o.op = .box ty x) (cs : Array Value) (hx : a.eval x = .agg cs)
  (h : ∀ g w', Blk w' g ty cs → Below w.heap.size w w' → w.heap.size ≤ g → K (a.put o.dst (.pointer (some ⟨g, 0, none⟩))) w') : if Region.wanted o (yielded ops a.tmps) = true then o.wp P a w K Q else F :=
 step_val hg (v := .pointer (some ⟨w.heap.size, 0, none⟩)) (w' := w.alloc (.cells cs ty)) (by simp [execOp, ho, hx, Instr.box, newVar, newRow, Value.cells]) (h _ _ (Blk.new w ty cs) ((Below.refl _ _).alloc (Nat.le_refl _) _) (Nat.le_refl _))
end
end Go.Agg
namespace Go.Proofs.YtfiadgdinhmgbaaDoor
open Go.RowKit Pl Go.Agg
theorem flat_bytes (l : List UInt8) : EB.flat l = Lib.byteCells l := by
 simp only [Elem.flat, Lib.byteCells]
 induction l with
 | nil => rfl
 | cons c t ih =>
  rw [List.flatMap_cons, ih]
  rfl
theorem run_copyB {w : World} {g n : Nat} {t : TypeId} {cur : List Value} {u : Value} {l : List UInt8} (ty : TypeId) (hu : SliceOf EB w u l) (hb : Blk w g t cur.toArray) (hn : cur.length = n) (hl : l.length ≤ n) :
  ∃ w', (Builtin.copy_ #[23, 23] ty #[.slice (some ⟨g, 0, none⟩) n n, u]).run Tryd.prog w = .ok (goInt l.length) w' ∧ Blk w' g t (Lib.byteCells l ++ cur.drop l.length).toArray ∧ Only (· = g) w w' := by
 have hund : Tryd.prog.underlying 23 = some (.slice 5) := by kernel_rfl
 have hsz : (Tryd.prog.info? 5).map (·.size) = some 1 := by kernel_rfl
 have hc : (Lib.byteCells l).length = l.length := by simp [Lib.byteCells]
 by_cases h0 : l.length = 0
 ·obtain rfl : l = [] := List.length_eq_zero_iff.1 h0
  obtain ⟨p, c, hf⟩ := hu.form
  subst hf
  exact ⟨w, run_copy_none w _ _ _ 5 _ _ _ _ _ _ hund hsz (by simp), by simpa [Lib.byteCells] using hb, Only.refl _ _⟩
 ·rcases hu with ⟨_, _, _, h1⟩ | ⟨q, c, rfl, hq, hcell⟩
  ·exact absurd (by simp [h1]) h0
  ·rw [flat_bytes] at hcell
   have hrun := run_copy_row (P := Tryd.prog) w 23 23 ty 5 g 0 n n q l.length c cur.toArray t (Lib.byteCells l) hund hsz hb (by rw [hc]; exact (Nat.min_eq_left hl).symm) hcell (by simp [hc]; omega)
    (fun v hv => by
     simp only [Lib.byteCells, List.mem_map] at hv
     obtain ⟨b, _, rfl⟩ := hv
     rfl)
   rw [hc] at hrun
   refine ⟨_, hrun, ?_, rfl, rfl, rfl, by simp [World.setRow], fun k _ hk => setRow_other w g k _ hk⟩
   have h1 := setRow_heap w g cur.toArray (List.take 0 cur.toArray.toList ++ Lib.byteCells l ++ List.drop (0 + l.length) cur.toArray.toList).toArray t _ hb
   refine Eq.trans h1 ?_
   simp
theorem step_copyB {ops : Array Oper} {o : Oper} {a : Act} {w : World} {Q : Exit → Act → World → Prop} {K : Act → World → Prop} {F : Prop} {g n : Nat} {t : TypeId} {cur : List Value} {u : Value} {l : List UInt8} (hg : o.guard = none) (d s : Operand)
  (ho : o.op = .call { callee := .builtin .copy, args := #[d, s], argTypes := #[23, 23] }) (hd : a.eval d = .slice (some ⟨g, 0, none⟩) n n) (hs : a.eval s = u) (hu : SliceOf EB w u l) (hb : Blk w g t cur.toArray) (hn : cur.length = n) (hl : l.length ≤ n)
  (h : ∀ w', Blk w' g t (Lib.byteCells l ++ cur.drop l.length).toArray → Only (· = g) w w' → K (a.put o.dst (goInt l.length)) w') : if Region.wanted o (yielded ops a.tmps) = true then o.wp Tryd.prog a w K Q else F := by
 obtain ⟨w', hrun, h1, h2⟩ := run_copyB o.type hu hb hn hl
 exact step_val hg (by simp [execOp, ho, resolve, invoke, builtin, hd, hs, hrun]) (h w' h1 h2)
end Go.Proofs.YtfiadgdinhmgbaaDoor
