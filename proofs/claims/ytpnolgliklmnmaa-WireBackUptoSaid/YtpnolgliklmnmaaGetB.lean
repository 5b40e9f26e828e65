/- wire.GetReply: what it says, and what holds while it is got. (Several texts in one.) -/
import Derived.Test.YtpnolgliklmnmaaFrames
import Derived.Test.YtpnolgliklmnmaaFramesW
import Derived.Test.YtpnolgliklmnmaaBegin
import Derived.WalkMore
import Derived.Test.YtpnolgliklmnmaaAgg3
import Derived.Test.YtpnolgliklmnmaaRight
import Derived.Test.YtpnolgliklmnmaaEqual
import Derived.Test.YtpnolgliklmnmaaElem
import Derived.Test.YtpnolgliklmnmaaPut1
import Derived.Deep.MidRow
import Derived.Test.YtpnolgliklmnmaaBytes
import Derived.Laws.CopyOwn
import Derived.Deep.RegionLaw
import Derived.Deep.RegionHeld3
import Derived.Test.YtpnolgliklmnmaaWake2
import Derived.StillTail
import Derived.Deep.Quiet
import Derived.Test.YtpnolgliklmnmaaReq2
/-! Numbers out of bytes: the plain law of code.Cursor. -/
namespace Go.Agg
/-- a number at the begin of bytes: how many bytes it has (0: there is none), and what it is -/
def numGo : Nat → Nat → List UInt8 → Nat × Nat
  | _, n, [] => (0, n)
  | k, n, c :: t => if k = 6 then (0, n) else if c.toNat < 128 then (k + 1, n + c.toNat * 128 ^ k) else numGo (k + 1) (n + c.toNat % 128 * 128 ^ k) t
/-- .. taken at once -/
def dec : Nat → List UInt8 → Nat × Nat
  | _, [] => (0, 0)
  | 0, _ :: _ => (0, 0)
  | f + 1, c :: t => if c.toNat < 128 then (1, c.toNat) else if (dec f t).1 = 0 then (0, 0) else ((dec f t).1 + 1, c.toNat % 128 + 128 * (dec f t).2)
theorem numGo_dec : ∀ (l : List UInt8) (k n : Nat), k ≤ 6 → if (dec (6 - k) l).1 = 0 then (numGo k n l).1 = 0 else numGo k n l = (k + (dec (6 - k) l).1, n + (dec (6 - k) l).2 * 128 ^ k) := by
  intro l
  induction l with
  | nil => intro k n _; cases h : 6 - k <;> simp [dec, numGo]
  | cons c t ih =>
    intro k n hk
    by_cases h6 : k = 6
    · subst h6; simp [dec, numGo]
    · have hf : 6 - k = (6 - (k + 1)) + 1 := by omega
      rw [hf]
      simp only [dec, numGo, if_neg h6]
      by_cases hc : c.toNat < 128
      · simp [hc]
      · simp only [if_neg hc]
        have := ih (k + 1) (n + c.toNat % 128 * 128 ^ k) (by omega)
        by_cases h0 : (dec (6 - (k + 1)) t).1 = 0
        · rw [if_pos h0] at this ⊢
          simpa using this
        · rw [if_neg h0] at this
          rw [if_neg h0]
          simp only [if_neg (show ¬ (dec (6 - (k + 1)) t).1 + 1 = 0 by omega)]
          rw [this]
          refine Prod.ext (by show k + 1 + _ = k + (_ + 1); omega) ?_
          show n + c.toNat % 128 * 128 ^ k + (dec (6 - (k + 1)) t).2 * 128 ^ (k + 1) = n + (c.toNat % 128 + 128 * (dec (6 - (k + 1)) t).2) * 128 ^ k
          rw [Nat.pow_succ, Nat.add_mul, ← Nat.add_assoc]
          congr 1
          rw [Nat.mul_comm 128, Nat.mul_assoc, Nat.mul_comm (128 ^ k) 128]
theorem dec_le : ∀ (f : Nat) (l : List UInt8), (dec f l).1 ≤ f ∧ (dec f l).1 ≤ l.length ∧ (dec f l).2 < 128 ^ f := by
  intro f
  induction f with
  | zero => intro l; cases l <;> simp [dec]
  | succ f ih =>
    intro l
    cases l with
    | nil => simp [dec]; exact Nat.pow_pos (by omega)
    | cons c t =>
      obtain ⟨h1, h2, h3⟩ := ih t
      simp only [dec]
      have hp : 0 < 128 ^ f := Nat.pow_pos (by omega)
      rw [Nat.pow_succ]
      split
      · refine ⟨by show 1 ≤ f + 1; omega, by simp, ?_⟩
        show c.toNat < 128 ^ f * 128
        omega
      · split
        · refine ⟨by simp, by simp, ?_⟩
          show 0 < 128 ^ f * 128
          omega
        · refine ⟨by show _ + 1 ≤ _; omega, by show _ + 1 ≤ (c :: t).length; simp only [List.length_cons]; omega, ?_⟩
          show c.toNat % 128 + 128 * (dec f t).2 < 128 ^ f * 128
          have : c.toNat % 128 < 128 := Nat.mod_lt _ (by omega)
          omega
/-- it is the shortest form, just if it is as long as that -/
theorem dec_enc : ∀ (f : Nat) (l : List UInt8), (dec f l).1 ≠ 0 → (encN (dec f l).2).length ≤ (dec f l).1 ∧ ((encN (dec f l).2).length = (dec f l).1 → l.take (dec f l).1 = encN (dec f l).2) := by
  intro f
  induction f with
  | zero => intro l h; cases l <;> simp [dec] at h
  | succ f ih =>
    intro l h
    cases l with
    | nil => simp [dec] at h
    | cons c t =>
      simp only [dec] at h ⊢
      by_cases hc : c.toNat < 128
      · simp only [if_pos hc]
        rw [encN_lt hc]
        simp
      · simp only [if_neg hc] at h ⊢
        by_cases h0 : (dec f t).1 = 0
        · simp [h0] at h
        · simp only [if_neg h0] at h ⊢
          obtain ⟨h1, h2⟩ := ih t h0
          have hc2 := c.toNat_lt
          by_cases hv : (dec f t).2 = 0
          · rw [hv, Nat.mul_zero, Nat.add_zero, encN_lt (Nat.mod_lt _ (by omega))]
            refine ⟨by simp, fun h => ?_⟩
            simp only [List.length_cons, List.length_nil] at h
            omega
          · have hge : 128 ≤ c.toNat % 128 + 128 * (dec f t).2 := by omega
            have hd : (c.toNat % 128 + 128 * (dec f t).2) / 128 = (dec f t).2 := by omega
            have hm : (c.toNat % 128 + 128 * (dec f t).2) % 128 = c.toNat % 128 := by omega
            rw [encN_ge hge, hd, hm]
            refine ⟨by simp only [List.length_cons]; omega, fun h => ?_⟩
            simp only [List.length_cons] at h
            rw [List.take_succ_cons, h2 (by omega)]
            congr 1
            have : c.toNat % 128 + 128 = c.toNat := by omega
            rw [this]
            simp
theorem enc_dec : ∀ (f n : Nat) (y : List UInt8), n < 128 ^ f → 0 < f → dec f (encN n ++ y) = ((encN n).length, n) := by
  intro f
  induction f with
  | zero => intro n y h h0; omega
  | succ f ih =>
    intro n y h _
    by_cases hn : n < 128
    · rw [encN_lt hn]
      have e : (UInt8.ofNat n).toNat = n := by simp; omega
      simp only [List.singleton_append, dec, e, if_pos hn]
      rfl
    · rw [encN_ge (by omega)]
      have e : (UInt8.ofNat (n % 128 + 128)).toNat = n % 128 + 128 := by simp; omega
      have hf : 0 < f := by
        rcases Nat.eq_zero_or_pos f with h0 | h0
        · subst h0; simp at h; omega
        · exact h0
      have := ih (n / 128) y (by rw [Nat.pow_succ] at h; exact Nat.div_lt_of_lt_mul (by rw [Nat.mul_comm]; exact h)) hf
      have hpos : (encN (n / 128)).length ≠ 0 := by rw [encN]; split <;> simp
      simp only [List.cons_append, dec, e, if_neg (show ¬ n % 128 + 128 < 128 by omega), this, if_neg hpos, List.length_cons]
      refine Prod.ext rfl ?_
      show (n % 128 + 128) % 128 + 128 * (n / 128) = n
      omega
/-- a number that is got, and what is left of bytes -/
def getN (most : Nat) (b : List UInt8) : Option (Nat × List UInt8) :=
  if (dec 6 b).1 = 0 ∨ (dec 6 b).1 ≠ (encN (dec 6 b).2).length ∨ 1099511627776 < (dec 6 b).2 ∨ most < (dec 6 b).2 then none else some ((dec 6 b).2, b.drop (dec 6 b).1)
theorem getN_enc {most n : Nat} (h : n ≤ 1099511627776) (hm : n ≤ most) (y : List UInt8) : getN most (encN n ++ y) = some (n, y) := by
  have e := enc_dec 6 n y (by omega) (by omega)
  have hpos : (encN n).length ≠ 0 := by rw [encN]; split <;> simp
  unfold getN
  rw [e, if_neg (by rintro (h | h | h | h) <;> first | exact hpos h | exact h rfl | omega)]
  simp
theorem getN_some {most n : Nat} {b y : List UInt8} (h : getN most b = some (n, y)) : b = encN n ++ y ∧ n ≤ most ∧ n ≤ 1099511627776 := by
  unfold getN at h
  split at h
  · cases h
  · rename_i hc
    have h1 : (dec 6 b).1 ≠ 0 := fun e => hc (.inl e)
    have h2 : (dec 6 b).1 = (encN (dec 6 b).2).length := Decidable.byContradiction fun e => hc (.inr (.inl e))
    obtain ⟨rfl, rfl⟩ : (dec 6 b).2 = n ∧ b.drop (dec 6 b).1 = y := by simpa using h
    have := (dec_enc 6 b h1).2 h2.symm
    exact ⟨by rw [← this, List.take_append_drop], by omega, by omega⟩
end Go.Agg
/-! code.Cursor: fail, length, Num. -/
namespace Go.Proofs.Ytpnolgliklmnmaa
open Go.RowKit Pl Go.Agg
def cuC (v : Value) (e : Nat) : Array Value := #[v, .int .i64 (e : Int)]
theorem restKeepT {base : Nat} {w w' : World} {v : Value} {r : List UInt8} (h : Rest base w v r) (hk : ∀ (g : Nat) (cur : Array Value) (fr : Nat × Nat), w.heap[g]? = some (Obj.cells cur 5 fr) → w'.heap[g]? = some (Obj.cells cur 5 fr)) : Rest base w' v r := by
  rcases h with h | ⟨g, off, cap, cs, rfl, hle, hg, hb, hc⟩
  · exact .inl h
  · exact .inr ⟨g, off, cap, cs, rfl, hle, hg, hk g cs _ hb, hc⟩
/-- a cursor at g: what is left, and what is wrong -/
structure CuV (base g : Nat) (w : World) (v : Value) (r : List UInt8) (e : Nat) : Prop where
  blk : Blk w g 162 (cuC v e)
  rest : Rest base w v r
section
variable {base g : Nat} {w w' : World} {v : Value} {r : List UInt8} {e : Nat}
theorem CuV.load (h : CuV base g w v r e) : LoadsL Try.prog w 23 (some ⟨g, 0, none⟩) v :=
  h.blk.one (P := Try.prog) 0 rfl (by kernel_rfl : Try.prog.underlying 23 = some (.slice 5)) rfl
theorem CuV.err (h : CuV base g w v r e) : LoadsL Try.prog w 28 (some ⟨g, 1, none⟩) (.int .i64 (e : Int)) :=
  h.blk.one (P := Try.prog) 1 rfl Try.underlying28 rfl
theorem CuV.below (h : CuV base g w v r e) (hb : Below w.heap.size w w') : CuV base g w' v r e := ⟨h.blk.below hb, h.rest.below hb⟩
/-- one cell of it written -/
theorem CuV.put (h : CuV base g w v r e) (i : Nat) (hi : i < 2) (u : Value) (hu : u.cells = #[u]) (h1 : u.oneCell' = true) {ty : TypeId} (hs : (Try.prog.info? ty).map (·.size) = some 1) :
    ∃ w', (Instr.storeAt ty (.pointer (some ⟨g, i, none⟩)) u).run Try.prog w = .ok () w' ∧ Blk w' g 162 ((cuC v e).setIfInBounds i u) ∧ Only (· = g) w w' ∧ (∀ {B : Nat} {x : Value} {l : List UInt8}, Rest B w x l → Rest B w' x l) := by
  refine ⟨_, h.blk.run_put i (by simpa [cuC] using hi) u hu h1 hs, h.blk.set i u, ⟨rfl, rfl, rfl, by simp [World.setCell], fun k _ hk => Below.heap_setCell _ _ _ _ hk⟩, fun {B x l} hr => restKeepT hr fun k cur fr hk => ?_⟩
  rw [Below.heap_setCell _ _ _ _ (by
    show k ≠ g
    rintro rfl
    have hb := h.blk
    unfold Blk at hb
    rw [hk] at hb
    injection hb with hb
    injection hb with _ hb
    exact absurd hb (by decide))]
  exact hk
end
set_option maxRecDepth 100000 in
set_option maxHeartbeats 1000000 in
theorem fail_any (base g : Nat) (v : Value) (r : List UInt8) (e c : Nat) (w : World) (hm : CuV base g w v r e) :
    Calls Try.prog 95 #[.pointer (some ⟨g, 0, none⟩), .int .i64 (c : Int)] w fun x w' => (∃ r, x = .returned r) ∧ CuV base g w' (.slice none 0 0) [] (if e = 0 then c else e) ∧ Only (· = g) w w' := by
  have HE := Lib.hid hm.err
  have HM := Lib.hid hm
  clear hm
  by_cases h0 : e = 0
  · subst h0
    obtain ⟨w1, hrun1, hb1, ho1, hr1⟩ := HM.out.put (ty := 28) 1 (by omega) (.int .i64 (c : Int)) rfl rfl (by kernel_rfl)
    have hm1 : CuV base g w1 v r c := ⟨hb1, hr1 HM.out.rest⟩
    obtain ⟨w2, hrun2, hb2, ho2, _⟩ := hm1.put (ty := 23) 0 (by omega) (.slice none 0 0) rfl rfl (by kernel_rfl)
    have HO := Lib.hid (ho1.trans ho2 fun _ _ h => h)
    have HB := Lib.hid hb2
    clear hb1 ho1 hr1 hm1 hb2 ho2
    go_enter Try.func95, Try.ntmps95
    go_wp2_with (first | (with_reducible refine Agg.wpList_loadL HE.out rfl _ rfl rfl ?_) | (refine Agg.wpList_store rfl rfl 28 _ _ rfl (.pointer (some ⟨g, 1, none⟩)) _ rfl rfl hrun1 ?_) | (refine Agg.wpList_store rfl rfl 23 _ _ rfl (.pointer (some ⟨g, 0, none⟩)) _ rfl rfl hrun2 ?_))
    refine bodyPost_end (results_none rfl _ _ _) rfl ?_
    exact ⟨⟨_, rfl⟩, ⟨HB.out, .inl ⟨rfl, rfl⟩⟩, HO.out⟩
  · obtain ⟨w2, hrun2, hb2, ho2, _⟩ := HM.out.put (ty := 23) 0 (by omega) (.slice none 0 0) rfl rfl (by kernel_rfl)
    have hq : ((e : Int) == 0) = false := by simp [h0]
    have HH := Lib.hid h0
    have HO := Lib.hid ho2
    have HB := Lib.hid hb2
    clear hb2 ho2 h0
    go_enter Try.func95, Try.ntmps95
    go_wp2_with (first | (with_reducible refine Agg.wpList_loadL HE.out rfl _ rfl rfl ?_) | (refine Agg.wpList_store rfl rfl 23 _ _ rfl (.pointer (some ⟨g, 0, none⟩)) _ rfl rfl hrun2 ?_))
    refine bodyPost_end (results_none rfl _ _ _) rfl ?_
    exact ⟨⟨_, rfl⟩, ⟨HB.out, .inl ⟨rfl, rfl⟩⟩, HO.out⟩
set_option maxRecDepth 100000 in
set_option maxHeartbeats 1000000 in
theorem length_any (n : Nat) (w : World) (hn : n < 4398046511104) :
    Calls Try.prog 94 #[.int .u64 (n : Int)] w fun e w' => e = .returned (.int .i64 ((encN n).length : Int)) ∧ w' = w := by
  go_enter Try.func94, Try.ntmps94
  go_wp2_with fail
  go_loopw [0, 3] (fun x m wr => ∃ k j : Nat, x = .int .u64 (k : Int) ∧ m = .int .i64 (j : Int) ∧ k < 4398046511104 ∧ j ≤ 100 ∧ j + (encN k).length = (encN n).length + 1 ∧ wr = w) (fun x _ _ => (intOf x).toNat)
  case atStart => exact ⟨n, 1, rfl, rfl, hn, by omega, by omega, rfl⟩
  case round =>
    obtain ⟨k, j, rfl, rfl, hk, hj, heq, rfl⟩ := hrel
    have h7 : (encN n).length ≤ 6 := encN_len' 6 n (by omega) (by omega)
    have hpos : 0 < (encN k).length := by rw [encN]; split <;> simp
    by_cases hlt : 128 ≤ k
    · have hI : (128 : Int) ≤ (k : Int) := by omega
      have hE := encN_ge hlt
      have HE := Lib.hid (show j + 1 + (encN (k / 128)).length = (encN n).length + 1 by rw [hE] at heq; simp only [List.length_cons] at heq; omega)
      have hj6 : j ≤ 6 := by omega
      clear hE heq hpos
      go_wp2_with fail
      go_roundw
      case rel => exact ⟨k / 128, j + 1, by go_num, by go_num, by omega, by omega, HE.out, trivial⟩
      case measure => simp [intOf]; omega
    · have hI : ¬ (128 : Int) ≤ (k : Int) := by omega
      have hj2 : (j : Int) = ((encN n).length : Int) := by rw [encN_lt (by omega)] at heq; simp only [List.length_cons, List.length_nil] at heq; omega
      have HJ := Lib.hid hj2
      clear hj2 heq hpos
      go_wp2_with fail
      go_ret
      exact ⟨by rw [← HJ.out]; rfl, rfl⟩
end Go.Proofs.Ytpnolgliklmnmaa
/-! code.Cursor.Num. -/
namespace Go.Proofs.Ytpnolgliklmnmaa
open Go.RowKit Pl Go.Agg
theorem runLow (p : Option Addr) (n c k : Nat) (hk : k ≤ n) (W : World) : (Instr.sliceAt 23 (.slice p n c) (some (.int .i64 (k : Int))) none none).run Try.prog W = .ok (.slice (if c = k then p else p.map (·.add k)) (n - k) (c - k)) W := by
  have hu : Try.prog.underlying 23 = some (.slice 5) := by kernel_rfl
  simp [Instr.sliceAt, Instr.slice, Instr.sliceBounds, Instr.sliceBound, run_underlying hu, Sem.run_bind, asIntOf]
  intro h
  omega
/-- the rest of a rest -/
theorem rest_low {base : Nat} {w : World} {v : Value} {r : List UInt8} (h : Rest base w v r) (k : Nat) (hk : k ≤ r.length) :
    ∃ vx, (∀ W, (Instr.sliceAt 23 v (some (.int .i64 (k : Int))) none none).run Try.prog W = .ok vx W) ∧ Rest base w vx (r.drop k) ∧ vx.cells = #[vx] ∧ vx.oneCell' = true := by
  have h' := h
  rcases h with ⟨rfl, rfl⟩ | ⟨g, off, cap, cs, rfl, hle, hg, hb, hsz, hc⟩
  · obtain rfl : k = 0 := by simpa using hk
    exact ⟨_, fun W => runLow _ _ _ 0 (by omega) W, by simpa using h', rfl, rfl⟩
  · refine ⟨_, fun W => runLow _ _ _ k hk W, ?_, rfl, rfl⟩
    by_cases hck : cap = k
    · rw [if_pos hck, show r.length - k = 0 by omega, show cap - k = 0 by omega]
      exact h'.empty (List.drop_eq_nil_of_le (by omega))
    · rw [if_neg hck]
      have := h'.drop k hk
      have e : (some (⟨g, off, none⟩ : Addr)).map (·.add k) = some ⟨g, off + k, none⟩ := by rw [Option.map_some, add_plain]
      rw [e]
      exact this
theorem or_shift (N x k : Nat) (hx : x < 128) (hN : N < 128 ^ k) (hk : k ≤ 5) : bits .or .u64 (N : Int) (IntKind.u64.wrap ((x : Int) * 2 ^ (7 * k))) = ((N + x * 128 ^ k : Nat) : Int) := by
  have e : 128 ^ k = 2 ^ (7 * k) := by rw [Nat.pow_mul]
  have h5 : 2 ^ (7 * k) ≤ 2 ^ 35 := Nat.pow_le_pow_right (by omega) (by omega)
  have hp : x * 2 ^ (7 * k) ≤ 128 * 2 ^ 35 := Nat.mul_le_mul (by omega) h5
  have e2 : (x : Int) * 2 ^ (7 * k) = ((x * 2 ^ (7 * k) : Nat) : Int) := by push_cast; rfl
  rw [e] at hN
  rw [e2, IntKind.wrap_u64, Int.emod_eq_of_lt (by omega) (by omega), u64_or_nat _ _ (by omega) (by omega), e, Nat.or_comm, Nat.mul_comm, ← Nat.two_pow_add_eq_or_of_lt hN, Nat.add_comm]
theorem andNot128 (b : UInt8) : bits .andNot .u8 (b.toNat : Int) 128 = ((b.toNat % 128 : Nat) : Int) := by
  have h : ∀ m : Nat, m < 256 → bits .andNot .u8 (m : Int) 128 = ((m % 128 : Nat) : Int) := by decide +kernel
  exact h _ b.toNat_lt
/-- what Num answers -/
def CNum (base g most : Nat) (r : List UInt8) (e : Nat) (x : Ending) (w' : World) : Prop :=
  (∃ n y v', getN most r = some (n, y) ∧ x = .returned (.int .i64 (n : Int)) ∧ CuV base g w' v' y e) ∨
  (getN most r = none ∧ x = .returned (.int .i64 0) ∧ CuV base g w' (.slice none 0 0) [] (if e = 0 then 4 else e))
set_option maxRecDepth 100000 in
set_option maxHeartbeats 4000000 in
theorem cnum_any (base g most : Nat) (v : Value) (r : List UInt8) (e : Nat) (w : World) (hr : r.length ≤ 16777216) (hmo : most ≤ 1099511627776) (hm : CuV base g w v r e) :
    Calls Try.prog 55 #[.pointer (some ⟨g, 0, none⟩), .int .i64 (most : Int)] w fun x w' => CNum base g most r e x w' ∧ Only (· = g) w w' := by
  have hlr := fun W => bytes_len hm.rest.slice W
  have HM := Lib.hid hm
  clear hm
  go_enter Try.func55, Try.ntmps55
  go_wp2_with fail
  go_step3
  go_wp2_with (first | (with_reducible refine Agg.wpList_loadL HM.out.load rfl _ rfl rfl ?_))
  go_step3
  go_wp2_with (first | (with_reducible refine Agg.wpList_loadL HM.out.load rfl _ rfl rfl ?_))
  go_loopw [5, 6, 16] (fun n m i wr => ∃ k N : Nat, k ≤ r.length ∧ k ≤ 6 ∧ i = .int .i64 (k : Int) ∧ n = .int .u64 (N : Int) ∧ m = .int .i64 0 ∧ N < 128 ^ k ∧ numGo 0 0 r = numGo k N (r.drop k) ∧ wr = w) (fun _ _ i _ => 7 - (intOf i).toNat)
  case atStart => exact ⟨0, 0, by omega, by omega, rfl, rfl, rfl, by simp, by simp, rfl⟩
  case round =>
    obtain ⟨k, N, hkl, hk6, rfl, rfl, rfl, hN, hgo, rfl⟩ := hrel
    have HGO := Lib.hid hgo
    have HNN := Lib.hid hN
    clear hgo hN
    by_cases hlt : k < r.length
    · obtain ⟨b, hbk⟩ : ∃ b, r[k]? = some b := ⟨_, List.getElem?_eq_getElem hlt⟩
      have hdrop : r.drop k = b :: r.drop (k + 1) := by
        obtain ⟨h1, rfl⟩ := List.getElem?_eq_some_iff.1 hbk
        exact List.drop_eq_getElem_cons h1
      obtain ⟨q, hadr, hld⟩ := byte_at HM.out.rest.slice k b hbk
      have HL := Lib.hid hld
      have hb256 : b.toNat < 256 := b.toNat_lt
      by_cases h6 : k = 6
      · have h6I : ((k : Int) == 6) = true := by simp; omega
        have HGO := Lib.hid (show numGo 0 0 r = (0, N) by rw [HGO.out, hdrop, numGo, if_pos h6])
        clear hld hbk hdrop h6
        go_wp2_with (first | (with_reducible refine Agg.wpList_loadL HL.out rfl _ rfl rfl ?_))
        have HNONE := Lib.hid (show getN most r = none by
          have hd := numGo_dec r 0 0 (by omega)
          have h0 : (dec 6 r).1 = 0 := by
            by_cases h0 : (dec 6 r).1 = 0
            · exact h0
            · rw [if_neg h0, HGO.out] at hd
              have h1 : (0 : Nat) = 0 + (dec 6 r).1 := congrArg Prod.fst hd
              omega
          unfold getN
          rw [if_pos (.inl h0)])
        skip
        go_wp2_with fail
        refine (fail_any base g v r e 4 _ HM.out).mono ?_
        rintro x w9 ⟨⟨rr, rfl⟩, hcu, hon⟩
        have HCU := Lib.hid hcu
        have HON := Lib.hid hon
        clear hcu hon
        go_wp2_with fail
        try rw [Exit.noGoto_ret]
        go_ret
        exact ⟨.inr ⟨HNONE.out, rfl, HCU.out⟩, HON.out⟩

      · have hk5 : k ≤ 5 := by omega
        have h6I : ((k : Int) == 6) = false := by simp; omega
        have HGO := Lib.hid (show numGo 0 0 r = if b.toNat < 128 then (k + 1, N + b.toNat * 128 ^ k) else numGo (k + 1) (N + b.toNat % 128 * 128 ^ k) (r.drop (k + 1)) by rw [HGO.out, hdrop, numGo, if_neg h6])
        clear hld hbk hdrop h6
        by_cases hb : b.toNat < 128
        · have hI : (b.toNat : Int) < 128 := by omega
          obtain ⟨M, hM⟩ : ∃ M, N + b.toNat * 128 ^ k = M := ⟨_, rfl⟩
          have hor := or_shift N b.toNat k hb HNN.out hk5
          rw [hM] at hor
          have HDEC := Lib.hid (show dec 6 r = (k + 1, M) by
            have hd := numGo_dec r 0 0 (by omega)
            have hg := HGO.out
            rw [if_pos hb, hM] at hg
            rw [hg] at hd
            split at hd
            · exact absurd hd (by simp)
            · simp only [Nat.zero_add, Nat.pow_zero, Nat.mul_one, Nat.sub_zero] at hd
              exact hd.symm)
          have HMB := Lib.hid (show M < 4398046511104 by
            have := (dec_le 6 r).2.2
            rw [HDEC.out] at this
            exact this)
          clear hM hb
          go_wp2_with (first | (with_reducible refine Agg.wpList_loadL HL.out rfl _ rfl rfl ?_))
          refine (length_any M _ HMB.out).mono ?_
          rintro x w8 ⟨rfl, rfl⟩
          obtain ⟨ln, hln⟩ : ∃ n, (encN M).length = n := ⟨_, rfl⟩
          rw [hln]
          have HLN := Lib.hid hln
          clear hln
          by_cases h1 : k + 1 = ln
          · have hne : ((k : Int) + 1 != (ln : Int)) = false := by simp; omega
            by_cases h2 : 1099511627776 < M
            · have h2I : (1099511627776 : Int) < (M : Int) := by omega
              have HNONE := Lib.hid (show getN most r = none by unfold getN; rw [HDEC.out, if_pos (.inr (.inr (.inl h2)))])
              clear h1 h2
              go_wp2_with fail
              refine (fail_any base g v r e 4 _ HM.out).mono ?_
              rintro x w9 ⟨⟨rr, rfl⟩, hcu, hon⟩
              have HCU := Lib.hid hcu
              have HON := Lib.hid hon
              clear hcu hon
              go_wp2_with fail
              try rw [Exit.noGoto_ret]
              go_ret
              exact ⟨.inr ⟨HNONE.out, rfl, HCU.out⟩, HON.out⟩

            · have h2I : ¬ (1099511627776 : Int) < (M : Int) := by omega
              by_cases h3 : most < M
              · have h3I : (most : Int) < (M : Int) := by omega
                have HNONE := Lib.hid (show getN most r = none by unfold getN; rw [HDEC.out, if_pos (.inr (.inr (.inr h3)))])
                clear h1 h2 h3
                go_wp2_with fail
                refine (fail_any base g v r e 4 _ HM.out).mono ?_
                rintro x w9 ⟨⟨rr, rfl⟩, hcu, hon⟩
                have HCU := Lib.hid hcu
                have HON := Lib.hid hon
                clear hcu hon
                go_wp2_with fail
                try rw [Exit.noGoto_ret]
                go_ret
                exact ⟨.inr ⟨HNONE.out, rfl, HCU.out⟩, HON.out⟩

              · have h3I : ¬ (most : Int) < (M : Int) := by omega
                have HSOME := Lib.hid (show getN most r = some (M, r.drop (k + 1)) by
                  unfold getN
                  rw [HDEC.out, if_neg (by
                    rintro (h | h | h | h)
                    · exact absurd h (by simp)
                    · exact h (by show k + 1 = (encN M).length; rw [HLN.out]; exact h1)
                    · exact h2 h
                    · exact h3 h)])
                have h3N : ¬ most < M := h3
                have hk0 : ((k : Int) + 1 == 0) = false := by simp; omega
                have hm0 : ¬ (most : Int) < 0 := by omega
                clear h1 h2 h3
                obtain ⟨vx, hsv, hrx, hvc, hv1⟩ := rest_low HM.out.rest (k + 1) (by omega)
                rw [show ((k + 1 : Nat) : Int) = (k : Int) + 1 by omega] at hsv
                obtain ⟨w9, hrun, hb9, ho9, hr9⟩ := HM.out.put (ty := 23) 0 (by omega) vx hvc hv1 (by kernel_rfl)
                have HCU := Lib.hid (show CuV base g w9 vx (r.drop (k + 1)) e from ⟨hb9, hr9 hrx⟩)
                have HON := Lib.hid ho9
                clear hrx hvc hv1 hb9 ho9 hr9
                go_wp2_with (first | (with_reducible refine Agg.wpList_loadL HM.out.load rfl _ rfl rfl ?_) | (refine Agg.wpList_store rfl rfl 23 _ _ rfl (.pointer (some ⟨g, 0, none⟩)) _ rfl rfl hrun ?_))
                try rw [Exit.noGoto_ret]
                go_ret
                exact ⟨.inl ⟨M, _, vx, HSOME.out, rfl, HCU.out⟩, HON.out⟩
          · have hne : ((k : Int) + 1 != (ln : Int)) = true := by simp; omega
            have HNONE := Lib.hid (show getN most r = none by unfold getN; rw [HDEC.out, if_pos (.inr (.inl (by show k + 1 ≠ (encN M).length; rw [HLN.out]; exact h1)))])
            clear h1
            go_wp2_with fail
            refine (fail_any base g v r e 4 _ HM.out).mono ?_
            rintro x w9 ⟨⟨rr, rfl⟩, hcu, hon⟩
            have HCU := Lib.hid hcu
            have HON := Lib.hid hon
            clear hcu hon
            go_wp2_with fail
            try rw [Exit.noGoto_ret]
            go_ret
            exact ⟨.inr ⟨HNONE.out, rfl, HCU.out⟩, HON.out⟩


        · have hI : ¬ (b.toNat : Int) < 128 := by omega
          have hand := andNot128 b
          obtain ⟨x, hx⟩ : ∃ x, b.toNat % 128 = x := ⟨_, rfl⟩
          rw [hx] at hand
          have hx128 : x < 128 := by omega
          obtain ⟨M, hM⟩ : ∃ M, N + x * 128 ^ k = M := ⟨_, rfl⟩
          have hor := or_shift N x k hx128 HNN.out hk5
          rw [hM] at hor
          have HGO2 := Lib.hid (show numGo 0 0 r = numGo (k + 1) M (r.drop (k + 1)) by rw [HGO.out, if_neg hb, hx, hM])
          have HM2 := Lib.hid (show M < 128 ^ (k + 1) by
            have h1 := HNN.out
            have h2 : x * 128 ^ k ≤ 127 * 128 ^ k := Nat.mul_le_mul (by omega) (Nat.le_refl _)
            rw [Nat.pow_succ]
            omega)
          clear hb hx hM
          go_wp2_with (first | (with_reducible refine Agg.wpList_loadL HL.out rfl _ rfl rfl ?_))
          go_roundw
          case rel => exact ⟨k + 1, M, by omega, by omega, by go_num, rfl, rfl, HM2.out, HGO2.out, trivial⟩
          case measure => simp [intOf]; omega
    · have HGO := Lib.hid (show numGo 0 0 r = (0, N) by rw [HGO.out, List.drop_eq_nil_of_le (by omega)]; rfl)
      have HNONE := Lib.hid (show getN most r = none by
        have hd := numGo_dec r 0 0 (by omega)
        have h0 : (dec 6 r).1 = 0 := by
          by_cases h0 : (dec 6 r).1 = 0
          · exact h0
          · rw [if_neg h0, HGO.out] at hd
            have h1 : (0 : Nat) = 0 + (dec 6 r).1 := congrArg Prod.fst hd
            omega
        unfold getN
        rw [if_pos (.inl h0)])
      skip
      go_wp2_with fail
      refine (fail_any base g v r e 4 _ HM.out).mono ?_
      rintro x w9 ⟨⟨rr, rfl⟩, hcu, hon⟩
      have HCU := Lib.hid hcu
      have HON := Lib.hid hon
      clear hcu hon
      go_wp2_with fail
      try rw [Exit.noGoto_ret]
      go_ret
      exact ⟨.inr ⟨HNONE.out, rfl, HCU.out⟩, HON.out⟩

end Go.Proofs.Ytpnolgliklmnmaa
/-! code.Over; code.Cursor: Raw, Text, End. -/
namespace Go.Proofs.Ytpnolgliklmnmaa
open Go.RowKit Pl Go.Agg
theorem runHigh (p : Option Addr) (n c k : Nat) (hk : k ≤ c) (W : World) : (Instr.sliceAt 23 (.slice p n c) none (some (.int .i64 (k : Int))) none).run Try.prog W = .ok (.slice p k c) W := by
  have hu : Try.prog.underlying 23 = some (.slice 5) := by kernel_rfl
  have hp : (p.map fun x => x.add 0) = p := by cases p <;> rfl
  simp [Instr.sliceAt, Instr.slice, Instr.sliceBounds, Instr.sliceBound, run_underlying hu, Sem.run_bind, asIntOf, hk, hp]
theorem rest_high {base : Nat} {w : World} {v : Value} {r : List UInt8} (h : Rest base w v r) (k : Nat) (hk : k ≤ r.length) :
    ∃ vx, (∀ W, (Instr.sliceAt 23 v none (some (.int .i64 (k : Int))) none).run Try.prog W = .ok vx W) ∧ BytesAt w vx (r.take k) := by
  have hs := h.slice
  have hc := h.cap
  obtain ⟨q, c, rfl⟩ := hs.form
  exact ⟨_, fun W => runHigh q r.length c k (by have := hc _ _ _ rfl; omega) W, sliceOf_taken hs k hk⟩
set_option maxRecDepth 100000 in
set_option maxHeartbeats 1000000 in
theorem over_any (x : Value) (l : List UInt8) (w : World) (hl : l.length ≤ 16777216) (hx : BytesAt w x l) :
    Calls Try.prog 54 #[x] w fun e w' => ∃ g v, e = .returned (.pointer (some ⟨g, 0, none⟩)) ∧ w.heap.size ≤ g ∧ CuV w.heap.size g w' v l 0 ∧ Below w.heap.size w w' := by
  have HX := Lib.hid hx
  clear hx
  go_enter Try.func54, Try.ntmps54
  go_wp2_with fail
  refine (bclone_any x l w (by omega) HX.out).mono ?_
  rintro e w1 ⟨v1, rfl, ho1, hx1⟩
  have HR1 := Lib.hid (Rest.of_own ho1)
  have HX1 := Lib.hid hx1
  obtain ⟨q, c, hf⟩ := ho1.slice.form
  have hb : ∀ W, (Instr.build 162 #[(0, v1)]).run Try.prog W = .ok (.agg (cuC v1 0)) W := fun W => by rw [hf]; kernel_rfl
  have HB := Lib.hid hb
  have hsz := hx1.size
  clear ho1 hx1 hf hb
  go_wp2_with (first | (with_reducible refine Agg.wpList_build1 162 0 _ rfl rfl v1 rfl (.agg (cuC v1 0)) HB.out ?_) | (with_reducible refine Agg.wpList_box rfl 162 _ rfl (cuC v1 0) rfl ?_; intro g w2 hb2 hx2 hg2; have HB2 := Lib.hid hb2; have HX2 := Lib.hid hx2; clear hb2 hx2))
  go_ret
  exact ⟨g, v1, rfl, Nat.le_trans hsz hg2, ⟨HB2.out, HR1.out.below HX2.out⟩, Agg.belowThen HX1.out (Nat.le_refl _) HX2.out⟩
/-- what was wrong stays wrong, and nothing is left -/
def CBad (base g : Nat) (w' : World) : Prop := ∃ e, e ≠ 0 ∧ CuV base g w' (.slice none 0 0) [] e
/-- what Raw answers -/
def CRaw (base g many : Nat) (r : List UInt8) (e : Nat) (B : Nat) (x : Ending) (w' : World) : Prop :=
  (e = 0 ∧ many ≤ r.length ∧ ∃ u v', x = .returned u ∧ Own EB B w' u (r.take many) ∧ CuV base g w' v' (r.drop many) 0) ∨
  ((e ≠ 0 ∨ r.length < many) ∧ x = .returned (.slice none 0 0) ∧ CBad base g w')
set_option maxRecDepth 100000 in
set_option maxHeartbeats 2000000 in
theorem craw_any (base g many : Nat) (v : Value) (r : List UInt8) (e : Nat) (w : World) (hr : r.length ≤ 16777216) (hmo : many ≤ 1099511627776) (hm : CuV base g w v r e) :
    Calls Try.prog 96 #[.pointer (some ⟨g, 0, none⟩), .int .i64 (many : Int)] w fun x w' => CRaw base g many r e w.heap.size x w' ∧ Only (· = g) w w' := by
  have hlr := fun W => bytes_len hm.rest.slice W
  have HM := Lib.hid hm
  clear hm
  by_cases h0 : e = 0
  · subst h0
    by_cases hle : many ≤ r.length
    · have hI : ¬ (r.length : Int) < (many : Int) := by omega
      have hIN : ¬ r.length < many := by omega
      obtain ⟨vx, hsv, hbx⟩ := rest_high HM.out.rest many hle
      have HBX := Lib.hid hbx
      have HLE := Lib.hid hle
      clear hbx hle
      go_enter Try.func96, Try.ntmps96
      go_wp2_with (first | (with_reducible refine Agg.wpList_loadL HM.out.load rfl _ rfl rfl ?_) | (with_reducible refine Agg.wpList_loadL HM.out.err rfl _ rfl rfl ?_))
      refine (bclone_any vx (r.take many) w (by simp; omega) HBX.out).mono ?_
      rintro x w1 ⟨u1, rfl, ho1, hx1⟩
      have HM1 := Lib.hid (HM.out.below hx1)
      obtain ⟨vy, hsy, hry, hyc, hy1⟩ := rest_low HM1.out.rest many HLE.out
      obtain ⟨w2, hrun, hb2, ho2, hr2⟩ := HM1.out.put (ty := 23) 0 (by omega) vy hyc hy1 (by kernel_rfl)
      have HCU := Lib.hid (show CuV base g w2 vy (r.drop many) 0 from ⟨hb2, hr2 hry⟩)
      have HOW := Lib.hid (show Own EB w.heap.size w2 u1 (r.take many) from ho1.keepT fun k cur fr hk => (ho2.block k (Agg.heap_lt hk) (fun h => by
        obtain rfl : k = g := h
        have hb := HM1.out.blk
        unfold Blk at hb
        rw [hk] at hb
        injection hb with hb
        injection hb with _ hb
        exact absurd hb (by decide))).trans hk)
      have HON := Lib.hid ((Only.of_below (S := (· = g)) hx1).trans ho2 fun _ _ h => h)
      clear ho1 hx1 hry hyc hy1 hb2 ho2 hr2
      go_wp2_with (first | (with_reducible refine Agg.wpList_loadL HM1.out.load rfl _ rfl rfl ?_) | (refine Agg.wpList_store rfl rfl 23 _ _ rfl (.pointer (some ⟨g, 0, none⟩)) _ rfl rfl hrun ?_))
      go_ret
      exact ⟨.inl ⟨rfl, HLE.out, u1, vy, rfl, HOW.out, HCU.out⟩, HON.out⟩
    · have hI : (r.length : Int) < (many : Int) := by omega
      have hIN : r.length < many := by omega
      clear hle
      go_enter Try.func96, Try.ntmps96
      go_wp2_with (first | (with_reducible refine Agg.wpList_loadL HM.out.load rfl _ rfl rfl ?_) | (with_reducible refine Agg.wpList_loadL HM.out.err rfl _ rfl rfl ?_))
      refine (fail_any base g v r 0 4 _ HM.out).mono ?_
      rintro x w9 ⟨⟨rr, rfl⟩, hcu, hon⟩
      have HCU := Lib.hid hcu
      have HON := Lib.hid hon
      clear hcu hon
      go_wp2_with fail
      go_ret
      exact ⟨.inr ⟨.inr hIN, rfl, 4, by omega, HCU.out⟩, HON.out⟩
  · have hq : ((e : Int) != 0) = true := by simp [h0]
    have H0 := Lib.hid h0
    clear h0
    go_enter Try.func96, Try.ntmps96
    go_wp2_with (first | (with_reducible refine Agg.wpList_loadL HM.out.load rfl _ rfl rfl ?_) | (with_reducible refine Agg.wpList_loadL HM.out.err rfl _ rfl rfl ?_))
    refine (fail_any base g v r e 4 _ HM.out).mono ?_
    rintro x w9 ⟨⟨rr, rfl⟩, hcu, hon⟩
    rw [if_neg H0.out] at hcu
    have HCU := Lib.hid hcu
    have HON := Lib.hid hon
    clear hcu hon
    go_wp2_with fail
    go_ret
    exact ⟨.inr ⟨.inl H0.out, rfl, e, H0.out, HCU.out⟩, HON.out⟩
set_option maxRecDepth 100000 in
set_option maxHeartbeats 1000000 in
theorem cend_any (base g : Nat) (v : Value) (r : List UInt8) (e : Nat) (w : World) (hm : CuV base g w v r e) :
    Calls Try.prog 98 #[.pointer (some ⟨g, 0, none⟩)] w fun x w' => (∃ c : Nat, x = .returned (.int .i64 (c : Int)) ∧ (c = 0 ↔ e = 0 ∧ r = [])) ∧ w' = w := by
  have hlr := fun W => bytes_len hm.rest.slice W
  have HM := Lib.hid hm
  clear hm
  by_cases h0 : e = 0
  · subst h0
    cases r with
    | nil =>
      go_enter Try.func98, Try.ntmps98
      go_wp2_with (first | (with_reducible refine Agg.wpList_loadL HM.out.load rfl _ rfl rfl ?_) | (with_reducible refine Agg.wpList_loadL HM.out.err rfl _ rfl rfl ?_))
      go_ret
      exact ⟨⟨0, rfl, by simp⟩, rfl⟩
    | cons b t =>
      have hI : (0 : Int) < ((b :: t).length : Int) := by simp
      obtain ⟨n, hn⟩ : ∃ n, (b :: t).length = n := ⟨_, rfl⟩
      rw [hn] at hI hlr
      clear hn
      go_enter Try.func98, Try.ntmps98
      go_wp2_with (first | (with_reducible refine Agg.wpList_loadL HM.out.load rfl _ rfl rfl ?_) | (with_reducible refine Agg.wpList_loadL HM.out.err rfl _ rfl rfl ?_))
      go_ret
      exact ⟨⟨4, rfl, by simp⟩, rfl⟩
  · have hq : ((e : Int) == 0) = false := by simp [h0]
    have H0 := Lib.hid h0
    clear h0
    go_enter Try.func98, Try.ntmps98
    go_wp2_with (first | (with_reducible refine Agg.wpList_loadL HM.out.load rfl _ rfl rfl ?_) | (with_reducible refine Agg.wpList_loadL HM.out.err rfl _ rfl rfl ?_))
    go_ret
    exact ⟨⟨e, rfl, fun h => absurd h H0.out, fun h => absurd h.1 H0.out⟩, rfl⟩
/-- a text that is got -/
def getT (most : Nat) (b : List UInt8) : Option (List UInt8 × List UInt8) :=
  match getN 1099511627776 b with
  | none => none
  | some (n, y) => if n ≤ most ∧ n ≤ y.length then some (y.take n, y.drop n) else none
/-- what Text answers -/
def CText (base g most : Nat) (r : List UInt8) (e : Nat) (B : Nat) (x : Ending) (w' : World) : Prop :=
  (e = 0 ∧ ∃ l y u v', getT most r = some (l, y) ∧ x = .returned u ∧ Own EB B w' u l ∧ CuV base g w' v' y 0) ∨
  ((e ≠ 0 ∨ getT most r = none) ∧ x = .returned (.slice none 0 0) ∧ CBad base g w')
theorem getN_le {most n : Nat} {b y : List UInt8} (h : getN most b = some (n, y)) : y.length ≤ b.length := by
  obtain ⟨rfl, _⟩ := getN_some h
  simp
set_option maxRecDepth 100000 in
set_option maxHeartbeats 2000000 in
theorem ctext_any (base g most : Nat) (v : Value) (r : List UInt8) (e : Nat) (w : World) (hr : r.length ≤ 16777216) (he : e ≠ 0 → r = []) (hm : CuV base g w v r e) :
    Calls Try.prog 56 #[.pointer (some ⟨g, 0, none⟩), .int .i64 (most : Int)] w fun x w' => CText base g most r e w.heap.size x w' ∧ Only (· = g) w w' := by
  have HM := Lib.hid hm
  clear hm
  go_enter Try.func56, Try.ntmps56
  go_wp2_with fail
  refine (cnum_any base g 1099511627776 v r e w hr (by omega) HM.out).mono ?_
  rintro x w1 ⟨⟨n, y, v1, hg, rfl, hcu⟩ | ⟨hg, rfl, hcu⟩, hon⟩
  · have he0 : e = 0 := Decidable.byContradiction fun h => by
      have h1 := he h
      subst h1
      have : getN 1099511627776 ([] : List UInt8) = none := by decide
      rw [this] at hg
      cases hg
    subst he0
    have HG := Lib.hid hg
    have HM1 := Lib.hid hcu
    have HON1 := Lib.hid hon
    have hyl := getN_le hg
    have hn40 := (getN_some hg).2.2
    clear hg hcu hon
    by_cases hnm : n ≤ most
    · have hI : ¬ (most : Int) < (n : Int) := by omega
      have HNM := Lib.hid hnm
      clear hnm
      go_wp2_with (first | (with_reducible refine Agg.wpList_loadL HM1.out.err rfl _ rfl rfl ?_))
      refine (craw_any base g n v1 y 0 w1 (by omega) hn40 HM1.out).mono ?_
      rintro x w2 ⟨⟨_, hny, u, v2, rfl, hou, hcu⟩ | ⟨hor, rfl, hbad⟩, hon⟩
      · have HT := Lib.hid (show getT most r = some (y.take n, y.drop n) by unfold getT; rw [HG.out]; exact if_pos ⟨HNM.out, hny⟩)
        have HOU := Lib.hid (hou.lower HON1.out.size)
        have HCU := Lib.hid hcu
        have HON := Lib.hid (HON1.out.trans hon fun _ _ h => h)
        clear hou hcu hon hny
        go_wp2_with fail
        go_ret
        exact ⟨.inl ⟨rfl, _, _, u, v2, HT.out, rfl, HOU.out, HCU.out⟩, HON.out⟩
      · have HT := Lib.hid (show getT most r = none by
          unfold getT
          rw [HG.out]
          exact if_neg fun h => by
            rcases hor with h0 | h0
            · exact h0 rfl
            · omega)
        have HBAD := Lib.hid hbad
        have HON := Lib.hid (HON1.out.trans hon fun _ _ h => h)
        clear hor hbad hon
        go_wp2_with fail
        go_ret
        exact ⟨.inr ⟨.inr HT.out, rfl, HBAD.out⟩, HON.out⟩
    · have hI : (most : Int) < (n : Int) := by omega
      have HT := Lib.hid (show getT most r = none by unfold getT; rw [HG.out]; exact if_neg fun h => hnm h.1)
      clear hnm
      go_wp2_with (first | (with_reducible refine Agg.wpList_loadL HM1.out.err rfl _ rfl rfl ?_))
      refine (fail_any base g v1 y 0 3 _ HM1.out).mono ?_
      rintro x w2 ⟨⟨rr, rfl⟩, hcu, hon⟩
      have HCU := Lib.hid hcu
      have HON := Lib.hid (HON1.out.trans hon fun _ _ h => h)
      clear hcu hon
      go_wp2_with fail
      go_ret
      exact ⟨.inr ⟨.inr HT.out, rfl, 3, by omega, HCU.out⟩, HON.out⟩
  · have hne : (if e = 0 then 4 else e) ≠ 0 := by split <;> omega
    obtain ⟨e2, he2⟩ : ∃ e2, (if e = 0 then 4 else e) = e2 := ⟨_, rfl⟩
    rw [he2] at hcu hne
    have hq : ((e2 : Int) != 0) = true := by simp [hne]
    have HNE := Lib.hid hne
    have HM1 := Lib.hid hcu
    have HON1 := Lib.hid hon
    have HT := Lib.hid (show getT most r = none by unfold getT; rw [hg])
    clear hg hcu hon he2 hne
    go_wp2_with (first | (with_reducible refine Agg.wpList_loadL HM1.out.err rfl _ rfl rfl ?_))
    go_ret
    exact ⟨.inr ⟨.inr HT.out, rfl, e2, HNE.out, HM1.out⟩, HON1.out⟩
end Go.Proofs.Ytpnolgliklmnmaa
/-! Requests as bytes: the plain law. -/
namespace Go.Proofs.Ytpnolgliklmnmaa
open Go.RowKit Pl Go.Agg
/-! A cursor as a state: the bytes that are left; none, once something was wrong. -/
def sNum (most : Nat) : Option (List UInt8) → Nat × Option (List UInt8)
  | none => (0, none)
  | some r => match getN most r with
    | none => (0, none)
    | some p => (p.1, some p.2)
def sText (most : Nat) : Option (List UInt8) → List UInt8 × Option (List UInt8)
  | none => ([], none)
  | some r => match getT most r with
    | none => ([], none)
    | some p => (p.1, some p.2)
def sRaw (many : Nat) : Option (List UInt8) → List UInt8 × Option (List UInt8)
  | none => ([], none)
  | some r => if many ≤ r.length then (r.take many, some (r.drop many)) else ([], none)
def sHash (s : Option (List UInt8)) : List UInt8 × Option (List UInt8) := ((sRaw 20 s).1 ++ z20.drop (sRaw 20 s).1.length, (sRaw 20 s).2)
/-- a text with how long it is -/
def encT (l : List UInt8) : List UInt8 := encN l.length ++ l
theorem sNum_enc {most n : Nat} (h : n ≤ 1099511627776) (hm : n ≤ most) (y : List UInt8) : sNum most (some (encN n ++ y)) = (n, some y) := by simp only [sNum, getN_enc h hm]
theorem sNum_some {most n : Nat} {s : Option (List UInt8)} {y : List UInt8} (h : sNum most s = (n, some y)) : s = some (encN n ++ y) ∧ n ≤ most ∧ n ≤ 1099511627776 := by
  cases s with
  | none => simp [sNum] at h
  | some r =>
    simp only [sNum] at h
    cases hg : getN most r with
    | none => rw [hg] at h; simp at h
    | some p =>
      rw [hg] at h
      obtain ⟨n', y'⟩ := p
      simp only [Prod.mk.injEq, Option.some.injEq] at h
      obtain ⟨rfl, rfl⟩ := h
      obtain ⟨h1, h2, h3⟩ := getN_some hg
      exact ⟨by rw [← h1], h2, h3⟩
theorem getT_enc {most : Nat} {l : List UInt8} (h : l.length ≤ most) (h4 : l.length ≤ 1099511627776) (y : List UInt8) : getT most (encT l ++ y) = some (l, y) := by
  unfold getT encT
  rw [List.append_assoc, getN_enc h4 h4]
  simp [h]
theorem getT_some {most : Nat} {l r y : List UInt8} (h : getT most r = some (l, y)) : r = encT l ++ y ∧ l.length ≤ most := by
  unfold getT at h
  split at h
  · cases h
  · rename_i n z hg
    split at h
    · rename_i hc
      obtain ⟨h1, _, _⟩ := getN_some hg
      simp only [Option.some.injEq, Prod.mk.injEq] at h
      obtain ⟨rfl, rfl⟩ := h
      have hl : (z.take n).length = n := by simp; omega
      unfold encT
      rw [hl, List.append_assoc, List.take_append_drop]
      exact ⟨h1, by omega⟩
    · cases h
theorem sText_enc {most : Nat} {l : List UInt8} (h : l.length ≤ most) (h4 : l.length ≤ 1099511627776) (y : List UInt8) : sText most (some (encT l ++ y)) = (l, some y) := by simp only [sText, getT_enc h h4]
theorem sText_some {most : Nat} {s : Option (List UInt8)} {l y : List UInt8} (h : sText most s = (l, some y)) : s = some (encT l ++ y) ∧ l.length ≤ most := by
  cases s with
  | none => simp [sText] at h
  | some r =>
    simp only [sText] at h
    cases hg : getT most r with
    | none => rw [hg] at h; simp at h
    | some p =>
      rw [hg] at h
      obtain ⟨n', y'⟩ := p
      simp only [Prod.mk.injEq, Option.some.injEq] at h
      obtain ⟨rfl, rfl⟩ := h
      obtain ⟨h1, h2⟩ := getT_some hg
      exact ⟨by rw [← h1], h2⟩
theorem sHash_enc {h : List UInt8} (hl : h.length = 20) (y : List UInt8) : sHash (some (h ++ y)) = (h, some y) := by
  have : sRaw 20 (some (h ++ y)) = (h, some y) := by
    simp only [sRaw, List.length_append, hl]
    rw [if_pos (by omega), ← hl, List.take_left, List.drop_left]
  unfold sHash
  rw [this]
  simp [hl, z20]
theorem sHash_some {s : Option (List UInt8)} {h y : List UInt8} (e : sHash s = (h, some y)) : s = some (h ++ y) ∧ h.length = 20 := by
  unfold sHash at e
  cases s with
  | none => simp [sRaw] at e
  | some r =>
    simp only [sRaw] at e
    by_cases hl : 20 ≤ r.length
    · rw [if_pos hl] at e
      simp only [Prod.mk.injEq, Option.some.injEq] at e
      obtain ⟨rfl, rfl⟩ := e
      have : (r.take 20).length = 20 := by simp; omega
      rw [this]
      simp [z20]
      omega
    · rw [if_neg hl] at e
      simp at e
theorem sHash_length (s : Option (List UInt8)) : (sHash s).1.length = 20 := by
  unfold sHash
  cases s with
  | none => simp [sRaw, z20]
  | some r =>
    simp only [sRaw]
    by_cases hl : 20 ≤ r.length
    · rw [if_pos hl]
      simp [z20]; omega
    · rw [if_neg hl]
      simp [z20]
def stLen : Option (List UInt8) → Nat
  | none => 0
  | some r => r.length
theorem sNum_len (most : Nat) (s : Option (List UInt8)) : stLen (sNum most s).2 ≤ stLen s := by
  cases h : (sNum most s).2 with
  | none => simp [stLen]
  | some y =>
    obtain ⟨h1, _⟩ := sNum_some (Prod.ext (rfl : (sNum most s).1 = (sNum most s).1) h)
    rw [h1]
    simp only [stLen, List.length_append]
    omega
theorem sText_len (most : Nat) (s : Option (List UInt8)) : stLen (sText most s).2 ≤ stLen s := by
  cases h : (sText most s).2 with
  | none => simp [stLen]
  | some y =>
    obtain ⟨h1, _⟩ := sText_some (Prod.ext (rfl : (sText most s).1 = (sText most s).1) h)
    rw [h1]
    simp only [stLen, List.length_append]
    omega
theorem sText_le (most : Nat) (s : Option (List UInt8)) : (sText most s).1.length ≤ most := by
  cases h : (sText most s).2 with
  | none =>
    cases s with
    | none => simp [sText]
    | some r =>
      simp only [sText] at h ⊢
      cases hg : getT most r with
      | none => simp
      | some p => rw [hg] at h; simp at h
  | some y => exact (sText_some (Prod.ext (rfl : (sText most s).1 = (sText most s).1) h)).2
theorem sRaw_len (many : Nat) (s : Option (List UInt8)) : stLen (sRaw many s).2 ≤ stLen s := by
  cases s with
  | none => simp [sRaw]
  | some r =>
    simp only [sRaw]
    split <;> simp [stLen]
/-! requests -/
structure Rq where
  k : Int
  u : Int
  wh : Int
  nm : List UInt8
  bs : List UInt8
  ph : List UInt8
  pn : List UInt8
  ch : List UInt8
def Rq.zero : Rq := ⟨0, 0, 0, [], [], z20, [], z20⟩
def Rq.right (q : Rq) : Bool := rightN q.k q.u q.wh q.nm q.bs.length q.ph q.pn q.ch
/-- its bytes, of some parts -/
def putP (P : Nat) (q : Rq) : List UInt8 :=
  encN q.k.toNat ++ (encN q.u.toNat ++ ((if hasN P 1 then encN q.wh.toNat else []) ++ ((if hasN P 2 then encT q.nm else []) ++ ((if hasN P 12 then encT (pathS q.ph q.pn) else []) ++ ((if hasN P 16 then q.ch else []) ++ (if hasN P 32 then encT q.bs else []))))))
def putRq (q : Rq) : List UInt8 := putP (partsN q.k) q
def pW (P : Nat) (s : Option (List UInt8)) : Nat × Option (List UInt8) := if hasN P 1 then sNum 16 s else (0, s)
def pN (P : Nat) (s : Option (List UInt8)) : List UInt8 × Option (List UInt8) := if hasN P 2 then sText 24 s else ([], s)
def pT (P : Nat) (s : Option (List UInt8)) : List UInt8 × Option (List UInt8) := if hasN P 12 then sText 57 s else ([], s)
def pH (P : Nat) (s : Option (List UInt8)) : List UInt8 × Option (List UInt8) := if hasN P 16 then sHash s else (z20, s)
def pB (P lim : Nat) (s : Option (List UInt8)) : List UInt8 × Option (List UInt8) := if hasN P 32 then sText lim s else ([], s)
def qK (b : Option (List UInt8)) := sNum 10 b
def qU (b : Option (List UInt8)) := sNum 8 (qK b).2
def qP (b : Option (List UInt8)) : Nat := partsN ((qK b).1 : Int)
def qW (b : Option (List UInt8)) := pW (qP b) (qU b).2
def qN (b : Option (List UInt8)) := pN (qP b) (qW b).2
def qT (b : Option (List UInt8)) := pT (qP b) (qN b).2
def qH (b : Option (List UInt8)) := pH (qP b) (qT b).2
def qB (lim : Int → Nat) (b : Option (List UInt8)) := pB (qP b) (lim ((qK b).1 : Int)) (qH b).2
def qRq (lim : Int → Nat) (b : Option (List UInt8)) : Rq := ⟨((qK b).1 : Int), ((qU b).1 : Int), ((qW b).1 : Int), (qN b).1, (qB lim b).1, parseH (qT b).1, parseN (qT b).1, (qH b).1⟩
def qOdd (b : Option (List UInt8)) : Bool := !((qT b).1 == [] || (parse (qT b).1).isSome)
def getRq (b : List UInt8) : Option Rq := if (qB mostN (some b)).2 = some [] ∧ qOdd (some b) = false ∧ (qRq mostN (some b)).right = true then some (qRq mostN (some b)) else none
theorem pathS_le {n : List UInt8} (h : List UInt8) : (pathS h n).length ≤ 57 := by
  unfold pathS
  split
  · rename_i hn
    have := isName_le hn
    simp [letters_length]
    omega
  · simp
theorem parse_pathS {h n : List UInt8} (hl : h.length = 20) (hn : isName n = true) : parse (pathS h n) = some (h, n) := by
  unfold pathS
  rw [if_pos hn, parse_text hl hn]
theorem pathS_none {h n : List UInt8} (hn : isName n = false) : pathS h n = [] := by
  unfold pathS
  rw [if_neg (by simp [hn])]
theorem parse_nil : parse [] = none := by decide +kernel
theorem isName_nil : isName [] = false := by decide
theorem hasN_zero_of {P c d : Nat} (h : P &&& c = 0) (hd : c &&& d = d) : P &&& d = 0 := by
  rw [← hd, ← Nat.and_assoc, h, Nat.zero_and]
structure RightParts (q : Rq) : Prop where
  k : 1 ≤ q.k ∧ q.k ≤ 10
  u : 1 ≤ q.u ∧ q.u ≤ 8
  wh1 : hasN (partsN q.k) 1 = true → 1 ≤ q.wh ∧ q.wh ≤ 16
  wh0 : hasN (partsN q.k) 1 = false → q.wh = 0
  nm1 : hasN (partsN q.k) 2 = true → isName q.nm = true
  nm0 : hasN (partsN q.k) 2 = false → q.nm = []
  p0 : hasN (partsN q.k) 12 = false → q.ph = z20 ∧ q.pn = []
  p1 : hasN (partsN q.k) 12 = true → isName q.pn = true ∨ q.ph = z20 ∧ q.pn = []
  c0 : hasN (partsN q.k) 16 = false → q.ch = z20
  bs : q.bs.length ≤ mostN q.k
theorem Rq.right_parts {q : Rq} (h : q.right = true) : RightParts q := by
  unfold Rq.right rightN at h
  simp only [Bool.and_eq_true, decide_eq_true_eq, rT, List.all_cons, List.all_nil, Bool.and_true, Bool.not_eq_true', Bool.not_not] at h
  obtain ⟨⟨h1, h2, h3, h4, h5, h6, h7, h8, h9⟩, h10⟩ := h
  refine ⟨by simpa using h1, by simpa using h2, fun e => ?_, fun e => ?_, fun e => ?_, fun e => ?_, fun e => ?_, fun e => ?_, fun e => ?_, h10⟩
  · rw [e] at h3; simpa using h3
  · rw [e] at h4; simpa using h4
  · rw [e] at h5; simpa using h5
  · rw [e] at h6; simpa using h6
  · rw [e] at h7; simpa using h7
  · rw [e] at h8
    simp only [Bool.true_and, Bool.not_eq_false', namedN, Bool.or_eq_true, Bool.and_eq_true, beq_iff_eq] at h8
    rcases h8 with h8 | ⟨_, h8⟩
    · exact .inl h8
    · exact .inr h8
  · rw [e] at h9; simpa using h9
theorem Rq.right_none {q : Rq} (h : q.right = true) (h12 : hasN (partsN q.k) 12 = true) (hn : isName q.pn = false) : hasN (partsN q.k) 8 = true := by
  unfold Rq.right rightN at h
  simp only [Bool.and_eq_true, rT, List.all_cons, List.all_nil, Bool.and_true, Bool.not_eq_true', Bool.not_not] at h
  obtain ⟨⟨h1, h2, h3, h4, h5, h6, h7, h8, h9⟩, h10⟩ := h
  rw [h12] at h8
  simp only [Bool.true_and, Bool.not_eq_false', namedN, hn, Bool.false_or, Bool.and_eq_true] at h8
  exact h8.1
theorem most_none {k : Int} (h : hasN (partsN k) 32 = false) : mostN k = 0 := by
  unfold mostN
  by_cases h2 : k = 2
  · subst h2; exact absurd h (by decide)
  · rw [if_neg h2, h]; rfl
theorem most_le (k : Int) : mostN k ≤ 4096 := by
  unfold mostN
  repeat' split
  all_goals omega
/-- what is put is got, whatever stands behind it -/
theorem parse_put {lim : Int → Nat} {q : Rq} (hr : q.right = true) (hp : q.ph.length = 20) (hc : q.ch.length = 20) (hlim : mostN q.k ≤ lim q.k) (y : List UInt8) :
    qRq lim (some (putRq q ++ y)) = q ∧ (qB lim (some (putRq q ++ y))).2 = some y ∧ qOdd (some (putRq q ++ y)) = false := by
  have R := q.right_parts hr
  obtain ⟨k, u, wh, nm, bs, ph, pn, ch⟩ := q
  obtain ⟨hk, hu, hw1, hw0, hn1, hn0, hp0, hp1, hc0, hbs⟩ := R
  simp only at *
  obtain ⟨k, rfl⟩ : ∃ n : Nat, k = n := ⟨k.toNat, by omega⟩
  obtain ⟨u, rfl⟩ : ∃ n : Nat, u = n := ⟨u.toNat, by omega⟩
  have eK : qK (some (putRq ⟨k, u, wh, nm, bs, ph, pn, ch⟩ ++ y)) = (k, some (encN u ++ ((if hasN (partsN k) 1 then encN wh.toNat else []) ++ ((if hasN (partsN k) 2 then encT nm else []) ++ ((if hasN (partsN k) 12 then encT (pathS ph pn) else []) ++ ((if hasN (partsN k) 16 then ch else []) ++ (if hasN (partsN k) 32 then encT bs else []))))) ++ y)) := by
    unfold qK putRq putP
    simp only [Int.toNat_natCast, List.append_assoc]
    exact sNum_enc (by omega) (by omega) _
  have eP : qP (some (putRq ⟨k, u, wh, nm, bs, ph, pn, ch⟩ ++ y)) = partsN k := by unfold qP; rw [eK]
  obtain ⟨P, hP⟩ : ∃ P, partsN (k : Int) = P := ⟨_, rfl⟩
  rw [hP] at eP eK hw1 hw0 hn1 hn0 hp0 hp1 hc0
  have eU : qU (some (putRq ⟨k, u, wh, nm, bs, ph, pn, ch⟩ ++ y)) = (u, some ((if hasN P 1 then encN wh.toNat else []) ++ ((if hasN P 2 then encT nm else []) ++ ((if hasN P 12 then encT (pathS ph pn) else []) ++ ((if hasN P 16 then ch else []) ++ (if hasN P 32 then encT bs else [])))) ++ y)) := by
    unfold qU
    rw [eK]
    simp only [List.append_assoc]
    exact sNum_enc (by omega) (by omega) _
  have eW : qW (some (putRq ⟨k, u, wh, nm, bs, ph, pn, ch⟩ ++ y)) = (wh.toNat, some ((if hasN P 2 then encT nm else []) ++ ((if hasN P 12 then encT (pathS ph pn) else []) ++ ((if hasN P 16 then ch else []) ++ (if hasN P 32 then encT bs else []))) ++ y)) ∧ (wh.toNat : Int) = wh := by
    unfold qW pW
    rw [eU, eP]
    cases h : hasN P 1 with
    | true =>
      have := hw1 h
      simp only [if_true, List.append_assoc]
      exact ⟨sNum_enc (by omega) (by omega) _, by omega⟩
    | false =>
      have := hw0 h
      subst this
      simp
  have eN : qN (some (putRq ⟨k, u, wh, nm, bs, ph, pn, ch⟩ ++ y)) = (nm, some ((if hasN P 12 then encT (pathS ph pn) else []) ++ ((if hasN P 16 then ch else []) ++ (if hasN P 32 then encT bs else [])) ++ y)) := by
    unfold qN pN
    rw [eW.1, eP]
    cases h : hasN P 2 with
    | true =>
      have := isName_le (hn1 h)
      simp only [if_true, List.append_assoc]
      exact sText_enc (by omega) (by omega) _
    | false =>
      have := hn0 h
      subst this
      simp
  have eT : qT (some (putRq ⟨k, u, wh, nm, bs, ph, pn, ch⟩ ++ y)) = ((if hasN P 12 then pathS ph pn else []), some ((if hasN P 16 then ch else []) ++ (if hasN P 32 then encT bs else []) ++ y)) := by
    unfold qT pT
    rw [eN, eP]
    cases h : hasN P 12 with
    | true =>
      have := pathS_le (n := pn) ph
      simp only [if_true, List.append_assoc]
      exact sText_enc (by omega) (by omega) _
    | false => simp
  have eH : qH (some (putRq ⟨k, u, wh, nm, bs, ph, pn, ch⟩ ++ y)) = (ch, some ((if hasN P 32 then encT bs else []) ++ y)) := by
    unfold qH pH
    rw [eT, eP]
    cases h : hasN P 16 with
    | true =>
      simp only [if_true, List.append_assoc]
      exact sHash_enc hc _
    | false =>
      have := hc0 h
      subst this
      simp
  have eB : qB lim (some (putRq ⟨k, u, wh, nm, bs, ph, pn, ch⟩ ++ y)) = (bs, some y) := by
    unfold qB pB
    rw [eH, eP, eK]
    cases h : hasN P 32 with
    | true =>
      have := most_le (k : Int)
      simp only [if_true]
      exact sText_enc (by omega) (by omega) _
    | false =>
      have := most_none (k := (k : Int)) (by rw [hP]; exact h)
      obtain rfl : bs = [] := List.length_eq_zero_iff.1 (by omega)
      simp
  have eS : parseH (if hasN P 12 then pathS ph pn else []) = ph ∧ parseN (if hasN P 12 then pathS ph pn else []) = pn ∧ (!((if hasN P 12 then pathS ph pn else []) == [] || (parse (if hasN P 12 then pathS ph pn else [])).isSome)) = false := by
    cases h : hasN P 12 with
    | true =>
      simp only [if_true]
      rcases hp1 h with h1 | ⟨rfl, rfl⟩
      · have := parse_pathS hp h1
        simp [parseH, parseN, this]
      · have e : pathS z20 [] = [] := pathS_none isName_nil
        rw [e]
        simp [parseH, parseN, parse_nil]
    | false =>
      obtain ⟨rfl, rfl⟩ := hp0 h
      simp [parseH, parseN, parse_nil]
  refine ⟨?_, by rw [eB], ?_⟩
  · unfold qRq
    rw [eK, eU, eW.1, eN, eT, eH, eB]
    simp only [eS.1, eS.2.1, eW.2]
  · unfold qOdd
    rw [eT]
    exact eS.2.2
theorem get_put {q : Rq} (hr : q.right = true) (hp : q.ph.length = 20) (hc : q.ch.length = 20) : getRq (putRq q) = some q := by
  obtain ⟨h1, h2, h3⟩ := parse_put (lim := mostN) hr hp hc (Nat.le_refl _) []
  rw [List.append_nil] at h1 h2 h3
  unfold getRq
  rw [if_pos ⟨h2, h3, by rw [h1]; exact hr⟩, h1]
theorem get_more {q : Rq} (hr : q.right = true) (hp : q.ph.length = 20) (hc : q.ch.length = 20) {y : List UInt8} (hy : y ≠ []) : getRq (putRq q ++ y) = none := by
  obtain ⟨_, h2, _⟩ := parse_put (lim := mostN) hr hp hc (Nat.le_refl _) y
  unfold getRq
  rw [if_neg]
  rintro ⟨h, _⟩
  rw [h2] at h
  exact hy (by simpa using h)
theorem parseH_length (s : List UInt8) : (parseH s).length = 20 := by
  unfold parseH
  cases h : parse s with
  | none => rfl
  | some p => exact (parse_some (h := p.1) (n := p.2) h).2.1
theorem pW_some {P : Nat} {s : Option (List UInt8)} {n : Nat} {y : List UInt8} (h : pW P s = (n, some y)) : s = some ((if hasN P 1 then encN n else []) ++ y) := by
  unfold pW at h
  cases h1 : hasN P 1 with
  | true => rw [h1] at h; simp only [if_true] at h ⊢; exact (sNum_some h).1
  | false => rw [h1] at h; simp only [Bool.false_eq_true, if_false, Prod.mk.injEq] at h ⊢; exact h.2
theorem pN_some {P : Nat} {s : Option (List UInt8)} {n : List UInt8} {y : List UInt8} (h : pN P s = (n, some y)) : s = some ((if hasN P 2 then encT n else []) ++ y) := by
  unfold pN at h
  cases h1 : hasN P 2 with
  | true => rw [h1] at h; simp only [if_true] at h ⊢; exact (sText_some h).1
  | false => rw [h1] at h; simp only [Bool.false_eq_true, if_false, Prod.mk.injEq] at h ⊢; exact h.2
theorem pT_some {P : Nat} {s : Option (List UInt8)} {n : List UInt8} {y : List UInt8} (h : pT P s = (n, some y)) : s = some ((if hasN P 12 then encT n else []) ++ y) := by
  unfold pT at h
  cases h1 : hasN P 12 with
  | true => rw [h1] at h; simp only [if_true] at h ⊢; exact (sText_some h).1
  | false => rw [h1] at h; simp only [Bool.false_eq_true, if_false, Prod.mk.injEq] at h ⊢; exact h.2
theorem pH_some {P : Nat} {s : Option (List UInt8)} {n : List UInt8} {y : List UInt8} (h : pH P s = (n, some y)) : s = some ((if hasN P 16 then n else []) ++ y) := by
  unfold pH at h
  cases h1 : hasN P 16 with
  | true => rw [h1] at h; simp only [if_true] at h ⊢; exact (sHash_some h).1
  | false => rw [h1] at h; simp only [Bool.false_eq_true, if_false, Prod.mk.injEq] at h ⊢; exact h.2
theorem pB_some {P lim : Nat} {s : Option (List UInt8)} {n : List UInt8} {y : List UInt8} (h : pB P lim s = (n, some y)) : s = some ((if hasN P 32 then encT n else []) ++ y) := by
  unfold pB at h
  cases h1 : hasN P 32 with
  | true => rw [h1] at h; simp only [if_true] at h ⊢; exact (sText_some h).1
  | false => rw [h1] at h; simp only [Bool.false_eq_true, if_false, Prod.mk.injEq] at h ⊢; exact h.2
theorem pT_none {P : Nat} {s s' : Option (List UInt8)} {n : List UInt8} (h : pT P s = (n, s')) (h1 : hasN P 12 = false) : n = [] := by
  unfold pT at h
  rw [h1] at h
  simp only [Bool.false_eq_true, if_false, Prod.mk.injEq] at h
  exact h.1.symm
theorem pathS_text {t : List UInt8} (h : (!(t == [] || (parse t).isSome)) = false) : pathS (parseH t) (parseN t) = t := by
  simp only [Bool.not_eq_false', Bool.or_eq_true, beq_iff_eq] at h
  rcases h with rfl | ho
  · simp [parseH, parseN, parse_nil, pathS_none isName_nil]
  · obtain ⟨⟨h', n'⟩, hp⟩ := Option.isSome_iff_exists.1 ho
    obtain ⟨h1, h2, h3⟩ := parse_some hp
    simp only [parseH, parseN, hp, Option.map_some, Option.getD_some]
    unfold pathS
    rw [if_pos h1, h3]
/-- what was read, if all was and a path was one, has just these bytes -/
theorem put_parse {lim : Int → Nat} {b : List UInt8} (he : (qB lim (some b)).2 = some []) (ho : qOdd (some b) = false) : putRq (qRq lim (some b)) = b := by
  obtain ⟨k, s1, h1⟩ : ∃ k s, qK (some b) = (k, s) := ⟨_, _, rfl⟩
  obtain ⟨u, s2, h2⟩ : ∃ k s, qU (some b) = (k, s) := ⟨_, _, rfl⟩
  obtain ⟨wh, s3, h3⟩ : ∃ k s, qW (some b) = (k, s) := ⟨_, _, rfl⟩
  obtain ⟨nm, s4, h4⟩ : ∃ k s, qN (some b) = (k, s) := ⟨_, _, rfl⟩
  obtain ⟨t, s5, h5⟩ : ∃ k s, qT (some b) = (k, s) := ⟨_, _, rfl⟩
  obtain ⟨ch, s6, h6⟩ : ∃ k s, qH (some b) = (k, s) := ⟨_, _, rfl⟩
  obtain ⟨bs, s7, h7⟩ : ∃ k s, qB lim (some b) = (k, s) := ⟨_, _, rfl⟩
  have er : qRq lim (some b) = ⟨k, u, wh, nm, bs, parseH t, parseN t, ch⟩ := by unfold qRq; rw [h1, h2, h3, h4, h5, h6, h7]
  obtain ⟨P, hP⟩ : ∃ P, partsN (k : Int) = P := ⟨_, rfl⟩
  have eP : qP (some b) = P := by unfold qP; rw [h1]; exact hP
  rw [h7] at he
  have he : s7 = some [] := he
  subst he
  have ho : (!(t == [] || (parse t).isSome)) = false := by unfold qOdd at ho; rw [h5] at ho; exact ho
  have g7 : pB P (lim (k : Int)) s6 = (bs, some []) := by unfold qB at h7; rw [eP, h6, h1] at h7; exact h7
  have g6 : pH P s5 = (ch, s6) := by unfold qH at h6; rw [eP, h5] at h6; exact h6
  have g5 : pT P s4 = (t, s5) := by unfold qT at h5; rw [eP, h4] at h5; exact h5
  have g4 : pN P s3 = (nm, s4) := by unfold qN at h4; rw [eP, h3] at h4; exact h4
  have g3 : pW P s2 = (wh, s3) := by unfold qW at h3; rw [eP, h2] at h3; exact h3
  have g2 : sNum 8 s1 = (u, s2) := by unfold qU at h2; rw [h1] at h2; exact h2
  have g1 : sNum 10 (some b) = (k, s1) := h1
  clear h1 h2 h3 h4 h5 h6 h7 eP
  have hpath : (if hasN P 12 then encT (pathS (parseH t) (parseN t)) else []) = (if hasN P 12 then encT t else []) := by rw [pathS_text ho]
  obtain rfl := pB_some g7
  obtain rfl := pH_some g6
  obtain rfl := pT_some g5
  obtain rfl := pN_some g4
  obtain rfl := pW_some g3
  obtain ⟨rfl, _⟩ := sNum_some g2
  have hb := Option.some.inj (sNum_some g1).1
  rw [er]
  unfold putRq putP
  simp only [Int.toNat_natCast, hP]
  rw [hpath]
  rw [List.append_nil] at hb
  exact hb.symm
theorem put_get {b : List UInt8} {q : Rq} (h : getRq b = some q) : q.right = true ∧ putRq q = b ∧ q.ph.length = 20 ∧ q.ch.length = 20 := by
  unfold getRq at h
  split at h
  · rename_i hc
    obtain ⟨h1, h2, h3⟩ := hc
    obtain rfl := Option.some.inj h
    refine ⟨h3, put_parse h1 h2, parseH_length _, ?_⟩
    show (qH (some b)).1.length = 20
    unfold qH pH
    split
    · exact sHash_length _
    · rfl
  · cases h
/-- the document's answer: what is read, if its bytes are just these -/
def getRqD (lim : Int → Nat) (b : List UInt8) : Option Rq := if (qRq lim (some b)).right = true ∧ (qB lim (some b)).2 = some [] ∧ putRq (qRq lim (some b)) = b then some (qRq lim (some b)) else none
theorem qRq_hash (lim : Int → Nat) (b : Option (List UInt8)) : (qRq lim b).ph.length = 20 ∧ (qRq lim b).ch.length = 20 := by
  refine ⟨parseH_length _, ?_⟩
  show (qH b).1.length = 20
  unfold qH pH
  split
  · exact sHash_length _
  · rfl
theorem getRqD_eq {lim : Int → Nat} (hlim : ∀ k, mostN k ≤ lim k) (b : List UInt8) : getRqD lim b = getRq b := by
  cases h : getRq b with
  | some q =>
    obtain ⟨hr, hb, hp, hc⟩ := put_get h
    obtain ⟨h1, h2, _⟩ := parse_put (lim := lim) hr hp hc (hlim _) []
    rw [List.append_nil, hb] at h1 h2
    unfold getRqD
    rw [if_pos ⟨by rw [h1]; exact hr, h2, by rw [h1]; exact hb⟩, h1]
  | none =>
    unfold getRqD
    split
    · rename_i hc
      obtain ⟨h1, _, h3⟩ := hc
      obtain ⟨hp, hcl⟩ := qRq_hash lim (some b)
      have := get_put h1 hp hcl
      rw [h3, h] at this
      cases this
    · rfl
/-- a byte less is none -/
theorem get_less {q : Rq} (hr : q.right = true) (hp : q.ph.length = 20) (hc : q.ch.length = 20) {x y : List UInt8} (hy : y ≠ []) (hx : putRq q = x ++ y) : getRq x = none := by
  cases h : getRq x with
  | none => rfl
  | some p =>
    obtain ⟨hr', hb', hp', hc'⟩ := put_get h
    have := get_more hr' hp' hc' hy
    rw [hb', ← hx, get_put hr hp hc] at this
    cases this
theorem putRq_pos (q : Rq) : putRq q ≠ [] := by
  unfold putRq putP
  intro h
  have h1 := (List.append_eq_nil_iff.1 h).1
  rw [encN] at h1
  split at h1 <;> simp at h1
end Go.Proofs.Ytpnolgliklmnmaa
/-! code.Cursor as a state: contracts without cases. -/
namespace Go.Proofs.Ytpnolgliklmnmaa
open Go.RowKit Pl Go.Agg
/-- a cursor at g, of a state -/
def CuS (base g : Nat) (w : World) (s : Option (List UInt8)) : Prop := ∃ v r e, CuV base g w v r e ∧ (e ≠ 0 → v = .slice none 0 0 ∧ r = []) ∧ s = (if e = 0 then some r else none)
theorem CuS.good {base g : Nat} {w : World} {v : Value} {r : List UInt8} (h : CuV base g w v r 0) : CuS base g w (some r) := ⟨v, r, 0, h, fun h => absurd rfl h, rfl⟩
theorem CuS.bad {base g : Nat} {w : World} (h : CBad base g w) : CuS base g w none := by
  obtain ⟨e, he, h⟩ := h
  exact ⟨_, _, e, h, fun _ => ⟨rfl, rfl⟩, by rw [if_neg he]⟩
theorem CuS.below {base g : Nat} {w w' : World} {s : Option (List UInt8)} (h : CuS base g w s) (hb : Below w.heap.size w w') : CuS base g w' s := by
  obtain ⟨v, r, e, h, h1, h2⟩ := h
  exact ⟨v, r, e, h.below hb, h1, h2⟩
theorem CuS.lt {base g : Nat} {w : World} {s : Option (List UInt8)} (h : CuS base g w s) : g < w.heap.size := by
  obtain ⟨v, r, e, h, _⟩ := h
  exact h.blk.lt
theorem getN_nil (most : Nat) : getN most [] = none := by
  unfold getN
  rw [if_pos (.inl rfl)]
theorem getT_nil (most : Nat) : getT most [] = none := by
  unfold getT
  rw [getN_nil]
theorem snum_any (base g most : Nat) (s : Option (List UInt8)) (w : World) (hl : stLen s ≤ 16777216) (hmo : most ≤ 1099511627776) (h : CuS base g w s) :
    Calls Try.prog 55 #[.pointer (some ⟨g, 0, none⟩), .int .i64 (most : Int)] w fun x w' => x = .returned (.int .i64 ((sNum most s).1 : Int)) ∧ CuS base g w' (sNum most s).2 ∧ Only (· = g) w w' := by
  obtain ⟨v, r, e, hv, hbad, rfl⟩ := h
  by_cases h0 : e = 0
  · subst h0
    refine (cnum_any base g most v r 0 w (by simpa [stLen] using hl) hmo hv).mono ?_
    rintro x w' ⟨hc, ho⟩
    rcases hc with ⟨n, y, v', hg, rfl, hcu⟩ | ⟨hg, rfl, hcu⟩
    · simp only [if_true, sNum, hg]
      exact ⟨trivial, CuS.good hcu, ho⟩
    · simp only [if_true, sNum, hg] at hcu ⊢
      exact ⟨rfl, CuS.bad ⟨4, by omega, hcu⟩, ho⟩
  · obtain ⟨rfl, rfl⟩ := hbad h0
    refine (cnum_any base g most _ [] e w (by simp) hmo hv).mono ?_
    rintro x w' ⟨hc, ho⟩
    rcases hc with ⟨n, y, v', hg, rfl, hcu⟩ | ⟨hg, rfl, hcu⟩
    · rw [getN_nil] at hg; cases hg
    · simp only [if_neg h0, sNum] at hcu ⊢
      exact ⟨rfl, CuS.bad ⟨e, h0, hcu⟩, ho⟩
theorem sraw_any (base g many : Nat) (s : Option (List UInt8)) (w : World) (hl : stLen s ≤ 16777216) (hmo : many ≤ 1099511627776) (h : CuS base g w s) :
    Calls Try.prog 96 #[.pointer (some ⟨g, 0, none⟩), .int .i64 (many : Int)] w fun x w' => ∃ u, x = .returned u ∧ Own EB w.heap.size w' u (sRaw many s).1 ∧ CuS base g w' (sRaw many s).2 ∧ Only (· = g) w w' := by
  obtain ⟨v, r, e, hv, hbad, rfl⟩ := h
  by_cases h0 : e = 0
  · subst h0
    refine (craw_any base g many v r 0 w (by simpa [stLen] using hl) hmo hv).mono ?_
    rintro x w' ⟨hc, ho⟩
    rcases hc with ⟨_, hle, u, v', rfl, hu, hcu⟩ | ⟨hor, rfl, hcu⟩
    · simp only [if_true, sRaw, if_pos hle]
      exact ⟨u, rfl, hu, CuS.good hcu, ho⟩
    · have hle : ¬ many ≤ r.length := by rcases hor with h | h <;> omega
      simp only [if_true, sRaw, if_neg hle]
      exact ⟨_, rfl, Own.nil _ _ _, CuS.bad hcu, ho⟩
  · obtain ⟨rfl, rfl⟩ := hbad h0
    refine (craw_any base g many _ [] e w (by simp) hmo hv).mono ?_
    rintro x w' ⟨hc, ho⟩
    rcases hc with ⟨h, _⟩ | ⟨hor, rfl, hcu⟩
    · exact absurd h h0
    · simp only [if_neg h0, sRaw]
      exact ⟨_, rfl, Own.nil _ _ _, CuS.bad hcu, ho⟩
theorem stext_any (base g most : Nat) (s : Option (List UInt8)) (w : World) (hl : stLen s ≤ 16777216) (h : CuS base g w s) :
    Calls Try.prog 56 #[.pointer (some ⟨g, 0, none⟩), .int .i64 (most : Int)] w fun x w' => ∃ u, x = .returned u ∧ Own EB w.heap.size w' u (sText most s).1 ∧ CuS base g w' (sText most s).2 ∧ Only (· = g) w w' := by
  obtain ⟨v, r, e, hv, hbad, rfl⟩ := h
  by_cases h0 : e = 0
  · subst h0
    refine (ctext_any base g most v r 0 w (by simpa [stLen] using hl) (fun h => absurd rfl h) hv).mono ?_
    rintro x w' ⟨hc, ho⟩
    rcases hc with ⟨_, l, y, u, v', hg, rfl, hu, hcu⟩ | ⟨hor, rfl, hcu⟩
    · simp only [if_true, sText, hg]
      exact ⟨u, rfl, hu, CuS.good hcu, ho⟩
    · have hg : getT most r = none := hor.elim (fun h => absurd rfl h) id
      simp only [if_true, sText, hg]
      exact ⟨_, rfl, Own.nil _ _ _, CuS.bad hcu, ho⟩
  · obtain ⟨rfl, rfl⟩ := hbad h0
    refine (ctext_any base g most _ [] e w (by simp) (fun _ => rfl) hv).mono ?_
    rintro x w' ⟨hc, ho⟩
    rcases hc with ⟨h, _⟩ | ⟨hor, rfl, hcu⟩
    · exact absurd h h0
    · simp only [if_neg h0, sText]
      exact ⟨_, rfl, Own.nil _ _ _, CuS.bad hcu, ho⟩
theorem send_any (base g : Nat) (s : Option (List UInt8)) (w : World) (h : CuS base g w s) :
    Calls Try.prog 98 #[.pointer (some ⟨g, 0, none⟩)] w fun x w' => (∃ c : Nat, x = .returned (.int .i64 (c : Int)) ∧ (c = 0 ↔ s = some [])) ∧ w' = w := by
  obtain ⟨v, r, e, hv, hbad, rfl⟩ := h
  refine (cend_any base g v r e w hv).mono ?_
  rintro x w' ⟨⟨c, rfl, hc⟩, rfl⟩
  refine ⟨⟨c, rfl, ?_⟩, rfl⟩
  rw [hc]
  by_cases h0 : e = 0
  · simp [h0]
  · simp [h0]
end Go.Proofs.Ytpnolgliklmnmaa
/-! Slices of paths: what they hold. -/
namespace Go.Proofs.Ytpnolgliklmnmaa
open Go.RowKit Pl Go.Agg
/-- a path whose hash has twenty bytes -/
abbrev P20 : Type := { p : List UInt8 × List UInt8 // p.1.length = 20 }
instance : Inhabited P20 := ⟨⟨(z20, []), rfl⟩⟩
def pV (p : P20) : Value := .agg (pC p.1.1 p.1.2)
def cells20 (p : P20) : List Value := (pC p.1.1 p.1.2).toList
theorem cells20_length (p : P20) : (cells20 p).length = 21 := by simp [cells20, pC_size, p.2]
def flat (l : List P20) : List Value := l.flatMap cells20
theorem flat_length (l : List P20) : (flat l).length = l.length * 21 := by
  induction l with
  | nil => rfl
  | cons p l ih => simp only [flat, List.flatMap_cons, List.length_append, cells20_length, List.length_cons] at ih ⊢; omega
theorem flat_append (a b : List P20) : flat (a ++ b) = flat a ++ flat b := by simp [flat]
theorem flat_get : ∀ (l : List P20) (j : Nat) (p : P20) (i : Nat) (v : Value), l[j]? = some p → (pC p.1.1 p.1.2)[i]? = some v → (flat l)[j * 21 + i]? = some v
  | [], j, p, i, v, h, _ => by simp at h
  | q :: l, 0, p, i, v, h, hv => by
    obtain rfl : q = p := by simpa using h
    have hlt : i < (cells20 q).length := by rw [cells20_length]; have := (Array.getElem?_eq_some_iff.1 hv).1; rw [pC_size, q.2] at this; omega
    rw [flat, List.flatMap_cons, Nat.zero_mul, Nat.zero_add, List.getElem?_append_left hlt]
    simpa [cells20] using hv
  | q :: l, j + 1, p, i, v, h, hv => by
    have ih := flat_get l j p i v (by simpa using h) hv
    rw [flat, List.flatMap_cons, List.getElem?_append_right (by rw [cells20_length]; omega), cells20_length, show (j + 1) * 21 + i - 21 = j * 21 + i by omega]
    exact ih
theorem info_path : ∃ i, Try.prog.info? 44 = some i ∧ i.zero = some (.agg (pC z20 [])) ∧ i.size = 21 ∧ i.bytes = 40 := by
  have hz := pC_zero
  have hs : (Try.prog.info? 44).map (·.size) = some 21 := by kernel_rfl
  have hb : (Try.prog.info? 44).map (·.bytes) = some 40 := by kernel_rfl
  cases hi : Try.prog.info? 44 with
  | none => rw [hi] at hz; cases hz
  | some i =>
    rw [hi] at hz hs hb
    exact ⟨i, rfl, Option.some.inj hz, Option.some.inj hs, Option.some.inj hb⟩
theorem cells20_one (p : P20) (v : Value) (hv : v ∈ cells20 p) : v.oneCell' = true := by
  have h := pC_one p.1.1 p.1.2
  rw [Array.all_eq_true_iff_forall_mem] at h
  exact h v (by simpa [cells20] using hv)
/-- paths as elements -/
def E20 : Elem Try.prog P20 where
  ty := 44
  st := 47
  n := 21
  bytes := 40
  val := pV
  zero := .agg (pC z20 [])
  pos := by omega
  small := by omega
  size := fun p => by simp [pV, Value.cells, pC_size, p.2]
  one := fun p v hv => cells20_one p v hv
  zsize := by simp [Value.cells, pC_size, z20_length]
  slice := by kernel_rfl
  info := info_path
  load := fun w a p hp h => LoadsL.of_cells hp h pC_under rfl (pC_info _ _ p.2)
/-- a slice of these paths -/
abbrev ElemsAt (w : World) (v : Value) (l : List P20) : Prop := SliceOf E20 w v l
theorem flat20 (l : List P20) : E20.flat l = flat l := rfl
/-- the length of such a slice -/
theorem elems_len {w : World} {v : Value} {l : List P20} (h : ElemsAt w v l) (W : World) : (Builtin.len_ #[47] 3 #[v]).run Try.prog W = .ok (.int .i64 (l.length : Int)) W := h.len W
theorem elem_at {w : World} {v : Value} {l : List P20} (h : ElemsAt w v l) (k : Nat) (x : P20) (hx : l[k]? = some x) :
    ∃ p : Addr, (∀ W, (Instr.indexAt 47 v (.int .i64 (k : Int))).run Try.prog W = .ok (.pointer (some p)) W) ∧ LoadsL Try.prog w 44 (some p) (.agg (pC x.1.1 x.1.2)) ∧ LoadsL Try.prog w 9 (some (p.add 20)) (.string ⟨x.1.2.toArray⟩) := by
  obtain ⟨p, h1, h2, h3, h4⟩ := h.at_ k x hx
  exact ⟨p, h1, h4, LoadsL.of_cell (h3 20 _ (pC_name _ _ x.2)) Try.underlying9 rfl⟩
end Go.Proofs.Ytpnolgliklmnmaa
/-! Replies as bytes: the plain law. -/
namespace Go.Proofs.Ytpnolgliklmnmaa
open Go.RowKit Pl Go.Agg
structure Rp where
  e : Int
  ph : List UInt8
  pn : List UInt8
  ch : List UInt8
  g : Int
  l : List P20
  m : Int
def Rp.zero : Rp := ⟨0, z20, [], z20, 0, [], 0⟩
def pathsName (l : List P20) : Bool := l.all fun p => isName p.1.2
def Rp.right (q : Rp) : Bool := (decide (0 ≤ q.e) && decide (q.e ≤ 63)) && ((decide (0 ≤ q.g) && decide (q.g ≤ 1099511627776)) && ((decide (0 ≤ q.m) && decide (q.m ≤ 1099511627776)) && (namedN q.ph q.pn true && (decide (q.l.length ≤ 2000) && pathsName q.l))))
def encP (p : P20) : List UInt8 := encT (pathS p.1.1 p.1.2)
def putRp (q : Rp) : List UInt8 := encN q.e.toNat ++ (encN q.g.toNat ++ (encN q.m.toNat ++ (encT (pathS q.ph q.pn) ++ (q.ch ++ (encN q.l.length ++ q.l.flatMap encP)))))
def sTexts : Nat → Option (List UInt8) → List (List UInt8) × Option (List UInt8)
  | 0, s => ([], s)
  | n + 1, s => ((sText 57 s).1 :: (sTexts n (sText 57 s).2).1, (sTexts n (sText 57 s).2).2)
def rE (b : Option (List UInt8)) := sNum 63 b
def rG (b : Option (List UInt8)) := sNum 1099511627776 (rE b).2
def rM (b : Option (List UInt8)) := sNum 1099511627776 (rG b).2
def rX (b : Option (List UInt8)) := sText 57 (rM b).2
def rH (b : Option (List UInt8)) := sHash (rX b).2
def rC (b : Option (List UInt8)) := sNum 2000 (rH b).2
def rL (b : Option (List UInt8)) := sTexts (rC b).1 (rC b).2
def textP (t : List UInt8) : P20 := ⟨(parseH t, parseN t), parseH_length t⟩
def textOdd (t : List UInt8) : Bool := !(t == [] || (parse t).isSome)
def rRp (b : Option (List UInt8)) : Rp := ⟨((rE b).1 : Int), parseH (rX b).1, parseN (rX b).1, (rH b).1, ((rG b).1 : Int), (rL b).1.map textP, ((rM b).1 : Int)⟩
def rOdd (b : Option (List UInt8)) : Bool := textOdd (rX b).1 || (rL b).1.any textOdd
def getRp (b : List UInt8) : Option Rp := if (rL (some b)).2 = some [] ∧ rOdd (some b) = false ∧ (rRp (some b)).right = true then some (rRp (some b)) else none
theorem sTexts_enc : ∀ (l : List (List UInt8)) (y : List UInt8), (∀ t ∈ l, t.length ≤ 57) → sTexts l.length (some (l.flatMap encT ++ y)) = (l, some y)
  | [], y, _ => by simp [sTexts]
  | t :: l, y, h => by
    have h1 := h t (by simp)
    have e : sText 57 (some ((t :: l).flatMap encT ++ y)) = (t, some (l.flatMap encT ++ y)) := by
      simp only [List.flatMap_cons, List.append_assoc]
      exact sText_enc h1 (by omega) _
    simp only [List.length_cons, sTexts, e, sTexts_enc l y (fun t ht => h t (by simp [ht]))]
theorem sTexts_some : ∀ (n : Nat) (s : Option (List UInt8)) (l : List (List UInt8)) (y : List UInt8), sTexts n s = (l, some y) → s = some (l.flatMap encT ++ y) ∧ l.length = n
  | 0, s, l, y, h => by
    simp only [sTexts, Prod.mk.injEq] at h
    obtain ⟨rfl, rfl⟩ := h
    simp
  | n + 1, s, l, y, h => by
    simp only [sTexts, Prod.mk.injEq] at h
    obtain ⟨rfl, h2⟩ := h
    obtain ⟨h3, h4⟩ := sTexts_some n _ _ y (Prod.ext rfl h2)
    have h5 := (sText_some (Prod.ext (rfl : (sText 57 s).1 = (sText 57 s).1) h3)).1
    refine ⟨h5.trans ?_, by simp [h4]⟩
    simp
theorem sTexts_len : ∀ (n : Nat) (s : Option (List UInt8)), (sTexts n s).1.length = n ∧ stLen (sTexts n s).2 ≤ stLen s
  | 0, s => by simp [sTexts]
  | n + 1, s => by
    obtain ⟨h1, h2⟩ := sTexts_len n (sText 57 s).2
    have := sText_len 57 s
    simp only [sTexts, List.length_cons]
    exact ⟨by omega, by omega⟩
theorem sTexts_snoc : ∀ (n : Nat) (s : Option (List UInt8)), sTexts (n + 1) s = ((sTexts n s).1 ++ [(sText 57 (sTexts n s).2).1], (sText 57 (sTexts n s).2).2)
  | 0, s => by simp [sTexts]
  | n + 1, s => by
    rw [sTexts, sTexts_snoc n]
    simp [sTexts]
structure RightRp (q : Rp) : Prop where
  e : 0 ≤ q.e ∧ q.e ≤ 63
  g : 0 ≤ q.g ∧ q.g ≤ 1099511627776
  m : 0 ≤ q.m ∧ q.m ≤ 1099511627776
  p : isName q.pn = true ∨ q.ph = z20 ∧ q.pn = []
  len : q.l.length ≤ 2000
  names : ∀ p ∈ q.l, isName p.1.2 = true
theorem Rp.right_parts {q : Rp} (h : q.right = true) : RightRp q := by
  unfold Rp.right at h
  simp only [Bool.and_eq_true, decide_eq_true_eq, namedN, Bool.or_eq_true, Bool.true_and, beq_iff_eq, pathsName, List.all_eq_true] at h
  obtain ⟨h1, h2, h3, h4, h5, h6⟩ := h
  exact ⟨h1, h2, h3, h4, h5, h6⟩
theorem textP_path {p : P20} (hn : isName p.1.2 = true) : textP (pathS p.1.1 p.1.2) = p ∧ textOdd (pathS p.1.1 p.1.2) = false := by
  have h := parse_pathS p.2 hn
  refine ⟨Subtype.ext ?_, by simp [textOdd, h]⟩
  show (parseH _, parseN _) = p.1
  simp [parseH, parseN, h]
theorem flat_paths (l : List P20) : l.flatMap encP = (l.map fun p => pathS p.1.1 p.1.2).flatMap encT := by
  rw [List.flatMap_map]
  rfl
/-- what is put is got, whatever stands behind it -/
theorem parse_putRp {q : Rp} (hr : q.right = true) (hp : q.ph.length = 20) (hc : q.ch.length = 20) (y : List UInt8) :
    rRp (some (putRp q ++ y)) = q ∧ (rL (some (putRp q ++ y))).2 = some y ∧ rOdd (some (putRp q ++ y)) = false := by
  have R := Rp.right_parts hr
  obtain ⟨e, ph, pn, ch, g, l, m⟩ := q
  obtain ⟨he, hg, hm, hpp, hll, hn⟩ := R
  simp only at *
  obtain ⟨e, rfl⟩ : ∃ n : Nat, e = n := ⟨e.toNat, by omega⟩
  obtain ⟨g, rfl⟩ : ∃ n : Nat, g = n := ⟨g.toNat, by omega⟩
  obtain ⟨m, rfl⟩ : ∃ n : Nat, m = n := ⟨m.toNat, by omega⟩
  have eE : rE (some (putRp ⟨e, ph, pn, ch, g, l, m⟩ ++ y)) = (e, some (encN g ++ (encN m ++ (encT (pathS ph pn) ++ (ch ++ (encN l.length ++ (l.flatMap encP ++ y))))))) := by
    unfold rE putRp
    simp only [Int.toNat_natCast, List.append_assoc]
    exact sNum_enc (by omega) (by omega) _
  have eG : rG (some (putRp ⟨e, ph, pn, ch, g, l, m⟩ ++ y)) = (g, some (encN m ++ (encT (pathS ph pn) ++ (ch ++ (encN l.length ++ (l.flatMap encP ++ y)))))) := by
    unfold rG; rw [eE]; exact sNum_enc (by omega) (by omega) _
  have eM : rM (some (putRp ⟨e, ph, pn, ch, g, l, m⟩ ++ y)) = (m, some (encT (pathS ph pn) ++ (ch ++ (encN l.length ++ (l.flatMap encP ++ y))))) := by
    unfold rM; rw [eG]; exact sNum_enc (by omega) (by omega) _
  have eX : rX (some (putRp ⟨e, ph, pn, ch, g, l, m⟩ ++ y)) = (pathS ph pn, some (ch ++ (encN l.length ++ (l.flatMap encP ++ y)))) := by
    have := pathS_le (n := pn) ph
    unfold rX; rw [eM]; exact sText_enc (by omega) (by omega) _
  have eH : rH (some (putRp ⟨e, ph, pn, ch, g, l, m⟩ ++ y)) = (ch, some (encN l.length ++ (l.flatMap encP ++ y))) := by
    unfold rH; rw [eX]; exact sHash_enc hc _
  have eC : rC (some (putRp ⟨e, ph, pn, ch, g, l, m⟩ ++ y)) = (l.length, some (l.flatMap encP ++ y)) := by
    unfold rC; rw [eH]; exact sNum_enc (by omega) (by omega) _
  have eL : rL (some (putRp ⟨e, ph, pn, ch, g, l, m⟩ ++ y)) = (l.map (fun p => pathS p.1.1 p.1.2), some y) := by
    unfold rL
    rw [eC, flat_paths]
    have := sTexts_enc (l.map fun p => pathS p.1.1 p.1.2) y (fun t ht => by
      obtain ⟨p, _, rfl⟩ := List.mem_map.1 ht
      exact pathS_le _)
    rwa [List.length_map] at this
  have hpe : parseH (pathS ph pn) = ph ∧ parseN (pathS ph pn) = pn ∧ textOdd (pathS ph pn) = false := by
    rcases hpp with h1 | ⟨rfl, rfl⟩
    · have := parse_pathS hp h1
      simp [parseH, parseN, textOdd, this]
    · simp [parseH, parseN, textOdd, pathS_none isName_nil, parse_nil]
  refine ⟨?_, by rw [eL], ?_⟩
  · unfold rRp
    rw [eE, eG, eM, eX, eH, eL]
    simp only [hpe.1, hpe.2.1, List.map_map]
    congr 1
    conv => rhs; rw [← List.map_id l]
    exact List.map_congr_left fun p h => (textP_path (hn p h)).1
  · unfold rOdd
    rw [eX, eL]
    simp only [hpe.2.2, Bool.false_or, List.any_map]
    rw [List.any_eq_false]
    intro p h
    simp [(textP_path (hn p h)).2]
theorem getRp_put {q : Rp} (hr : q.right = true) (hp : q.ph.length = 20) (hc : q.ch.length = 20) : getRp (putRp q) = some q := by
  obtain ⟨h1, h2, h3⟩ := parse_putRp hr hp hc []
  rw [List.append_nil] at h1 h2 h3
  unfold getRp
  rw [if_pos ⟨h2, h3, by rw [h1]; exact hr⟩, h1]
theorem getRp_more {q : Rp} (hr : q.right = true) (hp : q.ph.length = 20) (hc : q.ch.length = 20) {y : List UInt8} (hy : y ≠ []) : getRp (putRp q ++ y) = none := by
  obtain ⟨_, h2, _⟩ := parse_putRp hr hp hc y
  unfold getRp
  rw [if_neg]
  rintro ⟨h, _⟩
  rw [h2] at h
  exact hy (by simpa using h)
theorem putRp_parse {b : List UInt8} (he : (rL (some b)).2 = some []) (ho : rOdd (some b) = false) : putRp (rRp (some b)) = b := by
  obtain ⟨sL, hlen⟩ := sTexts_some _ _ _ _ (Prod.ext (rfl : (rL (some b)).1 = (rL (some b)).1) he : sTexts (rC (some b)).1 (rC (some b)).2 = ((rL (some b)).1, some []))
  have sC := (sNum_some (Prod.ext (rfl : (rC (some b)).1 = (rC (some b)).1) sL)).1
  have sH := (sHash_some (Prod.ext (rfl : (rH (some b)).1 = (rH (some b)).1) sC)).1
  have sX := (sText_some (Prod.ext (rfl : (rX (some b)).1 = (rX (some b)).1) sH)).1
  have sM := (sNum_some (Prod.ext (rfl : (rM (some b)).1 = (rM (some b)).1) sX)).1
  have sG := (sNum_some (Prod.ext (rfl : (rG (some b)).1 = (rG (some b)).1) sM)).1
  have sE := (sNum_some (Prod.ext (rfl : (rE (some b)).1 = (rE (some b)).1) sG)).1
  have hb := Option.some.inj sE
  unfold rOdd at ho
  rw [Bool.or_eq_false_iff] at ho
  have hl : ((rL (some b)).1.map textP).flatMap encP = (rL (some b)).1.flatMap encT := by
    rw [List.flatMap_map]
    have : ∀ l : List (List UInt8), l.any textOdd = false → (l.flatMap fun t => encP (textP t)) = l.flatMap encT := by
      intro l
      induction l with
      | nil => intro _; rfl
      | cons t l ih =>
        intro h
        simp only [List.any_cons, Bool.or_eq_false_iff] at h
        simp only [List.flatMap_cons, ih h.2]
        congr 1
        show encT (pathS (parseH t) (parseN t)) = _
        rw [pathS_text h.1]
    exact this _ ho.2
  unfold putRp rRp
  simp only [Int.toNat_natCast, pathS_text ho.1, hl, List.length_map, hlen]
  rw [List.append_nil] at hb
  exact hb.symm
theorem rRp_hash (b : Option (List UInt8)) : (rRp b).ph.length = 20 ∧ (rRp b).ch.length = 20 := ⟨parseH_length _, sHash_length _⟩
theorem putRp_get {b : List UInt8} {q : Rp} (h : getRp b = some q) : q.right = true ∧ putRp q = b ∧ q.ph.length = 20 ∧ q.ch.length = 20 := by
  unfold getRp at h
  split at h
  · rename_i hc
    obtain ⟨h1, h2, h3⟩ := hc
    obtain rfl := Option.some.inj h
    exact ⟨h3, putRp_parse h1 h2, (rRp_hash _).1, (rRp_hash _).2⟩
  · cases h
def getRpD (b : List UInt8) : Option Rp := if (rRp (some b)).right = true ∧ (rL (some b)).2 = some [] ∧ putRp (rRp (some b)) = b then some (rRp (some b)) else none
theorem getRpD_eq (b : List UInt8) : getRpD b = getRp b := by
  cases h : getRp b with
  | some q =>
    obtain ⟨hr, hb, hp, hc⟩ := putRp_get h
    obtain ⟨h1, h2, _⟩ := parse_putRp hr hp hc []
    rw [List.append_nil, hb] at h1 h2
    unfold getRpD
    rw [if_pos ⟨by rw [h1]; exact hr, h2, by rw [h1]; exact hb⟩, h1]
  | none =>
    unfold getRpD
    split
    · rename_i hc
      obtain ⟨h1, _, h3⟩ := hc
      have := getRp_put h1 (rRp_hash _).1 (rRp_hash _).2
      rw [h3, h] at this
      cases this
    · rfl
theorem getRp_less {q : Rp} (hr : q.right = true) (hp : q.ph.length = 20) (hc : q.ch.length = 20) {x y : List UInt8} (hy : y ≠ []) (hx : putRp q = x ++ y) : getRp x = none := by
  cases h : getRp x with
  | none => rfl
  | some p =>
    obtain ⟨hr', hb', hp', hc'⟩ := putRp_get h
    have := getRp_more hr' hp' hc' hy
    rw [hb', ← hx, getRp_put hr hp hc] at this
    cases this
theorem putRp_pos (q : Rp) : putRp q ≠ [] := by
  unfold putRp
  intro h
  have h1 := (List.append_eq_nil_iff.1 h).1
  rw [encN] at h1
  split at h1 <;> simp at h1
end Go.Proofs.Ytpnolgliklmnmaa
/-! A row of cells stored into the middle of a block. -/
namespace Go.Agg
open Go.RowKit
variable {P : Program}
def setAll (cs : Array Value) : Nat → List Value → Array Value
  | _, [] => cs
  | i, v :: vs => setAll (cs.setIfInBounds i v) (i + 1) vs
theorem Blk.setAll {g : Nat} {t : TypeId} : ∀ (vs : List Value) (i : Nat) (w : World) (cs : Array Value), Blk w g t cs → Blk (w.setCells g i vs) g t (Agg.setAll cs i vs)
  | [], _, _, _, h => h
  | v :: vs, i, _, _, h => Blk.setAll vs (i + 1) _ _ (h.set i v)
theorem setAll_mid : ∀ (vs a b c : List Value), b.length = vs.length → setAll (a ++ (b ++ c)).toArray a.length vs = (a ++ (vs ++ c)).toArray
  | [], a, b, c, h => by
    obtain rfl := List.length_eq_zero_iff.1 h
    rfl
  | v :: vs, a, [], c, h => by simp at h
  | v :: vs, a, y :: b, c, h => by
    have e : (a ++ (y :: b ++ c)).toArray.setIfInBounds a.length v = ((a ++ [v]) ++ (b ++ c)).toArray := by simp
    have h1 := setAll_mid vs (a ++ [v]) b c (by simpa using h)
    rw [setAll, e, show a.length + 1 = (a ++ [v]).length by simp, h1]
    simp
/-- a row stored: what lies there then -/
theorem Blk.run_row {w : World} {g : Nat} {t ty : TypeId} (a b c ds : Array Value) (h : Blk w g t (a ++ (b ++ c))) (hb : b.size = ds.size) (hs : (P.info? ty).map (·.size) = some ds.size) (h1 : ds.all (·.oneCell') = true) {i : Nat} (hi : i = a.size) :
    ∃ w', (Instr.storeAt ty (.pointer (some ⟨g, i, none⟩)) (.agg ds)).run P w = .ok () w' ∧ Blk w' g t (a ++ (ds ++ c)) ∧ Only (· = g) w w' := by
  subst hi
  refine ⟨_, run_storeAt_mid w g a.size ty ds (fun j hj => ⟨?_, frozen_of_row _ _ _ _ _ h⟩) hs h1, ?_, only_setCells _ _ _ _⟩
  · rw [h.cell]
    simp
    omega
  · have h2 := h.setAll ds.toList a.size
    have e := setAll_mid ds.toList a.toList b.toList c.toList (by simpa using hb)
    have e1 : (a.toList ++ (b.toList ++ c.toList)).toArray = a ++ (b ++ c) := by apply Array.ext'; simp
    have e2 : (a.toList ++ (ds.toList ++ c.toList)).toArray = a ++ (ds ++ c) := by apply Array.ext'; simp
    rw [e1, e2, Array.length_toList] at e
    rw [← e]
    exact h2
/-- one cell stored -/
theorem Blk.run_one {w : World} {g : Nat} {t ty : TypeId} {cs : Array Value} (h : Blk w g t cs) (i : Nat) (hi : i < cs.size) (v : Value) (hv : v.cells = #[v]) (h1 : v.oneCell' = true) (hs : (P.info? ty).map (·.size) = some 1) (ds : Array Value) (he : cs.setIfInBounds i v = ds) :
    ∃ w', (Instr.storeAt ty (.pointer (some ⟨g, i, none⟩)) v).run P w = .ok () w' ∧ Blk w' g t ds ∧ Only (· = g) w w' := by
  subst he
  exact ⟨_, h.run_put i hi v hv h1 hs, h.set i v, rfl, rfl, rfl, by simp [World.setCell], fun k _ hk => Below.heap_setCell _ _ _ _ hk⟩
end Go.Agg
/-! Operations of a region that draws: a store, a copy of bytes, literals. -/
namespace Go.Agg
open Go.RowKit
variable {P : Program}
section
variable {ops : Array Oper} {o : Oper} {a : Act} {w : World} {Q : Exit → Act → World → Prop} {K : Act → World → Prop} {F : Prop}
theorem step_store {w' : World} (hg : o.guard = none) (hd : o.dst = none) (ty : TypeId) (x y : Operand) (ho : o.op = .store ty x y) (p v : Value) (hx : a.eval x = p) (hy : a.eval y = v)
    (hrun : (Instr.storeAt ty p v).run P w = .ok () w') (h : K a w') : if Region.wanted o (yielded ops a.tmps) = true then o.wp P a w K Q else F := by
  rw [if_pos (by simp [Region.wanted, hg])]
  unfold Oper.wp
  have : (execOp a.eval o).run P w = .ok .skip w' := by simp [execOp, ho, hx, hy, hrun]
  rw [this, Oper.upon_skip, hd]
  exact h
theorem step_val {v : Value} {w' : World} (hg : o.guard = none) (hrun : (execOp a.eval o).run P w = .ok (.value v) w') (h : K (a.put o.dst v) w') : if Region.wanted o (yielded ops a.tmps) = true then o.wp P a w K Q else F := by
  rw [if_pos (by simp [Region.wanted, hg])]
  unfold Oper.wp
  rw [hrun]
  exact h
theorem step_slice1 {α : Type} {E : Elem P α} (hg : o.guard = none) (y : Operand) (ho : o.op = .buildSlice E.st 1 #[(0, y)]) (x : α) (hy : a.eval y = E.val x)
    (h : ∀ v' w', Own E w.heap.size w' v' [x] → Below w.heap.size w w' → K (a.put o.dst v') w') : if Region.wanted o (yielded ops a.tmps) = true then o.wp P a w K Q else F := by
  refine step_val hg (v := .slice (some ⟨w.heap.size, 0, none⟩) 1 1) (w' := w.alloc (.cells (E.val x).cells E.ty)) (by simp [execOp, ho, hy, run_slice_one]) (h _ _ ?_ ((Below.refl _ _).alloc (Nat.le_refl _) _))
  have hs := E.size x
  refine ⟨by rw [E.flat_one, E.cs_length]; simp, .inr ⟨_, 1, _, rfl, Nat.le_refl _, heap_alloc_new w _, Nat.le_refl _, by simp [maxLen], by rw [hs]; simp, ?_⟩⟩
  rw [E.flat_one, Elem.cs, List.take_of_length_le (by rw [Array.length_toList, hs]; simp)]
/-- '&T{..}' -/
theorem step_box (hg : o.guard = none) (ty : TypeId) (x : Operand) (ho : o.op = .box ty x) (cs : Array Value) (hx : a.eval x = .agg cs)
    (h : ∀ g w', Blk w' g ty cs → Below w.heap.size w w' → w.heap.size ≤ g → K (a.put o.dst (.pointer (some ⟨g, 0, none⟩))) w') : if Region.wanted o (yielded ops a.tmps) = true then o.wp P a w K Q else F :=
  step_val hg (v := .pointer (some ⟨w.heap.size, 0, none⟩)) (w' := w.alloc (.cells cs ty)) (by simp [execOp, ho, hx, Instr.box, newVar, newRow, Value.cells]) (h _ _ (Blk.new w ty cs) ((Below.refl _ _).alloc (Nat.le_refl _) _) (Nat.le_refl _))
end
end Go.Agg
namespace Go.Proofs.Ytpnolgliklmnmaa
open Go.RowKit Pl Go.Agg
theorem flat_bytes (l : List UInt8) : EB.flat l = Lib.byteCells l := by
  simp only [Elem.flat, Lib.byteCells]
  induction l with
  | nil => rfl
  | cons c t ih =>
    rw [List.flatMap_cons, ih]
    rfl
theorem run_copyB {w : World} {g n : Nat} {t : TypeId} {cur : List Value} {u : Value} {l : List UInt8} (ty : TypeId) (hu : SliceOf EB w u l) (hb : Blk w g t cur.toArray) (hn : cur.length = n) (hl : l.length ≤ n) :
    ∃ w', (Builtin.copy_ #[23, 23] ty #[.slice (some ⟨g, 0, none⟩) n n, u]).run Try.prog w = .ok (goInt l.length) w' ∧ Blk w' g t (Lib.byteCells l ++ cur.drop l.length).toArray ∧ Only (· = g) w w' := by
  have hund : Try.prog.underlying 23 = some (.slice 5) := by kernel_rfl
  have hsz : (Try.prog.info? 5).map (·.size) = some 1 := by kernel_rfl
  have hc : (Lib.byteCells l).length = l.length := by simp [Lib.byteCells]
  by_cases h0 : l.length = 0
  · obtain rfl : l = [] := List.length_eq_zero_iff.1 h0
    obtain ⟨p, c, hf⟩ := hu.form
    subst hf
    exact ⟨w, run_copy_none w _ _ _ 5 _ _ _ _ _ _ hund hsz (by simp), by simpa [Lib.byteCells] using hb, Only.refl _ _⟩
  · rcases hu with ⟨_, _, _, h1⟩ | ⟨q, c, rfl, hq, hcell⟩
    · exact absurd (by simp [h1]) h0
    · rw [flat_bytes] at hcell
      have hrun := run_copy_row (P := Try.prog) w 23 23 ty 5 g 0 n n q l.length c cur.toArray t (Lib.byteCells l) hund hsz hb (by rw [hc]; exact (Nat.min_eq_left hl).symm) hcell (by simp [hc]; omega)
        (fun v hv => by
          simp only [Lib.byteCells, List.mem_map] at hv
          obtain ⟨b, _, rfl⟩ := hv
          rfl)
      rw [hc] at hrun
      refine ⟨_, hrun, ?_, rfl, rfl, rfl, by simp [World.setRow], fun k _ hk => setRow_other w g k _ hk⟩
      have h1 := setRow_heap w g cur.toArray (List.take 0 cur.toArray.toList ++ Lib.byteCells l ++ List.drop (0 + l.length) cur.toArray.toList).toArray t _ hb
      refine Eq.trans h1 ?_
      simp
theorem step_copyB {ops : Array Oper} {o : Oper} {a : Act} {w : World} {Q : Exit → Act → World → Prop} {K : Act → World → Prop} {F : Prop} {g n : Nat} {t : TypeId} {cur : List Value} {u : Value} {l : List UInt8} (hg : o.guard = none) (d s : Operand)
    (ho : o.op = .call { callee := .builtin .copy, args := #[d, s], argTypes := #[23, 23] }) (hd : a.eval d = .slice (some ⟨g, 0, none⟩) n n) (hs : a.eval s = u) (hu : SliceOf EB w u l) (hb : Blk w g t cur.toArray) (hn : cur.length = n) (hl : l.length ≤ n)
    (h : ∀ w', Blk w' g t (Lib.byteCells l ++ cur.drop l.length).toArray → Only (· = g) w w' → K (a.put o.dst (goInt l.length)) w') : if Region.wanted o (yielded ops a.tmps) = true then o.wp Try.prog a w K Q else F := by
  obtain ⟨w', hrun, h1, h2⟩ := run_copyB o.type hu hb hn hl
  exact step_val hg (by simp [execOp, ho, resolve, invoke, builtin, hd, hs, hrun]) (h w' h1 h2)
end Go.Proofs.Ytpnolgliklmnmaa
/-! wire.getter: path, hash, ok. -/
namespace Go.Agg
open Go.RowKit
variable {P : Program}
theorem Blk.type {w : World} {g : Nat} {t t' : TypeId} {cs cs' : Array Value} (h : Blk w g t cs) (h' : Blk w g t' cs') : t = t' := by
  unfold Blk at h h'
  rw [h] at h'
  injection h' with h'
  injection h' with _ h'
theorem Blk.only {w w' : World} {S : Nat → Prop} {g : Nat} {t : TypeId} {cs : Array Value} (h : Blk w g t cs) (ho : Only S w w') (hS : ¬ S g) : Blk w' g t cs := (ho.block g h.lt hS).trans h
theorem Only.of_eq {w w' : World} {g : Nat} {S : Nat → Prop} (hb : Below g w w') (hs : w'.heap.size = w.heap.size) (hk : ∀ k, k ≠ g → w'.heap[k]? = w.heap[k]?) (hg : S g) : Only S w w' :=
  ⟨hb.os, hb.tape, hb.output, Nat.le_of_eq hs.symm, fun k _ hn => hk k (fun e => hn (e ▸ hg))⟩
end Go.Agg
namespace Go.Proofs.Ytpnolgliklmnmaa
open Go.RowKit Pl Go.Agg
theorem CuS.keep {base gc : Nat} {w w' : World} {s : Option (List UInt8)} {S : Nat → Prop} (h : CuS base gc w s) (ho : Only S w w') (hS : ¬ S gc) (hr : ∀ k, S k → k < w.heap.size → ∀ cur fr, w.heap[k]? ≠ some (Obj.cells cur 5 fr)) : CuS base gc w' s := by
  obtain ⟨v, r, e, hv, h1, h2⟩ := h
  refine ⟨v, r, e, ⟨hv.blk.only ho hS, restKeepT hv.rest fun k cur fr hk => (ho.block k (Agg.heap_lt hk) fun hs => hr k hs (Agg.heap_lt hk) cur fr hk).trans hk⟩, h1, h2⟩
theorem CuS.ne_int {base gc : Nat} {w : World} {s : Option (List UInt8)} {b : Nat} {k : IntKind} {m : Int} (h : CuS base gc w s) (hm : w.cell? ⟨b, 0, none⟩ = some (.int k m)) : b ≠ gc := by
  rintro rfl
  obtain ⟨v, r, e, hv, _⟩ := h
  obtain ⟨p, c, hf⟩ := hv.rest.slice.form
  rw [hv.blk.cell, hf] at hm
  simp [cuC] at hm
def gtC (gc : Nat) (odd : Bool) : Array Value := #[.pointer (some ⟨gc, 0, none⟩), .bool odd]
/-- a getter at gg, its cursor at gc -/
structure GtV (base gg gc : Nat) (w : World) (s : Option (List UInt8)) (odd : Bool) : Prop where
  blk : Blk w gg 118 (gtC gc odd)
  cur : CuS base gc w s
section
variable {base gg gc : Nat} {w w' : World} {s s' : Option (List UInt8)} {odd : Bool}
theorem CuS.blk (h : CuS base gc w s) : ∃ cs, Blk w gc 162 cs := by
  obtain ⟨v, r, e, hv, _⟩ := h
  exact ⟨_, hv.blk⟩
theorem GtV.ne (h : GtV base gg gc w s odd) : gg ≠ gc := by
  rintro rfl
  obtain ⟨cs, hb⟩ := h.cur.blk
  exact absurd (h.blk.type hb) (by decide)
theorem GtV.ptr (h : GtV base gg gc w s odd) : LoadsL Try.prog w 115 (some ⟨gg, 0, none⟩) (.pointer (some ⟨gc, 0, none⟩)) :=
  h.blk.one (P := Try.prog) 0 rfl Try.underlying115 rfl
theorem GtV.oddL (h : GtV base gg gc w s odd) : LoadsL Try.prog w 4 (some ⟨gg, 1, none⟩) (.bool odd) :=
  h.blk.one (P := Try.prog) 1 rfl Try.underlying4 rfl
theorem GtV.below (h : GtV base gg gc w s odd) (hb : Below w.heap.size w w') : GtV base gg gc w' s odd := ⟨h.blk.below hb, h.cur.below hb⟩
/-- the cursor went on -/
theorem GtV.step (h : GtV base gg gc w s odd) (ho : Only (· = gc) w w') (hc : CuS base gc w' s') : GtV base gg gc w' s' odd := ⟨h.blk.only ho h.ne, hc⟩
/-- another block was written -/
theorem GtV.other {g : Nat} {t : TypeId} {cs : Array Value} (h : GtV base gg gc w s odd) (ho : Only (· = g) w w') (hb : Blk w g t cs) (h1 : t ≠ 118) (h2 : t ≠ 162) (h3 : t ≠ 5) : GtV base gg gc w' s odd := by
  refine ⟨h.blk.only ho fun e => h1 ?_, h.cur.keep ho (fun e => ?_) fun k hk _ cur fr hc => ?_⟩
  · subst e; exact hb.type h.blk
  · subst e
    obtain ⟨cs', hb'⟩ := h.cur.blk
    exact h2 (hb.type hb')
  · subst hk
    unfold Blk at hb
    rw [hb] at hc
    injection hc with hc
    injection hc with _ hc
    exact h3 hc
/-- its mark written -/
theorem GtV.mark (h : GtV base gg gc w s odd) (b : Bool) : ∃ w', (Instr.storeAt 4 (.pointer (some ⟨gg, 1, none⟩)) (.bool b)).run Try.prog w = .ok () w' ∧ GtV base gg gc w' s b ∧ Only (· = gg) w w' := by
  have ho : Only (· = gg) w (w.setCell ⟨gg, 1, none⟩ (.bool b)) := ⟨rfl, rfl, rfl, by simp [World.setCell], fun k _ hk => Below.heap_setCell _ _ _ _ hk⟩
  refine ⟨_, h.blk.run_put 1 (by simp [gtC]) _ rfl rfl (by kernel_rfl), ⟨h.blk.set 1 _, h.cur.keep ho (fun e => h.ne e.symm) fun k hk _ cur fr hc => ?_⟩, ho⟩
  subst hk
  have hb := h.blk
  unfold Blk at hb
  rw [hb] at hc
  injection hc with hc
  injection hc with _ hc
  exact absurd hc (by decide)
end
theorem textOdd_nil : textOdd [] = false := rfl
set_option maxRecDepth 100000 in
set_option maxHeartbeats 2000000 in
theorem gpath_any (base gg gc : Nat) (s : Option (List UInt8)) (odd : Bool) (m : Int) (w : World) (hl : stLen s ≤ 16777216) (hm : w.cell? ⟨0, 0, none⟩ = some (.int .i64 m)) (h : GtV base gg gc w s odd) :
    Calls Try.prog 57 #[.pointer (some ⟨gg, 0, none⟩)] w fun e w' => e = .returned (.agg (pC (parseH (sText 57 s).1) (parseN (sText 57 s).1))) ∧ GtV base gg gc w' (sText 57 s).2 (odd || textOdd (sText 57 s).1) ∧ Only (fun k => k = gc ∨ k = gg) w w' := by
  have hle := sText_le 57 s
  obtain ⟨l, s', hls⟩ : ∃ l s', sText 57 s = (l, s') := ⟨_, _, rfl⟩
  simp only [hls] at hle ⊢
  have HLS := Lib.hid hls
  clear hls
  have HG := Lib.hid h
  have HM := Lib.hid hm
  have hbm := block_lt_of_cell hm
  clear h hm
  go_enter Try.func57, Try.ntmps57
  go_wp2_with (first | (with_reducible refine Agg.wpList_zero rfl 44 rfl (pC z20 []) pC_zero ?_; intro g w1 hb hx hg; have HB := Lib.hid hb; have HX := Lib.hid hx; have HG := Lib.hid (HG.out.below hx); clear hb hx) | (with_reducible refine Agg.wpList_loadL HG.out.ptr rfl _ rfl rfl ?_))
  refine (stext_any base gc 57 s _ hl HG.out.cur).mono ?_
  rintro x w2 ⟨u, rfl, hu, hc, ho⟩
  rw [HLS.out] at hu hc
  have hm1 := (HX.out.cell hbm).trans HM.out
  have hne := HG.out.cur.ne_int hm1
  have hgc : g ≠ gc := by
    rintro rfl
    obtain ⟨cs, hb⟩ := HG.out.cur.blk
    exact absurd (HB.out.type hb) (by decide)
  have hgg : g ≠ gg := by
    rintro rfl
    exact absurd (HB.out.type HG.out.blk) (by decide)
  have HM2 := Lib.hid ((ho.cell (p := ⟨0, 0, none⟩) (block_lt_of_cell hm1) hne).trans hm1)
  have HG2 := Lib.hid (HG.out.step ho hc)
  have HB2 := Lib.hid (HB.out.only ho hgc)
  have HU := Lib.hid hu.slice
  have hlu := fun W => bytes_len hu.slice W
  have HON := Lib.hid ((Only.of_below (S := fun k => k = gc ∨ k = gg) HX.out).trans ho fun i _ h => .inl h)
  clear hu hc ho hm1 hne
  by_cases h0 : l = []
  · subst h0
    go_wp2_with (first | (with_reducible refine Agg.wpList_build0 44 rfl rfl (.agg (pC z20 [])) build_p0 ?_) | (refine Agg.wpList_put rfl rfl 44 _ _ rfl g (pC z20 []) (pC z20 []) rfl rfl HB2.out (pC_info _ _ z20_length) rfl (pC_one _ _) ?_; intro w3 hb3 hx3 hs3 hk3))
    have ho3 : Only (· = g) w2 w3 := Only.of_eq hx3 hs3 hk3 rfl
    exact Agg.post_row rfl rfl hb3 pC_under rfl (pC_info _ _ z20_length) rfl ⟨by simp [parseH, parseN, parse_nil], by simpa [textOdd_nil] using HG2.out.other ho3 HB2.out (by decide) (by decide) (by decide), HON.out.trans ho3 fun i hi h => by omega⟩
  · have hemp : l.isEmpty = false := by cases l <;> simp_all
    have hpos : 0 < l.length := List.length_pos_iff.2 h0
    clear h0
    have hq : ((l.length : Int) == 0) = false := by rw [beq_eq_false_iff_ne]; omega
    go_wp2_with (first | (with_reducible refine wpList_toStr HU.out _ rfl (by kernel_rfl) rfl ?_))
    refine (parse_any l (by omega) m _ HM2.out).mono ?_
    rintro e w3 ⟨rfl, hx3⟩
    have HG3 := Lib.hid (HG2.out.below hx3)
    have HB3 := Lib.hid (HB2.out.below hx3)
    have HON3 := Lib.hid (HON.out.trans (Only.of_below (S := fun k => k = gc ∨ k = gg) hx3) fun _ _ h => h)
    have HPL := Lib.hid (parseH_length l)
    obtain ⟨e, b, he, hb, hcase⟩ : ∃ e b, parseE l = e ∧ textOdd l = b ∧ ((e = 0 ∧ b = false) ∨ (e = 4 ∧ b = true)) := by
      refine ⟨_, _, rfl, rfl, ?_⟩
      unfold parseE textOdd
      cases l with
      | nil => exact absurd hemp (by decide)
      | cons c t => cases (parse (c :: t)) <;> simp
    rw [he]
    have HOD := Lib.hid hb
    clear hx3 he hb HG HG2 HB HB2
    rcases hcase with ⟨rfl, rfl⟩ | ⟨rfl, rfl⟩
    all_goals
      cases odd
      all_goals
        go_wp2_with (first | (refine Agg.wpList_new rfl rfl rfl 44 4 19 rfl rfl rfl (by decide) (pC z20 []) (pC (parseH l) (parseN l)) pC_zero (by rw [pC_size, pC_size, HPL.out]; rfl) (pC_info _ _ HPL.out) (pC_one _ _) rfl (by simp) ?_; intro g4 w4 hb4 hx4 hg4; have HB4 := Lib.hid hb4; have HX4 := Lib.hid hx4; have HG4 := Lib.hid (HG3.out.below hx4); have HR4 := Lib.hid (HB3.out.below hx4); have hg4g : g4 ≠ gg := fun e => by { have := HG3.out.blk.lt; omega }; clear hb4 hx4) | (with_reducible refine Agg.wpList_loadL HG4.out.oddL rfl _ rfl rfl ?_) | (obtain ⟨w5, hrun, hg5, ho5⟩ := HG4.out.mark _; refine Agg.wpList_store rfl rfl 4 _ _ rfl (.pointer (some ⟨gg, 1, none⟩)) _ rfl rfl hrun ?_; have HG5 := Lib.hid hg5; have HB5 := Lib.hid (HB4.out.only ho5 hg4g); have HR5 := Lib.hid (HR4.out.only ho5 hgg); have HO5 := Lib.hid ho5; clear hg5 ho5 hrun HG4) | (with_reducible refine Agg.wpList_loadL (HB5.out.loads (P := Try.prog) pC_under rfl (pC_info _ _ HPL.out)) rfl _ rfl rfl ?_) | (refine Agg.wpList_put rfl rfl 44 _ _ rfl g (pC (parseH l) (parseN l)) (pC z20 []) rfl rfl HR5.out (pC_info _ _ HPL.out) (by rw [pC_size, pC_size, HPL.out]; rfl) (pC_one _ _) ?_; intro w6 hb6 hx6 hs6 hk6))
        have ho6 : Only (· = g) w5 w6 := Only.of_eq hx6 hs6 hk6 rfl
        exact Agg.post_row rfl rfl hb6 pC_under rfl (pC_info _ _ HPL.out) rfl ⟨rfl, by rw [HOD.out]; simpa using HG5.out.other ho6 HR5.out (by decide) (by decide) (by decide), ((HON3.out.trans (Only.of_below (S := fun _ => False) HX4.out) (fun _ _ h => h.elim)).trans HO5.out (fun i _ h => .inr h)).trans ho6 fun i hi h => by omega⟩
set_option maxRecDepth 100000 in
set_option maxHeartbeats 2000000 in
theorem ghash_any (base gg gc : Nat) (s : Option (List UInt8)) (odd : Bool) (w : World) (hl : stLen s ≤ 16777216) (h : GtV base gg gc w s odd) :
    Calls Try.prog 58 #[.pointer (some ⟨gg, 0, none⟩)] w fun e w' => e = .returned (.agg (hC (sHash s).1)) ∧ GtV base gg gc w' (sHash s).2 odd ∧ Only (fun k => k = gc) w w' := by
  have HG := Lib.hid h
  clear h
  go_enter Try.func58, Try.ntmps58
  go_wp2_with (first | (with_reducible refine Agg.wpList_zero rfl 42 rfl (hC z20) z20_zero ?_; intro g w1 hb hx hg; have HB := Lib.hid hb; have HX := Lib.hid hx; have HG1 := Lib.hid (HG.out.below hx); clear hb hx))
  have hgc : g ≠ gc := by
    rintro rfl
    obtain ⟨cs, hb⟩ := HG1.out.cur.blk
    exact absurd (HB.out.type hb) (by decide)
  have hgg : g ≠ gg := by
    rintro rfl
    exact absurd (HB.out.type HG1.out.blk) (by decide)
  have hsl : ∀ W, (Instr.sliceAt 42 (.pointer (some ⟨g, 0, none⟩)) none none none).run Try.prog W = .ok (.slice (some ⟨g, 0, none⟩) 20 20) W := fun W => by kernel_rfl
  have hcell : w1.cell? ⟨gg, 0, none⟩ = some (.pointer (some ⟨gc, 0, none⟩)) := by rw [HG1.out.blk.cell]; rfl
  have hraw : (sRaw 20 s).1.length ≤ 20 := by
    cases s with
    | none => simp [sRaw]
    | some r => simp only [sRaw]; split <;> simp <;> omega
  have hz : (Lib.byteCells z20).length = 20 := rfl
  go_region_held3 (fun w' => w'.cell? ⟨gg, 0, none⟩ = some (.pointer (some ⟨gc, 0, none⟩))) (first | assumption | go_keep)
    (first
      | (go_at_call 96; refine (sraw_any base gc 20 s _ hl (by omega) (HG1.out.below ((Below.refl _ _).drew)).cur).mono ?_; rintro e w2 ⟨u, rfl, hu, hc, ho⟩; have ho12 : Only (· = gc) w1 w2 := (Only.of_below (S := fun k => k = gc) ((Below.refl w1.heap.size w1).drew)).trans ho (fun _ _ h => h); have HG2 := Lib.hid (HG1.out.step ho12 hc); have HB2 := Lib.hid (HB.out.only ho12 hgc); have hcell2 : w2.cell? ⟨gg, 0, none⟩ = some (.pointer (some ⟨gc, 0, none⟩)) := (by rw [HG2.out.blk.cell]; rfl); have HU2 := Lib.hid hu.slice; have HO2 := Lib.hid ho12; clear hu hc ho ho12)
      | (refine step_copyB (g := g) (n := 20) (cur := Lib.byteCells z20) rfl _ _ rfl rfl rfl HU2.out HB2.out hz hraw ?_; intro w3 hb3 ho3; have HG3 := Lib.hid (HG2.out.other ho3 HB2.out (by decide) (by decide) (by decide)); have hcell3 : w3.cell? ⟨gg, 0, none⟩ = some (.pointer (some ⟨gc, 0, none⟩)) := (by rw [HG3.out.blk.cell]; rfl); have HB3 := Lib.hid (show Blk w3 g 42 (hC (sHash s).1) from (by have e : Lib.byteCells (sRaw 20 s).1 ++ (Lib.byteCells z20).drop (sRaw 20 s).1.length = Lib.byteCells (sHash s).1 := (by simp [Lib.byteCells, sHash]); rw [e] at hb3; exact hb3)); have HO3 := Lib.hid ((HO2.out.mono (T := fun k => k = gc ∨ k = g) (fun _ _ h => .inl h)).trans ho3 (fun _ _ h => .inr h)); clear hb3 ho3))
  have HL20 := Lib.hid (sHash_length s)
  go_wp2_with (first | (with_reducible refine Agg.wpList_loadL (HB3.out.loads (P := Try.prog) Try.underlying42 rfl (hC_info _ HL20.out)) rfl _ rfl rfl ?_) | (refine Agg.wpList_put rfl rfl 42 _ _ rfl g (hC (sHash s).1) (hC (sHash s).1) rfl rfl HB3.out (hC_info _ HL20.out) rfl (hC_one _) ?_; intro w6 hb6 hx6 hs6 hk6))
  have ho6 : Only (· = g) w3 w6 := Only.of_eq hx6 hs6 hk6 rfl
  exact Agg.post_row rfl rfl hb6 Try.underlying42 rfl (hC_info _ HL20.out) rfl ⟨rfl, HG3.out.other ho6 HB3.out (by decide) (by decide) (by decide), ((Only.of_below (S := fun k => k = gc) HX.out).trans HO3.out (fun i hi h => h.elim id (fun h => by omega))).trans ho6 fun i hi h => by omega⟩
set_option maxRecDepth 100000 in
theorem gok_any (base gg gc : Nat) (s : Option (List UInt8)) (odd : Bool) (w : World) (h : GtV base gg gc w s odd) :
    Calls Try.prog 60 #[.pointer (some ⟨gg, 0, none⟩)] w fun e w' => e = .returned (.bool (decide (s = some []) && !odd)) ∧ w' = w := by
  have HG := Lib.hid h
  clear h
  go_enter Try.func60, Try.ntmps60
  go_wp2_with (first | (with_reducible refine Agg.wpList_loadL HG.out.ptr rfl _ rfl rfl ?_))
  refine (send_any base gc s _ HG.out.cur).mono ?_
  rintro x w' ⟨⟨c, rfl, hc⟩, rfl⟩
  by_cases h0 : c = 0
  · subst h0
    obtain rfl := hc.1 rfl
    clear hc
    cases odd
    all_goals
      go_wp2_with (first | (with_reducible refine Agg.wpList_loadL HG.out.oddL rfl _ rfl rfl ?_))
      go_ret
      exact ⟨rfl, rfl⟩
  · have hs : ¬ s = some [] := fun e => h0 (hc.2 e)
    have HD := Lib.hid (decide_eq_false hs)
    have hq : ((c : Int) == 0) = false := by rw [beq_eq_false_iff_ne]; omega
    clear hc h0 hs
    go_wp2_with fail
    go_ret
    exact ⟨by rw [HD.out]; rfl, rfl⟩
end Go.Proofs.Ytpnolgliklmnmaa
/-! What is got, while it is got: the result's block beside getter and cursor. -/
namespace Go.Proofs.Ytpnolgliklmnmaa
open Go.RowKit Pl Go.Agg
/-- the result at gr, of type t; a getter at gg, its cursor at gc -/
structure GeS (t : TypeId) (w0 : World) (base gr gg gc : Nat) (w : World) (s : Option (List UInt8)) (odd : Bool) (cells : Array Value) : Prop where
  gt : GtV base gg gc w s odd
  blk : Blk w gr t cells
  below : Below w0.heap.size w0 w
  nc : gr ≠ gc
  ng : gr ≠ gg
  gr_ge : w0.heap.size ≤ gr
  gg_ge : w0.heap.size ≤ gg
  gc_ge : w0.heap.size ≤ gc
section
variable {t : TypeId} {w0 w w' : World} {base gr gg gc : Nat} {s s' : Option (List UInt8)} {odd odd' : Bool} {cells cells' : Array Value}
theorem GeS.step (h : GeS t w0 base gr gg gc w s odd cells) (ho : Only (· = gc) w w') (hc : CuS base gc w' s') : GeS t w0 base gr gg gc w' s' odd cells :=
  ⟨h.gt.step ho hc, h.blk.only ho h.nc, h.below.trans (ho.below h.below.size fun _ e => e ▸ h.gc_ge), h.nc, h.ng, h.gr_ge, h.gg_ge, h.gc_ge⟩
theorem GeS.stepG (h : GeS t w0 base gr gg gc w s odd cells) {S : Nat → Prop} (ho : Only S w w') (hS : ∀ k, S k → k = gc ∨ k = gg) (hg : GtV base gg gc w' s' odd') : GeS t w0 base gr gg gc w' s' odd' cells :=
  ⟨hg, h.blk.only ho fun e => (hS _ e).elim h.nc h.ng, h.below.trans (ho.below h.below.size fun k e => (hS k e).elim (fun e => e ▸ h.gc_ge) (fun e => e ▸ h.gg_ge)), h.nc, h.ng, h.gr_ge, h.gg_ge, h.gc_ge⟩
theorem GeS.store (h : GeS t w0 base gr gg gc w s odd cells) (hb : Blk w' gr t cells') (ho : Only (· = gr) w w') (h1 : t ≠ 118) (h2 : t ≠ 162) (h3 : t ≠ 5) : GeS t w0 base gr gg gc w' s odd cells' :=
  ⟨h.gt.other ho h.blk h1 h2 h3, hb, h.below.trans (ho.below h.below.size fun _ e => e ▸ h.gr_ge), h.nc, h.ng, h.gr_ge, h.gg_ge, h.gc_ge⟩
theorem GeS.later (h : GeS t w0 base gr gg gc w s odd cells) (hb : Below w.heap.size w w') : GeS t w0 base gr gg gc w' s odd cells :=
  ⟨h.gt.below hb, h.blk.below hb, Agg.belowThen h.below (Nat.le_refl _) hb, h.nc, h.ng, h.gr_ge, h.gg_ge, h.gc_ge⟩
theorem GeS.cell (h : GeS t w0 base gr gg gc w s odd cells) {p : Addr} {v : Value} (hc : w0.cell? p = some v) : w.cell? p = some v := (h.below.cell (block_lt_of_cell hc)).trans hc
theorem gt_build (gc : Nat) (W : World) : (Instr.build 118 #[(0, .pointer (some ⟨gc, 0, none⟩))]).run Try.prog W = .ok (.agg (gtC gc false)) W := by kernel_rfl
end
/-- a text of its own, behind what was there -/
theorem own_keep {base : Nat} {w w' : World} {v : Value} {l : List UInt8} {S : Nat → Prop} (h : Own EB base w v l) (ho : Only S w w') (hS : ∀ k, S k → k < base) : Own EB base w' v l :=
  h.keep fun g cur t fr hg hk => (ho.block g (Agg.heap_lt hk) fun e => by have := hS g e; omega).trans hk
theorem own_keepT {base g : Nat} {w w' : World} {v : Value} {l : List UInt8} {t : TypeId} {cs : Array Value} (h : Own EB base w v l) (ho : Only (· = g) w w') (hb : Blk w g t cs) (ht : t ≠ 5) : Own EB base w' v l := by
  refine h.keepT fun k cur fr hk => ?_
  refine (ho.block k (Agg.heap_lt hk) fun e => ht ?_).trans hk
  subst e
  unfold Blk at hb
  rw [hb] at hk
  injection hk with hk
  injection hk with _ hk
theorem rq_zero : (Try.prog.info? 46).map (·.zero) = some (some (.agg (rqG 0 0 0 [] (.slice none 0 0) z20 [] z20))) := by kernel_rfl
theorem rq_info {k u wh : Int} {nm : List UInt8} {vb : Value} {ph pn ch : List UInt8} (hl : ph.length = 20) (hc : ch.length = 20) : (Try.prog.info? 46).map (·.size) = some (rqG k u wh nm vb ph pn ch).size := by rw [rqG_size hl hc]; kernel_rfl
theorem rq_under : Try.prog.underlying 46 = some (.struct (Try.prog.fieldsOf 46)) := by kernel_rfl
theorem rq_build0 (W : World) : (Instr.build 46 #[]).run Try.prog W = .ok (.agg (rqG 0 0 0 [] (.slice none 0 0) z20 [] z20)) W := by kernel_rfl
theorem rq_one {w : World} {vb : Value} {bs : List UInt8} (h : BytesAt w vb bs) (k u wh : Int) (nm ph pn ch : List UInt8) : (rqG k u wh nm vb ph pn ch).all (·.oneCell') = true := by
  have h1 := pC_one ph pn
  have h2 := hC_one ch
  obtain ⟨p, c, hf⟩ := h.form
  subst hf
  simp only [rqG, rqH, Array.all_append, h1, h2]
  simp [Value.oneCell']
/-- what Get tells -/
def rqOut (b : List UInt8) : Rq := (getRq b).getD Rq.zero
def rqErr (b : List UInt8) : Nat := if (getRq b).isSome then 0 else 4
theorem get_parts {b : List UInt8} {k u wh P : Nat} {s1 s2 s3 s4 s5 s6 s7 : Option (List UInt8)} {nm t ch bs : List UInt8} (h1 : sNum 10 (some b) = (k, s1)) (hP : partsN (k : Int) = P) (h2 : sNum 8 s1 = (u, s2)) (h3 : pW P s2 = (wh, s3)) (h4 : pN P s3 = (nm, s4)) (h5 : pT P s4 = (t, s5))
    (h6 : pH P s5 = (ch, s6)) (h7 : pB P (mostN (k : Int)) s6 = (bs, s7)) :
    getRq b = if s7 = some [] ∧ textOdd t = false ∧ rightN k u wh nm bs.length (parseH t) (parseN t) ch = true then some ⟨k, u, wh, nm, bs, parseH t, parseN t, ch⟩ else none := by
  have e1 : qK (some b) = (k, s1) := h1
  have eP : qP (some b) = P := by unfold qP; rw [e1]; exact hP
  have e2 : qU (some b) = (u, s2) := by unfold qU; rw [e1]; exact h2
  have e3 : qW (some b) = (wh, s3) := by unfold qW; rw [eP, e2]; exact h3
  have e4 : qN (some b) = (nm, s4) := by unfold qN; rw [eP, e3]; exact h4
  have e5 : qT (some b) = (t, s5) := by unfold qT; rw [eP, e4]; exact h5
  have e6 : qH (some b) = (ch, s6) := by unfold qH; rw [eP, e5]; exact h6
  have e7 : qB mostN (some b) = (bs, s7) := by unfold qB; rw [eP, e1, e6]; exact h7
  have eo : qOdd (some b) = textOdd t := by unfold qOdd textOdd; rw [e5]
  have er : qRq mostN (some b) = ⟨k, u, wh, nm, bs, parseH t, parseN t, ch⟩ := by unfold qRq; rw [e1, e2, e3, e4, e5, e6, e7]
  unfold getRq
  rw [e7, eo, er]
  rfl
theorem rqOut_some {b : List UInt8} {q : Rq} (h : getRq b = some q) : rqOut b = q ∧ rqErr b = 0 := by simp [rqOut, rqErr, h]
theorem rqOut_none {b : List UInt8} (h : getRq b = none) : rqOut b = Rq.zero ∧ rqErr b = 4 := by simp [rqOut, rqErr, h]
end Go.Proofs.Ytpnolgliklmnmaa
/-! A request's fields written. -/
namespace Go.Proofs.Ytpnolgliklmnmaa
open Go.RowKit Pl Go.Agg
variable {k u wh : Int} {nm : List UInt8} {vb : Value} {ph pn ch : List UInt8} {w : World} {b : Nat}
theorem rqG_set (j : Nat) (hj : j < 5) (x : Value) : (rqG k u wh nm vb ph pn ch).setIfInBounds j x = (rqH k u wh nm vb).setIfInBounds j x ++ (pC ph pn ++ hC ch) := by
  unfold rqG
  rw [Array.setIfInBounds_append_left (by simpa [rqH] using hj)]
theorem rqB_lt (j : Nat) (hj : j < 5) : j < (rqG k u wh nm vb ph pn ch).size := by simp [rqG, rqH]; omega
theorem rqB_kind (h : Blk w b 46 (rqG k u wh nm vb ph pn ch)) (x : Int) : ∃ w', (Instr.storeAt 40 (.pointer (some ⟨b, 0, none⟩)) (.int .i64 x)).run Try.prog w = .ok () w' ∧ Blk w' b 46 (rqG x u wh nm vb ph pn ch) ∧ Only (· = b) w w' :=
  h.run_one 0 (rqB_lt 0 (by omega)) _ rfl rfl (by kernel_rfl) _ (by rw [rqG_set 0 (by omega)]; rfl)
theorem rqB_user (h : Blk w b 46 (rqG k u wh nm vb ph pn ch)) (x : Int) : ∃ w', (Instr.storeAt 3 (.pointer (some ⟨b, 1, none⟩)) (.int .i64 x)).run Try.prog w = .ok () w' ∧ Blk w' b 46 (rqG k x wh nm vb ph pn ch) ∧ Only (· = b) w w' :=
  h.run_one 1 (rqB_lt 1 (by omega)) _ rfl rfl (by kernel_rfl) _ (by rw [rqG_set 1 (by omega)]; rfl)
theorem rqB_who (h : Blk w b 46 (rqG k u wh nm vb ph pn ch)) (x : Int) : ∃ w', (Instr.storeAt 3 (.pointer (some ⟨b, 2, none⟩)) (.int .i64 x)).run Try.prog w = .ok () w' ∧ Blk w' b 46 (rqG k u x nm vb ph pn ch) ∧ Only (· = b) w w' :=
  h.run_one 2 (rqB_lt 2 (by omega)) _ rfl rfl (by kernel_rfl) _ (by rw [rqG_set 2 (by omega)]; rfl)
theorem rqB_name (h : Blk w b 46 (rqG k u wh nm vb ph pn ch)) (x : List UInt8) : ∃ w', (Instr.storeAt 9 (.pointer (some ⟨b, 3, none⟩)) (.string ⟨x.toArray⟩)).run Try.prog w = .ok () w' ∧ Blk w' b 46 (rqG k u wh x vb ph pn ch) ∧ Only (· = b) w w' :=
  h.run_one 3 (rqB_lt 3 (by omega)) _ rfl rfl (by kernel_rfl) _ (by rw [rqG_set 3 (by omega)]; rfl)
theorem rqB_bytes (h : Blk w b 46 (rqG k u wh nm vb ph pn ch)) (x : Value) (hx : x.cells = #[x]) (h1 : x.oneCell' = true) : ∃ w', (Instr.storeAt 23 (.pointer (some ⟨b, 4, none⟩)) x).run Try.prog w = .ok () w' ∧ Blk w' b 46 (rqG k u wh nm x ph pn ch) ∧ Only (· = b) w w' :=
  h.run_one 4 (rqB_lt 4 (by omega)) _ hx h1 (by kernel_rfl) _ (by rw [rqG_set 4 (by omega)]; rfl)
theorem rqB_path (h : Blk w b 46 (rqG k u wh nm vb ph pn ch)) (hl : ph.length = 20) (q r : List UInt8) (hq : q.length = 20) : ∃ w', (Instr.storeAt 44 (.pointer (some ⟨b, 5, none⟩)) (.agg (pC q r))).run Try.prog w = .ok () w' ∧ Blk w' b 46 (rqG k u wh nm vb q r ch) ∧ Only (· = b) w w' :=
  Blk.run_row (a := rqH k u wh nm vb) (b := pC ph pn) (c := hC ch) (pC q r) h (by rw [pC_size, pC_size, hl, hq]) (pC_info q r hq) (pC_one q r) rfl
theorem rqB_class (h : Blk w b 46 (rqG k u wh nm vb ph pn ch)) (hl : ph.length = 20) (hc : ch.length = 20) (q : List UInt8) (hq : q.length = 20) : ∃ w', (Instr.storeAt 42 (.pointer (some ⟨b, 26, none⟩)) (.agg (hC q))).run Try.prog w = .ok () w' ∧ Blk w' b 46 (rqG k u wh nm vb ph pn q) ∧ Only (· = b) w w' := by
  have e1 : ∀ x, rqG k u wh nm vb ph pn x = (rqH k u wh nm vb ++ pC ph pn) ++ (hC x ++ #[]) := fun x => by simp only [rqG, Array.append_assoc, Array.append_empty]
  rw [e1] at h
  rw [e1]
  exact Blk.run_row (i := 26) (a := rqH k u wh nm vb ++ pC ph pn) (b := hC ch) (c := #[]) (hC q) h (by rw [hC_size, hC_size, hc, hq]) (hC_info q hq) (hC_one q) (by simp [pC_size, hl, rqH])
end Go.Proofs.Ytpnolgliklmnmaa
/-! A region that draws its order, in three parts: a quiet head in one class of worlds, a row of operations one behind the other, a quiet end in another class. Over any program. -/
namespace Go.Agg
variable {P : Program} {ops : Array Oper} {md : Region.Mode} {C : World → Prop}
def pre (N k : Nat) : Array Bool := (List.replicate k true ++ List.replicate (N - k) false).toArray
theorem pre_zero (N : Nat) : pre N 0 = Array.replicate N false := by simp [pre]
theorem pre_size {N k : Nat} (h : k ≤ N) : (pre N k).size = N := by simp [pre]; omega
theorem pre_get {N k : Nat} (h : k ≤ N) (t : Nat) (d : Bool) : (pre N k).getD t d = if t < k then true else if t < N then false else d := by
  unfold pre
  rw [Array.getD_eq_getD_getElem?]
  simp only [List.getElem?_toArray]
  by_cases h1 : t < k
  · rw [List.getElem?_append_left (by simpa using h1), List.getElem?_replicate, if_pos h1, if_pos h1]; rfl
  · rw [List.getElem?_append_right (by simpa using h1), List.getElem?_replicate, if_neg h1]
    by_cases h2 : t < N
    · rw [if_pos h2, if_pos (by simp; omega)]; rfl
    · rw [if_neg h2, if_neg (by simp; omega)]; rfl
theorem pre_set {N k : Nat} (h : k < N) : (pre N k).setIfInBounds k true = pre N (k + 1) := by
  apply Array.ext_getElem?
  intro t
  have e1 := pre_get (N := N) (k := k) (by omega)
  unfold pre
  simp only [List.setIfInBounds_toArray, List.getElem?_toArray]
  rw [show N - k = (N - (k + 1)) + 1 by omega, List.replicate_succ, List.set_append_right _ _ (by simp)]
  simp only [List.length_replicate, Nat.sub_self, List.set_cons_zero]
  rw [List.replicate_succ', List.append_assoc, List.singleton_append]
/-- the tail waits for its first one -/
def treeB (md : Region.Mode) (ops : Array Oper) (n : Nat) : Bool :=
  (List.range ops.size).all fun t => decide (t ≤ n) || (List.range t).any fun j => decide (n ≤ j) && Region.waitsFor md ops t j
def closedB (md : Region.Mode) (ops : Array Oper) (k : Nat) : Bool :=
  (List.range k).all fun j => match ops[j]? with | some oj => oj.after.all fun e => !Region.binds md e || decide (e.on < k) | none => true
def headB (md : Region.Mode) (ops : Array Oper) : Nat → Nat → Array Bool → Bool
  | 0, _, _ => true
  | f + 1, k, listed => (Region.ready md ops listed).contains k && Region.free md ops listed k && headB md ops f (k + 1) (listed.setIfInBounds k true)
def cutB (md : Region.Mode) (ops : Array Oper) (k n : Nat) : Bool :=
  decide (n < ops.size) && Region.sinkB md ops n && treeB md ops n && closedB md ops k && headB md ops (n - k) k (pre ops.size k)
def rowB (md : Region.Mode) (ops : Array Oper) : Nat → Nat → Array Bool → Bool
  | 0, _, _ => true
  | g + 1, k, listed => decide (Region.ready md ops listed = [k]) && rowB md ops g (k + 1) (listed.setIfInBounds k true)
theorem waits {n : Nat} {listed : Array Bool} (hs : Region.sinkB md ops n = true) (hc : treeB md ops n = true) (inv : HeadInv md ops n listed) :
    ∀ (d i : Nat), n - i = d → i < n → listed.getD i true = false → ∀ t, n ≤ t → t ∉ Region.ready md ops listed := by
  intro d
  induction d using Nat.strongRecOn with
  | _ d ih =>
    intro i hd hi hun t ht hr
    obtain ⟨_, ot, hot, hall⟩ := mem_ready.1 hr
    have htlt : t < ops.size := (Array.getElem?_eq_some_iff.1 hot).1
    by_cases htn : t = n
    · subst htn
      obtain ⟨j, hj, hj2⟩ := List.any_eq_true.1 (List.all_eq_true.1 hs i (List.mem_range.2 hi))
      simp only [Bool.and_eq_true, decide_eq_true_eq] at hj2
      obtain ⟨oj, hoj, e, he, hb, hon⟩ := Region.waitsFor_spec hj2.2
      have hjle : j ≤ t := by have := List.mem_range.1 hj; omega
      by_cases hjt : j = t
      · subst hjt
        obtain rfl : oj = ot := Option.some.inj (hoj.symm.trans hot)
        have h2 := hall e he hb
        rw [hon, getD_both hun] at h2
        cases h2
      · cases hl : listed.getD j false with
        | true =>
          have h2 := inv.closed j oj hoj hl e he hb
          rw [hon, getD_both hun] at h2
          cases h2
        | false => exact ih (t - j) (by omega) j rfl (by omega) (getD_in (by rw [inv.size]; omega) hl) t (Nat.le_refl _) hr
    · have h1 := List.all_eq_true.1 hc t (List.mem_range.2 htlt)
      simp only [Bool.or_eq_true, decide_eq_true_eq] at h1
      rcases h1 with h1 | h1
      · omega
      · obtain ⟨j, hj, hj2⟩ := List.any_eq_true.1 h1
        simp only [Bool.and_eq_true, decide_eq_true_eq] at hj2
        obtain ⟨o', ho', e, he, hb, hon⟩ := Region.waitsFor_spec hj2.2
        obtain rfl : o' = ot := Option.some.inj (ho'.symm.trans hot)
        have h2 := hall e he hb
        have hjt := List.mem_range.1 hj
        rw [hon, getD_both (inv.tail j hj2.1 (by omega))] at h2
        cases h2
/-- whatever order, f operations of the head -/
def anyHead (P : Program) (md : Region.Mode) (ops : Array Oper) (C : World → Prop) (n : Nat) (L : Array Bool → Act → Prop) : Nat → Array Bool → Act → Prop
  | 0, listed, a => L listed a
  | f + 1, listed, a => Region.ready md ops listed ≠ [] ∧ ∀ i ∈ Region.ready md ops listed, i < n ∧ qOp P ops C i (anyHead P md ops C n L f (listed.setIfInBounds i true)) a
theorem any_of_head {n g : Nat} {L : Array Bool → Act → Prop} {Q' : Exit → Act → World → Prop} (hL : ∀ listed a w, C w → L listed a → wpAny P md ops Q' g listed a w) :
    ∀ (f : Nat) (listed : Array Bool) (a : Act) (w : World), C w → anyHead P md ops C n L f listed a → wpAny P md ops Q' (f + g) listed a w
  | 0, listed, a, w, hw, h => by rw [Nat.zero_add]; exact hL _ _ _ hw h
  | f + 1, listed, a, w, hw, h => by
    rw [show f + 1 + g = (f + g) + 1 by omega]
    exact ⟨fun h0 => absurd h0 h.1, fun i hi => wpOp_of_qOp hw (fun a' w' hw' h' => any_of_head hL f _ a' w' hw' h') (h.2 i hi).2⟩
theorem head_first {n i : Nat} {oi : Oper} {v : Value} {L : Array Bool → Act → Prop} (hi : ops[i]? = some oi) (hsel : ∀ (j : Nat) (o : Oper) cs b, ops[j]? = some o → o.op ≠ .select cs b)
    (hs : Region.sinkB md ops n = true) (hc : treeB md ops n = true) (hin : i < n) (hdone : ∀ listed a, L listed a → ∀ j ∈ Region.ready md ops listed, n ≤ j) :
    ∀ (f : Nat) (listed : Array Bool) (a : Act), HeadInv md ops n listed →
      (∀ j oj, ops[j]? = some oj → j ≠ i → listed.getD j true = false → (∀ e ∈ oj.after, Region.binds md e = true → e.on ≠ i) → oi.apart ops oj = true) →
      i ∈ Region.ready md ops listed → YieldsIn P ops C oi v a →
      anyHead P md ops C n L f (listed.setIfInBounds i true) (a.put oi.dst v) → anyHead P md ops C n L (f + 1) listed a := by
  intro f
  induction f with
  | zero =>
    intro listed a inv _ hr hy H
    have hun := (mem_ready.1 hr).1
    refine ⟨fun h => (by rw [h] at hr; cases hr), fun j hj => ?_⟩
    have hjn : j < n := (Nat.lt_or_ge j n).resolve_right fun h => waits hs hc inv _ i rfl hin hun j h hj
    refine ⟨hjn, ?_⟩
    by_cases hji : j = i
    · subst hji; exact hy.qOp hi H
    · have := hdone _ _ H j (ready_mono hj hji)
      omega
  | succ f ih =>
    intro listed a inv hfree hr hy H
    have hun := (mem_ready.1 hr).1
    refine ⟨fun h => (by rw [h] at hr; cases hr), fun j hj => ?_⟩
    have hjn : j < n := (Nat.lt_or_ge j n).resolve_right fun h => waits hs hc inv _ i rfl hin hun j h hj
    refine ⟨hjn, ?_⟩
    by_cases hji : j = i
    · subst hji; exact hy.qOp hi H
    · have h1 := (H.2 j (ready_mono hj hji)).2
      obtain ⟨hjun, oj, hoj, hall⟩ := mem_ready.1 hj
      have hnot : ∀ e ∈ oj.after, Region.binds md e = true → e.on ≠ i := fun e he hb heq => by
        have h1 := hall e he hb
        rw [heq, getD_both hun] at h1
        cases h1
      have h2 := qOp_put hoj (hfree j oj hoj hji hjun hnot) (fun cs b => hsel i oi cs b hi) (fun cs b => hsel j oj cs b hoj) hy h1
      refine qOp_mono (fun a' h3 => ih (listed.setIfInBounds j true) a' (inv.set hj hjn) (fun k ok hk hki hun' hno => hfree k ok hk hki ?_ hno) (ready_mono hr (Ne.symm hji)) h3.1 ?_) h2
      · by_cases hjk : j = k
        · subst hjk; exact hjun
        · rw [getD_set_ne true hjk] at hun'; exact hun'
      · rw [Array.setIfInBounds_comm _ _ hji]
        exact h3.2
theorem head_lex {n : Nat} {Lq : Act → Prop} (hsel : Region.noSelect ops = true) (hs : Region.sinkB md ops n = true) (hc : treeB md ops n = true) (hn : n < ops.size) :
    ∀ (l : List Oper) (k : Nat) (a : Act), (∀ j, j < l.length → l[j]? = ops[k + j]?) → k + l.length = n → HeadInv md ops n (pre ops.size k) →
    headB md ops l.length k (pre ops.size k) = true → wpQuiet P ops C Lq l a →
    anyHead P md ops C n (fun listed' a' => listed' = pre ops.size n ∧ Lq a') l.length (pre ops.size k) a
  | [], k, a, _, hk, _, hB, h => by
    obtain rfl : k = n := by simpa using hk
    exact ⟨rfl, h⟩
  | o :: l, k, a, hl, hk, inv, hB, h => by
    have h0 : ops[k]? = some o := by simpa using (hl 0 (by simp)).symm
    simp only [List.length_cons, headB, Bool.and_eq_true] at hB
    obtain ⟨⟨hr, hf⟩, hB'⟩ := hB
    have hkn : k < n := by simp only [List.length_cons] at hk; omega
    have hr' : k ∈ Region.ready md ops (pre ops.size k) := by simpa using hr
    have hst : qOp P ops C k (wpQuiet P ops C Lq l) a := by unfold qOp; simp only [h0]; exact h
    obtain ⟨v, hy, hK⟩ := yieldsIn_of_qOp h0 hst
    have hset : (pre ops.size k).setIfInBounds k true = pre ops.size (k + 1) := pre_set (by omega)
    have inv' := inv.set hr' hkn
    rw [hset] at hB' inv'
    refine head_first h0 (Region.noSelect_spec hsel) hs hc hkn (fun listed' a' hL j hj => ?_) l.length _ a inv (Region.free_spec h0 hf) hr' hy ?_
    · have h1 := (mem_ready.1 hj).1
      rw [hL.1, pre_get (by omega)] at h1
      by_cases hjn : j < n
      · rw [if_pos hjn] at h1; cases h1
      · omega
    · rw [hset]
      exact head_lex hsel hs hc hn l (k + 1) _ (fun j hj => by have := hl (j + 1) (by simp; omega); simpa [Nat.add_assoc, Nat.add_comm 1 j] using this) (by simp only [List.length_cons] at hk; omega) inv' hB' hK
theorem seg_quiet {k n g : Nat} {Lq : Act → Prop} {Q' : Exit → Act → World → Prop} (hsel : Region.noSelect ops = true) (hB : cutB md ops k n = true)
    (hL : ∀ a w, C w → Lq a → wpAny P md ops Q' g (pre ops.size n) a w) (l : List Oper) (hl : ∀ j, j < l.length → l[j]? = ops[k + j]?) (hk : k + l.length = n) {a : Act} {w : World} (h : wpQuiet P ops C Lq l a) (hw : C w) :
    wpAny P md ops Q' (l.length + g) (pre ops.size k) a w := by
  simp only [cutB, Bool.and_eq_true, decide_eq_true_eq] at hB
  obtain ⟨⟨⟨⟨hn, hs⟩, hc⟩, hcl⟩, hh⟩ := hB
  have hkN : k ≤ ops.size := by omega
  have inv : HeadInv md ops n (pre ops.size k) := by
    refine ⟨pre_size hkN, fun j oj hoj hj e he hb => ?_, fun t ht ht' => ?_⟩
    · rw [pre_get hkN] at hj ⊢
      have hjk : j < k := by
        by_cases h : j < k
        · exact h
        · rw [if_neg h] at hj; split at hj <;> cases hj
      have h1 := List.all_eq_true.1 hcl j (List.mem_range.2 hjk)
      rw [hoj] at h1
      have h2 := Array.all_eq_true_iff_forall_mem.1 h1 e he
      simp only [hb, Bool.not_true, Bool.false_or, decide_eq_true_eq] at h2
      rw [if_pos h2]
    · rw [pre_get hkN, if_neg (by omega), if_pos ht']
  rw [show n - k = l.length by omega] at hh
  exact any_of_head (fun listed a w hw hL' => hL'.1 ▸ hL a w hw hL'.2) _ _ _ _ hw (head_lex hsel hs hc hn l k a hl hk inv hh h)
/-- what follows a row -/
def thenK (Q : Exit → Act → World → Prop) (K : Act → World → Prop) : Exit → Act → World → Prop
  | .normal, a, w => K a w
  | e, a, w => Q e a w
theorem wpOp_thenK {Q : Exit → Act → World → Prop} {K K' : Act → World → Prop} {i : Nat} {a : Act} {w : World} (h : wpOp P ops (thenK Q K) i K' a w) : wpOp P ops Q i K' a w := by
  unfold wpOp at *
  split
  · rename_i ho; simpa [ho] using h
  · rename_i o ho
    simp only [ho] at h
    split
    · rename_i hw
      simp only [hw, if_true] at h
      rcases h with h | ⟨h1, a', w', h2⟩
      · refine .inl ?_
        unfold Oper.wp at *
        generalize (execOp a.eval o).run P w = r at *
        cases r with
        | ok n w' =>
          cases n <;> simp only [Oper.upon] at h ⊢ <;>
            first
              | exact h
              | exact Calls.mono h (fun e w'' he => by
                  cases e <;> first | exact he | (obtain ⟨a', w', h2⟩ := he; exact ⟨a', w', h2⟩))
        | halt x w' => cases x <;> simp only [Oper.upon] at h ⊢ <;> exact h
      · exact .inr ⟨h1, a', w', h2⟩
    · rename_i hw; simpa [hw] using h
theorem seg_row {g : Nat} {Q' : Exit → Act → World → Prop} {K : Act → World → Prop} {n : Nat} (hL : ∀ a w, K a w → wpAny P md ops Q' g (pre ops.size n) a w) : ∀ (l : List Oper) (k : Nat) (a : Act) (w : World),
    (∀ j, j < l.length → l[j]? = ops[k + j]?) → k + l.length = n → n ≤ ops.size → rowB md ops l.length k (pre ops.size k) = true → wpList P ops (thenK Q' K) l a w → wpAny P md ops Q' (l.length + g) (pre ops.size k) a w
  | [], k, a, w, _, hk, _, _, h => by
    obtain rfl : k = n := by simpa using hk
    rw [show ([] : List Oper).length + g = g by simp]
    exact hL _ _ h
  | o :: l, k, a, w, hl, hk, hn, hB, h => by
    have h0 : ops[k]? = some o := by simpa using (hl 0 (by simp)).symm
    simp only [List.length_cons, rowB, Bool.and_eq_true, decide_eq_true_eq] at hB hk
    rw [show (o :: l).length + g = (l.length + g) + 1 by simp; omega]
    refine ⟨fun h1 => (by rw [hB.1] at h1; cases h1), fun i hi => ?_⟩
    rw [hB.1] at hi
    obtain rfl : i = k := by simpa using hi
    have hw : wpOp P ops (thenK Q' K) i (wpList P ops (thenK Q' K) l) a w := by unfold wpOp; simp only [h0]; exact h
    have hset : (pre ops.size i).setIfInBounds i true = pre ops.size (i + 1) := pre_set (by omega)
    have hB2 := hB.2
    rw [hset] at hB2
    refine wpOp_mono (fun a' w' h' => ?_) (wpOp_thenK hw)
    rw [hset]
    exact seg_row hL l (i + 1) a' w' (fun j hj => by have := hl (j + 1) (by simp; omega); simpa [Nat.add_assoc, Nat.add_comm 1 j] using this) (by omega) hn hB2 h'
def midB (md : Region.Mode) (ops : Array Oper) (n m : Nat) : Bool :=
  Region.noSelect ops && decide (n < m) && decide (m < ops.size) && cutB md ops 0 n && rowB md ops (m - n) n (pre ops.size n) && Region.lexFrom md ops (ops.size - m) m (pre ops.size m)
/-- HEAD, ROW, END -/
theorem wp_region_mid {id : Nat} {Q : Exit → Act → World → Prop} {a : Act} {w : World} {l : List Oper} (n m : Nat) (C : World → Prop) (hm : P.follows .mixedOrders = true) (hB : midB .any l.toArray n m = true) (hC : C w.drew)
    (h : wpQuiet P l.toArray C (fun a' => ∀ w', C w' → wpList P l.toArray (thenK Q fun a2 w2 => ∃ C2 : World → Prop, C2 w2 ∧ wpQuiet P l.toArray C2 (fun a3 => ∀ w3, C2 w3 → Q .normal a3 w3) (l.drop m) a2) ((l.drop n).take (m - n)) a' w') (l.take n) a) :
    (Code.region id l.toArray true).wp P Q a w := by
  simp only [midB, Bool.and_eq_true, decide_eq_true_eq] at hB
  obtain ⟨⟨⟨⟨⟨hsel, hnm⟩, hms⟩, hc⟩, hr⟩, hx⟩ := hB
  have hms' : m < l.length := by simpa using hms
  refine wp_region_any hm ?_
  have hend : ∀ a2 w2, (∃ C2 : World → Prop, C2 w2 ∧ wpQuiet P l.toArray C2 (fun a3 => ∀ w3, C2 w3 → Q .normal a3 w3) (l.drop m) a2) → wpAny P .any l.toArray Q (l.length - m) (pre l.toArray.size m) a2 w2 := by
    rintro a2 w2 ⟨C2, h2, hq⟩
    have h3 := wpAnyQ_lex (C := C2) (md := .any) hsel (l.drop m) m (pre l.toArray.size m) a2 (fun j => by simp [List.getElem?_drop]) (by simpa using hx) hq
    have := wpAny_of_quiet (Q' := Q) (Q := fun a3 => ∀ w3, C2 w3 → Q .normal a3 w3) (fun _ w' hw' h => h w' hw') _ _ _ _ h2 h3
    simpa using this
  have hrow : ∀ a' w', C w' → (∀ w', C w' → wpList P l.toArray (thenK Q fun a2 w2 => ∃ C2 : World → Prop, C2 w2 ∧ wpQuiet P l.toArray C2 (fun a3 => ∀ w3, C2 w3 → Q .normal a3 w3) (l.drop m) a2) ((l.drop n).take (m - n)) a' w') →
      wpAny P .any l.toArray Q (l.length - n) (pre l.toArray.size n) a' w' := by
    intro a' w' hw' h'
    have hlen : ((l.drop n).take (m - n)).length = m - n := by simp; omega
    have := seg_row (md := .any) (n := m) hend ((l.drop n).take (m - n)) n a' w' (fun j hj => by
      rw [hlen] at hj
      simp [hj]) (by rw [hlen]; omega) (by simp; omega) (by rw [hlen]; exact hr) (h' w' hw')
    rw [hlen, show m - n + (l.length - m) = l.length - n by omega] at this
    exact this
  have hlen : (l.take n).length = n := by simp; omega
  have := seg_quiet (md := .any) (k := 0) (n := n) hsel hc hrow (l.take n) (fun j hj => by
    rw [hlen] at hj
    simp [hj]) (by rw [hlen]; omega) h hC
  rw [hlen, show n + (l.length - n) = l.length by omega, pre_zero] at this
  exact this
def rowEndB (md : Region.Mode) (ops : Array Oper) (n : Nat) : Bool :=
  Region.noSelect ops && decide (n < ops.size) && cutB md ops 0 n && rowB md ops (ops.size - n) n (pre ops.size n) && (Region.ready md ops (pre ops.size ops.size)).isEmpty
/-- HEAD, ROW -/
theorem wp_region_row {id : Nat} {Q : Exit → Act → World → Prop} {a : Act} {w : World} {l : List Oper} (n : Nat) (C : World → Prop) (hm : P.follows .mixedOrders = true) (hB : rowEndB .any l.toArray n = true) (hC : C w.drew)
    (h : wpQuiet P l.toArray C (fun a' => ∀ w', C w' → wpList P l.toArray Q (l.drop n) a' w') (l.take n) a) : (Code.region id l.toArray true).wp P Q a w := by
  simp only [rowEndB, Bool.and_eq_true, decide_eq_true_eq, List.isEmpty_iff] at hB
  obtain ⟨⟨⟨⟨hsel, hn⟩, hc⟩, hr⟩, hx⟩ := hB
  have hn' : n < l.length := by simpa using hn
  refine wp_region_any hm ?_
  have hdl : (l.drop n).length = l.length - n := by simp
  have hrow : ∀ a' w', C w' → (∀ w', C w' → wpList P l.toArray Q (l.drop n) a' w') → wpAny P .any l.toArray Q (l.length - n) (pre l.toArray.size n) a' w' := by
    intro a' w' hw' h'
    have hQ : thenK Q (Q .normal) = Q := by funext e; cases e <;> rfl
    have := seg_row (md := .any) (n := l.length) (g := 0) (Q' := Q) (K := Q .normal) (fun a w hK => ⟨by rw [show l.length = l.toArray.size by simp]; exact hx, hK⟩) (l.drop n) n a' w' (fun j _ => by simp [List.getElem?_drop]) (by rw [hdl]; omega) (by simp) (by rw [hdl]; simpa using hr) (by rw [hQ]; exact h' w' hw')
    rwa [hdl, Nat.add_zero] at this
  have hlen : (l.take n).length = n := by simp; omega
  have := seg_quiet (md := .any) (k := 0) (n := n) hsel hc hrow (l.take n) (fun j hj => by
    rw [hlen] at hj
    simp [hj]) (by rw [hlen]; omega) h hC
  rw [hlen, show n + (l.length - n) = l.length by omega, pre_zero] at this
  exact this
end Go.Agg
/-! A reply's cells. -/
namespace Go.Proofs.Ytpnolgliklmnmaa
open Go.RowKit Pl Go.Agg
/-- a reply's cells -/
def rpG (e : Int) (ph pn ch : List UInt8) (g : Int) (pv : Value) (m : Int) : Array Value := #[.int .i64 e] ++ (pC ph pn ++ (hC ch ++ #[.int .i64 g, pv, .int .i64 m]))
section
variable {e g m : Int} {pv : Value} {ph pn ch : List UInt8}
theorem rpG_size (hl : ph.length = 20) (hc : ch.length = 20) : (rpG e ph pn ch g pv m).size = 45 := by simp [rpG, pC_size, hC_size, hl, hc]
theorem rpG_path (j : Nat) (v : Value) (h : (pC ph pn)[j]? = some v) : (rpG e ph pn ch g pv m)[1 + j]? = some v := by
  have hj := (Array.getElem?_eq_some_iff.1 h).1
  unfold rpG
  rw [Array.getElem?_append_right (by simp), show 1 + j - (#[Value.int .i64 e] : Array Value).size = j by simp, Array.getElem?_append_left hj]
  exact h
theorem rpG_class (hl : ph.length = 20) (j : Nat) (v : Value) (h : (hC ch)[j]? = some v) : (rpG e ph pn ch g pv m)[22 + j]? = some v := by
  have hj := (Array.getElem?_eq_some_iff.1 h).1
  have hs : (pC ph pn).size = 21 := by rw [pC_size, hl]
  unfold rpG
  rw [Array.getElem?_append_right (by show 1 ≤ 22 + j; omega), show 22 + j - (#[Value.int .i64 e] : Array Value).size = 21 + j by show 22 + j - 1 = 21 + j; omega, Array.getElem?_append_right (by rw [hs]; omega), show 21 + j - (pC ph pn).size = j by rw [hs]; omega, Array.getElem?_append_left hj]
  exact h
theorem rpG_tail (hl : ph.length = 20) (hc : ch.length = 20) (j : Nat) : (rpG e ph pn ch g pv m)[42 + j]? = (#[.int .i64 g, pv, .int .i64 m] : Array Value)[j]? := by
  have hs : (pC ph pn).size = 21 := by rw [pC_size, hl]
  have hs2 : (hC ch).size = 20 := by rw [hC_size, hc]
  unfold rpG
  rw [Array.getElem?_append_right (by show 1 ≤ 42 + j; omega), show 42 + j - (#[Value.int .i64 e] : Array Value).size = 41 + j by show 42 + j - 1 = 41 + j; omega, Array.getElem?_append_right (by rw [hs]; omega), show 41 + j - (pC ph pn).size = 20 + j by rw [hs]; omega, Array.getElem?_append_right (by rw [hs2]; omega), show 20 + j - (hC ch).size = j by rw [hs2]; omega]
structure RpG (w : World) (b : Nat) (e : Int) (ph pn ch : List UInt8) (g : Int) (pv : Value) (m : Int) : Prop where
  all : LoadsL Try.prog w 49 (some ⟨b, 0, none⟩) (.agg (rpG e ph pn ch g pv m))
  err : LoadsL Try.prog w 28 (some ⟨b, 0, none⟩) (.int .i64 e)
  path : LoadsL Try.prog w 44 (some ⟨b, 1, none⟩) (.agg (pC ph pn))
  cls : LoadsL Try.prog w 42 (some ⟨b, 22, none⟩) (.agg (hC ch))
  goal : LoadsL Try.prog w 3 (some ⟨b, 42, none⟩) (.int .i64 g)
  paths : LoadsL Try.prog w 47 (some ⟨b, 43, none⟩) pv
  many : LoadsL Try.prog w 3 (some ⟨b, 44, none⟩) (.int .i64 m)
set_option maxRecDepth 100000 in
theorem RpG.of_blk {w : World} {b : Nat} (h : Blk w b 49 (rpG e ph pn ch g pv m)) (hl : ph.length = 20) (hc : ch.length = 20) : RpG w b e ph pn ch g pv m where
  all := h.loads (by kernel_rfl : Try.prog.underlying 49 = some (.struct (Try.prog.fieldsOf 49))) rfl (by rw [rpG_size hl hc]; kernel_rfl)
  err := h.one 0 (by unfold rpG; rw [Array.getElem?_append_left (by simp)]; rfl) Try.underlying28 rfl
  path := h.sub 1 (pC ph pn) (fun j v => rpG_path j v) pC_under rfl (pC_info ph pn hl)
  cls := h.sub 22 (hC ch) (rpG_class hl) Try.underlying42 rfl (hC_info ch hc)
  goal := h.one 42 (by rw [rpG_tail hl hc 0]; rfl) Try.underlying3 rfl
  paths := h.one 43 (by rw [rpG_tail hl hc 1]; rfl) (by kernel_rfl : Try.prog.underlying 47 = some (.slice 44)) rfl
  many := h.one 44 (by rw [rpG_tail hl hc 2]; rfl) Try.underlying3 rfl
theorem RpG.below {w w' : World} {b : Nat} (h : RpG w b e ph pn ch g pv m) (hb : Below w.heap.size w w') : RpG w' b e ph pn ch g pv m := ⟨h.all.below hb, h.err.below hb, h.path.below hb, h.cls.below hb, h.goal.below hb, h.paths.below hb, h.many.below hb⟩
/-! its fields written -/
variable {w : World} {b : Nat}
theorem rpB_err (h : Blk w b 49 (rpG e ph pn ch g pv m)) (hl : ph.length = 20) (hc : ch.length = 20) (x : Int) : ∃ w', (Instr.storeAt 28 (.pointer (some ⟨b, 0, none⟩)) (.int .i64 x)).run Try.prog w = .ok () w' ∧ Blk w' b 49 (rpG x ph pn ch g pv m) ∧ Only (· = b) w w' :=
  h.run_one 0 (by rw [rpG_size hl hc]; omega) _ rfl rfl (by kernel_rfl) _ (by simp [rpG])
theorem rpB_path (h : Blk w b 49 (rpG e ph pn ch g pv m)) (hl : ph.length = 20) (q r : List UInt8) (hq : q.length = 20) : ∃ w', (Instr.storeAt 44 (.pointer (some ⟨b, 1, none⟩)) (.agg (pC q r))).run Try.prog w = .ok () w' ∧ Blk w' b 49 (rpG e q r ch g pv m) ∧ Only (· = b) w w' :=
  Blk.run_row (a := #[.int .i64 e]) (b := pC ph pn) (c := hC ch ++ #[.int .i64 g, pv, .int .i64 m]) (pC q r) h (by rw [pC_size, pC_size, hl, hq]) (pC_info q r hq) (pC_one q r) rfl
theorem rpB_class (h : Blk w b 49 (rpG e ph pn ch g pv m)) (hl : ph.length = 20) (hc : ch.length = 20) (q : List UInt8) (hq : q.length = 20) : ∃ w', (Instr.storeAt 42 (.pointer (some ⟨b, 22, none⟩)) (.agg (hC q))).run Try.prog w = .ok () w' ∧ Blk w' b 49 (rpG e ph pn q g pv m) ∧ Only (· = b) w w' := by
  have e1 : ∀ x, rpG e ph pn x g pv m = (#[.int .i64 e] ++ pC ph pn) ++ (hC x ++ #[.int .i64 g, pv, .int .i64 m]) := fun x => by simp only [rpG, Array.append_assoc]
  rw [e1] at h
  rw [e1]
  exact Blk.run_row (i := 22) (a := #[.int .i64 e] ++ pC ph pn) (b := hC ch) (c := #[.int .i64 g, pv, .int .i64 m]) (hC q) h (by rw [hC_size, hC_size, hc, hq]) (hC_info q hq) (hC_one q) (by simp [pC_size, hl])
theorem rpG_set (hl : ph.length = 20) (hc : ch.length = 20) (j : Nat) (x : Value) : (rpG e ph pn ch g pv m).setIfInBounds (42 + j) x = #[.int .i64 e] ++ (pC ph pn ++ (hC ch ++ (#[.int .i64 g, pv, .int .i64 m] : Array Value).setIfInBounds j x)) := by
  have hs : (pC ph pn).size = 21 := by rw [pC_size, hl]
  have hs2 : (hC ch).size = 20 := by rw [hC_size, hc]
  unfold rpG
  rw [Array.setIfInBounds_append_right (by simp; omega), Array.setIfInBounds_append_right (by simp [hs]; omega), Array.setIfInBounds_append_right (by simp [hs, hs2]; omega)]
  congr 4
  simp [hs, hs2]
  omega
theorem rpB_goal (h : Blk w b 49 (rpG e ph pn ch g pv m)) (hl : ph.length = 20) (hc : ch.length = 20) (x : Int) : ∃ w', (Instr.storeAt 3 (.pointer (some ⟨b, 42, none⟩)) (.int .i64 x)).run Try.prog w = .ok () w' ∧ Blk w' b 49 (rpG e ph pn ch x pv m) ∧ Only (· = b) w w' :=
  h.run_one 42 (by rw [rpG_size hl hc]; omega) _ rfl rfl (by kernel_rfl) _ (rpG_set hl hc 0 _)
theorem rpB_paths (h : Blk w b 49 (rpG e ph pn ch g pv m)) (hl : ph.length = 20) (hc : ch.length = 20) (x : Value) (hx : x.cells = #[x]) (h1 : x.oneCell' = true) : ∃ w', (Instr.storeAt 47 (.pointer (some ⟨b, 43, none⟩)) x).run Try.prog w = .ok () w' ∧ Blk w' b 49 (rpG e ph pn ch g x m) ∧ Only (· = b) w w' :=
  h.run_one 43 (by rw [rpG_size hl hc]; omega) _ hx h1 (by kernel_rfl) _ (rpG_set hl hc 1 _)
theorem rpB_many (h : Blk w b 49 (rpG e ph pn ch g pv m)) (hl : ph.length = 20) (hc : ch.length = 20) (x : Int) : ∃ w', (Instr.storeAt 3 (.pointer (some ⟨b, 44, none⟩)) (.int .i64 x)).run Try.prog w = .ok () w' ∧ Blk w' b 49 (rpG e ph pn ch g pv x) ∧ Only (· = b) w w' :=
  h.run_one 44 (by rw [rpG_size hl hc]; omega) _ rfl rfl (by kernel_rfl) _ (rpG_set hl hc 2 _)
end
end Go.Proofs.Ytpnolgliklmnmaa
/-! wire.RightReply. -/
namespace Go.Proofs.Ytpnolgliklmnmaa
open Go.RowKit Pl Go.Agg
theorem pathsName_succ {l : List P20} {k : Nat} {x : P20} (hx : l[k]? = some x) (h : pathsName (l.take k) = true) (hn : isName x.1.2 = true) : pathsName (l.take (k + 1)) = true := by
  unfold pathsName at *
  rw [List.take_add_one, hx, List.all_append, h]
  simp [hn]
theorem pathsName_false {l : List P20} {k : Nat} {x : P20} (hx : l[k]? = some x) (hn : isName x.1.2 = false) : pathsName l = false := by
  unfold pathsName
  rw [List.all_eq_false]
  exact ⟨x, List.mem_of_getElem? hx, by simp [hn]⟩
set_option maxRecDepth 100000 in
theorem nameless_any (h n : List UInt8) (hl : h.length = 20) (w : World) : Calls Try.prog 61 #[.agg (pC h n)] w fun e w' => e = .returned (.bool (!(isName n))) ∧ Below w.heap.size w w' := by
  go_enter Try.func61, Try.ntmps61
  go_wp2_with (first | (with_reducible refine Agg.wpList_box rfl 44 _ rfl (pC h n) rfl ?_; intro g w1 hb hx1 hg; have HP := Lib.hid (PL.of_blk hb hl); have HX1 := Lib.hid hx1; clear hb hx1 hg) | (with_reducible refine Agg.wpList_loadL HP.out.name rfl _ rfl rfl ?_))
  refine (name_any n _).mono ?_
  rintro e w2 ⟨rfl, hx2⟩
  have HW2 := Lib.hid (Agg.belowThen HX1.out (Nat.le_refl _) hx2)
  go_wp2_with fail
  go_ret
  exact ⟨rfl, HW2.out⟩
set_option maxRecDepth 100000 in
set_option maxHeartbeats 1000000 in
theorem pindex_any (v : Value) (l : List P20) (w : World) (hn : l.length ≤ 1048576) (hs : ElemsAt w v l) :
    Calls Try.prog 99 #[v, .func (.func 61) #[] #[]] w fun e w' => (∃ r : Int, e = .returned (.int .i64 r) ∧ decide (0 ≤ r) = !(pathsName l)) ∧ Below w.heap.size w w' := by
  have hlv := fun W => elems_len hs W
  have HE := Lib.hid hs
  clear hs
  go_enter Try.func99, Try.ntmps99
  go_wp2_with fail
  go_loopw [5, 8] (fun _ i wr => ∃ k : Nat, k ≤ l.length ∧ i = .int .i64 k ∧ pathsName (l.take k) = true ∧ Below w.heap.size w wr) (fun _ i _ => l.length - (intOf i).toNat)
  case atStart => exact ⟨0, by omega, rfl, rfl, Below.refl _ _⟩
  case round =>
    obtain ⟨w1, rfl⟩ : ∃ w1 : World, w1 = wr := ⟨_, rfl⟩
    obtain ⟨k, hk, rfl, htk, hw⟩ := hrel
    have HTK := Lib.hid htk
    clear htk
    by_cases hlt : k < l.length
    · obtain ⟨x, hxk⟩ : ∃ x, l[k]? = some x := ⟨_, List.getElem?_eq_getElem hlt⟩
      obtain ⟨p, hadr, hld, _⟩ := elem_at (HE.out.below hw) k x hxk
      have HLX := Lib.hid hld
      have HX := Lib.hid hxk
      have HW := Lib.hid hw
      clear hld hxk hw
      go_wp2_with (first | (with_reducible refine Agg.wpList_loadL HLX.out rfl _ rfl rfl ?_))
      refine (nameless_any x.1.1 x.1.2 x.2 _).mono ?_
      rintro e w2 ⟨rfl, hx2⟩
      have HX2 := Lib.hid (Agg.belowThen HW.out (Nat.le_refl _) hx2)
      clear hx2
      cases hnm : isName x.1.2 with
      | true =>
        have HN := Lib.hid hnm
        clear hnm
        go_wp2_with fail
        go_roundw
        case rel => exact ⟨k + 1, by omega, by go_num, pathsName_succ HX.out HTK.out HN.out, HX2.out⟩
        case measure => simp [intOf]; omega
      | false =>
        have HN := Lib.hid hnm
        clear hnm
        go_wp2_with fail
        go_ret
        exact ⟨⟨(k : Int), rfl, by rw [pathsName_false HX.out HN.out]; simp⟩, HX2.out⟩
    · obtain rfl : k = l.length := by omega
      rw [List.take_length] at HTK
      have HW := Lib.hid hw
      clear hw
      go_wp2_with fail
      go_ret
      exact ⟨⟨-1, rfl, by rw [HTK.out]; rfl⟩, HW.out⟩
set_option maxRecDepth 100000 in
theorem pcontains_any (v : Value) (l : List P20) (w : World) (hn : l.length ≤ 1048576) (hs : ElemsAt w v l) :
    Calls Try.prog 62 #[v, .func (.func 61) #[] #[]] w fun e w' => e = .returned (.bool (!(pathsName l))) ∧ Below w.heap.size w w' := by
  have HC := Lib.hid (pindex_any v l w hn hs)
  clear hs
  go_enter Try.func62, Try.ntmps62
  go_wp2_with fail
  refine HC.out.mono ?_
  rintro e w2 ⟨⟨r, rfl, hr⟩, hx2⟩
  have HR := Lib.hid hr
  have HX2 := Lib.hid hx2
  clear hx2 hr
  go_wp2_with fail
  go_ret
  exact ⟨by rw [← HR.out]; rfl, HX2.out⟩
set_option maxRecDepth 100000 in
set_option maxHeartbeats 2000000 in
theorem rright_any (e g m : Int) (ph pn ch : List UInt8) (pv : Value) (l : List P20) (hl : ph.length = 20) (hc : ch.length = 20) (hn : l.length ≤ 1048576) (w : World) (hs : ElemsAt w pv l) :
    Calls Try.prog 27 #[.agg (rpG e ph pn ch g pv m)] w fun x w' => x = .returned (.bool (Rp.right ⟨e, ph, pn, ch, g, l, m⟩)) ∧ Below w.heap.size w w' := by
  have HE := Lib.hid hs
  have hlv := fun W => elems_len hs W
  clear hs
  show Calls _ _ _ _ fun x w' => x = .returned (.bool ((decide (0 ≤ e) && decide (e ≤ 63)) && ((decide (0 ≤ g) && decide (g ≤ 1099511627776)) && ((decide (0 ≤ m) && decide (m ≤ 1099511627776)) && (namedN ph pn true && (decide (l.length ≤ 2000) && pathsName l)))))) ∧ _
  obtain ⟨b1, h1⟩ : ∃ b, (decide (0 ≤ e) && decide (e ≤ 63)) = b := ⟨_, rfl⟩
  obtain ⟨b2, h2⟩ : ∃ b, (decide (0 ≤ g) && decide (g ≤ 1099511627776)) = b := ⟨_, rfl⟩
  obtain ⟨b3, h3⟩ : ∃ b, (decide (0 ≤ m) && decide (m ≤ 1099511627776)) = b := ⟨_, rfl⟩
  obtain ⟨b4, h4⟩ : ∃ b, namedN ph pn true = b := ⟨_, rfl⟩
  obtain ⟨b6, h6⟩ : ∃ b, pathsName l = b := ⟨_, rfl⟩
  rw [h1, h2, h3, h4, h6]
  have H1 := Lib.hid (fun W => withinB h1 W)
  have H2 := Lib.hid (fun W => withinB h2 W)
  have H3 := Lib.hid (fun W => withinB h3 W)
  have H4 := Lib.hid (fun W => (show Calls Try.prog 52 #[.agg (pC ph pn), .bool true] W fun e w' => e = .returned (.bool b4) ∧ Below W.heap.size W w' by have := named_any ph pn true hl W; rwa [h4] at this))
  have H6 := Lib.hid (fun W (h : ElemsAt W pv l) => (show Calls Try.prog 62 #[pv, .func (.func 61) #[] #[]] W fun e w' => e = .returned (.bool (!b6)) ∧ Below W.heap.size W w' by have := pcontains_any pv l W hn h; rwa [h6] at this))
  clear h1 h2 h3 h4 h6
  go_enter Try.func27, Try.ntmps27
  go_wp2_with (first | (with_reducible refine Agg.wpList_box rfl 49 _ rfl (rpG e ph pn ch g pv m) rfl ?_; intro b w1 hb1 hx1 hg; have HL := Lib.hid (RpG.of_blk hb1 hl hc); have HW := Lib.hid hx1; clear hb1 hx1 hg) | (with_reducible refine Agg.wpList_loadL HL.out.err rfl _ rfl rfl ?_))
  refine (H1.out _).mono ?_
  rintro x w2 ⟨rfl, rfl⟩
  cases b1 with
  | false =>
    go_wp2_with fail
    go_ret
    exact ⟨rfl, HW.out⟩
  | true =>
  go_wp2_with (first | (with_reducible refine Agg.wpList_loadL HL.out.goal rfl _ rfl rfl ?_))
  refine (H2.out _).mono ?_
  rintro x w3 ⟨rfl, rfl⟩
  cases b2 with
  | false =>
    go_wp2_with fail
    go_ret
    exact ⟨rfl, HW.out⟩
  | true =>
  go_wp2_with (first | (with_reducible refine Agg.wpList_loadL HL.out.many rfl _ rfl rfl ?_))
  refine (H3.out _).mono ?_
  rintro x w4 ⟨rfl, rfl⟩
  cases b3 with
  | false =>
    go_wp2_with fail
    go_ret
    exact ⟨rfl, HW.out⟩
  | true =>
  go_wp2_with (first | (with_reducible refine Agg.wpList_loadL HL.out.path rfl _ rfl rfl ?_))
  refine (H4.out _).mono ?_
  rintro x w5 ⟨rfl, hx5⟩
  have HL5 := Lib.hid (HL.out.below hx5)
  have HW5 := Lib.hid (Agg.belowThen HW.out (Nat.le_refl _) hx5)
  have HE5 := Lib.hid (HE.out.below (Agg.belowThen HW.out (Nat.le_refl _) hx5))
  clear hx5
  cases b4 with
  | false =>
    go_wp2_with fail
    go_ret
    exact ⟨rfl, HW5.out⟩
  | true =>
  by_cases h2000 : l.length ≤ 2000
  · have HD := Lib.hid (decide_eq_true h2000)
    have hq : ¬ ((2000 : Int) < (l.length : Int)) := by omega
    go_wp2_with (first | (with_reducible refine Agg.wpList_loadL HL5.out.paths rfl _ rfl rfl ?_))
    refine (H6.out _ HE5.out).mono ?_
    rintro x w6 ⟨rfl, hx6⟩
    have HW6 := Lib.hid (Agg.belowThen HW5.out (Nat.le_refl _) hx6)
    clear hx6
    go_wp2_with fail
    go_ret
    exact ⟨by rw [HD.out]; simp, HW6.out⟩
  · have HD := Lib.hid (decide_eq_false h2000)
    have hq : ((2000 : Int) < (l.length : Int)) := by omega
    go_wp2_with (first | (with_reducible refine Agg.wpList_loadL HL5.out.paths rfl _ rfl rfl ?_))
    go_ret
    exact ⟨by rw [HD.out]; rfl, HW5.out⟩
end Go.Proofs.Ytpnolgliklmnmaa
/-! A region that draws its order, step by step: each operation that may come up, by its own law. -/
namespace Go.Agg
open Go.RowKit
variable {P : Program}
section
variable {l : List Oper} {md : Region.Mode} {Q : Exit → Act → World → Prop} {S : World → Prop} {fuel : Nat} {listed : Array Bool} {a : Act} {w : World}
def takeB (md : Region.Mode) (l : List Oper) (listed : Array Bool) (i : Nat) : Bool :=
  Region.noSelect l.toArray && Region.free md l.toArray listed i && (Region.ready md l.toArray listed).contains i
theorem any_take {o : Oper} (i : Nat) (v : Value) (ho : l[i]? = some o) (hB : takeB md l listed i = true) (hQ : ∀ c a w, Q (.panic c) (a.put o.dst v) w → Q (.panic c) a w) (hw : Region.wanted o (yielded l.toArray a.tmps) = true)
    (hy : ∀ w, (execOp a.eval o).run P w = .ok (.value v) w) (h : wpAny P md l.toArray Q fuel (listed.setIfInBounds i true) (a.put o.dst v) w) : wpAny P md l.toArray Q (fuel + 1) listed a w := by
  simp only [takeB, Bool.and_eq_true] at hB
  exact wpAny_take (by simpa using ho) hB.1.1 hB.1.2 hB.2 hQ (.inl ⟨hw, hy⟩) h
theorem any_ready (rs : List Nat) (hr : Region.ready md l.toArray listed = rs) (hne : rs ≠ []) (h : AllReady P md l.toArray Q fuel listed a w rs) : wpAny P md l.toArray Q (fuel + 1) listed a w := wpAny_ready hr hne h
theorem any_cons {o : Oper} {i : Nat} {rs : List Nat} (ho : l[i]? = some o)
    (h : if Region.wanted o (yielded l.toArray a.tmps) = true then Oper.wp P o a w (wpAny P md l.toArray Q fuel (listed.setIfInBounds i true)) Q else wpAny P md l.toArray Q fuel (listed.setIfInBounds i true) (a.put o.dst undef) w)
    (hs : AllReady P md l.toArray Q fuel listed a w rs) : AllReady P md l.toArray Q fuel listed a w (i :: rs) :=
  AllReady.cons (by simpa using ho) (fun K' hK => by
    split at h
    · rename_i hw; rw [if_pos hw]; exact Oper.wp_mono hK h
    · rename_i hw; rw [if_neg hw]; exact hK _ _ h) hs
theorem any_end (hr : Region.ready md l.toArray listed = []) (h : Q .normal a w) : wpAny P md l.toArray Q fuel listed a w := by
  cases fuel with
  | zero => exact ⟨hr, h⟩
  | succ n => exact ⟨fun _ => h, by rw [hr]; intro i hi; cases hi⟩
/-! .. while S holds -/
theorem held_take {o : Oper} (i : Nat) (v : Value) (ho : l[i]? = some o) (hB : takeB md l listed i = true) (hQ : ∀ c a w, Q (.panic c) (a.put o.dst v) w → Q (.panic c) a w) (hw : Region.wanted o (yielded l.toArray a.tmps) = true)
    (hy : ∀ w, S w → (execOp a.eval o).run P w = .ok (.value v) w) (hS : S w) (h : wpAnyH P md l.toArray Q S fuel (listed.setIfInBounds i true) (a.put o.dst v) w) : wpAnyH P md l.toArray Q S (fuel + 1) listed a w := by
  simp only [takeB, Bool.and_eq_true] at hB
  exact wpAnyH_take (by simpa using ho) hB.1.1 hB.1.2 hB.2 hQ (.inl ⟨hw, hy⟩) hS h
theorem held_ready (rs : List Nat) (hr : Region.ready md l.toArray listed = rs) (hne : rs ≠ []) (h : AllReadyH P md l.toArray Q S fuel listed a w rs) : wpAnyH P md l.toArray Q S (fuel + 1) listed a w := wpAnyH_ready hr hne h
theorem held_cons {o : Oper} {i : Nat} {rs : List Nat} (ho : l[i]? = some o)
    (h : if Region.wanted o (yielded l.toArray a.tmps) = true then Oper.wp P o a w (fun a' w' => S w' ∧ wpAnyH P md l.toArray Q S fuel (listed.setIfInBounds i true) a' w') Q else S w ∧ wpAnyH P md l.toArray Q S fuel (listed.setIfInBounds i true) (a.put o.dst undef) w)
    (hs : AllReadyH P md l.toArray Q S fuel listed a w rs) : AllReadyH P md l.toArray Q S fuel listed a w (i :: rs) :=
  AllReadyH.cons (by simpa using ho) (fun K' hK => by
    split at h
    · rename_i hw; rw [if_pos hw]; exact Oper.wp_mono (fun a w h => hK.out a w h.1 fun _ => h.2) h
    · rename_i hw; rw [if_neg hw]; exact hK.out _ _ h.1 fun _ => h.2) hs
theorem held_end (hr : Region.ready md l.toArray listed = []) (h : Q .normal a w) : wpAnyH P md l.toArray Q S fuel listed a w := by
  cases fuel with
  | zero => exact ⟨hr, h⟩
  | succ n => exact ⟨fun _ => h, by rw [hr]; intro i hi; cases hi⟩
end
section
variable {ops : Array Oper} {o : Oper} {a : Act} {w : World} {Q : Exit → Act → World → Prop} {K : Act → World → Prop} {F : Prop}
/-- a call of a Go function, by its contract -/
theorem step_call (hg : o.guard = none) (f : FuncId) (xs : Array Operand) (ts : Array TypeId) (ho : o.op = .call { callee := .value (.func f), args := xs, argTypes := ts }) (vs : Array Value) (hv : xs.map a.eval = vs)
    (he : ∀ w, (callFunc f vs).run P w = .ok (.enter f vs) w) (h : Calls P f vs w fun e w' => ∃ v, e = .returned v ∧ K (a.put o.dst v) w') : if Region.wanted o (yielded ops a.tmps) = true then o.wp P a w K Q else F := by
  rw [if_pos (by simp [Region.wanted, hg])]
  unfold Oper.wp
  have : (execOp a.eval o).run P w = .ok (.enter f vs) w := by
    subst hv
    have hf : a.eval (Operand.func f) = .func (.func f) #[] #[] := rfl
    simp [execOp, ho, resolve, invoke, hf, Deferred.ofValue, he]
  rw [this, Oper.upon_enter]
  refine h.mono ?_
  rintro e w' ⟨v, rfl, hk⟩
  exact hk
/-- a load whose answer is known -/
theorem step_load (hg : o.guard = none) (ty : TypeId) (x : Operand) (ho : o.op = .load ty x) (p v : Value) (hx : a.eval x = p) (hrun : (Instr.loadAt ty p).run P w = .ok v w) (h : K (a.put o.dst v) w) : if Region.wanted o (yielded ops a.tmps) = true then o.wp P a w K Q else F :=
  step_val hg (by simp [execOp, ho, hx, hrun]) h
end
end Go.Agg
/-! wire.GetReply: what it says, and what holds while it is got. -/
namespace Go.Proofs.Ytpnolgliklmnmaa
open Go.RowKit Pl Go.Agg
theorem sNum_le (most : Nat) (s : Option (List UInt8)) : (sNum most s).1 ≤ most := by
  cases h : (sNum most s).2 with
  | none =>
    cases s with
    | none => simp [sNum]
    | some r =>
      simp only [sNum] at h ⊢
      cases hg : getN most r with
      | none => simp
      | some p => rw [hg] at h; simp at h
  | some y => exact (sNum_some (Prod.ext (rfl : (sNum most s).1 = (sNum most s).1) h)).2.1
theorem sHash_len (s : Option (List UInt8)) : stLen (sHash s).2 ≤ stLen s := sRaw_len 20 s
theorem getRp_parts {b : List UInt8} {e g m n : Nat} {s1 s2 s3 s4 s5 s6 s7 : Option (List UInt8)} {t ch : List UInt8} {ts : List (List UInt8)} (h1 : sNum 63 (some b) = (e, s1)) (h2 : sNum 1099511627776 s1 = (g, s2)) (h3 : sNum 1099511627776 s2 = (m, s3)) (h4 : sText 57 s3 = (t, s4)) (h5 : sHash s4 = (ch, s5)) (h6 : sNum 2000 s5 = (n, s6)) (h7 : sTexts n s6 = (ts, s7)) :
    getRp b = if s7 = some [] ∧ (textOdd t || ts.any textOdd) = false ∧ Rp.right ⟨e, parseH t, parseN t, ch, g, ts.map textP, m⟩ = true then some ⟨e, parseH t, parseN t, ch, g, ts.map textP, m⟩ else none := by
  have e1 : rE (some b) = (e, s1) := h1
  have e2 : rG (some b) = (g, s2) := by unfold rG; rw [e1]; exact h2
  have e3 : rM (some b) = (m, s3) := by unfold rM; rw [e2]; exact h3
  have e4 : rX (some b) = (t, s4) := by unfold rX; rw [e3]; exact h4
  have e5 : rH (some b) = (ch, s5) := by unfold rH; rw [e4]; exact h5
  have e6 : rC (some b) = (n, s6) := by unfold rC; rw [e5]; exact h6
  have e7 : rL (some b) = (ts, s7) := by unfold rL; rw [e6]; exact h7
  have er : rRp (some b) = ⟨e, parseH t, parseN t, ch, g, ts.map textP, m⟩ := by unfold rRp; rw [e1, e2, e3, e4, e5, e7]
  have eo : rOdd (some b) = (textOdd t || ts.any textOdd) := by unfold rOdd; rw [e4, e7]
  unfold getRp
  rw [e7, eo, er]
theorem snum_40 (base g : Nat) (s : Option (List UInt8)) (w : World) (hl : stLen s ≤ 16777216) (h : CuS base g w s) :
    Calls Try.prog 55 #[.pointer (some ⟨g, 0, none⟩), .int .i64 1099511627776] w fun x w' => x = .returned (.int .i64 ((sNum 1099511627776 s).1 : Int)) ∧ CuS base g w' (sNum 1099511627776 s).2 ∧ Only (· = g) w w' := by
  have h1 := snum_any base g 1099511627776 s w hl (Nat.le_refl _) h
  rw [show ((1099511627776 : Nat) : Int) = (1099511627776 : Int) from by simp] at h1
  exact h1
/-- what GetReply tells -/
def rpOut (b : List UInt8) : Rp := (getRp b).getD Rp.zero
def rpErr (b : List UInt8) : Nat := if (getRp b).isSome then 0 else 4
theorem rpOut_some {b : List UInt8} {q : Rp} (h : getRp b = some q) : rpOut b = q ∧ rpErr b = 0 := by simp [rpOut, rpErr, h]
theorem rpOut_none {b : List UInt8} (h : getRp b = none) : rpOut b = Rp.zero ∧ rpErr b = 4 := by simp [rpOut, rpErr, h]
theorem rp_zero : (Try.prog.info? 49).map (·.zero) = some (some (.agg (rpG 0 z20 [] z20 0 (.slice none 0 0) 0))) := by kernel_rfl
theorem rp_info {e g m : Int} {pv : Value} {ph pn ch : List UInt8} (hl : ph.length = 20) (hc : ch.length = 20) : (Try.prog.info? 49).map (·.size) = some (rpG e ph pn ch g pv m).size := by rw [rpG_size hl hc]; kernel_rfl
theorem rp_under : Try.prog.underlying 49 = some (.struct (Try.prog.fieldsOf 49)) := by kernel_rfl
theorem rp_build0 (W : World) : (Instr.build 49 #[]).run Try.prog W = .ok (.agg (rpG 0 z20 [] z20 0 (.slice none 0 0) 0)) W := by kernel_rfl
theorem rp_one {w : World} {pv : Value} {l : List P20} (h : ElemsAt w pv l) (e g m : Int) (ph pn ch : List UInt8) : (rpG e ph pn ch g pv m).all (·.oneCell') = true := by
  have h1 := pC_one ph pn
  have h2 := hC_one ch
  obtain ⟨p, c, hf⟩ := h.form
  subst hf
  simp only [rpG, Array.all_append, h1, h2]
  simp [Value.oneCell']
theorem elems_cell {w : World} {pv : Value} {l : List P20} (h : ElemsAt w pv l) : pv.cells = #[pv] ∧ pv.oneCell' = true := by
  obtain ⟨p, c, hf⟩ := h.form
  subst hf
  exact ⟨rfl, rfl⟩
section
variable {t : TypeId} {w0 w w' : World} {base gr gg gc : Nat} {s : Option (List UInt8)} {odd : Bool} {cells : Array Value}
/-- .. beside a slice of paths that grows -/
theorem GeS.pushed {v : Value} (h : GeS t w0 base gr gg gc w s odd cells) (hp : Pushed E20 w0.heap.size w w' v) (ht : t ≠ 44) : GeS t w0 base gr gg gc w' s odd cells := by
  have hblk := h.blk
  have hgt := h.gt.blk
  unfold Blk at hblk hgt
  obtain ⟨u, r, e, hu, h1, h2⟩ := h.gt.cur
  have hcu := hu.blk
  unfold Blk at hcu
  exact ⟨⟨hp.blk gg _ _ _ (by decide) hgt, u, r, e, ⟨hp.blk gc _ _ _ (by decide) hcu, restKeepT hu.rest fun k cur fr hk => hp.blk k _ _ _ (by decide) hk⟩, h1, h2⟩, hp.blk gr _ _ _ ht hblk, h.below.trans (hp.below w0.heap.size (Nat.le_refl _) h.below.size), h.nc, h.ng, h.gr_ge, h.gg_ge, h.gc_ge⟩
/-- one cell of the result written -/
theorem GeS.setR (h : GeS t w0 base gr gg gc w s odd cells) (i : Nat) (v : Value) (cells' : Array Value) (he : cells.setIfInBounds i v = cells') (h1 : t ≠ 118) (h2 : t ≠ 162) (h3 : t ≠ 5) : GeS t w0 base gr gg gc (w.setCell ⟨gr, i, none⟩ v) s odd cells' := by
  subst he
  exact h.store (h.blk.set i v) ⟨rfl, rfl, rfl, by simp [World.setCell], fun k _ hk => Below.heap_setCell _ _ _ _ hk⟩ h1 h2 h3
theorem GeS.cellR (h : GeS t w0 base gr gg gc w s odd cells) (i : Nat) {v : Value} (hv : cells[i]? = some v) : w.cell? ⟨gr, i, none⟩ = some v ∧ w.frozen? ⟨gr, i, none⟩ = false := ⟨by rw [h.blk.cell]; exact hv, frozen_of_row _ _ _ _ _ h.blk⟩
/-- .. that the getter's steps leave alone -/
theorem paths_keepG {v : Value} {l : List P20} {B : Nat} {S : Nat → Prop} (ho : Own E20 B w v l) (h : GeS t w0 base gr gg gc w s odd cells) (hs : Only S w w') (hS : ∀ k, S k → k = gc ∨ k = gg) : Own E20 B w' v l := by
  refine ho.keepT fun k cur fr hk => (hs.block k (Agg.heap_lt hk) fun e => ?_).trans hk
  rcases hS k e with rfl | rfl
  · obtain ⟨cs, hb⟩ := h.gt.cur.blk
    unfold Blk at hb
    rw [hb] at hk
    injection hk with hk
    injection hk with _ hk
    exact absurd hk (by decide)
  · have hb := h.gt.blk
    unfold Blk at hb
    rw [hb] at hk
    injection hk with hk
    injection hk with _ hk
    exact absurd hk (by decide)
theorem paths_keepR {v : Value} {l : List P20} {B : Nat} (ho : Own E20 B w v l) (h : GeS t w0 base gr gg gc w s odd cells) (hs : Only (· = gr) w w') (ht : t ≠ 44) : Own E20 B w' v l := by
  refine ho.keepT fun k cur fr hk => (hs.block k (Agg.heap_lt hk) fun e => ht ?_).trans hk
  subst e
  have hb := h.blk
  unfold Blk at hb
  rw [hb] at hk
  injection hk with hk
  injection hk with _ hk
end
end Go.Proofs.Ytpnolgliklmnmaa
